/-
 Several texts in one: ZMt6, ZMt7, ZMt8. Conditions: as each law says.
-/
import Derived.Test.YtdghfenbfbdijaaGreatDoorZMMtB
import Derived.Test.YtdghfenbfbdijaaGreatDoorZFdPure
import Derived.Test.YtdghfenbfbdijaaGreatDoorZMIxD
import Derived.Test.YtdghfenbfbdijaaGreatDoorZStates
import Derived.Test.YtdghfenbfbdijaaGreatDoorZMBaseB
namespace Go.Proofs.YtdghfenbfbdijaaGreatDoor
open Go.RowKit Go.Lib Go.Maps
structure WordR (B : Nat) (w : World) (p : Mt.W × Value × Value) : Prop where
 vars : w.ownsRow B 195 3 p.2.1 p.1.vars.length (p.1.vars.flatMap vrC)
 lets : w.ownsRow B 9 1 p.2.2 p.1.letters.length (p.1.letters.flatMap strC)
def wdC (p : Mt.W × Value × Value) : List Value := [.int .i64 p.1.script,p.2.1,p.2.2]
section
variable {B B' : Nat} {w w' : World} {p : Mt.W × Value × Value}
theorem WordR.below (h : WordR B w p) (hb : Below w.heap.size w w') : WordR B w' p := ⟨ownsRow_below h.vars hb,ownsRow_below h.lets hb⟩
theorem WordR.mono (h : WordR B w p) (hb : B' ≤ B) : WordR B' w p := ⟨ownsRow_base h.vars hb,ownsRow_base h.lets hb⟩
theorem WordR.at_ (h : WordR B w p) : WordAt w p.1 (.agg #[.int .i64 p.1.script,p.2.1,p.2.2]) := ⟨_,_,rfl,SlOf.own h.vars (fun _ _ => rfl),SlOf.own h.lets (fun _ _ => rfl)⟩
theorem WordR.app {B2 z n : Nat} {e : TypeId} {u : Value} {ys : List Value} (h : WordR B w p) (g : w.ownsRow B2 e z u n ys) (h1 : 195 ≠ e) (h2 : 9 ≠ e) (hg : w.grownBy w' u.ownBlock) : WordR B w' p := ⟨owns_other h.vars g hg h1,owns_other h.lets g hg h2⟩
end
def WordQ (u : Mt.W) (W : World) (e : Ending) (W' : World) : Prop :=
 Below W.heap.size W W' ∧ ∃ va vl,e = .returned (.tuple #[.agg #[.int .i64 u.script,va,vl],.bool true]) ∧ W'.ownsRow W.heap.size 195 3 va u.vars.length (u.vars.flatMap vrC) ∧ W'.ownsRow W.heap.size 9 1 vl u.letters.length (u.letters.flatMap strC)
set_option maxRecDepth 100000 in
set_option maxHeartbeats 4000000 in
theorem wordOf_own (t : Rw.Table) (tv : Value) (k : Int) (s : List UInt8) (W : World) (ht : TableAt W t tv) (hT : Tabs W) (hs : s.length ≤ 1000000) (u : Mt.W) (hu : Mt.wordOf t k s = some u) : Calls Tryz.prog 72 #[tv,.int .i64 k,.string (bs s)] W (WordQ u W) := by
 obtain ⟨h0,rfl⟩ : (Rw.variants t k s).2 = 0 ∧ u = ⟨k,(Rw.variants t k s).1,Fo.letters k s⟩ := by
  unfold Mt.wordOf at hu
  split at hu
  ·rename_i h
   cases hu
   exact ⟨h,rfl⟩
  ·cases hu
 clear hu
 have HTT := hid hT
 have HTA := hid ht
 have HLE := hid hs
 obtain ⟨⟨vr,vd,ve,rfl,⟨ar,cr,rfl,-⟩,⟨ad,cd,rfl,-⟩,⟨ae,ce,rfl,-⟩⟩,-⟩ := ht
 obtain ⟨W0,hW0⟩ := exq ((W.alloc (.cells #[.slice ar t.rules.length cr,.slice ad t.drops.length cd,.slice ae t.ends.length ce,.int .i64 t.drop,.int .i64 t.order,.int .i64 t.initial] 25)).alloc (.cells #[.int .i64 0,.slice none 0 0,.slice none 0 0] 99))
 have hb0 : Below W.heap.size W W0 := by rw [hW0]; exact ((Below.refl _ W).alloc (Nat.le_refl _) _).alloc (by simp) _
 have HB0 := hid hb0
 have HZ0 := hid (show W0.heap.size = W.heap.size + 2 by rw [hW0]; simp)
 have hk0 : Blk W0 (W.heap.size + 1) 99 [.int .i64 0,.slice none 0 0,.slice none 0 0] := by
  rw [hW0]
  have := Blk.new (W.alloc (.cells #[.slice ar t.rules.length cr,.slice ad t.drops.length cd,.slice ae t.ends.length ce,.int .i64 t.drop,.int .i64 t.order,.int .i64 t.initial] 25)) 99 [.int .i64 0,.slice none 0 0,.slice none 0 0]
  rwa [World.size_alloc] at this
 have hk1 : Blk W0 W.heap.size 25 [.slice ar t.rules.length cr,.slice ad t.drops.length cd,.slice ae t.ends.length ce,.int .i64 t.drop,.int .i64 t.order,.int .i64 t.initial] := by
  rw [hW0]
  exact (Blk.new W _ _).below ((Below.refl _ _).alloc (Nat.le_refl _) _)
 have HV := hid (variants_any t _ k s W0 (HTA.out.below hb0) (HTT.out.below hb0) hs)
 have HK0 := hid hk0
 obtain ⟨y0,y1,y2,y3,y4,y5,yz⟩ := hk1.cl6
 clear hT hs hb0 hk0 hk1
 obtain ⟨l,hl1,hl2⟩ := wordOf_some h0
 have HL := hid (And.intro hl1 hl2)
 have HE := hid h0
 clear h0 hl1 hl2
 go_enter Tryz.func72,Tryz.ntmps72
 go_upto_region 1 with (fail)
 rw [← hW0]
 clear hW0
 go_wp2_with fail
 refine (HV.out).mono ?_
 rintro e W1 ⟨v1,rfl,ho1,hb1⟩
 have HS1 := hid ho1
 have HZ1 := hid hb1.size
 have HK1 := hid (HK0.out.below hb1)
 have HB1 := hid (Below.step HB0.out hb1)
 have HF := hid (fold_any k (bs s) W1 (by rw [bs_len]; exact HLE.out) (HTT.out.below HB1.out))
 rw [bs_list] at HF
 rw [HE.out]
 obtain ⟨ax,cx,hax⟩ := ownsRow_slice HS1.out
 subst hax
 clear ho1 hb1 y0 y1 y2 y3 y4 y5 yz
 go_wp2_with fail
 refine (HF.out).mono ?_
 rintro e W2 ⟨he,hb2⟩
 rw [HL.out.1] at he
 subst he
 have HB2 := hid (Below.step HB1.out hb2)
 have HZ2 := hid (Nat.le_trans HZ1.out hb2.size)
 have HK2 := hid (HK1.out.below hb2)
 have HLT := hid (letters_any k (bs (Sc.fold s)) W2 (by rw [bs_len,Sc.fold_length]; exact HLE.out) (HTT.out.below HB2.out))
 rw [bs_list] at HLT
 have HS2 := hid (ownsRow_below HS1.out hb2)
 clear hb2
 go_wp2_with fail
 refine (HLT.out).mono ?_
 intro e W3 h3
 unfold LettersPost at h3
 rw [HL.out.2] at h3
 obtain ⟨v3,rfl,ho3,hb3⟩ := h3
 have HB3 := hid (Below.step HB2.out hb3)
 have HS3 := hid (ownsRow_below HS2.out hb3)
 have HK3 := hid (HK2.out.below hb3)
 rw [← flat_str] at ho3
 have HL3 := hid (ownsRow_base ho3 HZ2.out)
 obtain ⟨ay,cy,hay⟩ := ownsRow_slice HL3.out
 subst hay
 obtain ⟨z0,z1,z2,f0,f1,f2,zz⟩ := HK3.out.cf3
 clear ho3 hb3
 go_wp2_with fail
 obtain ⟨W9,hW9⟩ := exq (((W3.setCell ⟨W.heap.size + 1,0,none⟩ (.int .i64 k)).setCell ⟨W.heap.size + 1,1,none⟩ (.slice ax (Rw.variants t k s).1.length cx)).setCell ⟨W.heap.size + 1,2,none⟩ (.slice ay (Fo.letters k s).length cy))
 rw [← hW9]
 have h9 : Blk W9 (W.heap.size + 1) 99 [.int .i64 k,.slice ax (Rw.variants t k s).1.length cx,.slice ay (Fo.letters k s).length cy] := by rw [hW9]; exact set_three HK3.out
 have hb9 : Below W.heap.size W W9 := by
  rw [hW9]
  exact ((HB3.out.setCell (p := ⟨W.heap.size + 1,0,none⟩) (by simp) _).setCell (p := ⟨W.heap.size + 1,1,none⟩) (by simp) _).setCell (p := ⟨W.heap.size + 1,2,none⟩) (by simp) _
 have hlt : W.heap.size + 1 < W0.heap.size := by have := HZ0.out; omega
 have hS9 := ownsRow_setCell_below (ownsRow_setCell_below (ownsRow_setCell_below HS3.out (a := ⟨W.heap.size + 1,0,none⟩) hlt (.int .i64 k)) (a := ⟨W.heap.size + 1,1,none⟩) hlt (.slice ax (Rw.variants t k s).1.length cx)) (a := ⟨W.heap.size + 1,2,none⟩) hlt (.slice ay (Fo.letters k s).length cy)
 have hL9 := ownsRow_setCell_below (ownsRow_setCell_below (ownsRow_setCell_below HL3.out (a := ⟨W.heap.size + 1,0,none⟩) hlt (.int .i64 k)) (a := ⟨W.heap.size + 1,1,none⟩) hlt (.slice ax (Rw.variants t k s).1.length cx)) (a := ⟨W.heap.size + 1,2,none⟩) hlt (.slice ay (Fo.letters k s).length cy)
 rw [← hW9] at hS9 hL9
 refine post_cell_tmp rfl rfl (run_loadVar_row W9 (W.heap.size + 1) _ 99 _ _ _ h9 Tryz.underlying99 rfl (by kernel_rfl)) rfl rfl ?_
 exact ⟨hb9,_,_,rfl,ownsRow_base hS9 (by omega),ownsRow_base hL9 (by omega)⟩
end Go.Proofs.YtdghfenbfbdijaaGreatDoor
namespace Go.Proofs.YtdghfenbfbdijaaGreatDoor
open Go.RowKit Go.Lib Go.Maps
theorem Tryz.infoWordT : (Tryz.prog.info? 99).map (fun i => (i.zero,i.size,i.bytes)) = some (some (.agg #[.int .i64 0,.slice none 0 0,.slice none 0 0]),3,56) := by kernel_rfl
structure NameR (B : Nat) (t : Rw.Table) (n : Li.Nm) (us : List (Mt.W × Value × Value)) (wv dv : Value) (W : World) : Prop where
 words : us.map (fun p => some p.1) = n.words.map (Mt.wordOf t n.script)
 row : W.ownsRow B 99 3 wv us.length (us.flatMap wdC)
 drops : W.ownsRow B 3 1 dv (Mt.dropsN t n).length ((Mt.dropsN t n).flatMap intC1)
 each : ∀ p ∈ us,WordR B W p
theorem NameR.below {B : Nat} {t : Rw.Table} {n : Li.Nm} {us : List (Mt.W × Value × Value)} {wv dv : Value} {W W' : World} (h : NameR B t n us wv dv W) (hb : Below W.heap.size W W') : NameR B t n us wv dv W' :=
 ⟨h.words,ownsRow_below h.row hb,ownsRow_below h.drops hb,fun p hp => (h.each p hp).below hb⟩
theorem blk_news {w : World} {b : Nat} {e : TypeId} {vs : List Value} (h : Blk w b e vs) : ∀ j u,vs[j]? = some u → w.cell? ((⟨b,0,none⟩ : Addr).add j) = some u := by
 intro j u hu
 have hadd : (⟨b,0,none⟩ : Addr).add j = ⟨b,j,none⟩ := by unfold Addr.add; split <;> simp_all
 rw [hadd]
 exact h.cell hu
theorem WordR.at_kept {q : Nat} {w w' : World} {p : Mt.W × Value × Value} (h : WordR (q + 1) w p) (hg : w.grownBy w' (some q)) : WordR (q + 1) w' p := ⟨kept_at h.vars hg (by omega),kept_at h.lets hg (by omega)⟩
def NameP (t : Rw.Table) (n : Li.Nm) (W : World) (e : Ending) (W' : World) : Prop :=
 Below W.heap.size W W' ∧ ((Li.nmOk n = false ∧ e = .returned (.tuple #[.agg #[.slice none 0 0,.slice none 0 0],.bool false])) ∨
  (Li.nmOk n = true ∧ ∃ us wv dv,e = .returned (.tuple #[.agg #[wv,dv],.bool true]) ∧ NameR W.heap.size t n us wv dv W'))
theorem words_take {t : Rw.Table} {n : Li.Nm} {us : List (Mt.W × Value × Value)} {k : Nat} {s : List UInt8} {u : Mt.W} {x y : Value} (h : us.map (fun p => some p.1) = (n.words.take k).map (Mt.wordOf t n.script)) (hs : n.words[k]? = some s) (hu : Mt.wordOf t n.script s = some u) :
  (us ++ [(u,x,y)]).map (fun p => some p.1) = (n.words.take (k + 1)).map (Mt.wordOf t n.script) := by
 rw [List.take_add_one,hs,List.map_append,List.map_append,h]
 simp [hu]
theorem dropsN_take {t : Rw.Table} {n : Li.Nm} {k : Nat} {s : List UInt8} (hs : n.words[k]? = some s) : (Mt.dropsN t n).take (k + 1) = (Mt.dropsN t n).take k ++ [(Rw.dropping t n.script s).1] := by
 unfold Mt.dropsN
 rw [List.take_add_one,List.getElem?_map,hs]
 rfl
set_option maxRecDepth 100000 in
set_option maxHeartbeats 8000000 in
theorem nameOf_any (t : Rw.Table) (tv : Value) (n : Li.Nm) (vn : Value) (W : World) (ht : TableAt W t tv) (hT : Tabs W) (hv : Rw.valid t = true) (hn : SlOf W vn 1 strC n.words) (hw : ∀ s ∈ n.words,s.length ≤ 1000000) :
  Calls Tryz.prog 43 #[tv,.agg #[.int .i64 n.script,vn]] W (NameP t n W) := by
 obtain ⟨i0,hi0,hz0,hz1,hz2⟩ := info_parts Tryz.infoWordT
 obtain ⟨i1,hi1,hy0,hy1,hy2⟩ := info_parts Tryz.infoIntG
 have HTA := hid ht
 have HTT := hid hT
 have HV := hid hv
 have HN := hid hn
 have HW := hid hw
 obtain ⟨⟨vr,vd,ve,rfl,⟨ar,cr,rfl,-⟩,⟨ad,cd,rfl,-⟩,⟨ae,ce,rfl,-⟩⟩,-⟩ := ht
 obtain ⟨na,nc,rfl,-⟩ := hn
 obtain ⟨Wa,hWa⟩ := exq (W.alloc (.cells #[.slice ar t.rules.length cr,.slice ad t.drops.length cd,.slice ae t.ends.length ce,.int .i64 t.drop,.int .i64 t.order,.int .i64 t.initial] 25))
 obtain ⟨Wb,hWb⟩ := exq (Wa.alloc (.cells #[.int .i64 n.script,.slice na n.words.length nc] 46))
 obtain ⟨W1,hW1⟩ := exq (Wb.alloc (.cells #[.slice none 0 0,.slice none 0 0] 92))
 have sa : Wa.heap.size = W.heap.size + 1 := by rw [hWa,World.size_alloc]
 have sb : Wb.heap.size = W.heap.size + 2 := by rw [hWb,World.size_alloc,sa]
 have ba := bnew hWa
 have bb := bnew hWb
 have bc := bnew hW1
 have T1 := hid (show Blk W1 W.heap.size 25 [.slice ar t.rules.length cr,.slice ad t.drops.length cd,.slice ae t.ends.length ce,.int .i64 t.drop,.int .i64 t.order,.int .i64 t.initial] by
  have : Blk Wa W.heap.size 25 [.slice ar t.rules.length cr,.slice ad t.drops.length cd,.slice ae t.ends.length ce,.int .i64 t.drop,.int .i64 t.order,.int .i64 t.initial] := by rw [hWa]; exact Blk.new W _ _
  exact (this.below bb).below bc)
 have N1 := hid (show Blk W1 (W.heap.size + 1) 46 [.int .i64 n.script,.slice na n.words.length nc] by
  have : Blk Wb (W.heap.size + 1) 46 [.int .i64 n.script,.slice na n.words.length nc] := by rw [hWb,← sa]; exact Blk.new Wa _ _
  exact this.below bc)
 have R1 := hid (show Blk W1 (W.heap.size + 2) 92 [.slice none 0 0,.slice none 0 0] by rw [hW1,← sb]; exact Blk.new Wb _ _)
 have B1 := hid (Below.step (Below.step ba bb) bc)
 rw [hWb,hWa] at hW1
 have HVA := hid (valid_any t _ W1 (HTA.out.below B1.out) (HTT.out.below B1.out))
 rw [HV.out] at HVA
 obtain ⟨t0,t1,t2,t3,t4,t5,tl⟩ := T1.out.cl6
 clear hT hv hw ba bb bc sa sb hWa hWb
 go_enter Tryz.func43,Tryz.ntmps43
 go_upto_region 1 with (fail)
 try simp only [World.size_alloc]
 rw [← hW1]
 clear hW1
 go_wp2_with fail
 refine (HVA.out).mono ?_
 rintro e W2 ⟨rfl,hb2⟩
 have B2 := hid (Below.step B1.out hb2)
 have T2 := hid (T1.out.below hb2)
 have N2 := hid (N1.out.below hb2)
 have R2 := hid (R1.out.below hb2)
 have HSV := hid (scrValid_any n _ W2 (show NmAt W2 (n,.slice na n.words.length nc) from HN.out.below B2.out) HW.out (HTT.out.below B2.out))
 unfold nmV at HSV
 dsimp only at HSV
 clear t0 t1 t2 t3 t4 t5 tl hb2 HVA
 obtain ⟨n0,n1,nl⟩ := N2.out.cl2
 go_wp2_with fail
 refine (HSV.out).mono ?_
 rintro e W3 ⟨rfl,hb3⟩
 have B3 := hid (Below.step B2.out hb3)
 have T3 := hid (T2.out.below hb3)
 have N3 := hid (N2.out.below hb3)
 have R3 := hid (R2.out.below hb3)
 clear n0 n1 nl hb3 HSV
 cases hok : Li.nmOk n with
 | false =>
  have HOK := hid hok
  clear hok
  obtain ⟨r0,r1,rf0,rf1,rl⟩ := R3.out.cf2
  go_wp2_with fail
  obtain ⟨W9,hW9⟩ := exq ((W3.setCell ⟨W.heap.size + 2,0,none⟩ (.slice none 0 0)).setCell ⟨W.heap.size + 2,1,none⟩ (.slice none 0 0))
  rw [← hW9]
  have h9 : Blk W9 (W.heap.size + 2) 92 [.slice none 0 0,.slice none 0 0] := by rw [hW9]; exact (R3.out.set 0 _).set 1 _
  have hb9 : Below W.heap.size W W9 := by rw [hW9]; exact (B3.out.setCell (p := ⟨W.heap.size + 2,0,none⟩) (by simp) _).setCell (p := ⟨W.heap.size + 2,1,none⟩) (by simp) _
  refine post_cell_tmp rfl rfl (run_loadVar_row W9 (W.heap.size + 2) _ 92 _ _ _ h9 Tryz.underlying92 rfl (by kernel_rfl)) rfl rfl ?_
  exact ⟨hb9,.inl ⟨HOK.out,rfl⟩⟩
 | true =>
 have HOK := hid hok
 have HFW := hid (Li.nm_few hok)
 clear hok
 obtain ⟨W4,hW4⟩ := exq (W3.alloc (.cells #[.slice none 0 0,.slice none 0 0] 92))
 have b4 := bnew hW4
 have O4 := hid (show Blk W4 W3.heap.size 92 [.slice none 0 0,.slice none 0 0] by rw [hW4]; exact Blk.new _ _ _)
 have B4 := hid (Below.step B3.out b4)
 have T4 := hid (T3.out.below b4)
 have N4 := hid (N3.out.below b4)
 have R4 := hid (R3.out.below b4)
 obtain ⟨q,hq⟩ := exq (W3.heap.size)
 have HQ := hid (show W.heap.size + 2 < q by rw [hq]; exact R3.out.lt)
 rw [← hq] at O4
 go_upto_region 4 with (fail)
 rw [← hW4,← hq]
 clear hW4 b4 hq
 have n1 := N4.out.cell (j := 1) rfl
 have nl := N4.out.lt
 go_wp2_with fail
 go_loopw [25] (fun iv wr => ∃ (k : Nat) (us : List (Mt.W × Value × Value)) (wa da : Option Addr) (wc dc : Nat),k ≤ n.words.length ∧ iv = .int .i64 k ∧ Hid (us.map (fun p => some p.1) = (n.words.take k).map (Mt.wordOf t n.script) ∧ us.length = k) ∧
  Hid (Blk wr q 92 [.slice wa k wc,.slice da k dc]) ∧ Hid (wr.ownsRow (q + 1) 99 3 (.slice wa k wc) k (us.flatMap wdC)) ∧ Hid (wr.ownsRow (q + 1) 3 1 (.slice da k dc) k (((Mt.dropsN t n).take k).flatMap intC1)) ∧
  Hid (∀ p ∈ us,WordR (q + 1) wr p) ∧ Hid (Below (W.heap.size + 3) W4 wr)) (fun iv _ => n.words.length - (RowKit.intOf iv).toNat)
 case atStart => exact ⟨0,[],none,none,0,0,Nat.zero_le _,rfl,hid ⟨rfl,rfl⟩,O4.out,hid (World.ownsRow_nil _ _ _ _),hid (World.ownsRow_nil _ _ _ _),hid (fun p hp => by cases hp),hid (Below.refl _ _)⟩
 case round =>
  clear n1 nl
  obtain ⟨k,us,wa,da,wc,dc,hk,rfl,HUS,HO,HOW,HOD,HUR,HB⟩ := hrel
  rename World => wr
  have HZ4 := hid (show W.heap.size + 3 ≤ W4.heap.size by have := HQ.out; have := O4.out.lt; omega)
  have HBW := hid (show Below W.heap.size W wr from B4.out.trans (HB.out.mono (by omega)))
  have TW := hid (show Blk wr _ _ _ from (HB.out.block _ (by omega)).trans T4.out)
  have NW := hid (show Blk wr _ _ _ from (HB.out.block _ (by omega)).trans N4.out)
  have RW := hid (show Blk wr _ _ _ from (HB.out.block _ (by omega)).trans R4.out)
  by_cases hlt : k < n.words.length
  ·obtain ⟨s,hs⟩ : ∃ s,n.words[k]? = some s := ⟨_,List.getElem?_eq_getElem hlt⟩
   obtain ⟨u,hu⟩ := Mt.word_nm HV.out HOK.out (List.mem_of_getElem? hs)
   obtain ⟨g,o,rfl,hr⟩ : ∃ g o,na = some ⟨g,o,none⟩ ∧ RowOf wr g o 1 strC n.words := by
    obtain ⟨a',c',e',-,-,hr⟩ := HN.out.below HBW.out
    simp only [Value.slice.injEq] at e'
    obtain ⟨rfl,-,rfl⟩ := e'
    exact hr (by omega)
   have s0 := hr.2 k s hs 0 _ rfl
   rw [Nat.add_zero,Nat.mul_one] at s0
   have hg := hr.1
   have HS := hid hs
   have HU := hid hu
   have HSL := HW.out s (List.mem_of_getElem? hs)
   have HWO := hid (wordOf_own t _ n.script s wr (HTA.out.below HBW.out) (HTT.out.below HBW.out) HSL u hu)
   obtain ⟨t0,t1,t2,t3,t4,t5,tl⟩ := TW.out.cl6
   have n0 := NW.out.cell (j := 0) rfl
   have nl := NW.out.lt
   have k0 : (0 : Int) ≤ (k : Int) := by omega
   have k1 : (k : Int) < (n.words.length : Int) := by omega
   clear hr hs hu HSL
   go_wp2_with fail
   refine (HWO.out).mono ?_
   rintro e w2 ⟨hb2,va,vl,rfl,hov,hol⟩
   obtain ⟨xa,xc,rfl⟩ := ownsRow_slice hov
   obtain ⟨ya,yc,rfl⟩ := ownsRow_slice hol
   clear s0 hg t0 t1 t2 t3 t4 t5 tl n0 nl HWO
   obtain ⟨X2,hX2⟩ := exq (w2.alloc (.cells #[.int .i64 u.script,.slice xa u.vars.length xc,.slice ya u.letters.length yc] 99))
   have bx := bnew hX2
   have hx := Below.step hb2 bx
   have HX := hid (show Blk X2 w2.heap.size 99 [.int .i64 u.script,.slice xa u.vars.length xc,.slice ya u.letters.length yc] by rw [hX2]; exact Blk.new _ _ _)
   have HBX := hid (Below.step HBW.out hx)
   have TX := hid (TW.out.below hx)
   have NX := hid (NW.out.below hx)
   have HXB := hid hx
   have HUN := hid (show WordR wr.heap.size X2 (u,.slice xa u.vars.length xc,.slice ya u.letters.length yc) from ⟨ownsRow_below hov bx,ownsRow_below hol bx⟩)
   obtain ⟨qx,hqx⟩ := exq (w2.heap.size)
   have HQX := hid (show wr.heap.size ≤ qx by rw [hqx]; exact hb2.size)
   rw [← hqx] at HX
   clear hb2 bx hx hov hol
   go_upto_region 8 with (fail)
   rw [← hX2,← hqx]
   clear hX2 hqx
   have HDR := hid (dropping_any t _ n.script s X2 (HTA.out.below HBX.out) (HTT.out.below HBX.out) (HW.out s (List.mem_of_getElem? HS.out)))
   obtain ⟨t0,t1,t2,t3,t4,t5,tl⟩ := TX.out.cl6
   have n0 := NX.out.cell (j := 0) rfl
   have nl := NX.out.lt
   go_wp2_with fail
   refine (HDR.out).mono ?_
   rintro e A ⟨rfl,hbA⟩
   clear t0 t1 t2 t3 t4 t5 tl n0 nl HDR
   obtain ⟨c,hc⟩ := exq ((Rw.dropping t n.script s).1)
   obtain ⟨ce',hce'⟩ : ∃ c,c = (Rw.dropping t n.script s).2 := ⟨_,rfl⟩
   rw [← hc,← hce']
   have HC := hid hc
   clear hc hce'
   have hbw := Below.step HXB.out hbA
   have HZA := hid hbw.size
   have HQA : Hid (Blk A q 92 [.slice wa k wc,.slice da k dc]) := hid (HO.out.below hbw)
   have HXA := hid (HX.out.below hbA)
   have hW0 := ownsRow_below HOW.out hbw
   have hD0 := ownsRow_below HOD.out hbw
   have hR0 : ∀ p ∈ us,WordR (q + 1) A p := fun p hp => (HUR.out p hp).below hbw
   have hU0 : WordR (q + 1) A (u,.slice xa u.vars.length xc,.slice ya u.letters.length yc) := (HUN.out.below hbA).mono (by have := HO.out.lt; omega)
   have hB0 : Below (q + 1) A A := Below.refl _ _
   have HBA := hid (Below.step HBX.out hbA)
   have HBQ := hid (show Below (W.heap.size + 3) W4 A from HB.out.trans (hbw.mono (by have := HB.out.size; have := HZ4.out; omega)))
   have hne : ¬ ((Value.slice wa k wc).ownBlock = some qx ∨ (Value.slice da k dc).ownBlock = some qx ∨ qx = q) := by
    rintro (e | e | e)
    ·have := (HOW.out.lt _ e).2; have := HQX.out; omega
    ·have := (HOD.out.lt _ e).2; have := HQX.out; omega
    ·have := HO.out.lt; have := HQX.out; omega
   have hqa := HQA.out
   obtain ⟨d0,d1,-⟩ := hqa.cl2
   obtain ⟨x0,x1,x2,xz⟩ := HXA.out.cl3
   have hqz := hqa.lt
   have k7 : k ≤ 6 := by have := HFW.out.2.1; omega
   clear hbA hbw
   go_upto_region 9 with (fail)
   refine wp_heldS (S := HeldC 11 (fun X => Blk X q 92 [.slice wa k wc,.slice da k dc]) (fun b => (Value.slice wa k wc).ownBlock = some b ∨ (Value.slice da k dc).ownBlock = some b ∨ b = q) A) (by kernel_rfl) ?_
   simp only [List.size_toArray,List.length_cons,List.length_nil,Nat.reduceAdd]
   intro hc
   have S0 : HeldC 11 (fun X => Blk X q 92 [.slice wa k wc,.slice da k dc]) (fun b => (Value.slice wa k wc).ownBlock = some b ∨ (Value.slice da k dc).ownBlock = some b ∨ b = q) A (Array.replicate 14 false) A.drew := ⟨.inr (hqa.below (Below.refl _ _).drew),(Tch.refl _ A).step (Below.refl _ _).drew⟩
   refine tkI (i := 0) (v := .pointer (some ⟨q,0,none⟩)) rfl hc (fun wx hx => ?_) S0 (fun hc S0 => ?_) (hSi := fun _ _ => HeldC.set_ (by decide) _ _)
   ·go_simp
   try simp only [tk1,tk3,Act.put,tk4,tk5,tk6]
   refine tkI (i := 1) (v := .slice wa k wc) rfl hc (fun wx hx => ?_) S0 (fun hc S0 => ?_) (hSi := fun _ _ => HeldC.set_ (by decide) _ _)
   ·have y := (hx.cee (n := 14) (by kernel_rfl)).cell (j := 0) rfl
    go_simp
   try simp only [tk1,tk2,tk3,Act.put,tk4,tk5,tk6]
   refine tkI (i := 2) (v := .agg #[.int .i64 u.script,.slice xa u.vars.length xc,.slice ya u.letters.length yc]) rfl hc (fun wx hx => ?_) S0 (fun hc S0 => ?_) (hSi := fun _ _ => HeldC.set_ (by decide) _ _)
   ·have hbk := hx.tee.block _ xz hne; have y0 := (World.cell?_of_block (a := ⟨qx,0,none⟩) hbk).trans x0; have y1 := (World.cell?_of_block (a := ⟨qx,1,none⟩) hbk).trans x1; have y2 := (World.cell?_of_block (a := ⟨qx,2,none⟩) hbk).trans x2; clear hbk
    go_simp
   try simp only [tk1,tk2,tk3,Act.put,tk4,tk5,tk6]
   refine tkI (i := 5) (v := .pointer (some ⟨q,1,none⟩)) rfl hc (fun wx hx => ?_) S0 (fun hc S0 => ?_) (hSi := fun _ _ => HeldC.set_ (by decide) _ _)
   ·go_simp
   try simp only [tk1,tk2,tk3,Act.put,tk4,tk5,tk6]
   refine tkI (i := 6) (v := .slice da k dc) rfl hc (fun wx hx => ?_) S0 (fun hc S0 => ?_) (hSi := fun _ _ => HeldC.set_ (by decide) _ _)
   ·have y := (hx.cee (n := 14) (by kernel_rfl)).cell (j := 1) rfl
    go_simp
   try simp only [tk1,tk2,tk3,Act.put,tk4,tk5,tk6]
   refine tkI (i := 7) (v := .int .i64 c) rfl hc (fun wx hx => ?_) S0 (fun hc S0 => ?_) (hSi := fun _ _ => HeldC.set_ (by decide) _ _)
   ·go_simp
   try simp only [tk1,tk2,tk3,Act.put,tk4,tk5,tk6]
   obtain ⟨X0,hX0⟩ := exq (A.drew)
   have bX0 : Below A.heap.size A X0 := by rw [hX0]; exact (Below.refl _ A).drew
   rw [← hX0]
   have hWX0 := ownsRow_below hW0 bX0
   have hDX0 := ownsRow_below hD0 bX0
   have hQX0 := hqa.below bX0
   have hRX0 : ∀ p ∈ us,WordR (q + 1) X0 p := fun p hp => (hR0 p hp).below bX0
   have hUX0 := hU0.below bX0
   have hBX0 : Below (q + 1) A X0 := hB0.trans (bX0.mono (by omega))
   have hTX0 : Tch (fun b => (Value.slice wa k wc).ownBlock = some b ∨ (Value.slice da k dc).ownBlock = some b ∨ b = q) A X0 := (Tch.refl _ A).step bX0
   clear S0 hX0
   refine wpAnyS_two (i := 3) (k := 8) rfl rfl (by kernel_rfl) (by rfl) (by rfl) hc (fun K' hK => ?_) (fun K' hK => ?_)
   ·go_simp
    obtain ⟨X1,hX1⟩ := exq (X0.alloc (.cells #[.int .i64 u.script,.slice xa u.vars.length xc,.slice ya u.letters.length yc] 99))
    rw [← hX1]
    have bX1 := bnew hX1
    have n1X1 : Blk X1 X0.heap.size 99 [.int .i64 u.script,.slice xa u.vars.length xc,.slice ya u.letters.length yc] := by rw [hX1]; exact Blk.new _ _ _
    have hWX1 := ownsRow_below hWX0 bX1
    have hDX1 := ownsRow_below hDX0 bX1
    have hQX1 := hQX0.below bX1
    have hRX1 : ∀ p ∈ us,WordR (q + 1) X1 p := fun p hp => (hRX0 p hp).below bX1
    have hUX1 := hUX0.below bX1
    have hBX1 : Below (q + 1) A X1 := hBX0.trans (bX1.mono (by have := hBX0.size; omega))
    have hTX1 := hTX0.step bX1
    clear hX1
    refine hK.out _ _ ⟨.inr hQX1,hTX1⟩ (fun hc => ?_)
    clear hK K'
    try simp only [tk1,tk2,tk3,Act.put,tk4,tk5,tk6]
    refine wpAnyS_two (i := 4) (k := 8) rfl rfl (by kernel_rfl) (by rfl) (by rfl) hc (fun K' hK => ?_) (fun K' hK => ?_)
    ·refine wp_append_join _ _ 89 rfl (q + 1) 99 i0 (.agg #[.int .i64 0,.slice none 0 0,.slice none 0 0]) 3 56 Tryz.underlying89 hi0 hz0 hz1 hz2 rfl (by decide) _ _ _ rfl hWX1 (some ⟨X0.heap.size,0,none⟩) 1 1 [.int .i64 u.script,.slice xa u.vars.length xc,.slice ya u.letters.length yc] rfl rfl (fun h => by cases h) (fun b hb => by cases hb; exact blk_news n1X1) (by simp [Value.oneCell']) (by unfold maxLen; omega) (by omega) (by have := hBX1.size; omega) ?_
     intro v1X2 X2 hWX2 hgX2 _
     have hDX2 := owns_other hDX1 hWX1 hgX2 (by decide)
     have hQX2 := blk_other hQX1 hWX1 hgX2 (by decide)
     have hRX2 : ∀ p ∈ us,WordR (q + 1) X2 p := fun p hp => (hRX1 p hp).app hWX1 (by decide) (by decide) hgX2
     have hUX2 := hUX1.app hWX1 (by decide) (by decide) hgX2
     have hBX2 := Below.appended hBX1 hgX2 (by have := hBX1.size; omega) hWX1
     have hTX2 := hTX1.grown hgX2 fun r e => .inl (.inl e)
     obtain ⟨a1X2,c1X2,rfl⟩ := ownsRow_slice hWX2
     clear hgX2
     refine hK.out _ _ ⟨.inr hQX2,hTX2⟩ (fun hc => ?_)
     clear hK K'
     try simp only [tk1,tk2,tk3,Act.put,tk4,tk5,tk6]
     refine wpAnyS_take (i := 10) (v := .pointer (some ⟨q,0,none⟩)) rfl (by kernel_rfl) (by kernel_rfl) (by kernel_rfl) (fun _ _ _ h => h) (fun _ _ => HeldC.set_ (by decide) _ _) hc (by first | rfl | simp [Region.wanted]) (fun wx hx => ?_) ⟨.inr hQX2,hTX2⟩ (fun hc S0 => ?_)
     ·go_simp
     try simp only [tk1,tk2,tk3,Act.put,tk4,tk5,tk6]
     clear S0
     refine onI (i := 8) rfl hc (fun K' hK => ?_)
     go_simp
     obtain ⟨X3,hX3⟩ := exq (X2.alloc (.cells #[.int .i64 c] 3))
     rw [← hX3]
     have bX3 := bnew hX3
     have n2X3 : Blk X3 X2.heap.size 3 [.int .i64 c] := by rw [hX3]; exact Blk.new _ _ _
     have hWX3 := ownsRow_below hWX2 bX3
     have hDX3 := ownsRow_below hDX2 bX3
     have hQX3 := hQX2.below bX3
     have hRX3 : ∀ p ∈ us,WordR (q + 1) X3 p := fun p hp => (hRX2 p hp).below bX3
     have hUX3 := hUX2.below bX3
     have hBX3 : Below (q + 1) A X3 := hBX2.trans (bX3.mono (by have := hBX2.size; omega))
     have hTX3 := hTX2.step bX3
     clear hX3
     refine hK.out _ _ ⟨.inr hQX3,hTX3⟩ (fun hc => ?_)
     clear hK K'
     try simp only [tk1,tk2,tk3,Act.put,tk4,tk5,tk6]
     refine onI (i := 9) rfl hc (fun K' hK => ?_)
     refine wp_append_join _ _ 90 rfl (q + 1) 3 i1 (.int .i64 0) 1 8 Tryz.underlying90 hi1 hy0 hy1 hy2 rfl (by decide) _ _ _ rfl hDX3 (some ⟨X2.heap.size,0,none⟩) 1 1 [.int .i64 c] rfl rfl (fun h => by cases h) (fun b hb => by cases hb; exact blk_news n2X3) (by simp [Value.oneCell']) (by unfold maxLen; omega) (by omega) (by have := hBX3.size; omega) ?_
     intro v2X4 X4 hDX4 hgX4 _
     have hWX4 := owns_other hWX3 hDX3 hgX4 (by decide)
     have hQX4 := blk_other hQX3 hDX3 hgX4 (by decide)
     have hRX4 : ∀ p ∈ us,WordR (q + 1) X4 p := fun p hp => (hRX3 p hp).app hDX3 (by decide) (by decide) hgX4
     have hUX4 := hUX3.app hDX3 (by decide) (by decide) hgX4
     have hBX4 := Below.appended hBX3 hgX4 (by have := hBX3.size; omega) hDX3
     have hTX4 := hTX3.grown hgX4 fun r e => .inl (.inr (.inl e))
     obtain ⟨a2X4,c2X4,rfl⟩ := ownsRow_slice hDX4
     clear hgX4
     refine hK.out _ _ ⟨.inr hQX4,hTX4⟩ (fun hc => ?_)
     clear hK K'
     try simp only [tk1,tk2,tk3,Act.put,tk4,tk5,tk6]
     have e0 := hQX4.cell (j := 0) rfl
     have ef0 := hQX4.frozen 0
     have ez := hQX4.lt
     refine onI (i := 11) rfl hc (fun K' hK => ?_)
     go_simp
     obtain ⟨Y1,hY1⟩ := exq (X4.setCell ⟨q,0,none⟩ (.slice a1X2 (k + 1) c1X2))
     have hgY1 := set_grown_at X4 q 0 (.slice a1X2 (k + 1) c1X2)
     rw [← hY1] at hgY1 ⊢
     have hQY : Blk Y1 q 92 [.slice a1X2 (k + 1) c1X2,.slice da k dc] := by rw [hY1]; exact hQX4.set 0 _
     have hTY := hTX4.grown hgY1 fun r e => .inl (.inr (.inr (Option.some.inj e).symm))
     clear hY1 e0 ef0 ez
     refine hK.out _ _ ⟨.inl rfl,hTY⟩ (fun hc => ?_)
     clear hK K'
     try simp only [tk1,tk2,tk3,Act.put,tk4,tk5,tk6]
     refine onI (i := 12) rfl hc (fun K' hK => ?_)
     go_simp
     refine hK.out _ _ ⟨.inl rfl,hTY⟩ (fun hc => ?_)
     clear hK K'
     try simp only [tk1,tk2,tk3,Act.put,tk4,tk5,tk6]
     have e1 := hQY.cell (j := 1) rfl
     have ef1 := hQY.frozen 1
     have ez := hQY.lt
     refine onI (i := 13) rfl hc (fun K' hK => ?_)
     go_simp
     obtain ⟨Y2,hY2⟩ := exq (Y1.setCell ⟨q,1,none⟩ (.slice a2X4 (k + 1) c2X4))
     have hgY2 := set_grown_at Y1 q 1 (.slice a2X4 (k + 1) c2X4)
     rw [← hY2] at hgY2 ⊢
     have HQY := hid (show Blk Y2 q 92 [.slice a1X2 (k + 1) c1X2,.slice a2X4 (k + 1) c2X4] by rw [hY2]; exact hQY.set 1 _)
     have hTZ := hTY.grown hgY2 fun r e => .inl (.inr (.inr (Option.some.inj e).symm))
     clear hY2 e1 ef1 ez
     refine hK.out _ _ ⟨.inl rfl,hTZ⟩ (fun hc => ?_)
     clear hK K'
     try simp only [tk1,tk2,tk3,Act.put,tk4,tk5,tk6]
     refine wpAnyS_done (by kernel_rfl) ?_ _
     have HWY := hid (kept_at (kept_at hWX4 hgY1 (by omega)) hgY2 (by omega))
     have HDY := hid (kept_at (kept_at hDX4 hgY1 (by omega)) hgY2 (by omega))
     have HRY := hid (show ∀ p ∈ us ++ [(u,.slice xa u.vars.length xc,.slice ya u.letters.length yc)],WordR (q + 1) Y2 p from fun p hp => by
      rcases List.mem_append.1 hp with hp | hp
      ·exact ((hRX4 p hp).at_kept hgY1).at_kept hgY2
      ·rw [List.mem_singleton.1 hp]; exact (hUX4.at_kept hgY1).at_kept hgY2)
     have HBY := hid (show Below (W.heap.size + 3) W4 Y2 from ((HBQ.out.trans (hBX4.mono (by have := HQ.out; omega))).grown hgY1 (by have := HBQ.out.size; have := hBX4.size; have := HZ4.out; omega) (fun r e => by have := Option.some.inj e; have := HQ.out; omega)).grown hgY2 (by have := hgY1.size; have := HBQ.out.size; have := hBX4.size; have := HZ4.out; omega) (fun r e => by have := Option.some.inj e; have := HQ.out; omega))
     clear hc hgY1 hgY2 hQY hTY hTZ hne d0 d1 x0 x1 x2 xz hqz
     go_wp2_with fail
     go_roundw
     case rel =>
      refine ⟨k + 1,us ++ [(u,.slice xa u.vars.length xc,.slice ya u.letters.length yc)],a1X2,a2X4,c1X2,c2X4,by omega,by go_num,hid ⟨words_take HUS.out.1 HS.out HU.out,by rw [List.length_append,HUS.out.2]; rfl⟩,HQY,hid ?_,hid ?_,HRY,HBY⟩
      ·rw [List.flatMap_append]; exact HWY.out
      ·rw [dropsN_take HS.out,← HC.out,List.flatMap_append]; exact HDY.out
     case measure => simp [RowKit.intOf]; omega
    ·go_simp
     obtain ⟨X5,hX5⟩ := exq (X1.alloc (.cells #[.int .i64 c] 3))
     rw [← hX5]
     have bX5 := bnew hX5
     have n2X5 : Blk X5 X1.heap.size 3 [.int .i64 c] := by rw [hX5]; exact Blk.new _ _ _
     have hWX5 := ownsRow_below hWX1 bX5
     have hDX5 := ownsRow_below hDX1 bX5
     have hQX5 := hQX1.below bX5
     have hRX5 : ∀ p ∈ us,WordR (q + 1) X5 p := fun p hp => (hRX1 p hp).below bX5
     have hUX5 := hUX1.below bX5
     have hBX5 : Below (q + 1) A X5 := hBX1.trans (bX5.mono (by have := hBX1.size; omega))
     have hTX5 := hTX1.step bX5
     have n1X5 := n1X1.below bX5
     clear hX5
     refine hK.out _ _ ⟨.inr hQX5,hTX5⟩ (fun hc => ?_)
     clear hK K'
     try simp only [tk1,tk2,tk3,Act.put,tk4,tk5,tk6]
     refine onI (i := 4) rfl hc (fun K' hK => ?_)
     refine wp_append_join _ _ 89 rfl (q + 1) 99 i0 (.agg #[.int .i64 0,.slice none 0 0,.slice none 0 0]) 3 56 Tryz.underlying89 hi0 hz0 hz1 hz2 rfl (by decide) _ _ _ rfl hWX5 (some ⟨X0.heap.size,0,none⟩) 1 1 [.int .i64 u.script,.slice xa u.vars.length xc,.slice ya u.letters.length yc] rfl rfl (fun h => by cases h) (fun b hb => by cases hb; exact blk_news n1X5) (by simp [Value.oneCell']) (by unfold maxLen; omega) (by omega) (by have := hBX5.size; omega) ?_
     intro v1X6 X6 hWX6 hgX6 _
     have hDX6 := owns_other hDX5 hWX5 hgX6 (by decide)
     have hQX6 := blk_other hQX5 hWX5 hgX6 (by decide)
     have hRX6 : ∀ p ∈ us,WordR (q + 1) X6 p := fun p hp => (hRX5 p hp).app hWX5 (by decide) (by decide) hgX6
     have hUX6 := hUX5.app hWX5 (by decide) (by decide) hgX6
     have hBX6 := Below.appended hBX5 hgX6 (by have := hBX5.size; omega) hWX5
     have hTX6 := hTX5.grown hgX6 fun r e => .inl (.inl e)
     obtain ⟨a1X6,c1X6,rfl⟩ := ownsRow_slice hWX6
     have n2X6 := blk_other n2X5 hWX5 hgX6 (by decide)
     clear hgX6
     refine hK.out _ _ ⟨.inr hQX6,hTX6⟩ (fun hc => ?_)
     clear hK K'
     try simp only [tk1,tk2,tk3,Act.put,tk4,tk5,tk6]
     refine wpAnyS_take (i := 10) (v := .pointer (some ⟨q,0,none⟩)) rfl (by kernel_rfl) (by kernel_rfl) (by kernel_rfl) (fun _ _ _ h => h) (fun _ _ => HeldC.set_ (by decide) _ _) hc (by first | rfl | simp [Region.wanted]) (fun wx hx => ?_) ⟨.inr hQX6,hTX6⟩ (fun hc S0 => ?_)
     ·go_simp
     try simp only [tk1,tk2,tk3,Act.put,tk4,tk5,tk6]
     clear S0
     refine onI (i := 9) rfl hc (fun K' hK => ?_)
     refine wp_append_join _ _ 90 rfl (q + 1) 3 i1 (.int .i64 0) 1 8 Tryz.underlying90 hi1 hy0 hy1 hy2 rfl (by decide) _ _ _ rfl hDX6 (some ⟨X1.heap.size,0,none⟩) 1 1 [.int .i64 c] rfl rfl (fun h => by cases h) (fun b hb => by cases hb; exact blk_news n2X6) (by simp [Value.oneCell']) (by unfold maxLen; omega) (by omega) (by have := hBX6.size; omega) ?_
     intro v2X7 X7 hDX7 hgX7 _
     have hWX7 := owns_other hWX6 hDX6 hgX7 (by decide)
     have hQX7 := blk_other hQX6 hDX6 hgX7 (by decide)
     have hRX7 : ∀ p ∈ us,WordR (q + 1) X7 p := fun p hp => (hRX6 p hp).app hDX6 (by decide) (by decide) hgX7
     have hUX7 := hUX6.app hDX6 (by decide) (by decide) hgX7
     have hBX7 := Below.appended hBX6 hgX7 (by have := hBX6.size; omega) hDX6
     have hTX7 := hTX6.grown hgX7 fun r e => .inl (.inr (.inl e))
     obtain ⟨a2X7,c2X7,rfl⟩ := ownsRow_slice hDX7
     clear hgX7
     refine hK.out _ _ ⟨.inr hQX7,hTX7⟩ (fun hc => ?_)
     clear hK K'
     try simp only [tk1,tk2,tk3,Act.put,tk4,tk5,tk6]
     have e0 := hQX7.cell (j := 0) rfl
     have ef0 := hQX7.frozen 0
     have ez := hQX7.lt
     refine onI (i := 11) rfl hc (fun K' hK => ?_)
     go_simp
     obtain ⟨Y1,hY1⟩ := exq (X7.setCell ⟨q,0,none⟩ (.slice a1X6 (k + 1) c1X6))
     have hgY1 := set_grown_at X7 q 0 (.slice a1X6 (k + 1) c1X6)
     rw [← hY1] at hgY1 ⊢
     have hQY : Blk Y1 q 92 [.slice a1X6 (k + 1) c1X6,.slice da k dc] := by rw [hY1]; exact hQX7.set 0 _
     have hTY := hTX7.grown hgY1 fun r e => .inl (.inr (.inr (Option.some.inj e).symm))
     clear hY1 e0 ef0 ez
     refine hK.out _ _ ⟨.inl rfl,hTY⟩ (fun hc => ?_)
     clear hK K'
     try simp only [tk1,tk2,tk3,Act.put,tk4,tk5,tk6]
     refine onI (i := 12) rfl hc (fun K' hK => ?_)
     go_simp
     refine hK.out _ _ ⟨.inl rfl,hTY⟩ (fun hc => ?_)
     clear hK K'
     try simp only [tk1,tk2,tk3,Act.put,tk4,tk5,tk6]
     have e1 := hQY.cell (j := 1) rfl
     have ef1 := hQY.frozen 1
     have ez := hQY.lt
     refine onI (i := 13) rfl hc (fun K' hK => ?_)
     go_simp
     obtain ⟨Y2,hY2⟩ := exq (Y1.setCell ⟨q,1,none⟩ (.slice a2X7 (k + 1) c2X7))
     have hgY2 := set_grown_at Y1 q 1 (.slice a2X7 (k + 1) c2X7)
     rw [← hY2] at hgY2 ⊢
     have HQY := hid (show Blk Y2 q 92 [.slice a1X6 (k + 1) c1X6,.slice a2X7 (k + 1) c2X7] by rw [hY2]; exact hQY.set 1 _)
     have hTZ := hTY.grown hgY2 fun r e => .inl (.inr (.inr (Option.some.inj e).symm))
     clear hY2 e1 ef1 ez
     refine hK.out _ _ ⟨.inl rfl,hTZ⟩ (fun hc => ?_)
     clear hK K'
     try simp only [tk1,tk2,tk3,Act.put,tk4,tk5,tk6]
     refine wpAnyS_done (by kernel_rfl) ?_ _
     have HWY := hid (kept_at (kept_at hWX7 hgY1 (by omega)) hgY2 (by omega))
     have HDY := hid (kept_at (kept_at hDX7 hgY1 (by omega)) hgY2 (by omega))
     have HRY := hid (show ∀ p ∈ us ++ [(u,.slice xa u.vars.length xc,.slice ya u.letters.length yc)],WordR (q + 1) Y2 p from fun p hp => by
      rcases List.mem_append.1 hp with hp | hp
      ·exact ((hRX7 p hp).at_kept hgY1).at_kept hgY2
      ·rw [List.mem_singleton.1 hp]; exact (hUX7.at_kept hgY1).at_kept hgY2)
     have HBY := hid (show Below (W.heap.size + 3) W4 Y2 from ((HBQ.out.trans (hBX7.mono (by have := HQ.out; omega))).grown hgY1 (by have := HBQ.out.size; have := hBX7.size; have := HZ4.out; omega) (fun r e => by have := Option.some.inj e; have := HQ.out; omega)).grown hgY2 (by have := hgY1.size; have := HBQ.out.size; have := hBX7.size; have := HZ4.out; omega) (fun r e => by have := Option.some.inj e; have := HQ.out; omega))
     clear hc hgY1 hgY2 hQY hTY hTZ hne d0 d1 x0 x1 x2 xz hqz
     go_wp2_with fail
     go_roundw
     case rel =>
      refine ⟨k + 1,us ++ [(u,.slice xa u.vars.length xc,.slice ya u.letters.length yc)],a1X6,a2X7,c1X6,c2X7,by omega,by go_num,hid ⟨words_take HUS.out.1 HS.out HU.out,by rw [List.length_append,HUS.out.2]; rfl⟩,HQY,hid ?_,hid ?_,HRY,HBY⟩
      ·rw [List.flatMap_append]; exact HWY.out
      ·rw [dropsN_take HS.out,← HC.out,List.flatMap_append]; exact HDY.out
     case measure => simp [RowKit.intOf]; omega
   ·go_simp
    obtain ⟨X8,hX8⟩ := exq (X0.alloc (.cells #[.int .i64 c] 3))
    rw [← hX8]
    have bX8 := bnew hX8
    have n2X8 : Blk X8 X0.heap.size 3 [.int .i64 c] := by rw [hX8]; exact Blk.new _ _ _
    have hWX8 := ownsRow_below hWX0 bX8
    have hDX8 := ownsRow_below hDX0 bX8
    have hQX8 := hQX0.below bX8
    have hRX8 : ∀ p ∈ us,WordR (q + 1) X8 p := fun p hp => (hRX0 p hp).below bX8
    have hUX8 := hUX0.below bX8
    have hBX8 : Below (q + 1) A X8 := hBX0.trans (bX8.mono (by have := hBX0.size; omega))
    have hTX8 := hTX0.step bX8
    clear hX8
    refine hK.out _ _ ⟨.inr hQX8,hTX8⟩ (fun hc => ?_)
    clear hK K'
    try simp only [tk1,tk2,tk3,Act.put,tk4,tk5,tk6]
    refine onI (i := 3) rfl hc (fun K' hK => ?_)
    go_simp
    obtain ⟨X9,hX9⟩ := exq (X8.alloc (.cells #[.int .i64 u.script,.slice xa u.vars.length xc,.slice ya u.letters.length yc] 99))
    rw [← hX9]
    have bX9 := bnew hX9
    have n1X9 : Blk X9 X8.heap.size 99 [.int .i64 u.script,.slice xa u.vars.length xc,.slice ya u.letters.length yc] := by rw [hX9]; exact Blk.new _ _ _
    have hWX9 := ownsRow_below hWX8 bX9
    have hDX9 := ownsRow_below hDX8 bX9
    have hQX9 := hQX8.below bX9
    have hRX9 : ∀ p ∈ us,WordR (q + 1) X9 p := fun p hp => (hRX8 p hp).below bX9
    have hUX9 := hUX8.below bX9
    have hBX9 : Below (q + 1) A X9 := hBX8.trans (bX9.mono (by have := hBX8.size; omega))
    have hTX9 := hTX8.step bX9
    have n2X9 := n2X8.below bX9
    clear hX9
    refine hK.out _ _ ⟨.inr hQX9,hTX9⟩ (fun hc => ?_)
    clear hK K'
    try simp only [tk1,tk2,tk3,Act.put,tk4,tk5,tk6]
    refine onI (i := 4) rfl hc (fun K' hK => ?_)
    refine wp_append_join _ _ 89 rfl (q + 1) 99 i0 (.agg #[.int .i64 0,.slice none 0 0,.slice none 0 0]) 3 56 Tryz.underlying89 hi0 hz0 hz1 hz2 rfl (by decide) _ _ _ rfl hWX9 (some ⟨X8.heap.size,0,none⟩) 1 1 [.int .i64 u.script,.slice xa u.vars.length xc,.slice ya u.letters.length yc] rfl rfl (fun h => by cases h) (fun b hb => by cases hb; exact blk_news n1X9) (by simp [Value.oneCell']) (by unfold maxLen; omega) (by omega) (by have := hBX9.size; omega) ?_
    intro v1X10 X10 hWX10 hgX10 _
    have hDX10 := owns_other hDX9 hWX9 hgX10 (by decide)
    have hQX10 := blk_other hQX9 hWX9 hgX10 (by decide)
    have hRX10 : ∀ p ∈ us,WordR (q + 1) X10 p := fun p hp => (hRX9 p hp).app hWX9 (by decide) (by decide) hgX10
    have hUX10 := hUX9.app hWX9 (by decide) (by decide) hgX10
    have hBX10 := Below.appended hBX9 hgX10 (by have := hBX9.size; omega) hWX9
    have hTX10 := hTX9.grown hgX10 fun r e => .inl (.inl e)
    obtain ⟨a1X10,c1X10,rfl⟩ := ownsRow_slice hWX10
    have n2X10 := blk_other n2X9 hWX9 hgX10 (by decide)
    clear hgX10
    refine hK.out _ _ ⟨.inr hQX10,hTX10⟩ (fun hc => ?_)
    clear hK K'
    try simp only [tk1,tk2,tk3,Act.put,tk4,tk5,tk6]
    refine wpAnyS_take (i := 10) (v := .pointer (some ⟨q,0,none⟩)) rfl (by kernel_rfl) (by kernel_rfl) (by kernel_rfl) (fun _ _ _ h => h) (fun _ _ => HeldC.set_ (by decide) _ _) hc (by first | rfl | simp [Region.wanted]) (fun wx hx => ?_) ⟨.inr hQX10,hTX10⟩ (fun hc S0 => ?_)
    ·go_simp
    try simp only [tk1,tk2,tk3,Act.put,tk4,tk5,tk6]
    clear S0
    refine onI (i := 9) rfl hc (fun K' hK => ?_)
    refine wp_append_join _ _ 90 rfl (q + 1) 3 i1 (.int .i64 0) 1 8 Tryz.underlying90 hi1 hy0 hy1 hy2 rfl (by decide) _ _ _ rfl hDX10 (some ⟨X0.heap.size,0,none⟩) 1 1 [.int .i64 c] rfl rfl (fun h => by cases h) (fun b hb => by cases hb; exact blk_news n2X10) (by simp [Value.oneCell']) (by unfold maxLen; omega) (by omega) (by have := hBX10.size; omega) ?_
    intro v2X11 X11 hDX11 hgX11 _
    have hWX11 := owns_other hWX10 hDX10 hgX11 (by decide)
    have hQX11 := blk_other hQX10 hDX10 hgX11 (by decide)
    have hRX11 : ∀ p ∈ us,WordR (q + 1) X11 p := fun p hp => (hRX10 p hp).app hDX10 (by decide) (by decide) hgX11
    have hUX11 := hUX10.app hDX10 (by decide) (by decide) hgX11
    have hBX11 := Below.appended hBX10 hgX11 (by have := hBX10.size; omega) hDX10
    have hTX11 := hTX10.grown hgX11 fun r e => .inl (.inr (.inl e))
    obtain ⟨a2X11,c2X11,rfl⟩ := ownsRow_slice hDX11
    clear hgX11
    refine hK.out _ _ ⟨.inr hQX11,hTX11⟩ (fun hc => ?_)
    clear hK K'
    try simp only [tk1,tk2,tk3,Act.put,tk4,tk5,tk6]
    have e0 := hQX11.cell (j := 0) rfl
    have ef0 := hQX11.frozen 0
    have ez := hQX11.lt
    refine onI (i := 11) rfl hc (fun K' hK => ?_)
    go_simp
    obtain ⟨Y1,hY1⟩ := exq (X11.setCell ⟨q,0,none⟩ (.slice a1X10 (k + 1) c1X10))
    have hgY1 := set_grown_at X11 q 0 (.slice a1X10 (k + 1) c1X10)
    rw [← hY1] at hgY1 ⊢
    have hQY : Blk Y1 q 92 [.slice a1X10 (k + 1) c1X10,.slice da k dc] := by rw [hY1]; exact hQX11.set 0 _
    have hTY := hTX11.grown hgY1 fun r e => .inl (.inr (.inr (Option.some.inj e).symm))
    clear hY1 e0 ef0 ez
    refine hK.out _ _ ⟨.inl rfl,hTY⟩ (fun hc => ?_)
    clear hK K'
    try simp only [tk1,tk2,tk3,Act.put,tk4,tk5,tk6]
    refine onI (i := 12) rfl hc (fun K' hK => ?_)
    go_simp
    refine hK.out _ _ ⟨.inl rfl,hTY⟩ (fun hc => ?_)
    clear hK K'
    try simp only [tk1,tk2,tk3,Act.put,tk4,tk5,tk6]
    have e1 := hQY.cell (j := 1) rfl
    have ef1 := hQY.frozen 1
    have ez := hQY.lt
    refine onI (i := 13) rfl hc (fun K' hK => ?_)
    go_simp
    obtain ⟨Y2,hY2⟩ := exq (Y1.setCell ⟨q,1,none⟩ (.slice a2X11 (k + 1) c2X11))
    have hgY2 := set_grown_at Y1 q 1 (.slice a2X11 (k + 1) c2X11)
    rw [← hY2] at hgY2 ⊢
    have HQY := hid (show Blk Y2 q 92 [.slice a1X10 (k + 1) c1X10,.slice a2X11 (k + 1) c2X11] by rw [hY2]; exact hQY.set 1 _)
    have hTZ := hTY.grown hgY2 fun r e => .inl (.inr (.inr (Option.some.inj e).symm))
    clear hY2 e1 ef1 ez
    refine hK.out _ _ ⟨.inl rfl,hTZ⟩ (fun hc => ?_)
    clear hK K'
    try simp only [tk1,tk2,tk3,Act.put,tk4,tk5,tk6]
    refine wpAnyS_done (by kernel_rfl) ?_ _
    have HWY := hid (kept_at (kept_at hWX11 hgY1 (by omega)) hgY2 (by omega))
    have HDY := hid (kept_at (kept_at hDX11 hgY1 (by omega)) hgY2 (by omega))
    have HRY := hid (show ∀ p ∈ us ++ [(u,.slice xa u.vars.length xc,.slice ya u.letters.length yc)],WordR (q + 1) Y2 p from fun p hp => by
     rcases List.mem_append.1 hp with hp | hp
     ·exact ((hRX11 p hp).at_kept hgY1).at_kept hgY2
     ·rw [List.mem_singleton.1 hp]; exact (hUX11.at_kept hgY1).at_kept hgY2)
    have HBY := hid (show Below (W.heap.size + 3) W4 Y2 from ((HBQ.out.trans (hBX11.mono (by have := HQ.out; omega))).grown hgY1 (by have := HBQ.out.size; have := hBX11.size; have := HZ4.out; omega) (fun r e => by have := Option.some.inj e; have := HQ.out; omega)).grown hgY2 (by have := hgY1.size; have := HBQ.out.size; have := hBX11.size; have := HZ4.out; omega) (fun r e => by have := Option.some.inj e; have := HQ.out; omega))
    clear hc hgY1 hgY2 hQY hTY hTZ hne d0 d1 x0 x1 x2 xz hqz
    go_wp2_with fail
    go_roundw
    case rel =>
     refine ⟨k + 1,us ++ [(u,.slice xa u.vars.length xc,.slice ya u.letters.length yc)],a1X10,a2X11,c1X10,c2X11,by omega,by go_num,hid ⟨words_take HUS.out.1 HS.out HU.out,by rw [List.length_append,HUS.out.2]; rfl⟩,HQY,hid ?_,hid ?_,HRY,HBY⟩
     ·rw [List.flatMap_append]; exact HWY.out
     ·rw [dropsN_take HS.out,← HC.out,List.flatMap_append]; exact HDY.out
    case measure => simp [RowKit.intOf]; omega
  ·have hke : k = n.words.length := by omega
   have hle : ¬ (k : Int) < (n.words.length : Int) := by omega
   obtain ⟨o0,o1,oz⟩ := HO.out.cl2
   obtain ⟨r0,r1,rf0,rf1,rl⟩ := RW.out.cf2
   have HKE := hid hke
   clear hke hlt
   go_wp2_with fail
   try simp only [Nat.add_assoc,Nat.reduceAdd]
   obtain ⟨W9,hW9⟩ := exq ((wr.setCell ⟨W.heap.size + 2,0,none⟩ (.slice wa k wc)).setCell ⟨W.heap.size + 2,1,none⟩ (.slice da k dc))
   rw [← hW9]
   have hl : W.heap.size + 2 < q + 1 := by have := HQ.out; omega
   have h9 : Blk W9 (W.heap.size + 2) 92 [.slice wa k wc,.slice da k dc] := by rw [hW9]; exact (RW.out.set 0 _).set 1 _
   have hb9 : Below W.heap.size W W9 := by rw [hW9]; exact (HBW.out.setCell (p := ⟨W.heap.size + 2,0,none⟩) (by simp) _).setCell (p := ⟨W.heap.size + 2,1,none⟩) (by simp) _
   refine post_cell_tmp rfl rfl (run_loadVar_row W9 (W.heap.size + 2) _ 92 _ _ _ h9 Tryz.underlying92 rfl (by kernel_rfl)) rfl rfl ?_
   have hke : k = n.words.length := HKE.out
   subst hke
   have hdl : (Mt.dropsN t n).length = n.words.length := by unfold Mt.dropsN; rw [List.length_map]
   have hus := HUS.out
   rw [List.take_length] at hus
   have hD := HOD.out
   rw [List.take_of_length_le (Nat.le_of_eq hdl)] at hD
   refine ⟨hb9,.inr ⟨HOK.out,us,_,_,rfl,hus.1,?_,?_,fun p hp => ?_⟩⟩
   ·rw [hus.2,hW9]
    exact ownsRow_base (ownsRow_setCell_below (ownsRow_setCell_below HOW.out (a := ⟨W.heap.size + 2,0,none⟩) hl _) (a := ⟨W.heap.size + 2,1,none⟩) hl _) (by omega)
   ·rw [hdl,hW9]
    exact ownsRow_base (ownsRow_setCell_below (ownsRow_setCell_below hD (a := ⟨W.heap.size + 2,0,none⟩) hl _) (a := ⟨W.heap.size + 2,1,none⟩) hl _) (by omega)
   ·have h := HUR.out p hp
    rw [hW9]
    exact (WordR.mono (B := q + 1) ⟨ownsRow_setCell_below (ownsRow_setCell_below h.vars (a := ⟨W.heap.size + 2,0,none⟩) hl _) (a := ⟨W.heap.size + 2,1,none⟩) hl _,ownsRow_setCell_below (ownsRow_setCell_below h.lets (a := ⟨W.heap.size + 2,0,none⟩) hl _) (a := ⟨W.heap.size + 2,1,none⟩) hl _⟩ (by omega))
def prF (i j k l r c g : Int) (la : Option Addr) (ln lc : Nat) (ra : Option Addr) (rn rc : Nat) (s : ByteArray) : List Value :=
 [.int .i64 i,.int .i64 j,.int .i64 k,.int .i64 l,.int .i64 r,.int .i64 c,.int .i64 g,.slice la ln lc,.slice ra rn rc,.string s]
def PrV (v : Value) : Prop := ∃ (i j k l r c g : Int) (la : Option Addr) (ln lc : Nat) (ra : Option Addr) (rn rc : Nat) (s : ByteArray),v = .agg (prF i j k l r c g la ln lc ra rn rc s).toArray
def prZ : Value := .agg (prF 0 0 0 0 0 0 0 none 0 0 none 0 0 ⟨#[]⟩).toArray
theorem Tryz.infoPairM : (Tryz.prog.info? 103).map (fun i => (i.zero,i.size,i.bytes)) = some (some prZ,10,120) := by kernel_rfl
theorem zero_pairM (w : World) : (zeroValue 103).run Tryz.prog w = .ok prZ w := by kernel_rfl
theorem i2_keyed : Keyed Tryz.prog 106 :=
 Keyed.of_law (deep_law_laid laid_out (m := 9) (by decide) (of_decide_eq_true (by kernel_rfl)) (by kernel_rfl) (by kernel_rfl))
def i2V (i j : Int) : Value := .agg #[.int .i64 i,.int .i64 j]
theorem i2_some {i j : Int} (hi : 0 ≤ i ∧ i ≤ 10) (hj : 0 ≤ j ∧ j ≤ 10) : ∃ kl,keyOf Tryz.prog 106 (i2V i j) = some kl := by
 have hd : ∃ d,Tryz.prog.types.size + 1 = d + 2 := ⟨Tryz.prog.types.size - 1,by have : 2 ≤ Tryz.prog.types.size := of_decide_eq_true (by kernel_rfl); omega⟩
 obtain ⟨d,hd⟩ := hd
 have hk : Tryz.prog.keyType 106 = true := by kernel_rfl
 have hc : Tryz.prog.cellsOf 106 = 2 := by kernel_rfl
 have hc3 : Tryz.prog.cellsOf 3 = 1 := by kernel_rfl
 have w1 : (Lit.int .i64 i).wf = true := wf_int hi.1 (by omega)
 have w2 : (Lit.int .i64 j).wf = true := wf_int hj.1 (by omega)
 unfold keyOf i2V
 rw [Tryz.underlying106]
 simp only [hk,Value.formed,Tryz.underlying106,hc,Value.cells]
 rw [hd]
 simp [Program.keyLits,Tryz.underlying106,hc,hc3,Tryz.underlying3,w1,w2,show List.range 2 = [0,1] from rfl]
def PairsAt (W : World) (mb nc : Nat) : Prop := ∃ F,MapF W Tryz.prog 106 mb nc F ∧ ∀ x v,F x = some v → PrV v
section
variable {W W' : World} {mb nc : Nat}
theorem PairsAt.below (h : PairsAt W mb nc) (hb : Below W.heap.size W W') : PairsAt W' mb nc := by
 obtain ⟨F,h1,h2⟩ := h
 exact ⟨F,h1.below hb,h2⟩
end
def BuildP (cost : Int) (sw : Bool) (W : World) (e : Ending) (W' : World) : Prop :=
 Below W.heap.size W W' ∧ ∃ a n c,e = .returned (.agg #[.int .i64 cost,.bool sw,.slice a n c])
set_option maxRecDepth 100000 in
set_option maxHeartbeats 8000000 in
theorem build_any (cols : List Int) (vc : Value) (cost : Int) (sw : Bool) (pb mb nc : Nat) (W : World) (hc : SlOf W vc 1 intC1 cols) (hr : Few6 cols) (hp : Blk W pb 95 [.map (some mb)]) (hm : PairsAt W mb nc) :
  Calls Tryz.prog 45 #[vc,.int .i64 cost,.bool sw,.pointer (some ⟨pb,0,none⟩)] W (BuildP cost sw W) := by
 obtain ⟨i0,hi0,hz0,hz1,hz2⟩ := info_parts Tryz.infoPairM
 have HC := hid hc
 have HR := hid hr.2
 have hl := hr.1
 have HP := hid hp
 obtain ⟨F,hF,hFV⟩ := hm
 have HF := hid (And.intro hF hFV)
 obtain ⟨ca,cc,rfl,-⟩ := hc
 obtain ⟨N,hN⟩ := exq (cols.length)
 have HN := hid hN
 rw [← hN] at HC hl ⊢
 obtain ⟨Wa,hWa⟩ := exq (W.alloc (.cells #[.int .i64 0,.bool false,.slice none 0 0] 65))
 obtain ⟨W1,hW1⟩ := exq (Wa.alloc (.cells #[.int .i64 cost,.bool sw,.slice none 0 0] 65))
 have sa : Wa.heap.size = W.heap.size + 1 := by rw [hWa,World.size_alloc]
 have ba := bnew hWa
 have bb := bnew hW1
 have R1 := hid (show Blk W1 W.heap.size 65 [.int .i64 0,.bool false,.slice none 0 0] by
  have : Blk Wa W.heap.size 65 [.int .i64 0,.bool false,.slice none 0 0] := by rw [hWa]; exact Blk.new W _ _
  exact this.below bb)
 have M1 := hid (show Blk W1 (W.heap.size + 1) 65 [.int .i64 cost,.bool sw,.slice none 0 0] by rw [hW1,← sa]; exact Blk.new Wa _ _)
 have B1 := hid (Below.step ba bb)
 rw [hWa] at hW1
 clear hr hp hF hFV hN ba bb sa hWa
 go_enter Tryz.func45,Tryz.ntmps45
 go_upto_region 2 with (fail)
 try simp only [World.size_alloc]
 rw [← hW1]
 clear hW1
 go_wp2_with fail
 go_loopw [18] (fun iv wr => ∃ (k l : Nat) (oa : Option Addr) (oc : Nat) (xs : List Value),k ≤ N ∧ iv = .int .i64 k ∧ l ≤ k ∧ Hid (Blk wr (W.heap.size + 1) 65 [.int .i64 cost,.bool sw,.slice oa l oc]) ∧ Hid (wr.ownsRow (W.heap.size + 2) 103 10 (.slice oa l oc) l xs) ∧
  Hid (Blk wr W.heap.size 65 [.int .i64 0,.bool false,.slice none 0 0]) ∧ Hid (Below W.heap.size W wr)) (fun iv _ => N - (RowKit.intOf iv).toNat)
 case atStart => exact ⟨0,0,none,0,[],Nat.zero_le _,rfl,Nat.le_refl _,M1.out,hid (World.ownsRow_nil _ _ _ _),R1.out,B1.out⟩
 case round =>
  obtain ⟨k,l,oa,oc,xs,hk,rfl,hlk,HM,HO,HRC,HB⟩ := hrel
  rename World => wr
  by_cases hlt : k < N
  ·obtain ⟨x,hx⟩ : ∃ x,cols[k]? = some x := ⟨_,List.getElem?_eq_getElem (by rw [← HN.out]; exact hlt)⟩
   obtain ⟨g,o,rfl,hr⟩ : ∃ g o,ca = some ⟨g,o,none⟩ ∧ RowOf wr g o 1 intC1 cols := by
    obtain ⟨a',c',e',-,-,hr⟩ := HC.out.below HB.out
    rw [← HN.out] at e'
    simp only [Value.slice.injEq] at e'
    obtain ⟨rfl,-,rfl⟩ := e'
    exact hr (by rw [← HN.out]; omega)
   have c0 := hr.2 k x hx 0 _ rfl
   rw [Nat.add_zero,Nat.mul_one] at c0
   have hg := hr.1
   have hxb := HR.out x (List.mem_of_getElem? hx)
   obtain ⟨kl,hkl⟩ := i2_some (i := (k : Int)) (j := x) (by omega) (by omega)
   have hget := (HF.out.1.below HB.out).getOk i2_keyed Tryz.underlying95 (zero_pairM wr) hkl
   have p0 := (HP.out.below HB.out).cell (j := 0) rfl
   have pz := (HP.out.below HB.out).lt
   have k0 : (0 : Int) ≤ (k : Int) := by omega
   have k1 : (k : Int) < (N : Int) := by omega
   have HL := hid (show W.heap.size + 1 < wr.heap.size from HM.out.lt)
   clear hr hx hxb hkl
   unfold i2V at hget
   cases hf : F (i2V k x) with
   | none =>
    unfold i2V at hf
    rw [hf] at hget
    simp only [Option.getD_none,Option.isSome_none] at hget
    unfold prZ prF at hget
    clear hf
    obtain ⟨X1,hX1⟩ := exq (wr.alloc (.cells #[.int .i64 0,.int .i64 0,.int .i64 0,.int .i64 0,.int .i64 0,.int .i64 0,.int .i64 0,.slice none 0 0,.slice none 0 0,.string ⟨#[]⟩] 103))
    have bX := bnew hX1
    have HBX := hid bX
    clear bX
    go_upto_region 6 with (fail)
    rw [← hX1]
    clear hX1 hget c0 hg p0 pz
    go_wp2_with fail
    go_roundw
    case rel => exact ⟨k + 1,l,oa,oc,xs,by omega,by go_num,by omega,HM.out.below HBX.out,hid (ownsRow_below HO.out HBX.out),HRC.out.below HBX.out,Below.step HB.out HBX.out⟩
    case measure => simp [RowKit.intOf]; omega
   | some v =>
    obtain ⟨ai,aj,ak,al,ar,ac,ag,la,ln,lc,ra,rn,rc,s,rfl⟩ := HF.out.2 _ _ hf
    unfold i2V at hf
    rw [hf] at hget
    simp only [Option.getD_some,Option.isSome_some] at hget
    unfold prF at hget
    clear hf
    obtain ⟨X1,hX1⟩ := exq (wr.alloc (.cells #[.int .i64 ai,.int .i64 aj,.int .i64 ak,.int .i64 al,.int .i64 ar,.int .i64 ac,.int .i64 ag,.slice la ln lc,.slice ra rn rc,.string s] 103))
    have bX := bnew hX1
    have kX : Blk X1 wr.heap.size 103 [.int .i64 ai,.int .i64 aj,.int .i64 ak,.int .i64 al,.int .i64 ar,.int .i64 ac,.int .i64 ag,.slice la ln lc,.slice ra rn rc,.string s] := by rw [hX1]; exact Blk.new _ _ _
    have HBX := hid bX
    obtain ⟨q,hq⟩ := exq (wr.heap.size)
    rw [← hq] at kX
    go_upto_region 6 with (fail)
    rw [← hX1,← hq]
    clear hX1 hget c0 hg p0 pz hq
    have HMX := hid (HM.out.below bX)
    have HRX := hid (HRC.out.below bX)
    have HOX := hid (ownsRow_below HO.out bX)
    have HBW := hid (Below.step HB.out bX)
    have HZX := hid (show W.heap.size + 2 ≤ X1.heap.size by have := HL.out; have := bX.size; omega)
    obtain ⟨v0,v1,v2,v3,v4,v5,v6,v7,v8,v9,vz⟩ := kX.cl10
    have m2 := HMX.out.cell (j := 2) rfl
    have mz := HMX.out.lt
    obtain ⟨X2,hX2⟩ := exq (X1.alloc (.cells #[.int .i64 ai,.int .i64 aj,.int .i64 ak,.int .i64 al,.int .i64 ar,.int .i64 ac,.int .i64 ag,.slice la ln lc,.slice ra rn rc,.string s] 103))
    have bY := bnew hX2
    have HB2 := hid bY
    have HX2 := hid hX2
    have HOY := hid (show (X1.alloc (.cells #[.int .i64 ai,.int .i64 aj,.int .i64 ak,.int .i64 al,.int .i64 ar,.int .i64 ac,.int .i64 ag,.slice la ln lc,.slice ra rn rc,.string s] 103)).ownsRow (W.heap.size + 2) 103 10 (.slice oa l oc) l xs from HOX.out.alloc _)
    have HMY := hid (show Blk (X1.alloc (.cells #[.int .i64 ai,.int .i64 aj,.int .i64 ak,.int .i64 al,.int .i64 ar,.int .i64 ac,.int .i64 ag,.slice la ln lc,.slice ra rn rc,.string s] 103)) _ _ _ from HMX.out.below ((Below.refl _ _).alloc (Nat.le_refl _) _))
    have HRY := hid (show Blk (X1.alloc (.cells #[.int .i64 ai,.int .i64 aj,.int .i64 ak,.int .i64 al,.int .i64 ar,.int .i64 ac,.int .i64 ag,.slice la ln lc,.slice ra rn rc,.string s] 103)) _ _ _ from HRX.out.below ((Below.refl _ _).alloc (Nat.le_refl _) _))
    have HBY := hid (show Below W.heap.size W (X1.alloc (.cells #[.int .i64 ai,.int .i64 aj,.int .i64 ak,.int .i64 al,.int .i64 ar,.int .i64 ac,.int .i64 ag,.slice la ln lc,.slice ra rn rc,.string s] 103)) from Below.step HBW.out ((Below.refl _ _).alloc (Nat.le_refl _) _))
    clear bX kX bY hX2
    go_wp2_with (at_builtin; refine wpList_append_own _ rfl _ _ 63 rfl (W.heap.size + 2) 103 i0 prZ 10 120 Tryz.underlying63 hi0 hz0 hz1 hz2 rfl (by decide) _ _ _ rfl HOY.out ⟨X1.heap.size,0,none⟩ 1 1 [.int .i64 ai,.int .i64 aj,.int .i64 ak,.int .i64 al,.int .i64 ar,.int .i64 ac,.int .i64 ag,.slice la ln lc,.slice ra rn rc,.string s] rfl rfl (cells_new rfl) (by simp [Value.oneCell']) (by unfold maxLen; omega) (by omega) (by have := HZX.out; simp; omega) ?_; intro v' w9 ho9 hg9 _; have HM9 := hid (blk_other HMY.out HOY.out hg9 (by decide)); have HR9 := hid (blk_other HRY.out HOY.out hg9 (by decide)); have HB9 := hid (HBY.out.grown hg9 (by have := HZX.out; simp; omega) (fun r e => by have := (HOY.out.lt _ e).1; omega)); have HO9 := hid ho9; have n2 := HM9.out.cell (j := 2) rfl; have nf := HM9.out.frozen 2; have nz := HM9.out.lt; obtain ⟨va,vc9,hv9⟩ := ownsRow_slice ho9; clear ho9 hg9; subst hv9)
    go_roundw
    case rel => exact ⟨k + 1,l + 1,va,vc9,_,by omega,by go_num,by omega,HM9.out.set 2 _,hid (ownsRow_setCell_below HO9.out (a := ⟨W.heap.size + 1,2,none⟩) (by simp) _),HR9.out.other (by omega) _,HB9.out.setCell (p := ⟨W.heap.size + 1,2,none⟩) (by simp) _⟩
    case measure => simp [RowKit.intOf]; omega
  ·have hke : k = N := by omega
   have hle : ¬ (k : Int) < (N : Int) := by omega
   obtain ⟨m0,m1,m2,mz⟩ := HM.out.cl3
   obtain ⟨r0,r1,r2,rf0,rf1,rf2,rz⟩ := HRC.out.cf3
   clear hke
   go_wp2_with fail
   obtain ⟨W9,hW9⟩ := exq (((wr.setCell ⟨W.heap.size,0,none⟩ (.int .i64 cost)).setCell ⟨W.heap.size,1,none⟩ (.bool sw)).setCell ⟨W.heap.size,2,none⟩ (.slice oa l oc))
   rw [← hW9]
   have h9 : Blk W9 W.heap.size 65 [.int .i64 cost,.bool sw,.slice oa l oc] := by rw [hW9]; exact ((HRC.out.set 0 _).set 1 _).set 2 _
   have hb9 : Below W.heap.size W W9 := by rw [hW9]; exact ((HB.out.setCell (p := ⟨W.heap.size,0,none⟩) (Nat.le_refl _) _).setCell (p := ⟨W.heap.size,1,none⟩) (Nat.le_refl _) _).setCell (p := ⟨W.heap.size,2,none⟩) (Nat.le_refl _) _
   refine bodyPost_ret (results_cell_row rfl _ _ W.heap.size 65 _ (0,0) _ rfl h9 Tryz.underlying65 rfl (by kernel_rfl)) rfl ?_
   exact ⟨hb9,_,_,_,rfl⟩
end Go.Proofs.YtdghfenbfbdijaaGreatDoor
