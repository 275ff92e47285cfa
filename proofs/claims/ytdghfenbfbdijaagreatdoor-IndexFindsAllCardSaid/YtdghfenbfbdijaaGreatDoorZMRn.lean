import Derived.Test.YtdghfenbfbdijaaGreatDoorZRn1
import Derived.Test.YtdghfenbfbdijaaGreatDoorZFormF
import Derived.Test.YtdghfenbfbdijaaGreatDoorZShelf
import Derived.Test.YtdghfenbfbdijaaGreatDoorZMBase
import Derived.Lib.AppendIntMem
import Derived.Test.YtdghfenbfbdijaaGreatDoorZMLx
import Derived.Test.YtdghfenbfbdijaaGreatDoorZMFo
namespace Go.Proofs.YtdghfenbfbdijaaGreatDoor
open Go.RowKit Go.Lib Go.Maps
def vrC (v : Rw.Vr) : List Value := [.string (bs v.word),.int .i64 v.end_,.int .i64 v.cost]
end Go.Proofs.YtdghfenbfbdijaaGreatDoor
namespace Go.Proofs.YtdghfenbfbdijaaGreatDoor
open Go.RowKit Go.Lib
def Tab10 (w : World) : Prop := TabBelow Tryz.prog w.heap.size w "internal/strconv.uint64pow10" .u64 pow10Tab
theorem Tab10.here {w : World} (h : Tab10 w) : TabIs Tryz.prog w "internal/strconv.uint64pow10" .u64 pow10Tab := TabBelow.here h
theorem Tab10.below {w w' : World} (h : Tab10 w) (hb : Below w.heap.size w w') : Tab10 w' := fun w2 hb2 => h w2 (Below.step hb hb2)
theorem Tab10.of {w : World} (h : TabIs Tryz.prog w "internal/strconv.uint64pow10" .u64 pow10Tab) : Tab10 w := tabBelow_of_tabIs h
theorem join_lists (x : List UInt8) (xs : List (List UInt8)) (sep : List UInt8) : join (x :: xs) sep = x ++ xs.flatMap fun y => sep ++ y := by
 rw [join_cons]
 unfold joinTail
 rw [List.flatMap_def]
theorem join_any (bk o c : Nat) (xs : List (List UInt8)) (sep : List UInt8) (w : World) (hcells : ∀ (j : Nat) (x : List UInt8),xs[j]? = some x → w.cell? ⟨bk,o + j,none⟩ = some (.string (bs x))) (hbk : bk < w.heap.size) (hN : xs.length ≤ 1000000) (hcap : xs.length ≤ c) (hlen : (join xs sep).length ≤ 1000000) :
  Calls Tryz.prog 147 #[.slice (some ⟨bk,o,none⟩) xs.length c,.string (bs sep)] w (Gives (.string (bs (join xs sep))) w) := by
 have e1 : (xs.map bs).map (·.data.toList) = xs := by
  rw [List.map_map]
  have : ((fun x : ByteArray => x.data.toList) ∘ bs) = id := by funext x; rfl
  rw [this,List.map_id]
 have h := Tryz.strings_Join bk o c (xs.map bs) (bs sep) w (fun j x hj => by
  rw [List.getElem?_map] at hj
  cases hx : xs[j]? with
  | none => rw [hx] at hj; cases hj
  | some y => rw [hx] at hj; cases hj; exact hcells j y hx) hbk (by rw [List.length_map]; omega) (by rw [List.length_map]; exact hcap) (by rw [e1]; show (join xs sep).length ≤ _; omega)
 rw [e1,List.length_map] at h
 exact h
def Bldr (w : World) (B b : Nat) (l : List UInt8) : Prop := IsBuilderF 259 5 B b (byteCells l) w
theorem Bldr.fresh (w : World) : Bldr (w.alloc (.cells #[.pointer none,.slice none 0 0] 259)) w.heap.size w.heap.size [] := IsBuilderF.of (fresh_isBuilder 259 5 w)
end Go.Proofs.YtdghfenbfbdijaaGreatDoor
namespace Fo
theorem letters_flat {k : Int} {s : List UInt8} (h : letters k s ≠ []) : (letters k s).flatten = Sc.fold s := by
 unfold letters at *
 cases h1 : Sc.lets k s with
 | none => rw [h1] at h; exact absurd rfl h
 | some l1 =>
  rw [h1] at h
  simp only at h ⊢
  cases h2 : Sc.lets k (Sc.fold s) with
  | none => rw [h2] at h; exact absurd rfl h
  | some l => exact Sc.lets_join h2
theorem flat_take (L : List (List UInt8)) (n : Nat) : (L.take n).flatten.length ≤ L.flatten.length := by
 have := congrArg (fun l => (List.flatten l).length) (List.take_append_drop n L)
 simp only [List.flatten_append,List.length_append] at this
 omega
theorem letters_drop {most : Int} {d : Rw.Drop} (h : Rw.dropOk most d = true) : ∃ f,Sc.lets d.script d.word = some f ∧ letters d.script d.word = f ∧ f ≠ [] ∧ f.length ≤ 12 ∧ Sc.fold d.word = d.word ∧ 0 ≤ d.cost ∧ d.cost ≤ 1000 := by
 unfold Rw.dropOk Rw.isCost Rw.folded at h
 simp only [Bool.and_eq_true,decide_eq_true_eq] at h
 obtain ⟨h1,h2,h3⟩ := h
 cases hl : Sc.lets d.script d.word with
 | none => rw [hl] at h1; cases h1
 | some f =>
  rw [hl] at h1
  simp only [Bool.and_eq_true,decide_eq_true_eq] at h1
  refine ⟨f,rfl,?_,(Sc.lets_len hl).1,(Sc.lets_len hl).2,h1.1,h2,h3⟩
  unfold letters
  rw [hl,h1.1,hl]
  rfl
end Fo
namespace Go.Proofs.YtdghfenbfbdijaaGreatDoor
open Go.RowKit Go.Lib Go.Maps
theorem Tryz.infoVar : (Tryz.prog.info? 195).map (fun i => (i.zero,i.size,i.bytes)) = some (some (.agg #[.string ⟨#[]⟩,.int .i64 0,.int .i64 0]),3,32) := by kernel_rfl
theorem join_flat (l : List (List UInt8)) : join l [] = l.flatten := by
 cases l with
 | nil => rfl
 | cons x l =>
  rw [join_lists]
  simp only [List.nil_append,List.flatten_cons]
  congr 1
  rw [List.flatMap_id']
theorem join_first {w : World} {g o c n : Nat} {L : List (List UInt8)} (h : RowOf w g o 1 strC L) (hn : n ≤ L.length) (hc : n ≤ c) (h12 : L.length ≤ 12) (hl : L.flatten.length ≤ 1000000) :
  Calls Tryz.prog 147 #[.slice (some ⟨g,o,none⟩) n c,.string ⟨#[]⟩] w (Gives (.string (bs (L.take n).flatten)) w) := by
 have h1 := join_any g o c (L.take n) [] w (fun j x hj => by
  have hx : L[j]? = some x := by
   by_cases hjn : j < n
   ·rwa [List.getElem?_take_of_lt hjn] at hj
   ·rw [List.getElem?_eq_none (by rw [List.length_take]; omega)] at hj; cases hj
  have := h.2 j x hx 0 _ rfl
  rwa [Nat.mul_one,Nat.add_zero] at this) h.1 (by rw [List.length_take]; omega) (by rw [List.length_take]; omega) (by rw [join_flat]; have := Fo.flat_take L n; omega)
 rw [join_flat,List.length_take,Nat.min_eq_left hn] at h1
 exact h1
def VarP (t : Rw.Table) (k : Int) (s : List UInt8) (w : World) (e : Ending) (w' : World) : Prop :=
 ∃ v,e = .returned (.tuple #[v,.int .i64 (Rw.variants t k s).2]) ∧ w'.ownsRow w.heap.size 195 3 v (Rw.variants t k s).1.length ((Rw.variants t k s).1.flatMap vrC) ∧ Below w.heap.size w w'
set_option maxRecDepth 100000 in
set_option maxHeartbeats 20000000 in
theorem variants_any (t : Rw.Table) (tv : Value) (k : Int) (word : List UInt8) (W : World) (ht : TableAt W t tv) (hT : Tabs W) (hw : word.length ≤ 1000000) : Calls Tryz.prog 106 #[tv,.int .i64 k,.string (bs word)] W (VarP t k word W) := by
 have HTA := hid ht
 have HTT := hid hT
 obtain ⟨⟨vr,vd,ve,rfl,⟨ar,cr,rfl,-⟩,⟨ad,cd,rfl,-⟩,⟨ae,ce,rfl,-,-,h3⟩⟩,-,-,fe,hl1,hl2,hl3⟩ := ht
 have hE := hid h3
 have hF := hid fe
 clear h3 fe hT
 obtain ⟨W1,hW1⟩ := exq (W.alloc (.cells #[.slice ar t.rules.length cr,.slice ad t.drops.length cd,.slice ae t.ends.length ce,.int .i64 t.drop,.int .i64 t.order,.int .i64 t.initial] 25))
 have HT1 := hid (show Blk W1 W.heap.size 25 [.slice ar t.rules.length cr,.slice ad t.drops.length cd,.slice ae t.ends.length ce,.int .i64 t.drop,.int .i64 t.order,.int .i64 t.initial] by rw [hW1]; exact Blk.new W _ _)
 have HB1 := hid (show Below W.heap.size W W1 by rw [hW1]; exact (Below.refl _ W).alloc (Nat.le_refl _) _)
 have HLW := hid (letters_w k (bs word) W1 (by rw [bs_len]; exact hw) (HTT.out.below HB1.out))
 rw [bs_list] at HLW
 obtain ⟨L,hL⟩ := exq (Fo.letters k word)
 have hL12 := Fo.letters_len k word
 rw [← hL] at hL12
 unfold LetWP at HLW
 rw [← hL] at HLW
 have HV0 := hid (show Rw.variants t k word = if L = [] ∨ Rw.valid t = false then ([],1) else (⟨L.flatten,-1,0⟩ :: Rw.endsFrom k L 0 t.ends,0) by unfold Rw.variants; rw [hL])
 have HLF := hid (show L ≠ [] → L.flatten.length ≤ 1000000 from fun h => by
  rw [hL] at h ⊢
  rw [Fo.letters_flat h]
  unfold Sc.fold
  rw [List.length_map]
  exact hw)
 clear hL
 go_enter Tryz.func106,Tryz.ntmps106
 go_upto_region 1 with (fail)
 rw [← hW1]
 clear hW1
 go_wp2_with fail
 refine (HLW.out).mono ?_
 rintro e W2 ⟨lv,rfl,hown,hb2⟩
 obtain ⟨la,lc,rfl⟩ := ownsRow_slice hown
 have HB2 := hid (Below.step HB1.out hb2)
 have HT2 := hid (HT1.out.below hb2)
 have HLS := hid (show SlOf W2 (.slice la L.length lc) 1 strC L from SlOf.own hown (fun _ _ => rfl))
 have hz2 := HT2.out.lt
 obtain ⟨y0,y1,y2,y3,y4,y5,-⟩ := HT2.out.cl6
 obtain ⟨n,hn⟩ := exq (L.length)
 have HN := hid hn
 rw [← hn] at hL12 HLS ⊢
 clear hown hb2 HLW hn
 by_cases h0 : n = 0
 ·have g0 : ((n : Int) == 0) = true := by rw [h0]; rfl
  have HE := hid (show Rw.variants t k word = ([],1) by rw [HV0.out,if_pos (.inl (List.length_eq_zero_iff.1 (by have := HN.out; omega)))])
  clear h0
  go_wp2_with fail
  go_ret2
  unfold VarP
  rw [HE.out]
  exact ⟨_,rfl,World.ownsRow_nil _ _ _ _,HB2.out⟩
 ·have g0 : ((n : Int) == 0) = false := by rw [beq_eq_false_iff_ne]; omega
  have HV := hid (valid_any t _ W2 (HTA.out.below HB2.out) (HTT.out.below HB2.out))
  have HNE := hid (show L ≠ [] from fun e => h0 (by rw [HN.out,e]; rfl))
  go_wp2_with fail
  refine (HV.out).mono ?_
  rintro e W3 ⟨rfl,hb3⟩
  have HB3 := hid (Below.step HB2.out hb3)
  have HT3 := hid (HT2.out.below hb3)
  have HL3 := hid (HLS.out.below hb3)
  clear hb3 y0 y1 y2 y3 y4 y5 hz2 HV HLS HT2 HT1
  cases hv : Rw.valid t with
  | false =>
   have HE := hid (show Rw.variants t k word = ([],1) by rw [HV0.out,if_pos (.inr hv)])
   clear hv
   go_wp2_with fail
   go_ret2
   unfold VarP
   rw [HE.out]
   exact ⟨_,rfl,World.ownsRow_nil _ _ _ _,HB3.out⟩
  | true =>
   have HVR := hid (Rw.valid_ends hv)
   have hr40 := HVR.out.1
   have HE := hid (show Rw.variants t k word = (⟨L.flatten,-1,0⟩ :: Rw.endsFrom k L 0 t.ends,0) by rw [HV0.out,if_neg (by rw [hv]; simp [HNE.out])])
   clear hv
   have hflat := HLF.out HNE.out
   obtain ⟨i0,hi,hz0,hz1,hz2⟩ := info_parts Tryz.infoVar
   obtain ⟨g3,o3,rfl,hr3⟩ : ∃ g o,la = some ⟨g,o,none⟩ ∧ RowOf W3 g o 1 strC L := by
    obtain ⟨a',c',e,-,-,hr⟩ := HL3.out
    cases e
    exact hr (by rw [← HN.out]; omega)
   have hlc : n ≤ lc := by
    obtain ⟨a',c',e,h1,-,-⟩ := HL3.out
    cases e
    rw [← HN.out] at h1
    exact h1
   have HR3 := hid hr3
   have HJ := hid (fun X (hX : Below W3.heap.size W3 X) (m c : Nat) (hm : m ≤ n) (hc : m ≤ c) => join_first (hr3.below hX) (n := m) (c := c) (by rw [← HN.out]; exact hm) hc (by rw [← HN.out]; exact hL12) hflat)
   have HJ0 := hid (show Calls Tryz.prog 147 #[.slice (some ⟨g3,o3,none⟩) n lc,.string ⟨#[]⟩] W3 (Gives (.string (bs L.flatten)) W3) by
    have := HJ.out W3 (Below.refl _ _) n lc (Nat.le_refl _) hlc
    rwa [List.take_of_length_le (by rw [← HN.out]; exact Nat.le_refl _)] at this)
   clear hr3 hflat
   go_wp2_with fail
   refine (HJ0.out).mono ?_
   rintro e W4 ⟨rfl,hb4⟩
   obtain ⟨W5,hW5⟩ := exq (W4.alloc (.cells #[.string (bs L.flatten),.int .i64 (-1),.int .i64 0] 195))
   have hb45 := bnew hW5
   have HB35 := hid (Below.step hb4 hb45)
   have HO5 := hid (show W5.ownsRow (W3.heap.size) 195 3 (.slice (some ⟨W4.heap.size,0,none⟩) 1 1) 1 ([(⟨L.flatten,-1,0⟩ : Rw.Vr)].flatMap vrC) from
    ⟨rfl,.inr ⟨W4.heap.size,1,_,rfl,hb4.size,by rw [hW5]; exact alloc_new W4 _,Nat.le_refl _,by unfold maxLen; omega,rfl,rfl⟩⟩)
   have HT5 := hid (HT3.out.below HB35.out)
   have t2 := HT5.out.cell (j := 2) rfl
   have tz := HT5.out.lt
   clear hb4 hb45 HJ0
   go_upto_region 5 with (fail)
   rw [← hW5]
   clear hW5
   go_wp2_with fail
   have he2 : t.ends.length ≤ 40 := hr40
   go_loopw [9,32] (fun ov iv wr => ∃ (j : Nat) (mv : Value) (vs : List Rw.Vr),j ≤ t.ends.length ∧ iv = .int .i64 j ∧ mv = ov ∧ Hid (wr.ownsRow W3.heap.size 195 3 mv vs.length (vs.flatMap vrC) ∧ vs = ⟨L.flatten,-1,0⟩ :: Rw.endsFrom k L 0 (t.ends.take j)) ∧ Hid (Below W3.heap.size W3 wr)) (fun _ iv _ => t.ends.length - (RowKit.intOf iv).toNat)
   case atStart => exact ⟨0,_,_,Nat.zero_le _,rfl,rfl,hid ⟨HO5.out,by rw [List.take_zero]; rfl⟩,HB35⟩
   case round =>
    clear t2 tz HT5 HO5 HB35
    obtain ⟨j,ov,vs,hj,rfl,rfl,HO,HR⟩ := hrel
    obtain ⟨va,vc,rfl⟩ := ownsRow_slice HO.out.1
    by_cases hjt : j < t.ends.length
    ·obtain ⟨g,o,rfl,hr⟩ := hE.out (by omega)
     obtain ⟨d,hd⟩ : ∃ d,t.ends[j]? = some d := ⟨_,List.getElem?_eq_getElem hjt⟩
     have hbW := Below.step HB3.out HR.out
     have hc := (hr.below hbW).2 j d hd
     have e0 := hc 0 _ rfl
     have e1 := hc 1 _ rfl
     have e2 := hc 2 _ rfl
     rw [Nat.add_zero] at e0
     have hg := (hr.below hbW).1
     have j0 : (0 : Int) ≤ (j : Int) := by omega
     have j1 : (j : Int) < (t.ends.length : Int) := by omega
     have HST := hid (Rw.endsFrom_step k L hd)
     have HOK := hid (HVR.out.2 d (List.mem_of_getElem? hd))
     have HFD := hid (hF.out d (List.mem_of_getElem? hd))
     have HBW := hid hbW
     obtain ⟨A1,hA1⟩ := exq (wr.alloc (.cells #[.int .i64 d.script,.string (bs d.word),.int .i64 d.cost] 69))
     have hbA := bnew hA1
     have HX1 := hid (show Blk A1 wr.heap.size 69 [.int .i64 d.script,.string (bs d.word),.int .i64 d.cost] by rw [hA1]; exact Blk.new wr _ _)
     have HBA := hid (Below.step hbW hbA)
     have HRA := hid (Below.step HR.out hbA)
     have HOA := hid (ownsRow_below HO.out.1 hbA)
     obtain ⟨x0,x1,xz⟩ := HX1.out.cl2
     have hvs : vs.length ≤ 41 := by
      rw [HO.out.2,List.length_cons]
      have := Rw.endsFrom_len k L (t.ends.take j) 0
      rw [List.length_take] at this
      omega
     clear hc hr hd hbW hbA
     by_cases hsc : d.script = k
     rotate_left
     ·have hne : ((d.script : Int) != k) = true := by rw [bne_iff_ne]; exact hsc
      have HEE := hid (show Rw.endOf k L j d = none by unfold Rw.endOf; rw [if_neg]; rintro ⟨h,-⟩; exact hsc h)
      clear hsc
      go_upto_region 8 with (fail)
      rw [← hA1]
      clear hA1 e0 e1 e2
      go_wp2_with fail
      go_roundw
      case rel => exact ⟨j + 1,_,vs,by omega,by go_num,rfl,hid ⟨HOA.out,by rw [HST.out,HEE.out]; simp only [Option.toList_none,List.append_nil]; exact HO.out.2⟩,HRA⟩
      case measure => simp [RowKit.intOf]; omega
     ·subst hsc
      have hne : ((d.script : Int) != d.script) = false := by simp
      have HLE := hid (letters_w d.script (bs d.word) A1 (by rw [bs_len]; have := HFD.out.2; omega) (HTT.out.below HBA.out))
      obtain ⟨f,hlf,hfl,hfne,hf12,-,hc0,hc1⟩ := Fo.letters_drop HOK.out
      unfold LetWP at HLE
      rw [bs_list,hfl] at HLE
      have HFF := hid (And.intro hfl hfne)
      clear hlf hfl hfne
      go_upto_region 8 with (fail)
      rw [← hA1]
      clear hA1 e0 e1 e2
      go_wp2_with fail
      refine (HLE.out).mono ?_
      rintro e A2 ⟨fv,rfl,hof,hb2⟩
      obtain ⟨af,cf,rfl⟩ := ownsRow_slice hof
      have HX2 := hid (HX1.out.below hb2)
      have HRA2 := hid (Below.step HRA.out hb2)
      have HOA2 := hid (ownsRow_below HOA.out hb2)
      have hfp : 0 < f.length := List.length_pos_iff.2 HFF.out.2
      obtain ⟨g2,o2,rfl,hr2⟩ : ∃ g o,af = some ⟨g,o,none⟩ ∧ RowOf A2 g o 1 strC f := by
       obtain ⟨a',c',ef,-,-,kf⟩ := (show SlOf A2 (.slice af f.length cf) 1 strC f from SlOf.own hof (fun _ _ => rfl))
       cases ef
       exact kf hfp
      have HR2 := hid hr2
      clear hof hb2 x0 x1 xz hr2 HLE
      by_cases hlt : f.length < n
      rotate_left
      ·have hwr : IntKind.i64.wrap ((n : Int) - (f.length : Int)) = (n : Int) - (f.length : Int) := IntWalk.i64_in _ (by omega)
       have gl : decide ((0 : Int) < (n : Int) - (f.length : Int)) = false := decide_eq_false (by omega)
       have gl2 : decide (f.length < n) = false := decide_eq_false hlt
       have HEE := hid (show Rw.endOf d.script L j d = none by unfold Rw.endOf; rw [HFF.out.1,if_neg]; rintro ⟨-,h,-⟩; rw [← HN.out] at h; exact hlt h)
       clear hlt
       go_wp2_with fail
       go_roundw
       case rel => exact ⟨j + 1,_,vs,by omega,by go_num,rfl,hid ⟨HOA2.out,by rw [HST.out,HEE.out]; simp only [Option.toList_none,List.append_nil]; exact HO.out.2⟩,HRA2⟩
       case measure => simp [RowKit.intOf]; omega
      obtain ⟨m,hm⟩ := exq (n - f.length)
      have hwr : IntKind.i64.wrap ((n : Int) - (f.length : Int)) = (m : Int) := by rw [IntWalk.i64_in _ (by omega)]; omega
      have gl : decide ((0 : Int) < (m : Int)) = true := decide_eq_true (by omega)
      have gl2 : decide (0 < m) = true := decide_eq_true (by omega)
      have s0 : (0 : Int) ≤ (m : Int) ∧ (m : Int) ≤ (n : Int) := by omega
      have s1 : (m : Int) ≤ (n : Int) := by omega
      have s3 : ¬ lc = m := by omega
      have s4 : n - m = f.length := by omega
      have s5 : (0 : Int) ≤ (m : Int) := by omega
      have s6 : (0 : Int) ≤ (m : Int) ∧ (m : Int) ≤ (lc : Int) := by omega
      have s7 : m ≤ lc := by omega
      have s8 : m ≤ n := by omega
      have EQ := hid (fun cap => equal_part (cap := cap) (c2 := cf) (HR3.out.below HRA2.out) HR2.out (k := m) (n := f.length) (by rw [← HN.out]; omega) rfl (by omega))
      obtain ⟨fb,hfb⟩ := exq (decide ((L.drop m).take f.length = f))
      rw [← hfb] at EQ
      have HFB := hid hfb
      have HMN := hid (And.intro hlt hm)
      clear hfb hlt hm
      go_wp2_with fail
      refine (EQ.out _).mono ?_
      rintro e A3 ⟨rfl,hb3⟩
      have HX3 := hid (HX2.out.below hb3)
      have HRA3 := hid (Below.step HRA2.out hb3)
      have HOA3 := hid (ownsRow_below HOA2.out hb3)
      have HEF := hid (show L.length - f.length = m ∧ ((L.drop m).take f.length = L.drop m) from ⟨by rw [← HN.out]; exact HMN.out.2.symm,List.take_of_length_le (by rw [List.length_drop,← HN.out]; omega)⟩)
      clear hb3 EQ hwr gl gl2
      cases fb with
      | false =>
       have HEE := hid (show Rw.endOf d.script L j d = none by
        unfold Rw.endOf
        rw [HFF.out.1,if_neg]
        rintro ⟨-,-,h⟩
        rw [HEF.out.1] at h
        have := of_decide_eq_false HFB.out.symm
        rw [HEF.out.2] at this
        exact this h)
       go_wp2_with fail
       go_roundw
       case rel => exact ⟨j + 1,_,vs,by omega,by go_num,rfl,hid ⟨HOA3.out,by rw [HST.out,HEE.out]; simp only [Option.toList_none,List.append_nil]; exact HO.out.2⟩,HRA3⟩
       case measure => simp [RowKit.intOf]; omega
      | true =>
       have HEE := hid (show Rw.endOf d.script L j d = some ⟨(L.take m).flatten,j,d.cost⟩ by
        unfold Rw.endOf
        rw [HFF.out.1,HEF.out.1,if_pos]
        refine ⟨rfl,by rw [← HN.out]; exact HMN.out.1,?_⟩
        have := of_decide_eq_true HFB.out.symm
        rw [HEF.out.2] at this
        exact this)
       have hJ := HJ.out A3.drew (HRA3.out.drew) m lc s8 s7
       have hown5 := HOA3.out
       have hlo : ∀ q,(Value.slice va vs.length vc).ownBlock = some q → q < wr.heap.size := fun q e => (HO.out.1.lt q e).2
       have x2 := HX3.out.cell (j := 2) rfl
       have xz := HX3.out.lt
       go_upto_region 12 with (fail)
       refine wp_heldS (S := StillT (fun b => (Value.slice va vs.length vc).ownBlock = some b) A3) (by kernel_rfl) ?_
       simp only [List.size_toArray,List.length_cons,List.length_nil,Nat.reduceAdd]
       intro hc
       have S0 : StillT (fun b => (Value.slice va vs.length vc).ownBlock = some b) A3 (Array.replicate 12 false) A3.drew := (Tch.refl (fun b => (Value.slice va vs.length vc).ownBlock = some b) A3).step (Below.refl _ _).drew
       refine tkI (i := 0) (v := .slice va vs.length vc) rfl hc (fun wx hx => ?_) S0 (fun hc S0 => ?_)
       ·go_simp
       try simp only [tk1,tk3,Act.put,tk4,tk5,tk6]
       refine tkI (i := 1) (v := .slice (some ⟨g3,o3,none⟩) n lc) rfl hc (fun wx hx => ?_) S0 (fun hc S0 => ?_)
       ·go_simp
       try simp only [tk1,tk2,tk3,Act.put,tk4,tk5,tk6]
       refine tkI (i := 2) (v := .int .i64 m) rfl hc (fun wx hx => ?_) S0 (fun hc S0 => ?_)
       ·go_simp
       try simp only [tk1,tk2,tk3,Act.put,tk4,tk5,tk6]
       refine tkI (i := 3) (v := .slice (some ⟨g3,o3,none⟩) m lc) rfl hc (fun wx hx => ?_) S0 (fun hc S0 => ?_)
       ·go_simp
       try simp only [tk1,tk2,tk3,Act.put,tk4,tk5,tk6]
       refine tkI (i := 5) (v := .int .i64 j) rfl hc (fun wx hx => ?_) S0 (fun hc S0 => ?_)
       ·go_simp
       try simp only [tk1,tk2,tk3,Act.put,tk4,tk5,tk6]
       refine tkI (i := 6) (v := .pointer (some ⟨wr.heap.size,2,none⟩)) rfl hc (fun wx hx => ?_) S0 (fun hc S0 => ?_)
       ·go_simp
       try simp only [tk1,tk2,tk3,Act.put,tk4,tk5,tk6]
       refine tkI (i := 7) (v := .int .i64 d.cost) rfl hc (fun wx hx => ?_) S0 (fun hc S0 => ?_)
       ·have y := (World.cell?_of_block (a := ⟨wr.heap.size,2,none⟩) (hx.stillT.block _ xz (fun e => absurd (hlo _ e) (Nat.lt_irrefl _)))).trans x2
        go_simp
       try simp only [tk1,tk2,tk3,Act.put,tk4,tk5,tk6]
       refine onI (i := 4) rfl hc (fun K' hK => ?_)
       go_simp
       refine hJ.mono ?_
       rintro e w6 ⟨rfl,hb6⟩
       have hb56 : Below A3.heap.size A3 w6 := Below.step (Below.refl _ _).drew hb6
       refine hK.out _ _ (Tch.of_below hb56 _) (fun hc => ?_)
       clear hK K'
       try simp only [tk1,tk2,tk3,Act.put,tk4,tk5,tk6]
       refine onI (i := 8) rfl hc (fun K' hK => ?_)
       go_simp
       refine hK.out _ _ (Tch.of_below hb56 _) (fun hc => ?_)
       clear hK K'
       try simp only [tk1,tk2,tk3,Act.put,tk4,tk5,tk6]
       refine onI (i := 9) rfl hc (fun K' hK => ?_)
       go_simp
       have hb7 : Below A3.heap.size A3 (w6.alloc (.cells #[.string (bs (L.take m).flatten),.int .i64 j,.int .i64 d.cost] 195)) := Below.step hb56 ((Below.refl _ w6).alloc (Nat.le_refl _) _)
       refine hK.out _ _ (Tch.of_below hb7 _) (fun hc => ?_)
       clear hK K'
       try simp only [tk1,tk2,tk3,Act.put,tk4,tk5,tk6]
       have hown7 := (ownsRow_below hown5 hb56).alloc (.cells #[.string (bs (L.take m).flatten),.int .i64 j,.int .i64 d.cost] 195)
       have hz56 := hb56.size
       have hz3a := HRA3.out.size
       refine onI (i := 10) rfl hc (fun K' hK => ?_)
       refine wp_append_own _ _ _ 97 rfl W3.heap.size 195 i0 (.agg #[.string ⟨#[]⟩,.int .i64 0,.int .i64 0]) 3 32 Tryz.underlying97 hi hz0 hz1 hz2 rfl (by decide) _ _ _ rfl hown7 ⟨w6.heap.size,0,none⟩ 1 1 [.string (bs (L.take m).flatten),.int .i64 j,.int .i64 d.cost] rfl rfl (cells_new rfl) (by simp [Value.oneCell']) (by unfold maxLen; omega) (by omega) (by simp; omega) ?_
       intro v' w8 ho8 hg8 _
       refine hK.out _ _ ((Tch.of_below hb7 _).grown hg8 fun r e => .inl e) (fun hc => ?_)
       clear hK K'
       try simp only [tk1,tk2,tk3,Act.put,tk4,tk5,tk6]
       refine onI (i := 11) rfl hc (fun K' hK => ?_)
       go_simp
       refine hK.out _ _ ((Tch.of_below hb7 _).grown hg8 fun r e => .inl e) (fun hc => ?_)
       clear hK K'
       try simp only [tk1,tk2,tk3,Act.put,tk4,tk5,tk6]
       refine wpAnyS_done (by kernel_rfl) ?_ _
       have HO8 := hid (show w8.ownsRow W3.heap.size 195 3 v' (vs ++ [(⟨(L.take m).flatten,j,d.cost⟩ : Rw.Vr)]).length ((vs ++ [(⟨(L.take m).flatten,j,d.cost⟩ : Rw.Vr)]).flatMap vrC) ∧ vs ++ [(⟨(L.take m).flatten,j,d.cost⟩ : Rw.Vr)] = ⟨L.flatten,-1,0⟩ :: Rw.endsFrom d.script L 0 (t.ends.take (j + 1)) from ⟨by
        rw [List.flatMap_append,List.length_append]
        exact ho8,by rw [HST.out,HEE.out,HO.out.2]; rfl⟩)
       have HR8 := hid (Below.appended (HRA3.out.trans (hb7.mono HRA3.out.size)) hg8 (by simp; omega) hown7)
       clear hc S0 ho8 hg8 hown7 hb7 hb6 hb56 hown5 hlo hJ x2 xz s0 s1 s3 s4 s5 s6 s7 s8
       go_wp2_with fail
       go_roundw
       case rel => exact ⟨j + 1,_,_,by omega,by go_num,rfl,HO8,HR8⟩
       case measure => simp [RowKit.intOf]; omega
    ·have hje : j = t.ends.length := by omega
     have j1 : ¬ (j : Int) < (t.ends.length : Int) := by omega
     have HEE := hid (show (Rw.variants t k word) = (vs,0) by rw [HE.out,HO.out.2,hje,List.take_length])
     clear hje
     go_wp2_with fail
     go_ret2
     unfold VarP
     rw [HEE.out]
     exact ⟨_,rfl,ownsRow_base HO.out.1 HB3.out.size,HB3.out.trans (HR.out.mono HB3.out.size)⟩
set_option maxRecDepth 100000 in
set_option maxHeartbeats 20000000 in
theorem dropping_any (t : Rw.Table) (tv : Value) (k : Int) (word : List UInt8) (W : World) (ht : TableAt W t tv) (hT : Tabs W) (hw : word.length ≤ 1000000) : Calls Tryz.prog 73 #[tv,.int .i64 k,.string (bs word)] W (Gives (.tuple #[.int .i64 (Rw.dropping t k word).1,.int .i64 (Rw.dropping t k word).2]) W) := by
 have HTA := hid ht
 have HTT := hid hT
 obtain ⟨⟨vr,vd,ve,rfl,⟨ar,cr,rfl,-⟩,⟨ad,cd,rfl,-,-,h3⟩,⟨ae,ce,rfl,-⟩⟩,-,fe,-,hl1,hl2,hl3⟩ := ht
 have hE := hid h3
 have hF := hid fe
 clear h3 fe hT
 obtain ⟨W1,hW1⟩ := exq (W.alloc (.cells #[.slice ar t.rules.length cr,.slice ad t.drops.length cd,.slice ae t.ends.length ce,.int .i64 t.drop,.int .i64 t.order,.int .i64 t.initial] 25))
 have HT1 := hid (show Blk W1 W.heap.size 25 [.slice ar t.rules.length cr,.slice ad t.drops.length cd,.slice ae t.ends.length ce,.int .i64 t.drop,.int .i64 t.order,.int .i64 t.initial] by rw [hW1]; exact Blk.new W _ _)
 have HB1 := hid (show Below W.heap.size W W1 by rw [hW1]; exact (Below.refl _ W).alloc (Nat.le_refl _) _)
 have HFO := hid (fold_any k (bs word) W1 (by rw [bs_len]; exact hw) (HTT.out.below HB1.out))
 rw [bs_list] at HFO
 cases hl : Sc.lets k word with
 | none =>
  have HE := hid (show Rw.dropping t k word = (0,1) by unfold Rw.dropping; rw [hl])
  have HL := hid hl
  clear hl
  go_enter Tryz.func73,Tryz.ntmps73
  go_upto_region 1 with (fail)
  rw [← hW1]
  clear hW1
  go_wp2_with fail
  refine (HFO.out).mono ?_
  rintro e W2 ⟨he,hb2⟩
  rw [HL.out] at he
  subst he
  have HB2 := hid (Below.step HB1.out hb2)
  clear hb2
  go_wp2_with fail
  go_ret2
  rw [HE.out]
  exact ⟨rfl,HB2.out⟩
 | some ls =>
  have HE0 := hid (show Rw.dropping t k word = if Rw.valid t then (Rw.dropOf k (Sc.fold word) t.drop t.drops,0) else (0,1) by unfold Rw.dropping; rw [hl])
  have HL := hid hl
  clear hl
  go_enter Tryz.func73,Tryz.ntmps73
  go_upto_region 1 with (fail)
  rw [← hW1]
  clear hW1
  go_wp2_with fail
  refine (HFO.out).mono ?_
  rintro e W2 ⟨he,hb2⟩
  rw [HL.out] at he
  subst he
  have HB2 := hid (Below.step HB1.out hb2)
  have HT2 := hid (HT1.out.below hb2)
  have hz2 := HT2.out.lt
  obtain ⟨y0,y1,y2,y3,y4,y5,-⟩ := HT2.out.cl6
  have HV := hid (valid_any t _ W2 (HTA.out.below HB2.out) (HTT.out.below HB2.out))
  clear hb2
  go_wp2_with fail
  refine (HV.out).mono ?_
  rintro e W3 ⟨rfl,hb3⟩
  have HB3 := hid (Below.step HB2.out hb3)
  have HT3 := hid (HT2.out.below hb3)
  clear hb3 y0 y1 y2 y3 y4 y5 hz2 HV HT2 HT1 HFO
  cases hv : Rw.valid t with
  | false =>
   have HE := hid (show Rw.dropping t k word = (0,1) by rw [HE0.out,hv]; rfl)
   clear hv
   go_wp2_with fail
   go_ret2
   rw [HE.out]
   exact ⟨rfl,HB3.out⟩
  | true =>
   have HE := hid (show Rw.dropping t k word = (Rw.dropOf k (Sc.fold word) t.drop (t.drops.drop 0),0) by rw [HE0.out,hv]; rfl)
   clear hv
   have z0 := HT3.out.cell (j := 1) rfl
   have zz := HT3.out.lt
   go_wp2_with fail
   go_loopw [28] (fun iv wr => ∃ j : Nat,j ≤ t.drops.length ∧ iv = .int .i64 j ∧ Hid (Rw.dropping t k word = (Rw.dropOf k (Sc.fold word) t.drop (t.drops.drop j),0)) ∧ Hid (Below W3.heap.size W3 wr)) (fun iv _ => t.drops.length - (RowKit.intOf iv).toNat)
   case atStart => exact ⟨0,Nat.zero_le _,rfl,HE,Below.refl _ _⟩
   case round =>
    clear z0 zz HE
    obtain ⟨j,hj,rfl,HE,HR⟩ := hrel
    by_cases hjt : j < t.drops.length
    ·obtain ⟨g,o,rfl,hr⟩ := hE.out (by omega)
     obtain ⟨d,hd⟩ : ∃ d,t.drops[j]? = some d := ⟨_,List.getElem?_eq_getElem hjt⟩
     have hbW := Below.step HB3.out HR.out
     have hc := (hr.below hbW).2 j d hd
     have e0 := hc 0 _ rfl
     have e1 := hc 1 _ rfl
     have e2 := hc 2 _ rfl
     rw [Nat.add_zero] at e0
     have hg := (hr.below hbW).1
     have j0 : (0 : Int) ≤ (j : Int) := by omega
     have j1 : (j : Int) < (t.drops.length : Int) := by omega
     have HST := hid (Rw.dropOf_step (k := k) (f := Sc.fold word) (c := t.drop) hd)
     obtain ⟨A1,hA1⟩ := exq (wr.alloc (.cells #[.int .i64 d.script,.string (bs d.word),.int .i64 d.cost] 69))
     have hbA := bnew hA1
     have HX1 := hid (show Blk A1 wr.heap.size 69 [.int .i64 d.script,.string (bs d.word),.int .i64 d.cost] by rw [hA1]; exact Blk.new wr _ _)
     have HBA := hid (Below.step hbW hbA)
     have HRA := hid (Below.step HR.out hbA)
     obtain ⟨x0,x1,x2,xz⟩ := HX1.out.cl3
     clear hc hr hd hbW hbA
     by_cases hsc : d.script = k
     rotate_left
     ·have hne : ((d.script : Int) == k) = false := by rw [beq_eq_false_iff_ne]; exact hsc
      have HE2 := hid (show Rw.dropping t k word = (Rw.dropOf k (Sc.fold word) t.drop (t.drops.drop (j + 1)),0) by
       rw [HE.out,HST.out,if_neg (fun h => hsc h.1)])
      clear hsc
      go_upto_region 7 with (fail)
      rw [← hA1]
      clear hA1 e0 e1 e2
      go_wp2_with fail
      go_roundw
      case rel => exact ⟨j + 1,by omega,by go_num,HE2,HRA⟩
      case measure => simp [RowKit.intOf]; omega
     ·subst hsc
      have hne : ((d.script : Int) == d.script) = true := by simp
      by_cases hwd : d.word = Sc.fold word
      rotate_left
      ·have t1 : ((bs d.word).toList == (bs (Sc.fold word)).toList) = false := by rw [str_beq,decide_eq_false hwd]
       have HE2 := hid (show Rw.dropping t d.script word = (Rw.dropOf d.script (Sc.fold word) t.drop (t.drops.drop (j + 1)),0) by
        rw [HE.out,HST.out,if_neg (fun h => hwd h.2)])
       clear hwd
       go_upto_region 7 with (fail)
       rw [← hA1]
       clear hA1 e0 e1 e2
       go_wp2_with fail
       go_roundw
       case rel => exact ⟨j + 1,by omega,by go_num,HE2,HRA⟩
       case measure => simp [RowKit.intOf]; omega
      ·have t1 : ((bs d.word).toList == (bs (Sc.fold word)).toList) = true := by rw [str_beq,decide_eq_true hwd]
       have HE2 := hid (show Rw.dropping t d.script word = (d.cost,0) by
        rw [HE.out,HST.out,if_pos ⟨rfl,hwd⟩])
       clear hwd
       go_upto_region 7 with (fail)
       rw [← hA1]
       clear hA1 e0 e1 e2
       go_wp2_with fail
       go_ret2
       rw [HE2.out]
       exact ⟨rfl,HBA.out⟩
    ·have hje : j = t.drops.length := by omega
     have j1 : ¬ (j : Int) < (t.drops.length : Int) := by omega
     have HE2 := hid (show Rw.dropping t k word = (t.drop,0) by
      rw [HE.out,hje,List.drop_length]; rfl)
     have HT4 := HT3.out.below HR.out
     have z3 := HT4.cell (j := 3) rfl
     have zz := HT4.lt
     clear hje HT4
     go_wp2_with fail
     go_ret2
     rw [HE2.out]
     exact ⟨rfl,HB3.out.trans (HR.out.mono HB3.out.size)⟩
end Go.Proofs.YtdghfenbfbdijaaGreatDoor
