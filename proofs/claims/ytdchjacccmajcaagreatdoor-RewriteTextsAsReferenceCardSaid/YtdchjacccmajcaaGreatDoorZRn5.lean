/-
 rewrite.Text. Conditions: lengths; the library's tables.
-/
import Derived.Test.YtdchjacccmajcaaGreatDoorZMRn
import Derived.Test.YtdchjacccmajcaaGreatDoorZMBase
namespace Rw
theorem lets_script {k : Int} {s : List UInt8} {l : List (List UInt8)} (h : Sc.lets k s = some l) : 1 ≤ k ∧ k ≤ 4 := by
 by_cases hk : 1 ≤ k ∧ k ≤ 4
 ·exact hk
 ·have h0 : Sc.len k s = 0 := by
   unfold Sc.len
   rw [if_neg (by omega), if_neg (by omega), if_neg (by omega), if_neg (by omega)]
  have h1 := Sc.cuts_stop h0
  have h2 := (Sc.lets_len h).1
  unfold Sc.lets at h
  rw [h1] at h
  split at h
  ·exact absurd (Option.some.inj h).symm h2
  ·cases h
theorem scrT_len (k : Int) : (scrT k).length ≤ 6 := by
 unfold scrT
 split <;> decide
theorem dec_cost {n : Int} (h0 : 0 ≤ n) (h1 : n ≤ 1000) : (Lx.dec n.toNat).length ≤ 4 := by
 have h : ∀ k : Fin 1001, (Lx.dec k.val).length ≤ 4 := by decide +kernel
 exact h ⟨n.toNat, by omega⟩
theorem spaced_join (l : List (List UInt8)) : spaced l = Go.Lib.join l [32] := by
 cases l with
 | nil => rfl
 | cons x l => rw [Go.Proofs.YtdchjacccmajcaaGreatDoor.join_lists]; rfl
theorem ruleT_len {r : Rule} (h1 : r.from_.length ≤ 1000) (h2 : r.to_.length ≤ 1000) (h3 : 0 ≤ r.cost) (h4 : r.cost ≤ 1000) : (ruleT r).length ≤ 2100 := by
 have := scrT_len r.script
 have := dec_cost h3 h4
 unfold ruleT lineOf spaced ruleWs quo tRule tTo tCost
 simp only [List.length_append, List.length_cons, List.length_nil, List.flatMap_cons, List.flatMap_nil]
 omega
theorem dropT_len {w : List UInt8} {d : Drop} (h0 : w.length ≤ 4) (h1 : d.word.length ≤ 1000) (h3 : 0 ≤ d.cost) (h4 : d.cost ≤ 1000) : (dropT w d).length ≤ 1100 := by
 have := scrT_len d.script
 have := dec_cost h3 h4
 unfold dropT lineOf spaced dropWs quo
 simp only [List.length_append, List.length_cons, List.length_nil, List.flatMap_cons, List.flatMap_nil]
 omega
theorem flatMap_le {α : Type} (f : α → List UInt8) (n : Nat) : ∀ l : List α, (∀ x ∈ l, (f x).length ≤ n) → (l.flatMap f).length ≤ l.length * n
 | [], _ => by simp
 | x :: l, h => by
  rw [List.flatMap_cons, List.length_append, List.length_cons, Nat.succ_mul]
  have h1 := h x List.mem_cons_self
  have h2 := flatMap_le f n l fun y hy => h y (List.mem_cons_of_mem _ hy)
  omega
end Rw
namespace Go.Proofs.YtdchjacccmajcaaGreatDoor
open Go.RowKit Go.Lib Go.Maps

theorem Bldr.below' {w w' : World} {B b : Nat} {l : List UInt8} (h : Bldr w B b l) (hb : Below w.heap.size w w') : Bldr w' B b l := by
 have key : ∀ p, BuilderAtF 96 5 B b p (byteCells l) w → BuilderAtF 96 5 B b p (byteCells l) w' := by
  rintro p ⟨h1, v, h2, h3, h4⟩
  refine ⟨h1, v, (hb.block b (Array.getElem?_eq_some_iff.1 h2).1).trans h2, ⟨h3.1, ?_⟩, h4⟩
  rcases h3.2 with h5 | ⟨g, cap, cur, fz, hv, hg, hh, r⟩
  ·exact .inl h5
  ·exact .inr ⟨g, cap, cur, fz, hv, hg, (hb.block g (Array.getElem?_eq_some_iff.1 hh).1).trans hh, r⟩
 exact h.elim (fun x => .inl (key _ x)) (fun x => .inr (key _ x))

theorem quo_bs (x : List UInt8) : ⟨#[34]⟩ ++ bs x ++ ⟨#[34]⟩ = bs (Rw.quo x) := by
 have : (⟨#[34]⟩ ++ bs x ++ ⟨#[34]⟩ : ByteArray).data.toList = (bs (Rw.quo x)).data.toList := by simp [ByteArray.data_append, bs, Rw.quo]
 exact ByteArray.ext (Array.toList_inj.1 this)
theorem app_bs2 (x : List UInt8) (y : ByteArray) : (bs x ++ y).data.toList = x ++ y.data.toList := by simp [ByteArray.data_append, bs]

/-- the words for scripts -/
def fiveT : Array Value := #[.string ⟨#[]⟩, .string ⟨#[112, 108, 97, 105, 110]⟩, .string ⟨#[99, 97, 115, 101, 100]⟩, .string ⟨#[97, 98, 106, 97, 100]⟩, .string ⟨#[115, 121, 108, 108, 97, 98]⟩]
set_option maxRecDepth 100000 in
theorem scripts_any (W : World) : Calls Tryz.prog 55 #[] W (fun e W' => e = .returned (.slice (some ⟨W.heap.size, 0, none⟩) 5 5) ∧ W' = W.alloc (.cells fiveT 9)) := by
 go_enter Tryz.func55, Tryz.ntmps55
 go_wp2_with fail
 go_ret
 exact ⟨rfl, rfl⟩
theorem five_cell {X : World} {b kn : Nat} (h : X.heap[b]? = some (.cells fiveT 9 (0, 0))) (h1 : 1 ≤ kn) (h4 : kn ≤ 4) : b < X.heap.size ∧ X.cell? ⟨b, kn, none⟩ = some (.string (bs (Rw.scrT kn))) := by
 refine ⟨(Array.getElem?_eq_some_iff.1 h).1, ?_⟩
 have : kn = 1 ∨ kn = 2 ∨ kn = 3 ∨ kn = 4 := by omega
 rcases this with rfl | rfl | rfl | rfl <;> (simp [World.cell?, h, fiveT]; rfl)

set_option maxRecDepth 100000 in
set_option maxHeartbeats 2000000 in
theorem line_any (B b q : Nat) (l : List UInt8) (xs : List (List UInt8)) (n : Nat) (cs : Array Value) (W : World) (h : Bldr W B b l) (hB : B ≤ W.heap.size) (hq : W.heap[q]? = some (.cells cs 9 (0, 0))) (hcs : cs.toList = xs.flatMap strC) (hn : n = xs.length) (h20 : xs.length ≤ 20) (hl : l.length + (Rw.lineOf xs).length ≤ 1000000) :
  Calls Tryz.prog 53 #[.slice (some ⟨q, 0, none⟩) n n, .pointer (some ⟨b, 0, none⟩)] W (fun e w' => e = .returned (.tuple #[]) ∧ Bldr w' B b (l ++ Rw.lineOf xs) ∧ Below B W w') := by
 subst hn
 have hjl : (join xs [32]).length + 2 = (Rw.lineOf xs).length := by unfold Rw.lineOf; rw [Rw.spaced_join, List.length_append]; rfl
 have HJ := hid (join_any q 0 xs.length xs [32] W (fun j x hj => by
  have h1 := flat_at (sz := 1) xs j x (fun _ _ => rfl) hj 0 _ (show (strC x)[0]? = some (.string (bs x)) from rfl)
  rw [← hcs, Nat.mul_one, Nat.add_zero, Array.getElem?_toList] at h1
  rw [Nat.zero_add]
  simp [World.cell?, hq, h1]) (Array.getElem?_eq_some_iff.1 hq).1 (by omega) (Nat.le_refl _) (by omega))
 have hjs : (bs (join xs [32])).size ≤ 1000000 := by rw [bs_len]; omega
 have hns : ¬ 9223372036854775807 < (bs (join xs [32])).size + 2 := by omega
 have HH := hid (And.intro h hB)
 have HE := hid (show (bs (join xs [32]) ++ ⟨#[59, 10]⟩).data.toList = Rw.lineOf xs by rw [app_bs2]; unfold Rw.lineOf; rw [Rw.spaced_join])
 have HZ := hid (show (bs (join xs [32]) ++ ⟨#[59, 10]⟩).size = (Rw.lineOf xs).length by
  rw [← HE.out]; exact (Array.length_toList).symm)
 clear h hB hq hcs
 go_enter Tryz.func53, Tryz.ntmps53
 go_wp2_with fail
 refine (HJ.out).mono ?_
 rintro e w2 ⟨rfl, hb2⟩
 have HWR := hid (write_any B b l (bs (join xs [32]) ++ ⟨#[59, 10]⟩) w2 (HH.out.1.below' hb2) (by rw [HZ.out]; exact hl) (Nat.le_trans HH.out.2 hb2.size))
 have HB2 := hid (hb2.mono HH.out.2)
 clear hb2 HJ
 go_wp2_with fail
 refine (HWR.out).mono ?_
 rintro e w3 ⟨rfl, hw3, hb3⟩
 rw [HE.out] at hw3
 have H3 := hid (And.intro hw3 (HB2.out.trans hb3))
 clear hw3 hb3
 go_wp2_with fail
 go_end0
 exact ⟨rfl, H3.out⟩

set_option maxRecDepth 100000 in
set_option maxHeartbeats 20000000 in
theorem text_any10 (t : Rw.Table) (tv : Value) (W : World) (ht : TableAt W t tv) (hT : Tabs W) (h10 : Tab10 W) : Calls Tryz.prog 30 #[tv] W (Gives (.tuple #[.string (bs (Rw.text t)), .int .i64 (if Rw.valid t then 0 else 1)]) W) := by
 have HTA := hid ht
 have HTT := hid hT
 have HT10 := hid h10
 obtain ⟨⟨vr, vd, ve, rfl, ⟨ar, cr, rfl, -, -, s1⟩, ⟨ad, cd, rfl, -, -, s2⟩, ⟨ae, ce, rfl, -, -, s3⟩⟩, f1, f2, f3, hl1, hl2, hl3⟩ := ht
 have hS1 := hid s1
 have hS2 := hid s2
 have hS3 := hid s3
 have hF1 := hid f1
 have hF2 := hid f2
 have hF3 := hid f3
 clear s1 s2 s3 f1 f2 f3 hT h10
 obtain ⟨W1, hW1⟩ : ∃ W1, W1 = W.alloc (.cells #[.slice ar t.rules.length cr, .slice ad t.drops.length cd, .slice ae t.ends.length ce, .int .i64 t.drop, .int .i64 t.order, .int .i64 t.initial] 25) := ⟨_, rfl⟩
 have HT1 := hid (show Blk W1 W.heap.size 25 [.slice ar t.rules.length cr, .slice ad t.drops.length cd, .slice ae t.ends.length ce, .int .i64 t.drop, .int .i64 t.order, .int .i64 t.initial] by rw [hW1]; exact Blk.new W _ _)
 have HB1 := hid (show Below W.heap.size W W1 by rw [hW1]; exact (Below.refl _ W).alloc (Nat.le_refl _) _)
 have HV := hid (valid_any t _ W1 (HTA.out.below HB1.out) (HTT.out.below HB1.out))
 have hz2 := HT1.out.lt
 have y0 := HT1.out.cell (j := 0) rfl
 have y1 := HT1.out.cell (j := 1) rfl
 have y2 := HT1.out.cell (j := 2) rfl
 have y3 := HT1.out.cell (j := 3) rfl
 have y4 := HT1.out.cell (j := 4) rfl
 have y5 := HT1.out.cell (j := 5) rfl
 obtain ⟨er, her⟩ : ∃ er : Int, er = (if Rw.valid t then 0 else 1) := ⟨_, rfl⟩
 rw [← her]
 have HER := hid her
 clear her
 go_enter Tryz.func30, Tryz.ntmps30
 go_upto_region 1 with (fail)
 rw [← hW1]
 clear hW1
 go_wp2_with fail
 refine (HV.out).mono ?_
 rintro e w2 ⟨rfl, hb2⟩
 have HB2 := hid (Below.step HB1.out hb2)
 have HT2 := hid (HT1.out.below hb2)
 clear hb2 y0 y1 y2 y3 y4 y5 hz2 HT1
 cases hv : Rw.valid t with
 | false =>
  have HE := hid (show Rw.text t = [] by unfold Rw.text; rw [hv]; rfl)
  have HVF := hid hv
  clear hv
  go_wp2_with fail
  go_ret2
  rw [HE.out, HER.out, HVF.out]
  exact ⟨rfl, HB2.out⟩
 | true =>
  have HVT := hid hv
  have HE := hid (show Rw.text t = t.rules.flatMap Rw.ruleT ++ (t.drops.flatMap (Rw.dropT Rw.tDrop) ++ (t.ends.flatMap (Rw.dropT Rw.tEnd) ++ Rw.lineOf (Rw.costWs t))) by unfold Rw.text; rw [if_pos hv]; simp only [List.append_assoc])
  have HVA := hid (Rw.valid_all hv)
  have HVD := hid (Rw.valid_drops hv)
  have HVE := hid (Rw.valid_ends hv)
  have HVC := hid (Rw.valid_costs hv)
  have hr80 := Rw.valid_80 hv
  have hd40 := HVD.out.1
  have he40 := HVE.out.1
  have HLR := hid (show ∀ j, ((t.rules.take j).flatMap Rw.ruleT).length ≤ 168000 from fun j => by
   have := Rw.flatMap_le Rw.ruleT 2100 (t.rules.take j) fun r hr => by
    have hm := List.mem_of_mem_take hr
    obtain ⟨_, _, _, _, _, h5, h6⟩ := Fo.letters_rule (HVA.out r hm)
    exact Rw.ruleT_len (hF1.out r hm).2.1 (hF1.out r hm).2.2 h5 h6
   rw [List.length_take] at this
   have h2 : min j t.rules.length * 2100 ≤ 80 * 2100 := Nat.mul_le_mul_right _ (by omega)
   omega)
  have HLD := hid (show ∀ j, ((t.drops.take j).flatMap (Rw.dropT Rw.tDrop)).length ≤ 44000 from fun j => by
   have := Rw.flatMap_le (Rw.dropT Rw.tDrop) 1100 (t.drops.take j) fun r hr => by
    have hm := List.mem_of_mem_take hr
    obtain ⟨_, _, _, _, _, _, h5, h6⟩ := Fo.letters_drop (HVD.out.2 r hm)
    exact Rw.dropT_len (by decide) (hF2.out r hm).2 h5 h6
   rw [List.length_take] at this
   have h2 : min j t.drops.length * 1100 ≤ 40 * 1100 := Nat.mul_le_mul_right _ (by omega)
   omega)
  have HLE := hid (show ∀ j, ((t.ends.take j).flatMap (Rw.dropT Rw.tEnd)).length ≤ 44000 from fun j => by
   have := Rw.flatMap_le (Rw.dropT Rw.tEnd) 1100 (t.ends.take j) fun r hr => by
    have hm := List.mem_of_mem_take hr
    obtain ⟨_, _, _, _, _, _, h5, h6⟩ := Fo.letters_drop (HVE.out.2 r hm)
    exact Rw.dropT_len (by decide) (hF3.out r hm).2 h5 h6
   rw [List.length_take] at this
   have h2 : min j t.ends.length * 1100 ≤ 40 * 1100 := Nat.mul_le_mul_right _ (by omega)
   omega)
  have HLR2 := hid (show (t.rules.flatMap Rw.ruleT).length ≤ 168000 by have := HLR.out t.rules.length; rwa [List.take_length] at this)
  have HLD2 := hid (show (t.drops.flatMap (Rw.dropT Rw.tDrop)).length ≤ 44000 by have := HLD.out t.drops.length; rwa [List.take_length] at this)
  clear hv
  obtain ⟨W3, hW3⟩ : ∃ W3, W3 = w2.alloc (.cells #[.pointer none, .slice none 0 0] 96) := ⟨_, rfl⟩
  have HB3 := hid (show Below w2.heap.size w2 W3 by rw [hW3]; exact (Below.refl _ w2).alloc (Nat.le_refl _) _)
  have HBL := hid (show Bldr W3 w2.heap.size w2.heap.size ((t.rules.take 0).flatMap Rw.ruleT) by rw [hW3]; exact Bldr.fresh w2)
  have HTB := HT2.out.below HB3.out
  have y0 := HTB.cell (j := 0) rfl
  have hz3 := HTB.lt
  clear HTB
  go_upto_region 5 with (fail)
  rw [← hW3]
  clear hW3
  go_wp2_with fail
  go_loopw [19] (fun iv wr => ∃ j : Nat, j ≤ t.rules.length ∧ iv = .int .i64 j ∧ Hid (Bldr wr w2.heap.size w2.heap.size ((t.rules.take j).flatMap Rw.ruleT)) ∧ Hid (Below w2.heap.size w2 wr)) (fun iv _ => t.rules.length - (RowKit.intOf iv).toNat)
  case atStart => exact ⟨0, Nat.zero_le _, rfl, HBL, HB3⟩
  case round =>
   clear y0 hz3 HBL HB3
   obtain ⟨j, hj, rfl, HBL, HR⟩ := hrel
   by_cases hjt : j < t.rules.length
   ·obtain ⟨g, o, rfl, hr⟩ := hS1.out (by omega)
    obtain ⟨r, hd⟩ : ∃ r, t.rules[j]? = some r := ⟨_, List.getElem?_eq_getElem hjt⟩
    have hbW := HB2.out.trans (HR.out.mono HB2.out.size)
    have hc := (hr.below hbW).2 j r hd
    have e0 := hc 0 _ rfl
    have e1 := hc 1 _ rfl
    have e2 := hc 2 _ rfl
    have e3 := hc 3 _ rfl
    rw [Nat.add_zero] at e0
    have hg := (hr.below hbW).1
    have j0 : (0 : Int) ≤ (j : Int) := by omega
    have j1 : (j : Int) < (t.rules.length : Int) := by omega
    obtain ⟨f, hlf, -, -, -, h5, h6⟩ := Fo.letters_rule (HVA.out r (List.mem_of_getElem? hd))
    have hsc := Rw.lets_script hlf
    have HFD := hid (hF1.out r (List.mem_of_getElem? hd))
    have HNX := hid (show (t.rules.take (j + 1)).flatMap (Rw.ruleT) = (t.rules.take j).flatMap (Rw.ruleT) ++ Rw.ruleT r by rw [rn_take hd, List.flatMap_append]; simp)
    have hln : ((t.rules.take j).flatMap Rw.ruleT).length + (Rw.ruleT r).length ≤ 1000000 := by
     have := HLR.out j; have := HLR2.out; have := HLD.out j; have := HLD2.out; have := HLE.out j
     have := Rw.ruleT_len HFD.out.2.1 HFD.out.2.2 h5 h6
     first | omega | (simp only [List.length_append]; omega)
    have HLN := hid hln
    obtain ⟨A1, hA1⟩ : ∃ A1, A1 = wr.alloc (.cells #[.int .i64 r.script, .string (bs r.from_), .string (bs r.to_), .int .i64 r.cost] 34) := ⟨_, rfl⟩
    have hbA : Below wr.heap.size wr A1 := by rw [hA1]; exact (Below.refl _ wr).alloc (Nat.le_refl _) _
    have HX1 := hid (show Blk A1 wr.heap.size 34 [.int .i64 r.script, .string (bs r.from_), .string (bs r.to_), .int .i64 r.cost] by rw [hA1]; exact Blk.new wr _ _)
    have HTA1 := hid (HT10.out.below (Below.step hbW hbA))
    have HRA := hid (Below.step HR.out hbA)
    have HBA := hid (HBL.out.below' hbA)
    go_upto_region 8 with (fail)
    rw [← hA1]
    clear hA1 hc hr hd hbW hbA hln hlf e0 e1 e2 e3
    obtain ⟨kn, hkn⟩ : ∃ kn : Nat, r.script = (kn : Int) := ⟨r.script.toNat, by omega⟩
    have HSS := hid (fun X b (h : X.heap[b]? = some (.cells fiveT 9 (0, 0))) => five_cell (X := X) (b := b) (kn := kn) h (by omega) (by omega))
    have x0 := HX1.out.cell (j := 0) rfl
    have x1 := HX1.out.cell (j := 1) rfl
    have x2 := HX1.out.cell (j := 2) rfl
    have x3 := HX1.out.cell (j := 3) rfl
    have xz := HX1.out.lt
    have k0 : (0 : Int) ≤ (kn : Int) := by omega
    have k5 : (kn : Int) < 5 := by omega
    have k6 : kn < 5 := by omega
    rw [hkn] at x0
    have HKN := hid hkn
    clear hkn hsc
    have n00 : (bs r.from_).size ≤ 1000 := by rw [bs_len]; have := HFD.out.2.1; omega
    have n01 : ¬ 9223372036854775807 < 1 + (bs r.from_).size := by omega
    have n02 : ¬ 9223372036854775807 < 1 + (bs r.from_).size + 1 := by omega
    have n03 : 1 + (bs r.from_).size + 1 ≤ 9223372036854775807 := by omega
    have n04 : (bs r.from_).size ≤ 9223372036854775806 := by omega
    have n05 : 1 + (bs r.from_).size ≤ 9223372036854775806 := by omega
    have n10 : (bs r.to_).size ≤ 1000 := by rw [bs_len]; have := HFD.out.2.2; omega
    have n11 : ¬ 9223372036854775807 < 1 + (bs r.to_).size := by omega
    have n12 : ¬ 9223372036854775807 < 1 + (bs r.to_).size + 1 := by omega
    have n13 : 1 + (bs r.to_).size + 1 ≤ 9223372036854775807 := by omega
    have n14 : (bs r.to_).size ≤ 9223372036854775806 := by omega
    have n15 : 1 + (bs r.to_).size ≤ 9223372036854775806 := by omega
    have HLI := hid (fun X q (hX : Below A1.heap.size A1 X) (hq : X.heap[q]? = some (.cells #[.string ⟨#[114, 117, 108, 101]⟩, .string (bs (Rw.scrT kn)), .string (⟨#[34]⟩ ++ bs r.from_ ++ ⟨#[34]⟩), .string ⟨#[116, 111]⟩, .string (⟨#[34]⟩ ++ bs r.to_ ++ ⟨#[34]⟩), .string ⟨#[99, 111, 115, 116]⟩, .string (bs (Lx.dec r.cost.toNat))] 9 (0, 0))) => line_any w2.heap.size w2.heap.size q ((t.rules.take j).flatMap Rw.ruleT) (Rw.ruleWs r) 7 _ X (HBA.out.below' hX) (Nat.le_trans HRA.out.size hX.size) hq (by rw [quo_bs r.from_, quo_bs r.to_]; unfold Rw.ruleWs; rw [HKN.out]; rfl) rfl (by unfold Rw.ruleWs; simp) HLN.out)
    have HLL := hid (show Rw.lineOf (Rw.ruleWs r) = Rw.ruleT r from rfl)
    have HCO := hid (And.intro h5 h6)
    clear h5 h6
    refine wp_heldS (S := TwoS 18 18 (Below A1.heap.size A1) (fun _ => True)) (by kernel_rfl) ?_
    simp only [List.size_toArray, List.length_cons, List.length_nil, Nat.reduceAdd]
    intro hc
    have S0 : TwoS 18 18 (Below A1.heap.size A1) (fun _ => True) (Array.replicate 19 false) A1.drew := ⟨.inr (Below.refl _ _).drew, .inr trivial⟩
    refine wpAnyS_take (i := 0) (v := .func (.func 53) #[] #[.pointer (some ⟨w2.heap.size, 0, none⟩)]) rfl (by kernel_rfl) (by kernel_rfl) (by kernel_rfl) (fun _ _ _ h => h) (fun _ _ => TwoS.set_ (by decide) (by decide) _ _) hc (by first | rfl | simp [Region.wanted]) (fun wx hx => ?_) S0 (fun hc S0 => ?_)
    ·go_simp
    try simp only [tk1, tk3, Act.put, tk4, tk5, tk6]
    refine wpAnyS_take (i := 2) (v := .pointer (some ⟨wr.heap.size, 0, none⟩)) rfl (by kernel_rfl) (by kernel_rfl) (by kernel_rfl) (fun _ _ _ h => h) (fun _ _ => TwoS.set_ (by decide) (by decide) _ _) hc (by first | rfl | simp [Region.wanted]) (fun wx hx => ?_) S0 (fun hc S0 => ?_)
    ·go_simp
    try simp only [tk1, tk2, tk3, Act.put, tk4, tk5, tk6]
    refine wpAnyS_take (i := 3) (v := .int .i64 kn) rfl (by kernel_rfl) (by kernel_rfl) (by kernel_rfl) (fun _ _ _ h => h) (fun _ _ => TwoS.set_ (by decide) (by decide) _ _) hc (by first | rfl | simp [Region.wanted]) (fun wx hx => ?_) S0 (fun hc S0 => ?_)
    ·have y := ((hx.leftN (n := 6) (by kernel_rfl)).cell (p := ⟨wr.heap.size, 0, none⟩) xz).trans x0
     go_simp
    try simp only [tk1, tk2, tk3, Act.put, tk4, tk5, tk6]
    refine wpAnyS_take (i := 6) (v := .pointer (some ⟨wr.heap.size, 1, none⟩)) rfl (by kernel_rfl) (by kernel_rfl) (by kernel_rfl) (fun _ _ _ h => h) (fun _ _ => TwoS.set_ (by decide) (by decide) _ _) hc (by first | rfl | simp [Region.wanted]) (fun wx hx => ?_) S0 (fun hc S0 => ?_)
    ·go_simp
    try simp only [tk1, tk2, tk3, Act.put, tk4, tk5, tk6]
    refine wpAnyS_take (i := 7) (v := .string (bs r.from_)) rfl (by kernel_rfl) (by kernel_rfl) (by kernel_rfl) (fun _ _ _ h => h) (fun _ _ => TwoS.set_ (by decide) (by decide) _ _) hc (by first | rfl | simp [Region.wanted]) (fun wx hx => ?_) S0 (fun hc S0 => ?_)
    ·have y := ((hx.leftN (n := 6) (by kernel_rfl)).cell (p := ⟨wr.heap.size, 1, none⟩) xz).trans x1
     go_simp
    try simp only [tk1, tk2, tk3, Act.put, tk4, tk5, tk6]
    refine wpAnyS_take (i := 8) (v := .string (⟨#[34]⟩ ++ bs r.from_)) rfl (by kernel_rfl) (by kernel_rfl) (by kernel_rfl) (fun _ _ _ h => h) (fun _ _ => TwoS.set_ (by decide) (by decide) _ _) hc (by first | rfl | simp [Region.wanted]) (fun wx hx => ?_) S0 (fun hc S0 => ?_)
    ·go_simp
    try simp only [tk1, tk2, tk3, Act.put, tk4, tk5, tk6]
    refine wpAnyS_take (i := 9) (v := .string (⟨#[34]⟩ ++ bs r.from_ ++ ⟨#[34]⟩)) rfl (by kernel_rfl) (by kernel_rfl) (by kernel_rfl) (fun _ _ _ h => h) (fun _ _ => TwoS.set_ (by decide) (by decide) _ _) hc (by first | rfl | simp [Region.wanted]) (fun wx hx => ?_) S0 (fun hc S0 => ?_)
    ·go_simp
    try simp only [tk1, tk2, tk3, Act.put, tk4, tk5, tk6]
    refine wpAnyS_take (i := 10) (v := .pointer (some ⟨wr.heap.size, 2, none⟩)) rfl (by kernel_rfl) (by kernel_rfl) (by kernel_rfl) (fun _ _ _ h => h) (fun _ _ => TwoS.set_ (by decide) (by decide) _ _) hc (by first | rfl | simp [Region.wanted]) (fun wx hx => ?_) S0 (fun hc S0 => ?_)
    ·go_simp
    try simp only [tk1, tk2, tk3, Act.put, tk4, tk5, tk6]
    refine wpAnyS_take (i := 11) (v := .string (bs r.to_)) rfl (by kernel_rfl) (by kernel_rfl) (by kernel_rfl) (fun _ _ _ h => h) (fun _ _ => TwoS.set_ (by decide) (by decide) _ _) hc (by first | rfl | simp [Region.wanted]) (fun wx hx => ?_) S0 (fun hc S0 => ?_)
    ·have y := ((hx.leftN (n := 6) (by kernel_rfl)).cell (p := ⟨wr.heap.size, 2, none⟩) xz).trans x2
     go_simp
    try simp only [tk1, tk2, tk3, Act.put, tk4, tk5, tk6]
    refine wpAnyS_take (i := 12) (v := .string (⟨#[34]⟩ ++ bs r.to_)) rfl (by kernel_rfl) (by kernel_rfl) (by kernel_rfl) (fun _ _ _ h => h) (fun _ _ => TwoS.set_ (by decide) (by decide) _ _) hc (by first | rfl | simp [Region.wanted]) (fun wx hx => ?_) S0 (fun hc S0 => ?_)
    ·go_simp
    try simp only [tk1, tk2, tk3, Act.put, tk4, tk5, tk6]
    refine wpAnyS_take (i := 13) (v := .string (⟨#[34]⟩ ++ bs r.to_ ++ ⟨#[34]⟩)) rfl (by kernel_rfl) (by kernel_rfl) (by kernel_rfl) (fun _ _ _ h => h) (fun _ _ => TwoS.set_ (by decide) (by decide) _ _) hc (by first | rfl | simp [Region.wanted]) (fun wx hx => ?_) S0 (fun hc S0 => ?_)
    ·go_simp
    try simp only [tk1, tk2, tk3, Act.put, tk4, tk5, tk6]
    refine wpAnyS_take (i := 14) (v := .pointer (some ⟨wr.heap.size, 3, none⟩)) rfl (by kernel_rfl) (by kernel_rfl) (by kernel_rfl) (fun _ _ _ h => h) (fun _ _ => TwoS.set_ (by decide) (by decide) _ _) hc (by first | rfl | simp [Region.wanted]) (fun wx hx => ?_) S0 (fun hc S0 => ?_)
    ·go_simp
    try simp only [tk1, tk2, tk3, Act.put, tk4, tk5, tk6]
    refine wpAnyS_take (i := 15) (v := .int .i64 r.cost) rfl (by kernel_rfl) (by kernel_rfl) (by kernel_rfl) (fun _ _ _ h => h) (fun _ _ => TwoS.set_ (by decide) (by decide) _ _) hc (by first | rfl | simp [Region.wanted]) (fun wx hx => ?_) S0 (fun hc S0 => ?_)
    ·have y := ((hx.leftN (n := 6) (by kernel_rfl)).cell (p := ⟨wr.heap.size, 3, none⟩) xz).trans x3
     go_simp
    try simp only [tk1, tk2, tk3, Act.put, tk4, tk5, tk6]
    ·skip
     refine wpAnyS_one (i := 1) rfl (by kernel_rfl) (by rfl) hc (fun K' hK => ?_)
     go_simp
     refine (scripts_any A1.drew).mono ?_
     rintro e w4 ⟨rfl, hw4⟩
     have hb4 : Below A1.heap.size A1 w4 := by rw [hw4]; exact (Below.refl _ A1).drew.alloc (Nat.le_refl _) _
     obtain ⟨zk, ck⟩ := HSS.out w4 A1.heap.size (by rw [hw4]; exact alloc_new A1.drew _)
     clear hw4
     refine hK.out _ _ ⟨.inr hb4, .inr trivial⟩ (fun hc => ?_)
     clear hK K'
     try simp only [tk1, tk2, tk3, Act.put, tk4, tk5, tk6]
     refine wpAnyS_more (S2 := TwoS 18 18 (Below w4.heap.size w4) (fun _ => True)) (fun _ _ h => ⟨h.1.imp id (Below.step hb4), .inr trivial⟩) _ _ _ _ ?_
     clear S0
     have S0 := fun l => (⟨.inr (Below.refl _ _), .inr trivial⟩ : TwoS 18 18 (Below w4.heap.size w4) (fun _ => True) l w4)
     refine wpAnyS_take (i := 4) (v := .pointer (some ⟨A1.heap.size, kn, none⟩)) rfl (by kernel_rfl) (by kernel_rfl) (by kernel_rfl) (fun _ _ _ h => h) (fun _ _ => TwoS.set_ (by decide) (by decide) _ _) hc (by first | rfl | simp [Region.wanted]) (fun wx hx => ?_) (S0 _) (fun hc S0 => ?_)
     ·go_simp
     try simp only [tk1, tk2, tk3, Act.put, tk4, tk5, tk6]
     refine wpAnyS_take (i := 5) (v := .string (bs (Rw.scrT kn))) rfl (by kernel_rfl) (by kernel_rfl) (by kernel_rfl) (fun _ _ _ h => h) (fun _ _ => TwoS.set_ (by decide) (by decide) _ _) hc (by first | rfl | simp [Region.wanted]) (fun wx hx => ?_) S0 (fun hc S0 => ?_)
     ·have y := ((hx.leftN (n := 6) (by kernel_rfl)).cell (p := ⟨A1.heap.size, kn, none⟩) zk).trans ck
      go_simp
     try simp only [tk1, tk2, tk3, Act.put, tk4, tk5, tk6]
     refine wpAnyS_one (i := 16) rfl (by kernel_rfl) (by rfl) hc (fun K' hK => ?_)
     go_simp
     refine (itoa_any _ HCO.out.1 (by have := HCO.out.2; omega) w4 (HTA1.out.below hb4)).mono ?_
     rintro e w5 ⟨rfl, hb5⟩
     have hb45 := Below.step hb4 hb5
     refine hK.out _ _ ⟨.inr hb5, .inr trivial⟩ (fun hc => ?_)
     clear hK K'
     try simp only [tk1, tk2, tk3, Act.put, tk4, tk5, tk6]
     refine wpAnyS_one (i := 17) rfl (by kernel_rfl) (by rfl) hc (fun K' hK => ?_)
     go_simp
     refine hK.out _ _ ⟨.inr (Below.step hb5 ((Below.refl _ w5).alloc (Nat.le_refl _) _)), .inr trivial⟩ (fun hc => ?_)
     clear hK K'
     try simp only [tk1, tk2, tk3, Act.put, tk4, tk5, tk6]
     have hb8 : Below A1.heap.size A1 (w5.alloc (.cells #[.string ⟨#[114, 117, 108, 101]⟩, .string (bs (Rw.scrT kn)), .string (⟨#[34]⟩ ++ bs r.from_ ++ ⟨#[34]⟩), .string ⟨#[116, 111]⟩, .string (⟨#[34]⟩ ++ bs r.to_ ++ ⟨#[34]⟩), .string ⟨#[99, 111, 115, 116]⟩, .string (bs (Lx.dec r.cost.toNat))] 9)) := Below.step hb45 ((Below.refl _ w5).alloc (Nat.le_refl _) _)
     have HLJ := HLI.out _ w5.heap.size hb8 (alloc_new w5 _)
     refine wpAnyS_one (i := 18) rfl (by kernel_rfl) (by rfl) hc (fun K' hK => ?_)
     go_simp
     refine HLJ.mono ?_
     rintro e w9 ⟨rfl, hbl9, hb9⟩
     refine hK.out _ _ ⟨.inl rfl, .inl rfl⟩ (fun hc => ?_)
     clear hK K'
     try simp only [tk1, tk2, tk3, Act.put, tk4, tk5, tk6]
     refine wpAnyS_done (by kernel_rfl) ?_ _
     have HB9 := hid (show Bldr w9 w2.heap.size w2.heap.size ((t.rules.take (j + 1)).flatMap Rw.ruleT) by rw [HLL.out] at hbl9; rw [HNX.out]; first | exact hbl9 | (rw [← List.append_assoc]; exact hbl9))
     have HR9 := hid ((HRA.out.trans (hb8.mono HRA.out.size)).trans hb9)
     clear hc S0 hbl9 hb9 hb8 HLJ
     go_wp2_with fail
     go_roundw
     case rel => exact ⟨j + 1, by omega, by go_num, HB9, HR9⟩
     case measure => simp [RowKit.intOf]; omega
   ·have hje : j = t.rules.length := by omega
    have j1 : ¬ (j : Int) < (t.rules.length : Int) := by omega
    subst hje
    rw [List.take_length] at HBL
    have HBL2 := hid (show Bldr wr w2.heap.size w2.heap.size (t.rules.flatMap Rw.ruleT ++ (t.drops.take 0).flatMap (Rw.dropT Rw.tDrop)) by rw [List.take_zero, List.flatMap_nil, List.append_nil]; exact HBL.out)
    clear HBL
    have HBL := HBL2
    have HB3 := HR
    clear HBL2
    have HTB := HT2.out.below HB3.out
    have y0 := HTB.cell (j := 1) rfl
    have hz3 := HTB.lt
    clear HTB
    go_wp2_with fail
    go_loopw [46] (fun iv wr => ∃ j : Nat, j ≤ t.drops.length ∧ iv = .int .i64 j ∧ Hid (Bldr wr w2.heap.size w2.heap.size (t.rules.flatMap Rw.ruleT ++ (t.drops.take j).flatMap (Rw.dropT Rw.tDrop))) ∧ Hid (Below w2.heap.size w2 wr)) (fun iv _ => t.drops.length - (RowKit.intOf iv).toNat)
    case atStart => exact ⟨0, Nat.zero_le _, rfl, HBL, HB3⟩
    case round =>
     clear y0 hz3 HBL HB3
     obtain ⟨j, hj, rfl, HBL, HR⟩ := hrel
     by_cases hjt : j < t.drops.length
     ·obtain ⟨g, o, rfl, hr⟩ := hS2.out (by omega)
      obtain ⟨r, hd⟩ : ∃ r, t.drops[j]? = some r := ⟨_, List.getElem?_eq_getElem hjt⟩
      have hbW := HB2.out.trans (HR.out.mono HB2.out.size)
      have hc := (hr.below hbW).2 j r hd
      have e0 := hc 0 _ rfl
      have e1 := hc 1 _ rfl
      have e2 := hc 2 _ rfl
      rw [Nat.add_zero] at e0
      have hg := (hr.below hbW).1
      have j0 : (0 : Int) ≤ (j : Int) := by omega
      have j1 : (j : Int) < (t.drops.length : Int) := by omega
      obtain ⟨f, hlf, -, -, -, -, h5, h6⟩ := Fo.letters_drop (HVD.out.2 r (List.mem_of_getElem? hd))
      have hsc := Rw.lets_script hlf
      have HFD := hid (hF2.out r (List.mem_of_getElem? hd))
      have HNX := hid (show (t.drops.take (j + 1)).flatMap (Rw.dropT Rw.tDrop) = (t.drops.take j).flatMap (Rw.dropT Rw.tDrop) ++ (Rw.dropT Rw.tDrop) r by rw [rn_take hd, List.flatMap_append]; simp)
      have hln : (t.rules.flatMap Rw.ruleT ++ (t.drops.take j).flatMap (Rw.dropT Rw.tDrop)).length + (Rw.dropT Rw.tDrop r).length ≤ 1000000 := by
       have := HLR.out j; have := HLR2.out; have := HLD.out j; have := HLD2.out; have := HLE.out j
       have := Rw.dropT_len (w := Rw.tDrop) (by decide) HFD.out.2 h5 h6
       first | omega | (simp only [List.length_append]; omega)
      have HLN := hid hln
      obtain ⟨A1, hA1⟩ : ∃ A1, A1 = wr.alloc (.cells #[.int .i64 r.script, .string (bs r.word), .int .i64 r.cost] 58) := ⟨_, rfl⟩
      have hbA : Below wr.heap.size wr A1 := by rw [hA1]; exact (Below.refl _ wr).alloc (Nat.le_refl _) _
      have HX1 := hid (show Blk A1 wr.heap.size 58 [.int .i64 r.script, .string (bs r.word), .int .i64 r.cost] by rw [hA1]; exact Blk.new wr _ _)
      have HTA1 := hid (HT10.out.below (Below.step hbW hbA))
      have HRA := hid (Below.step HR.out hbA)
      have HBA := hid (HBL.out.below' hbA)
      go_upto_region 13 with (fail)
      rw [← hA1]
      clear hA1 hc hr hd hbW hbA hln hlf e0 e1 e2
      obtain ⟨kn, hkn⟩ : ∃ kn : Nat, r.script = (kn : Int) := ⟨r.script.toNat, by omega⟩
      have HSS := hid (fun X b (h : X.heap[b]? = some (.cells fiveT 9 (0, 0))) => five_cell (X := X) (b := b) (kn := kn) h (by omega) (by omega))
      have x0 := HX1.out.cell (j := 0) rfl
      have x1 := HX1.out.cell (j := 1) rfl
      have x2 := HX1.out.cell (j := 2) rfl
      have xz := HX1.out.lt
      have k0 : (0 : Int) ≤ (kn : Int) := by omega
      have k5 : (kn : Int) < 5 := by omega
      have k6 : kn < 5 := by omega
      rw [hkn] at x0
      have HKN := hid hkn
      clear hkn hsc
      have n00 : (bs r.word).size ≤ 1000 := by rw [bs_len]; have := HFD.out.2; omega
      have n01 : ¬ 9223372036854775807 < 1 + (bs r.word).size := by omega
      have n02 : ¬ 9223372036854775807 < 1 + (bs r.word).size + 1 := by omega
      have n03 : 1 + (bs r.word).size + 1 ≤ 9223372036854775807 := by omega
      have n04 : (bs r.word).size ≤ 9223372036854775806 := by omega
      have n05 : 1 + (bs r.word).size ≤ 9223372036854775806 := by omega
      have HLI := hid (fun X q (hX : Below A1.heap.size A1 X) (hq : X.heap[q]? = some (.cells #[.string ⟨#[100, 114, 111, 112]⟩, .string (bs (Rw.scrT kn)), .string (⟨#[34]⟩ ++ bs r.word ++ ⟨#[34]⟩), .string (bs (Lx.dec r.cost.toNat))] 9 (0, 0))) => line_any w2.heap.size w2.heap.size q (t.rules.flatMap Rw.ruleT ++ (t.drops.take j).flatMap (Rw.dropT Rw.tDrop)) (Rw.dropWs Rw.tDrop r) 4 _ X (HBA.out.below' hX) (Nat.le_trans HRA.out.size hX.size) hq (by rw [quo_bs r.word]; unfold Rw.dropWs; rw [HKN.out]; rfl) rfl (by unfold Rw.dropWs; simp) HLN.out)
      have HLL := hid (show Rw.lineOf (Rw.dropWs Rw.tDrop r) = Rw.dropT Rw.tDrop r from rfl)
      have HCO := hid (And.intro h5 h6)
      clear h5 h6
      refine wp_heldS (S := TwoS 14 14 (Below A1.heap.size A1) (fun _ => True)) (by kernel_rfl) ?_
      simp only [List.size_toArray, List.length_cons, List.length_nil, Nat.reduceAdd]
      intro hc
      have S0 : TwoS 14 14 (Below A1.heap.size A1) (fun _ => True) (Array.replicate 15 false) A1.drew := ⟨.inr (Below.refl _ _).drew, .inr trivial⟩
      refine wpAnyS_take (i := 0) (v := .func (.func 53) #[] #[.pointer (some ⟨w2.heap.size, 0, none⟩)]) rfl (by kernel_rfl) (by kernel_rfl) (by kernel_rfl) (fun _ _ _ h => h) (fun _ _ => TwoS.set_ (by decide) (by decide) _ _) hc (by first | rfl | simp [Region.wanted]) (fun wx hx => ?_) S0 (fun hc S0 => ?_)
      ·go_simp
      try simp only [tk1, tk3, Act.put, tk4, tk5, tk6]
      refine wpAnyS_take (i := 2) (v := .pointer (some ⟨wr.heap.size, 0, none⟩)) rfl (by kernel_rfl) (by kernel_rfl) (by kernel_rfl) (fun _ _ _ h => h) (fun _ _ => TwoS.set_ (by decide) (by decide) _ _) hc (by first | rfl | simp [Region.wanted]) (fun wx hx => ?_) S0 (fun hc S0 => ?_)
      ·go_simp
      try simp only [tk1, tk2, tk3, Act.put, tk4, tk5, tk6]
      refine wpAnyS_take (i := 3) (v := .int .i64 kn) rfl (by kernel_rfl) (by kernel_rfl) (by kernel_rfl) (fun _ _ _ h => h) (fun _ _ => TwoS.set_ (by decide) (by decide) _ _) hc (by first | rfl | simp [Region.wanted]) (fun wx hx => ?_) S0 (fun hc S0 => ?_)
      ·have y := ((hx.leftN (n := 6) (by kernel_rfl)).cell (p := ⟨wr.heap.size, 0, none⟩) xz).trans x0
       go_simp
      try simp only [tk1, tk2, tk3, Act.put, tk4, tk5, tk6]
      refine wpAnyS_take (i := 6) (v := .pointer (some ⟨wr.heap.size, 1, none⟩)) rfl (by kernel_rfl) (by kernel_rfl) (by kernel_rfl) (fun _ _ _ h => h) (fun _ _ => TwoS.set_ (by decide) (by decide) _ _) hc (by first | rfl | simp [Region.wanted]) (fun wx hx => ?_) S0 (fun hc S0 => ?_)
      ·go_simp
      try simp only [tk1, tk2, tk3, Act.put, tk4, tk5, tk6]
      refine wpAnyS_take (i := 7) (v := .string (bs r.word)) rfl (by kernel_rfl) (by kernel_rfl) (by kernel_rfl) (fun _ _ _ h => h) (fun _ _ => TwoS.set_ (by decide) (by decide) _ _) hc (by first | rfl | simp [Region.wanted]) (fun wx hx => ?_) S0 (fun hc S0 => ?_)
      ·have y := ((hx.leftN (n := 6) (by kernel_rfl)).cell (p := ⟨wr.heap.size, 1, none⟩) xz).trans x1
       go_simp
      try simp only [tk1, tk2, tk3, Act.put, tk4, tk5, tk6]
      refine wpAnyS_take (i := 8) (v := .string (⟨#[34]⟩ ++ bs r.word)) rfl (by kernel_rfl) (by kernel_rfl) (by kernel_rfl) (fun _ _ _ h => h) (fun _ _ => TwoS.set_ (by decide) (by decide) _ _) hc (by first | rfl | simp [Region.wanted]) (fun wx hx => ?_) S0 (fun hc S0 => ?_)
      ·go_simp
      try simp only [tk1, tk2, tk3, Act.put, tk4, tk5, tk6]
      refine wpAnyS_take (i := 9) (v := .string (⟨#[34]⟩ ++ bs r.word ++ ⟨#[34]⟩)) rfl (by kernel_rfl) (by kernel_rfl) (by kernel_rfl) (fun _ _ _ h => h) (fun _ _ => TwoS.set_ (by decide) (by decide) _ _) hc (by first | rfl | simp [Region.wanted]) (fun wx hx => ?_) S0 (fun hc S0 => ?_)
      ·go_simp
      try simp only [tk1, tk2, tk3, Act.put, tk4, tk5, tk6]
      refine wpAnyS_take (i := 10) (v := .pointer (some ⟨wr.heap.size, 2, none⟩)) rfl (by kernel_rfl) (by kernel_rfl) (by kernel_rfl) (fun _ _ _ h => h) (fun _ _ => TwoS.set_ (by decide) (by decide) _ _) hc (by first | rfl | simp [Region.wanted]) (fun wx hx => ?_) S0 (fun hc S0 => ?_)
      ·go_simp
      try simp only [tk1, tk2, tk3, Act.put, tk4, tk5, tk6]
      refine wpAnyS_take (i := 11) (v := .int .i64 r.cost) rfl (by kernel_rfl) (by kernel_rfl) (by kernel_rfl) (fun _ _ _ h => h) (fun _ _ => TwoS.set_ (by decide) (by decide) _ _) hc (by first | rfl | simp [Region.wanted]) (fun wx hx => ?_) S0 (fun hc S0 => ?_)
      ·have y := ((hx.leftN (n := 6) (by kernel_rfl)).cell (p := ⟨wr.heap.size, 2, none⟩) xz).trans x2
       go_simp
      try simp only [tk1, tk2, tk3, Act.put, tk4, tk5, tk6]
      ·skip
       refine wpAnyS_one (i := 1) rfl (by kernel_rfl) (by rfl) hc (fun K' hK => ?_)
       go_simp
       refine (scripts_any A1.drew).mono ?_
       rintro e w4 ⟨rfl, hw4⟩
       have hb4 : Below A1.heap.size A1 w4 := by rw [hw4]; exact (Below.refl _ A1).drew.alloc (Nat.le_refl _) _
       obtain ⟨zk, ck⟩ := HSS.out w4 A1.heap.size (by rw [hw4]; exact alloc_new A1.drew _)
       clear hw4
       refine hK.out _ _ ⟨.inr hb4, .inr trivial⟩ (fun hc => ?_)
       clear hK K'
       try simp only [tk1, tk2, tk3, Act.put, tk4, tk5, tk6]
       refine wpAnyS_more (S2 := TwoS 14 14 (Below w4.heap.size w4) (fun _ => True)) (fun _ _ h => ⟨h.1.imp id (Below.step hb4), .inr trivial⟩) _ _ _ _ ?_
       clear S0
       have S0 := fun l => (⟨.inr (Below.refl _ _), .inr trivial⟩ : TwoS 14 14 (Below w4.heap.size w4) (fun _ => True) l w4)
       refine wpAnyS_take (i := 4) (v := .pointer (some ⟨A1.heap.size, kn, none⟩)) rfl (by kernel_rfl) (by kernel_rfl) (by kernel_rfl) (fun _ _ _ h => h) (fun _ _ => TwoS.set_ (by decide) (by decide) _ _) hc (by first | rfl | simp [Region.wanted]) (fun wx hx => ?_) (S0 _) (fun hc S0 => ?_)
       ·go_simp
       try simp only [tk1, tk2, tk3, Act.put, tk4, tk5, tk6]
       refine wpAnyS_take (i := 5) (v := .string (bs (Rw.scrT kn))) rfl (by kernel_rfl) (by kernel_rfl) (by kernel_rfl) (fun _ _ _ h => h) (fun _ _ => TwoS.set_ (by decide) (by decide) _ _) hc (by first | rfl | simp [Region.wanted]) (fun wx hx => ?_) S0 (fun hc S0 => ?_)
       ·have y := ((hx.leftN (n := 6) (by kernel_rfl)).cell (p := ⟨A1.heap.size, kn, none⟩) zk).trans ck
        go_simp
       try simp only [tk1, tk2, tk3, Act.put, tk4, tk5, tk6]
       refine wpAnyS_one (i := 12) rfl (by kernel_rfl) (by rfl) hc (fun K' hK => ?_)
       go_simp
       refine (itoa_any _ HCO.out.1 (by have := HCO.out.2; omega) w4 (HTA1.out.below hb4)).mono ?_
       rintro e w5 ⟨rfl, hb5⟩
       have hb45 := Below.step hb4 hb5
       refine hK.out _ _ ⟨.inr hb5, .inr trivial⟩ (fun hc => ?_)
       clear hK K'
       try simp only [tk1, tk2, tk3, Act.put, tk4, tk5, tk6]
       refine wpAnyS_one (i := 13) rfl (by kernel_rfl) (by rfl) hc (fun K' hK => ?_)
       go_simp
       refine hK.out _ _ ⟨.inr (Below.step hb5 ((Below.refl _ w5).alloc (Nat.le_refl _) _)), .inr trivial⟩ (fun hc => ?_)
       clear hK K'
       try simp only [tk1, tk2, tk3, Act.put, tk4, tk5, tk6]
       have hb8 : Below A1.heap.size A1 (w5.alloc (.cells #[.string ⟨#[100, 114, 111, 112]⟩, .string (bs (Rw.scrT kn)), .string (⟨#[34]⟩ ++ bs r.word ++ ⟨#[34]⟩), .string (bs (Lx.dec r.cost.toNat))] 9)) := Below.step hb45 ((Below.refl _ w5).alloc (Nat.le_refl _) _)
       have HLJ := HLI.out _ w5.heap.size hb8 (alloc_new w5 _)
       refine wpAnyS_one (i := 14) rfl (by kernel_rfl) (by rfl) hc (fun K' hK => ?_)
       go_simp
       refine HLJ.mono ?_
       rintro e w9 ⟨rfl, hbl9, hb9⟩
       refine hK.out _ _ ⟨.inl rfl, .inl rfl⟩ (fun hc => ?_)
       clear hK K'
       try simp only [tk1, tk2, tk3, Act.put, tk4, tk5, tk6]
       refine wpAnyS_done (by kernel_rfl) ?_ _
       have HB9 := hid (show Bldr w9 w2.heap.size w2.heap.size (t.rules.flatMap Rw.ruleT ++ (t.drops.take (j + 1)).flatMap (Rw.dropT Rw.tDrop)) by rw [HLL.out] at hbl9; rw [HNX.out]; first | exact hbl9 | (rw [← List.append_assoc]; exact hbl9))
       have HR9 := hid ((HRA.out.trans (hb8.mono HRA.out.size)).trans hb9)
       clear hc S0 hbl9 hb9 hb8 HLJ
       go_wp2_with fail
       go_roundw
       case rel => exact ⟨j + 1, by omega, by go_num, HB9, HR9⟩
       case measure => simp [RowKit.intOf]; omega
     ·have hje : j = t.drops.length := by omega
      have j1 : ¬ (j : Int) < (t.drops.length : Int) := by omega
      subst hje
      rw [List.take_length] at HBL
      have HBL2 := hid (show Bldr wr w2.heap.size w2.heap.size (t.rules.flatMap Rw.ruleT ++ t.drops.flatMap (Rw.dropT Rw.tDrop) ++ (t.ends.take 0).flatMap (Rw.dropT Rw.tEnd)) by rw [List.take_zero, List.flatMap_nil, List.append_nil]; exact HBL.out)
      clear HBL
      have HBL := HBL2
      have HB3 := HR
      clear HBL2
      have HTB := HT2.out.below HB3.out
      have y0 := HTB.cell (j := 2) rfl
      have hz3 := HTB.lt
      clear HTB
      go_wp2_with fail
      go_loopw [69] (fun iv wr => ∃ j : Nat, j ≤ t.ends.length ∧ iv = .int .i64 j ∧ Hid (Bldr wr w2.heap.size w2.heap.size (t.rules.flatMap Rw.ruleT ++ t.drops.flatMap (Rw.dropT Rw.tDrop) ++ (t.ends.take j).flatMap (Rw.dropT Rw.tEnd))) ∧ Hid (Below w2.heap.size w2 wr)) (fun iv _ => t.ends.length - (RowKit.intOf iv).toNat)
      case atStart => exact ⟨0, Nat.zero_le _, rfl, HBL, HB3⟩
      case round =>
       clear y0 hz3 HBL HB3
       obtain ⟨j, hj, rfl, HBL, HR⟩ := hrel
       by_cases hjt : j < t.ends.length
       ·obtain ⟨g, o, rfl, hr⟩ := hS3.out (by omega)
        obtain ⟨r, hd⟩ : ∃ r, t.ends[j]? = some r := ⟨_, List.getElem?_eq_getElem hjt⟩
        have hbW := HB2.out.trans (HR.out.mono HB2.out.size)
        have hc := (hr.below hbW).2 j r hd
        have e0 := hc 0 _ rfl
        have e1 := hc 1 _ rfl
        have e2 := hc 2 _ rfl
        rw [Nat.add_zero] at e0
        have hg := (hr.below hbW).1
        have j0 : (0 : Int) ≤ (j : Int) := by omega
        have j1 : (j : Int) < (t.ends.length : Int) := by omega
        obtain ⟨f, hlf, -, -, -, -, h5, h6⟩ := Fo.letters_drop (HVE.out.2 r (List.mem_of_getElem? hd))
        have hsc := Rw.lets_script hlf
        have HFD := hid (hF3.out r (List.mem_of_getElem? hd))
        have HNX := hid (show (t.ends.take (j + 1)).flatMap (Rw.dropT Rw.tEnd) = (t.ends.take j).flatMap (Rw.dropT Rw.tEnd) ++ (Rw.dropT Rw.tEnd) r by rw [rn_take hd, List.flatMap_append]; simp)
        have hln : (t.rules.flatMap Rw.ruleT ++ t.drops.flatMap (Rw.dropT Rw.tDrop) ++ (t.ends.take j).flatMap (Rw.dropT Rw.tEnd)).length + (Rw.dropT Rw.tEnd r).length ≤ 1000000 := by
         have := HLR.out j; have := HLR2.out; have := HLD.out j; have := HLD2.out; have := HLE.out j
         have := Rw.dropT_len (w := Rw.tEnd) (by decide) HFD.out.2 h5 h6
         first | omega | (simp only [List.length_append]; omega)
        have HLN := hid hln
        obtain ⟨A1, hA1⟩ : ∃ A1, A1 = wr.alloc (.cells #[.int .i64 r.script, .string (bs r.word), .int .i64 r.cost] 58) := ⟨_, rfl⟩
        have hbA : Below wr.heap.size wr A1 := by rw [hA1]; exact (Below.refl _ wr).alloc (Nat.le_refl _) _
        have HX1 := hid (show Blk A1 wr.heap.size 58 [.int .i64 r.script, .string (bs r.word), .int .i64 r.cost] by rw [hA1]; exact Blk.new wr _ _)
        have HTA1 := hid (HT10.out.below (Below.step hbW hbA))
        have HRA := hid (Below.step HR.out hbA)
        have HBA := hid (HBL.out.below' hbA)
        go_upto_region 18 with (fail)
        rw [← hA1]
        clear hA1 hc hr hd hbW hbA hln hlf e0 e1 e2
        obtain ⟨kn, hkn⟩ : ∃ kn : Nat, r.script = (kn : Int) := ⟨r.script.toNat, by omega⟩
        have HSS := hid (fun X b (h : X.heap[b]? = some (.cells fiveT 9 (0, 0))) => five_cell (X := X) (b := b) (kn := kn) h (by omega) (by omega))
        have x0 := HX1.out.cell (j := 0) rfl
        have x1 := HX1.out.cell (j := 1) rfl
        have x2 := HX1.out.cell (j := 2) rfl
        have xz := HX1.out.lt
        have k0 : (0 : Int) ≤ (kn : Int) := by omega
        have k5 : (kn : Int) < 5 := by omega
        have k6 : kn < 5 := by omega
        rw [hkn] at x0
        have HKN := hid hkn
        clear hkn hsc
        have n00 : (bs r.word).size ≤ 1000 := by rw [bs_len]; have := HFD.out.2; omega
        have n01 : ¬ 9223372036854775807 < 1 + (bs r.word).size := by omega
        have n02 : ¬ 9223372036854775807 < 1 + (bs r.word).size + 1 := by omega
        have n03 : 1 + (bs r.word).size + 1 ≤ 9223372036854775807 := by omega
        have n04 : (bs r.word).size ≤ 9223372036854775806 := by omega
        have n05 : 1 + (bs r.word).size ≤ 9223372036854775806 := by omega
        have HLI := hid (fun X q (hX : Below A1.heap.size A1 X) (hq : X.heap[q]? = some (.cells #[.string ⟨#[101, 110, 100]⟩, .string (bs (Rw.scrT kn)), .string (⟨#[34]⟩ ++ bs r.word ++ ⟨#[34]⟩), .string (bs (Lx.dec r.cost.toNat))] 9 (0, 0))) => line_any w2.heap.size w2.heap.size q (t.rules.flatMap Rw.ruleT ++ t.drops.flatMap (Rw.dropT Rw.tDrop) ++ (t.ends.take j).flatMap (Rw.dropT Rw.tEnd)) (Rw.dropWs Rw.tEnd r) 4 _ X (HBA.out.below' hX) (Nat.le_trans HRA.out.size hX.size) hq (by rw [quo_bs r.word]; unfold Rw.dropWs; rw [HKN.out]; rfl) rfl (by unfold Rw.dropWs; simp) HLN.out)
        have HLL := hid (show Rw.lineOf (Rw.dropWs Rw.tEnd r) = Rw.dropT Rw.tEnd r from rfl)
        have HCO := hid (And.intro h5 h6)
        clear h5 h6
        refine wp_heldS (S := TwoS 14 14 (Below A1.heap.size A1) (fun _ => True)) (by kernel_rfl) ?_
        simp only [List.size_toArray, List.length_cons, List.length_nil, Nat.reduceAdd]
        intro hc
        have S0 : TwoS 14 14 (Below A1.heap.size A1) (fun _ => True) (Array.replicate 15 false) A1.drew := ⟨.inr (Below.refl _ _).drew, .inr trivial⟩
        refine wpAnyS_take (i := 0) (v := .func (.func 53) #[] #[.pointer (some ⟨w2.heap.size, 0, none⟩)]) rfl (by kernel_rfl) (by kernel_rfl) (by kernel_rfl) (fun _ _ _ h => h) (fun _ _ => TwoS.set_ (by decide) (by decide) _ _) hc (by first | rfl | simp [Region.wanted]) (fun wx hx => ?_) S0 (fun hc S0 => ?_)
        ·go_simp
        try simp only [tk1, tk3, Act.put, tk4, tk5, tk6]
        refine wpAnyS_take (i := 2) (v := .pointer (some ⟨wr.heap.size, 0, none⟩)) rfl (by kernel_rfl) (by kernel_rfl) (by kernel_rfl) (fun _ _ _ h => h) (fun _ _ => TwoS.set_ (by decide) (by decide) _ _) hc (by first | rfl | simp [Region.wanted]) (fun wx hx => ?_) S0 (fun hc S0 => ?_)
        ·go_simp
        try simp only [tk1, tk2, tk3, Act.put, tk4, tk5, tk6]
        refine wpAnyS_take (i := 3) (v := .int .i64 kn) rfl (by kernel_rfl) (by kernel_rfl) (by kernel_rfl) (fun _ _ _ h => h) (fun _ _ => TwoS.set_ (by decide) (by decide) _ _) hc (by first | rfl | simp [Region.wanted]) (fun wx hx => ?_) S0 (fun hc S0 => ?_)
        ·have y := ((hx.leftN (n := 6) (by kernel_rfl)).cell (p := ⟨wr.heap.size, 0, none⟩) xz).trans x0
         go_simp
        try simp only [tk1, tk2, tk3, Act.put, tk4, tk5, tk6]
        refine wpAnyS_take (i := 6) (v := .pointer (some ⟨wr.heap.size, 1, none⟩)) rfl (by kernel_rfl) (by kernel_rfl) (by kernel_rfl) (fun _ _ _ h => h) (fun _ _ => TwoS.set_ (by decide) (by decide) _ _) hc (by first | rfl | simp [Region.wanted]) (fun wx hx => ?_) S0 (fun hc S0 => ?_)
        ·go_simp
        try simp only [tk1, tk2, tk3, Act.put, tk4, tk5, tk6]
        refine wpAnyS_take (i := 7) (v := .string (bs r.word)) rfl (by kernel_rfl) (by kernel_rfl) (by kernel_rfl) (fun _ _ _ h => h) (fun _ _ => TwoS.set_ (by decide) (by decide) _ _) hc (by first | rfl | simp [Region.wanted]) (fun wx hx => ?_) S0 (fun hc S0 => ?_)
        ·have y := ((hx.leftN (n := 6) (by kernel_rfl)).cell (p := ⟨wr.heap.size, 1, none⟩) xz).trans x1
         go_simp
        try simp only [tk1, tk2, tk3, Act.put, tk4, tk5, tk6]
        refine wpAnyS_take (i := 8) (v := .string (⟨#[34]⟩ ++ bs r.word)) rfl (by kernel_rfl) (by kernel_rfl) (by kernel_rfl) (fun _ _ _ h => h) (fun _ _ => TwoS.set_ (by decide) (by decide) _ _) hc (by first | rfl | simp [Region.wanted]) (fun wx hx => ?_) S0 (fun hc S0 => ?_)
        ·go_simp
        try simp only [tk1, tk2, tk3, Act.put, tk4, tk5, tk6]
        refine wpAnyS_take (i := 9) (v := .string (⟨#[34]⟩ ++ bs r.word ++ ⟨#[34]⟩)) rfl (by kernel_rfl) (by kernel_rfl) (by kernel_rfl) (fun _ _ _ h => h) (fun _ _ => TwoS.set_ (by decide) (by decide) _ _) hc (by first | rfl | simp [Region.wanted]) (fun wx hx => ?_) S0 (fun hc S0 => ?_)
        ·go_simp
        try simp only [tk1, tk2, tk3, Act.put, tk4, tk5, tk6]
        refine wpAnyS_take (i := 10) (v := .pointer (some ⟨wr.heap.size, 2, none⟩)) rfl (by kernel_rfl) (by kernel_rfl) (by kernel_rfl) (fun _ _ _ h => h) (fun _ _ => TwoS.set_ (by decide) (by decide) _ _) hc (by first | rfl | simp [Region.wanted]) (fun wx hx => ?_) S0 (fun hc S0 => ?_)
        ·go_simp
        try simp only [tk1, tk2, tk3, Act.put, tk4, tk5, tk6]
        refine wpAnyS_take (i := 11) (v := .int .i64 r.cost) rfl (by kernel_rfl) (by kernel_rfl) (by kernel_rfl) (fun _ _ _ h => h) (fun _ _ => TwoS.set_ (by decide) (by decide) _ _) hc (by first | rfl | simp [Region.wanted]) (fun wx hx => ?_) S0 (fun hc S0 => ?_)
        ·have y := ((hx.leftN (n := 6) (by kernel_rfl)).cell (p := ⟨wr.heap.size, 2, none⟩) xz).trans x2
         go_simp
        try simp only [tk1, tk2, tk3, Act.put, tk4, tk5, tk6]
        ·skip
         refine wpAnyS_one (i := 1) rfl (by kernel_rfl) (by rfl) hc (fun K' hK => ?_)
         go_simp
         refine (scripts_any A1.drew).mono ?_
         rintro e w4 ⟨rfl, hw4⟩
         have hb4 : Below A1.heap.size A1 w4 := by rw [hw4]; exact (Below.refl _ A1).drew.alloc (Nat.le_refl _) _
         obtain ⟨zk, ck⟩ := HSS.out w4 A1.heap.size (by rw [hw4]; exact alloc_new A1.drew _)
         clear hw4
         refine hK.out _ _ ⟨.inr hb4, .inr trivial⟩ (fun hc => ?_)
         clear hK K'
         try simp only [tk1, tk2, tk3, Act.put, tk4, tk5, tk6]
         refine wpAnyS_more (S2 := TwoS 14 14 (Below w4.heap.size w4) (fun _ => True)) (fun _ _ h => ⟨h.1.imp id (Below.step hb4), .inr trivial⟩) _ _ _ _ ?_
         clear S0
         have S0 := fun l => (⟨.inr (Below.refl _ _), .inr trivial⟩ : TwoS 14 14 (Below w4.heap.size w4) (fun _ => True) l w4)
         refine wpAnyS_take (i := 4) (v := .pointer (some ⟨A1.heap.size, kn, none⟩)) rfl (by kernel_rfl) (by kernel_rfl) (by kernel_rfl) (fun _ _ _ h => h) (fun _ _ => TwoS.set_ (by decide) (by decide) _ _) hc (by first | rfl | simp [Region.wanted]) (fun wx hx => ?_) (S0 _) (fun hc S0 => ?_)
         ·go_simp
         try simp only [tk1, tk2, tk3, Act.put, tk4, tk5, tk6]
         refine wpAnyS_take (i := 5) (v := .string (bs (Rw.scrT kn))) rfl (by kernel_rfl) (by kernel_rfl) (by kernel_rfl) (fun _ _ _ h => h) (fun _ _ => TwoS.set_ (by decide) (by decide) _ _) hc (by first | rfl | simp [Region.wanted]) (fun wx hx => ?_) S0 (fun hc S0 => ?_)
         ·have y := ((hx.leftN (n := 6) (by kernel_rfl)).cell (p := ⟨A1.heap.size, kn, none⟩) zk).trans ck
          go_simp
         try simp only [tk1, tk2, tk3, Act.put, tk4, tk5, tk6]
         refine wpAnyS_one (i := 12) rfl (by kernel_rfl) (by rfl) hc (fun K' hK => ?_)
         go_simp
         refine (itoa_any _ HCO.out.1 (by have := HCO.out.2; omega) w4 (HTA1.out.below hb4)).mono ?_
         rintro e w5 ⟨rfl, hb5⟩
         have hb45 := Below.step hb4 hb5
         refine hK.out _ _ ⟨.inr hb5, .inr trivial⟩ (fun hc => ?_)
         clear hK K'
         try simp only [tk1, tk2, tk3, Act.put, tk4, tk5, tk6]
         refine wpAnyS_one (i := 13) rfl (by kernel_rfl) (by rfl) hc (fun K' hK => ?_)
         go_simp
         refine hK.out _ _ ⟨.inr (Below.step hb5 ((Below.refl _ w5).alloc (Nat.le_refl _) _)), .inr trivial⟩ (fun hc => ?_)
         clear hK K'
         try simp only [tk1, tk2, tk3, Act.put, tk4, tk5, tk6]
         have hb8 : Below A1.heap.size A1 (w5.alloc (.cells #[.string ⟨#[101, 110, 100]⟩, .string (bs (Rw.scrT kn)), .string (⟨#[34]⟩ ++ bs r.word ++ ⟨#[34]⟩), .string (bs (Lx.dec r.cost.toNat))] 9)) := Below.step hb45 ((Below.refl _ w5).alloc (Nat.le_refl _) _)
         have HLJ := HLI.out _ w5.heap.size hb8 (alloc_new w5 _)
         refine wpAnyS_one (i := 14) rfl (by kernel_rfl) (by rfl) hc (fun K' hK => ?_)
         go_simp
         refine HLJ.mono ?_
         rintro e w9 ⟨rfl, hbl9, hb9⟩
         refine hK.out _ _ ⟨.inl rfl, .inl rfl⟩ (fun hc => ?_)
         clear hK K'
         try simp only [tk1, tk2, tk3, Act.put, tk4, tk5, tk6]
         refine wpAnyS_done (by kernel_rfl) ?_ _
         have HB9 := hid (show Bldr w9 w2.heap.size w2.heap.size (t.rules.flatMap Rw.ruleT ++ t.drops.flatMap (Rw.dropT Rw.tDrop) ++ (t.ends.take (j + 1)).flatMap (Rw.dropT Rw.tEnd)) by rw [HLL.out] at hbl9; rw [HNX.out]; first | exact hbl9 | (rw [← List.append_assoc]; exact hbl9))
         have HR9 := hid ((HRA.out.trans (hb8.mono HRA.out.size)).trans hb9)
         clear hc S0 hbl9 hb9 hb8 HLJ
         go_wp2_with fail
         go_roundw
         case rel => exact ⟨j + 1, by omega, by go_num, HB9, HR9⟩
         case measure => simp [RowKit.intOf]; omega
       ·have hje : j = t.ends.length := by omega
        have j1 : ¬ (j : Int) < (t.ends.length : Int) := by omega
        subst hje
        rw [List.take_length] at HBL
        have HTB := HT2.out.below HR.out
        have y3 := HTB.cell (j := 3) rfl
        have y4 := HTB.cell (j := 4) rfl
        have y5 := HTB.cell (j := 5) rfl
        have hz3 := HTB.lt
        have HCC := hid (show (0 ≤ t.drop ∧ t.drop ≤ 1000) ∧ (0 ≤ t.order ∧ t.order ≤ 1000) ∧ (0 ≤ t.initial ∧ t.initial ≤ 1000) by
         have := HVC.out
         unfold Rw.isCost at this
         simpa only [Bool.and_eq_true, decide_eq_true_eq] using this)
        have HT9 := hid (HT10.out.below (HB2.out.trans (HR.out.mono HB2.out.size)))
        have HLI := hid (fun X q (hX : Below wr.heap.size wr X) (hq : X.heap[q]? = some (.cells #[.string ⟨#[99, 111, 115, 116, 115]⟩, .string (bs (Lx.dec t.drop.toNat)), .string (bs (Lx.dec t.order.toNat)), .string (bs (Lx.dec t.initial.toNat))] 9 (0, 0))) => line_any w2.heap.size w2.heap.size q _ (Rw.costWs t) 4 _ X (HBL.out.below' hX) (Nat.le_trans HR.out.size hX.size) hq rfl rfl (by unfold Rw.costWs; simp) (by
         have h1 := HLR.out t.rules.length; have h2 := HLD.out t.drops.length; have h3 := HLE.out t.ends.length
         rw [List.take_length] at h1 h2 h3
         have h4 := Rw.dec_cost HCC.out.1.1 HCC.out.1.2; have h5 := Rw.dec_cost HCC.out.2.1.1 HCC.out.2.1.2; have h6 := Rw.dec_cost HCC.out.2.2.1 HCC.out.2.2.2
         unfold Rw.lineOf Rw.spaced Rw.costWs Rw.tCosts
         simp only [List.length_append, List.length_cons, List.length_nil, List.flatMap_cons, List.flatMap_nil]
         omega))
        clear HTB
        go_upto_region 20 with (fail)
        refine wp_heldS (S := TwoS 11 11 (Below wr.heap.size wr) (fun _ => True)) (by kernel_rfl) ?_
        simp only [List.size_toArray, List.length_cons, List.length_nil, Nat.reduceAdd]
        intro hc
        have S0 : TwoS 11 11 (Below wr.heap.size wr) (fun _ => True) (Array.replicate 12 false) wr.drew := ⟨.inr (Below.refl _ _).drew, .inr trivial⟩
        refine wpAnyS_take (i := 0) (v := .func (.func 53) #[] #[.pointer (some ⟨w2.heap.size, 0, none⟩)]) rfl (by kernel_rfl) (by kernel_rfl) (by kernel_rfl) (fun _ _ _ h => h) (fun _ _ => TwoS.set_ (by decide) (by decide) _ _) hc (by first | rfl | simp [Region.wanted]) (fun wx hx => ?_) S0 (fun hc S0 => ?_)
        ·go_simp
        try simp only [tk1, tk3, Act.put, tk4, tk5, tk6]
        refine wpAnyS_take (i := 1) (v := .pointer (some ⟨W.heap.size, 3, none⟩)) rfl (by kernel_rfl) (by kernel_rfl) (by kernel_rfl) (fun _ _ _ h => h) (fun _ _ => TwoS.set_ (by decide) (by decide) _ _) hc (by first | rfl | simp [Region.wanted]) (fun wx hx => ?_) S0 (fun hc S0 => ?_)
        ·go_simp
        try simp only [tk1, tk2, tk3, Act.put, tk4, tk5, tk6]
        refine wpAnyS_take (i := 2) (v := .int .i64 t.drop) rfl (by kernel_rfl) (by kernel_rfl) (by kernel_rfl) (fun _ _ _ h => h) (fun _ _ => TwoS.set_ (by decide) (by decide) _ _) hc (by first | rfl | simp [Region.wanted]) (fun wx hx => ?_) S0 (fun hc S0 => ?_)
        ·have y := ((hx.leftN (n := 6) (by kernel_rfl)).cell (p := ⟨W.heap.size, 3, none⟩) hz3).trans y3
         go_simp
        try simp only [tk1, tk2, tk3, Act.put, tk4, tk5, tk6]
        refine wpAnyS_take (i := 4) (v := .pointer (some ⟨W.heap.size, 4, none⟩)) rfl (by kernel_rfl) (by kernel_rfl) (by kernel_rfl) (fun _ _ _ h => h) (fun _ _ => TwoS.set_ (by decide) (by decide) _ _) hc (by first | rfl | simp [Region.wanted]) (fun wx hx => ?_) S0 (fun hc S0 => ?_)
        ·go_simp
        try simp only [tk1, tk2, tk3, Act.put, tk4, tk5, tk6]
        refine wpAnyS_take (i := 5) (v := .int .i64 t.order) rfl (by kernel_rfl) (by kernel_rfl) (by kernel_rfl) (fun _ _ _ h => h) (fun _ _ => TwoS.set_ (by decide) (by decide) _ _) hc (by first | rfl | simp [Region.wanted]) (fun wx hx => ?_) S0 (fun hc S0 => ?_)
        ·have y := ((hx.leftN (n := 6) (by kernel_rfl)).cell (p := ⟨W.heap.size, 4, none⟩) hz3).trans y4
         go_simp
        try simp only [tk1, tk2, tk3, Act.put, tk4, tk5, tk6]
        refine wpAnyS_take (i := 7) (v := .pointer (some ⟨W.heap.size, 5, none⟩)) rfl (by kernel_rfl) (by kernel_rfl) (by kernel_rfl) (fun _ _ _ h => h) (fun _ _ => TwoS.set_ (by decide) (by decide) _ _) hc (by first | rfl | simp [Region.wanted]) (fun wx hx => ?_) S0 (fun hc S0 => ?_)
        ·go_simp
        try simp only [tk1, tk2, tk3, Act.put, tk4, tk5, tk6]
        refine wpAnyS_take (i := 8) (v := .int .i64 t.initial) rfl (by kernel_rfl) (by kernel_rfl) (by kernel_rfl) (fun _ _ _ h => h) (fun _ _ => TwoS.set_ (by decide) (by decide) _ _) hc (by first | rfl | simp [Region.wanted]) (fun wx hx => ?_) S0 (fun hc S0 => ?_)
        ·have y := ((hx.leftN (n := 6) (by kernel_rfl)).cell (p := ⟨W.heap.size, 5, none⟩) hz3).trans y5
         go_simp
        try simp only [tk1, tk2, tk3, Act.put, tk4, tk5, tk6]
        refine wpAnyS_one (i := 3) rfl (by kernel_rfl) (by rfl) hc (fun K' hK => ?_)
        go_simp
        refine (itoa_any _ HCC.out.1.1 (by have := HCC.out.1.2; omega) wr.drew (HT9.out.below (Below.refl _ _).drew)).mono ?_
        rintro e w4 ⟨rfl, hbw4'⟩
        have hbw4 : Below wr.heap.size wr w4 := Below.step (Below.refl _ _).drew hbw4'
        refine hK.out _ _ ⟨.inr hbw4, .inr trivial⟩ (fun hc => ?_)
        clear hK K'
        try simp only [tk1, tk2, tk3, Act.put, tk4, tk5, tk6]
        refine wpAnyS_one (i := 6) rfl (by kernel_rfl) (by rfl) hc (fun K' hK => ?_)
        go_simp
        refine (itoa_any _ HCC.out.2.1.1 (by have := HCC.out.2.1.2; omega) w4 (HT9.out.below hbw4)).mono ?_
        rintro e w5 ⟨rfl, hbw5'⟩
        have hbw5 : Below wr.heap.size wr w5 := Below.step hbw4 hbw5'
        refine hK.out _ _ ⟨.inr hbw5, .inr trivial⟩ (fun hc => ?_)
        clear hK K'
        try simp only [tk1, tk2, tk3, Act.put, tk4, tk5, tk6]
        refine wpAnyS_one (i := 9) rfl (by kernel_rfl) (by rfl) hc (fun K' hK => ?_)
        go_simp
        refine (itoa_any _ HCC.out.2.2.1 (by have := HCC.out.2.2.2; omega) w5 (HT9.out.below hbw5)).mono ?_
        rintro e w6 ⟨rfl, hbw6'⟩
        have hbw6 : Below wr.heap.size wr w6 := Below.step hbw5 hbw6'
        refine hK.out _ _ ⟨.inr hbw6, .inr trivial⟩ (fun hc => ?_)
        clear hK K'
        try simp only [tk1, tk2, tk3, Act.put, tk4, tk5, tk6]
        refine wpAnyS_one (i := 10) rfl (by kernel_rfl) (by rfl) hc (fun K' hK => ?_)
        go_simp
        have hb8 : Below wr.heap.size wr (w6.alloc (.cells #[.string ⟨#[99, 111, 115, 116, 115]⟩, .string (bs (Lx.dec t.drop.toNat)), .string (bs (Lx.dec t.order.toNat)), .string (bs (Lx.dec t.initial.toNat))] 9)) := Below.step hbw6 ((Below.refl _ w6).alloc (Nat.le_refl _) _)
        refine hK.out _ _ ⟨.inr hb8, .inr trivial⟩ (fun hc => ?_)
        clear hK K'
        try simp only [tk1, tk2, tk3, Act.put, tk4, tk5, tk6]
        have HLJ := HLI.out _ w6.heap.size hb8 (alloc_new w6 _)
        refine wpAnyS_one (i := 11) rfl (by kernel_rfl) (by rfl) hc (fun K' hK => ?_)
        go_simp
        refine HLJ.mono ?_
        rintro e w9 ⟨rfl, hbl9, hb9⟩
        refine hK.out _ _ ⟨.inl rfl, .inl rfl⟩ (fun hc => ?_)
        clear hK K'
        try simp only [tk1, tk2, tk3, Act.put, tk4, tk5, tk6]
        refine wpAnyS_done (by kernel_rfl) ?_ _
        have HTX := hid (text_any w2.heap.size w2.heap.size _ w9 hbl9 (Nat.le_trans HR.out.size (Nat.le_trans hb8.size hb9.size)))
        have HR9 := hid ((HR.out.trans (hb8.mono HR.out.size)).trans hb9)
        clear hc S0 hbl9 hb9 hb8 HLJ
        go_wp2_with fail
        refine (HTX.out).mono ?_
        rintro e w10 ⟨rfl, hb10⟩
        have HR10 := hid (HB2.out.trans ((HR9.out.trans hb10).mono HB2.out.size))
        clear hb10
        go_wp2_with fail
        go_ret2
        rw [HE.out, HER.out, HVT.out]
        exact ⟨rfl, HR10.out⟩

end Go.Proofs.YtdchjacccmajcaaGreatDoor
