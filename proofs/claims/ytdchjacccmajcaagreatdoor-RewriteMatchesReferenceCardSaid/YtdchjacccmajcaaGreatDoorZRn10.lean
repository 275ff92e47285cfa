/-
  The law file's fits: does a rule stand at a place? Conditions: lengths; the library's tables.
-/
import Derived.Test.YtdchjacccmajcaaGreatDoorZRn9
namespace Go.Proofs.YtdchjacccmajcaaGreatDoor
open Go.RowKit Go.Lib Go.Maps

set_option maxRecDepth 100000 in
set_option maxHeartbeats 4000000 in
theorem fits10_any (x : Rw.Rule) (f : List (List UInt8)) (k : Int) (L : List (List UInt8)) (v : Value) (i : Nat) (w : World) (hlf : Sc.lets x.script x.from_ = some f) (hfr : x.from_.length ≤ 1000) (hv : SlOf w v 1 strC L) (hL : L.length ≤ 12) (hi : i ≤ 12) (hT : Tabs w) :
    Calls Tryz.prog 16 #[.agg #[.int .i64 x.script, .string (bs x.from_), .string (bs x.to_), .int .i64 x.cost], .int .i64 k, v, .int .i64 i] w (Gives (.tuple #[.bool (decide (x.script = k) && atB L i f), .int .i64 f.length]) w) := by
  obtain ⟨r, hr⟩ : ∃ r, r = (decide (x.script = k) && atB L i f) := ⟨_, rfl⟩
  rw [← hr]
  have HRR := hid hr
  clear hr
  have HV := hid hv
  obtain ⟨va, vc, rfl, -⟩ := hv
  obtain ⟨W1, hW1⟩ : ∃ W1, W1 = w.alloc (.cells #[.int .i64 x.script, .string (bs x.from_), .string (bs x.to_), .int .i64 x.cost] 34) := ⟨_, rfl⟩
  have HB1 := hid (show Below w.heap.size w W1 by rw [hW1]; exact (Below.refl _ w).alloc (Nat.le_refl _) _)
  have HX1 := hid (show Blk W1 w.heap.size 34 [.int .i64 x.script, .string (bs x.from_), .string (bs x.to_), .int .i64 x.cost] by rw [hW1]; exact Blk.new w _ _)
  have HLE := hid (letters_any x.script (bs x.from_) W1 (by rw [bs_len]; omega) (hT.below HB1.out))
  unfold LettersPost at HLE
  rw [bs_list, hlf] at HLE
  have hf12 := (Sc.lets_len hlf).2
  have x0 := HX1.out.cell (j := 0) rfl
  have x1 := HX1.out.cell (j := 1) rfl
  have xz := HX1.out.lt
  clear hlf hT
  go_enter Tryz.func16, Tryz.ntmps16
  go_upto_region 1 with (fail)
  rw [← hW1]
  clear hW1
  go_wp2_with fail
  refine (HLE.out).mono ?_
  rintro e W2 ⟨fv, rfl, hof, hb⟩
  obtain ⟨af, cf, rfl⟩ := ownsRow_slice hof
  have HSF := hid (show SlOf W2 (.slice af f.length cf) 1 strC f from SlOf.own (by rw [flat_str]; exact hof) (fun _ _ => rfl))
  have HX2 := hid (HX1.out.below hb)
  have HB2 := hid (Below.step HB1.out hb)
  have y0 := HX2.out.cell (j := 0) rfl
  have yz := HX2.out.lt
  clear hof hb x0 x1 xz HLE
  by_cases hsc : x.script = k
  · subst hsc
    have gs : ((x.script : Int) == x.script) = true := by simp
    have HAT := hid (at_any L f i _ _ W2 (HV.out.below HB2.out) HSF.out (by omega) (by omega) (by omega))
    have HE := hid (show r = atB L i f by rw [HRR.out, decide_eq_true rfl, Bool.true_and])
    obtain ⟨fb, hfb⟩ : ∃ fb, fb = atB L i f := ⟨_, rfl⟩
    rw [← hfb] at HAT HE
    clear hfb
    go_wp2_with fail
    refine (HAT.out).mono ?_
    rintro e W3 ⟨rfl, hb⟩
    have HB3 := hid (Below.step HB2.out hb)
    clear hb
    go_wp2_with fail
    go_ret2
    rw [HE.out]
    exact ⟨rfl, HB3.out⟩
  · have gs : ((x.script : Int) == k) = false := by rw [beq_eq_false_iff_ne]; exact hsc
    have HE := hid (show r = false by rw [HRR.out, decide_eq_false hsc, Bool.false_and])
    clear hsc
    go_wp2_with fail
    go_ret2
    rw [HE.out]
    exact ⟨rfl, HB2.out⟩

end Go.Proofs.YtdchjacccmajcaaGreatDoor
