/-
  rewrite.Forms' answer as a relation; folded words. Conditions: lengths; the library's tables.
-/
import Derived.Test.YtdchjacccmajcaaGreatDoorZRn7
namespace Fo
open Al (R)
/-- the answer: forms, costs, error -/
inductive Ans (L : List (List UInt8)) (rs : List R) (most : Int) : List (List UInt8) → List Int → Int → Prop
  | many : Many L rs most → Ans L rs most [] [] 2
  | ok {out : List (List UInt8)} {costs : List Int} : Forms lt L rs most out costs → Ans L rs most out costs 0
theorem Ans.uniq {L : List (List UInt8)} {rs : List R} {most : Int} {a b : List (List UInt8)} {m n : List Int} {e f : Int} (hg : Good rs) (h : Ans L rs most a m e) (g : Ans L rs most b n f) : a = b ∧ m = n ∧ e = f := by
  cases h with
  | many h =>
    cases g with
    | many _ => exact ⟨rfl, rfl, rfl⟩
    | ok g => exact absurd h g.not_many
  | ok h =>
    cases g with
    | many g => exact absurd g h.not_many
    | ok g =>
      obtain ⟨h1, h2⟩ := Forms.uniq lt_irrefl lt_asymm hg h g
      exact ⟨h1, h2, rfl⟩
theorem Ans.len {L : List (List UInt8)} {rs : List R} {most : Int} {a : List (List UInt8)} {m : List Int} {e : Int} (h : Ans L rs most a m e) : m.length = a.length ∧ a.length ≤ 1000 ∧ (e = 0 ∨ e = 2) := by
  cases h with
  | many _ => exact ⟨rfl, by simp, .inr rfl⟩
  | ok h => exact ⟨h.len, h.few, .inl rfl⟩
theorem letters_fold {k : Int} {s : List UInt8} {ls : List (List UInt8)} (h : Sc.lets k s = some ls) : letters k (Sc.fold s) = letters k s := by
  unfold letters
  rw [h, Sc.fold_fold, Sc.lets_fold h]
theorem letters_some {k : Int} {s : List UInt8} {ls : List (List UInt8)} (h : Sc.lets k s = some ls) : letters k s = ls.map Sc.fold ∧ letters k s ≠ [] := by
  have h1 : letters k s = ls.map Sc.fold := by
    unfold letters
    rw [h, Sc.lets_fold h]
    rfl
  refine ⟨h1, ?_⟩
  rw [h1]
  have := (Sc.lets_len h).1
  simpa using this
theorem letters_none {k : Int} {s : List UInt8} (h : Sc.lets k s = none) : letters k s = [] := by
  unfold letters
  rw [h]
theorem letters_ne {k : Int} {s : List UInt8} (h : letters k s ≠ []) : ∃ ls, Sc.lets k s = some ls := by
  cases hl : Sc.lets k s with
  | none => exact absurd (letters_none hl) h
  | some ls => exact ⟨ls, rfl⟩
end Fo
namespace Rw
theorem variants_fold {t : Table} {k : Int} {s : List UInt8} {ls : List (List UInt8)} (h : Sc.lets k s = some ls) : variants t k (Sc.fold s) = variants t k s := by
  unfold variants
  rw [Fo.letters_fold h]
theorem dropping_fold {t : Table} {k : Int} {s : List UInt8} {ls : List (List UInt8)} (h : Sc.lets k s = some ls) : dropping t k (Sc.fold s) = dropping t k s := by
  unfold dropping
  rw [h, Sc.lets_fold h, Sc.fold_fold]
end Rw
namespace Go.Proofs.YtdchjacccmajcaaGreatDoor
open Go.RowKit Go.Lib Go.Maps

/-- Forms' answer -/
def FmA (L : List (List UInt8)) (rs : List Al.R) (most : Int) (W : World) (e : Ending) (W' : World) : Prop :=
  ∃ (out : List (List UInt8)) (costs : List Int) (err : Int) (oa : Option Addr) (oc : Nat) (ua : Option Addr) (uc : Nat), e = .returned (.tuple #[.slice oa out.length oc, .slice ua costs.length uc, .int .i64 err]) ∧ SlOf W' (.slice oa out.length oc) 1 strC out ∧ SlOf W' (.slice ua costs.length uc) 1 numC costs ∧ Fo.Ans L rs most out costs err ∧ Below W.heap.size W W'
theorem forms_ans {t : Rw.Table} {tv : Value} {k : Int} {word : ByteArray} {L : List (List UInt8)} (most : Int) {W : World} (ht : TableAt W t tv) (hT : Tabs W) (hw : word.size ≤ 1000000) (hv : Rw.valid t = true) (hL : Fo.letters k word.data.toList = L) (hl : L ≠ []) :
    Calls Tryz.prog 17 #[tv, .int .i64 k, .string word, .int .i64 most] W (FmA L (Al.rulesFrom k 0 t.rules) most W) := by
  refine (forms_any t tv k word most W ht hT hw).mono ?_
  rintro e W' ⟨hb, h⟩
  rw [hL] at h
  rcases h with ⟨h, -⟩ | ⟨-, -, ⟨h, rfl⟩ | ⟨v, u, o2, c2, rfl, h1, h2, h3⟩⟩
  · rcases h with h | h
    · exact absurd h hl
    · rw [hv] at h; cases h
  · exact ⟨[], [], 2, none, 0, none, 0, rfl, SlOf.nil _ _ _, SlOf.nil _ _ _, .many h, hb⟩
  · obtain ⟨oa, oc, rfl, -⟩ := id h1
    obtain ⟨ua, uc, rfl, -⟩ := id h2
    exact ⟨_, _, 0, oa, oc, ua, uc, rfl, h1, h2, .ok h3, hb⟩

/-- the law file's letters -/
def Let10 (k : Int) (s : List UInt8) (w : World) (e : Ending) (w' : World) : Prop :=
  ∃ v, e = .returned v ∧ w'.ownsRow w.heap.size 9 1 v (Fo.letters k s).length ((Fo.letters k s).flatMap strC) ∧ Below w.heap.size w w'
set_option maxRecDepth 100000 in
set_option maxHeartbeats 2000000 in
theorem letters10_any (k : Int) (s : ByteArray) (w : World) (hs : s.size ≤ 1000000) (hT : Tabs w) : Calls Tryz.prog 13 #[.int .i64 k, .string s] w (Let10 k s.data.toList w) := by
  have HFO := hid (fold_any k s w hs hT)
  have HTT := hid hT
  cases hl : Sc.lets k s.data.toList with
  | none =>
    have HE := hid (Fo.letters_none hl)
    have HL := hid hl
    clear hl hT
    go_enter Tryz.func13, Tryz.ntmps13
    go_wp2_with fail
    refine (HFO.out).mono ?_
    rintro e W2 ⟨he, hb2⟩
    rw [HL.out] at he
    subst he
    have HB := hid hb2
    clear hb2
    go_wp2_with fail
    go_ret
    exact ⟨_, rfl, by rw [HE.out]; exact World.ownsRow_nil _ _ _ _, HB.out⟩
  | some ls =>
    have HL := hid hl
    have hfs : (bs (Sc.fold s.data.toList)).size ≤ 1000000 := by rw [bs_len]; unfold Sc.fold; rw [List.length_map]; simpa using hs
    have HE := hid (Fo.letters_some hl).1
    have HS2 := hid (Sc.lets_fold hl)
    clear hl hT
    go_enter Tryz.func13, Tryz.ntmps13
    go_wp2_with fail
    refine (HFO.out).mono ?_
    rintro e W2 ⟨he, hb2⟩
    rw [HL.out] at he
    subst he
    have HB := hid hb2
    have HLE := hid (letters_any k (bs (Sc.fold s.data.toList)) W2 hfs (HTT.out.below hb2))
    clear hb2
    go_wp2_with fail
    refine (HLE.out).mono ?_
    rintro e W3 h3
    unfold LettersPost at h3
    rw [bs_list, HS2.out] at h3
    obtain ⟨lv, rfl, hown, hb3⟩ := h3
    have HB3 := hid (Below.step HB.out hb3)
    have HO := hid (ownsRow_base hown HB.out.size)
    clear hb3 hown
    go_wp2_with fail
    go_ret
    exact ⟨_, rfl, by rw [HE.out, flat_str]; exact HO.out, HB3.out⟩

end Go.Proofs.YtdchjacccmajcaaGreatDoor
