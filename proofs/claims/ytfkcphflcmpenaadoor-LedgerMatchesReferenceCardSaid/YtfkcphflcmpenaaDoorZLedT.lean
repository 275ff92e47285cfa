/-
  The trial accounts of a booking, as a function. NO PROGRAM IN THIS TEXT.
-/
import Derived.Test.YtfkcphflcmpenaaDoorZLed2
namespace Go.Proofs.YtfkcphflcmpenaaDoor
open Go.RowKit Go.Maps

/-- the accounts of a booking as they would be -/
def trialF (S : Lg.S) (l : List (ByteArray × Int)) : Value → Option Value
  | .string s => if hasP s l then (Lg.credit S s).map fun c => accV (Lg.sumB S.books s + Lg.sumP l s) c else none
  | _ => none

/-- accounts of which some have been replaced -/
def mixF (S : Lg.S) (l : List (ByteArray × Int)) (lf : Value → Bool) : Value → Option Value
  | .string s => if hasP s l && !lf (.string s) then (Lg.credit S s).map fun c => accV (Lg.sumB S.books s + Lg.sumP l s) c else accF S (.string s)
  | _ => none

theorem take_snoc {α : Type} {l : List α} {k : Nat} {p : α} (hp : l[k]? = some p) : l.take (k + 1) = l.take k ++ [p] := by
  obtain ⟨hk, hx⟩ := List.getElem?_eq_some_iff.1 hp
  rw [List.take_succ_eq_append_getElem hk, hx]

theorem hasP_no {l : List (ByteArray × Int)} (hd : (l.map Prod.fst).Nodup) {k : Nat} {p : ByteArray × Int} (hp : l[k]? = some p) : hasP p.1 (l.take k) = false := by
  rw [Bool.eq_false_iff]; intro h
  obtain ⟨hk, hx⟩ := List.getElem?_eq_some_iff.1 hp
  rw [← List.take_append_drop k l, List.map_append, List.nodup_append] at hd
  refine hd.2.2 p.1 (hasP_mem.1 h) p.1 ?_ rfl
  rw [List.drop_eq_getElem_cons hk, hx]
  simp

theorem trial_step {S : Lg.S} {l : List (ByteArray × Int)} (hd : (l.map Prod.fst).Nodup) {k : Nat} {p : ByteArray × Int} (hp : l[k]? = some p) {c : Bool} (hc : Lg.credit S p.1 = some c) :
    trialF S (l.take (k + 1)) (.string p.1) = some (accV (Lg.sumB S.books p.1 + p.2) c) ∧ ∀ y, y ≠ .string p.1 → trialF S (l.take (k + 1)) y = trialF S (l.take k) y := by
  have hn := hasP_no hd hp
  rw [take_snoc hp]
  constructor
  · unfold trialF
    simp only
    rw [show hasP p.1 (l.take k ++ [p]) = true by unfold hasP; simp, if_pos rfl, hc, Lg.sumP_append, Lg.sumP_none (fun q hq e => by
      have : hasP p.1 (l.take k) = true := by unfold hasP; rw [List.any_eq_true]; exact ⟨q, hq, by simpa using e⟩
      rw [hn] at this; cases this)]
    simp [Lg.sumP]
  · intro y hy
    unfold trialF
    split
    · rename_i s
      have hs : p.1 ≠ s := fun e => hy (by rw [e])
      have e1 : hasP s (l.take k ++ [p]) = hasP s (l.take k) := by unfold hasP; simp [hs]
      have e2 : Lg.sumP (l.take k ++ [p]) s = Lg.sumP (l.take k) s := by rw [Lg.sumP_append]; simp [Lg.sumP, hs]
      rw [e1, e2]
    · rfl

theorem trial_some {S : Lg.S} {l : List (ByteArray × Int)} {s : ByteArray} {v : Value} (h : trialF S l (.string s) = some v) : hasP s l = true ∧ ∃ c, Lg.credit S s = some c ∧ v = accV (Lg.sumB S.books s + Lg.sumP l s) c := by
  unfold trialF at h
  simp only at h
  split at h
  · rename_i hh
    refine ⟨hh, ?_⟩
    cases hc : Lg.credit S s with
    | none => rw [hc] at h; cases h
    | some c => rw [hc] at h; simp at h; exact ⟨c, rfl, h.symm⟩
  · cases h

theorem hasP_get {s : ByteArray} {l : List (ByteArray × Int)} (hd : (l.map Prod.fst).Nodup) (h : hasP s l = true) : ∃ p ∈ l, p.1 = s ∧ Lg.sumP l s = p.2 := by
  unfold hasP at h
  rw [List.any_eq_true] at h
  obtain ⟨p, hp, e⟩ := h
  simp only [decide_eq_true_eq] at e
  subst e
  exact ⟨p, hp, rfl, Lg.sumP_one hd hp⟩

/-- an account that would be below 0 -/
theorem below_yes {S : Lg.S} {l : List (ByteArray × Int)} (hd : (l.map Prod.fst).Nodup) {s : ByteArray} (h : hasP s l = true) (hc : Lg.credit S s = some false) (hn : Lg.sumB S.books s + Lg.sumP l s < 0) : Lg.below S l = true := by
  obtain ⟨p, hp, rfl, e⟩ := hasP_get hd h
  unfold Lg.below
  rw [List.any_eq_true]
  exact ⟨p, hp, by rw [hc, ← e]; simpa using hn⟩
theorem below_no {S : Lg.S} {l : List (ByteArray × Int)} (hd : (l.map Prod.fst).Nodup) (h : ∀ s, hasP s l = true → Lg.credit S s = some false → 0 ≤ Lg.sumB S.books s + Lg.sumP l s) : Lg.below S l = false := by
  unfold Lg.below
  rw [List.any_eq_false]
  intro p hp
  by_cases hc : Lg.credit S p.1 = some false
  · have := h p.1 (by unfold hasP; rw [List.any_eq_true]; exact ⟨p, hp, by simp⟩) hc
    rw [Lg.sumP_one hd hp] at this
    rw [hc]
    simp
    exact this
  · simp [hc]

theorem mix_step {S : Lg.S} {l : List (ByteArray × Int)} {lf lf' : Value → Bool} {s : ByteArray} {v : Value} (h : trialF S l (.string s) = some v) (h1 : lf' (.string s) = false) (h2 : ∀ y, y ≠ .string s → lf' y = lf y) :
    mixF S l lf' (.string s) = some v ∧ ∀ y, y ≠ .string s → mixF S l lf' y = mixF S l lf y := by
  obtain ⟨hh, c, hc, rfl⟩ := trial_some h
  constructor
  · unfold mixF
    simp only
    rw [hh, h1, hc]
    rfl
  · intro y hy
    unfold mixF
    split
    · rename_i t
      rw [h2 _ hy]
    · rfl
theorem mix_some {S : Lg.S} {l : List (ByteArray × Int)} {lf : Value → Bool} {s : ByteArray} {v : Value} (h : trialF S l (.string s) = some v) : (mixF S l lf (.string s)).isSome = true := by
  obtain ⟨hh, c, hc, rfl⟩ := trial_some h
  unfold mixF accF
  simp only
  split <;> simp [hc]
theorem mix_start {S : Lg.S} {l : List (ByteArray × Int)} {lf : Value → Bool} (h : ∀ s, (trialF S l (.string s)).isSome = true → lf (.string s) = true) (x : Value) : mixF S l lf x = accF S x := by
  unfold mixF
  split
  · rename_i s
    split
    · rename_i hh
      simp only [Bool.and_eq_true, Bool.not_eq_true'] at hh
      cases hc : Lg.credit S s with
      | none => unfold accF; simp [hc]
      | some c =>
        have := h s (by unfold trialF; simp only; rw [hh.1, hc]; rfl)
        rw [hh.2] at this; cases this
    · rfl
  · rename_i hno
    unfold accF
    split
    · exact absurd rfl (hno _)
    · rfl
theorem mix_end {S : Lg.S} {b : Lg.Bk} {lf : Value → Bool} (h : ∀ s, (Lg.credit S s).isSome = true → hasP s b.posts = true → lf (.string s) = false) (x : Value) : mixF S b.posts lf x = accF ⟨S.names, S.books ++ [b]⟩ x := by
  unfold mixF
  split
  · rename_i s
    have e0 : Lg.credit (⟨S.names, S.books ++ [b]⟩ : Lg.S) s = Lg.credit S s := rfl
    unfold accF
    simp only [e0, Lg.sumB_append, Lg.sumB, Int.add_zero]
    cases hc : Lg.credit S s with
    | none => simp
    | some c =>
      cases hh : hasP s b.posts with
      | true =>
        rw [h s (by rw [hc]; rfl) hh]
        rfl
      | false =>
        rw [Lg.sumP_none (fun q hq e => by
          have : hasP s b.posts = true := by unfold hasP; rw [List.any_eq_true]; exact ⟨q, hq, by simpa using e⟩
          rw [hh] at this; cases this)]
        simp
  · rename_i hno
    unfold accF
    split
    · exact absurd rfl (hno _)
    · rfl

theorem ids_new {S : Lg.S} {b : Lg.Bk} : idsF (⟨S.names, S.books ++ [b]⟩ : Lg.S) (.string b.id) = some (.bool true) ∧ ∀ y, y ≠ .string b.id → idsF (⟨S.names, S.books ++ [b]⟩ : Lg.S) y = idsF S y := by
  constructor
  · unfold idsF; simp
  · intro y hy
    unfold idsF
    split
    · rename_i s
      have hs : b.id ≠ s := fun e => hy (by rw [e])
      simp [hs]
    · rfl

end Go.Proofs.YtfkcphflcmpenaaDoor
