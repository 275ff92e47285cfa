/-
  The forms of a word, reckoned: all rewritings as a list; what a list of forms has to be, tested. NO PROGRAM IN THIS TEXT.
-/
import Derived.Test.YtdchjacccmajcaaGreatDoorZFormE
namespace Fo
open Al (R fits)

/-- all rewritings from a place on, with their costs -/
def res (L : List (List UInt8)) (rs : List R) : Nat → Nat → List (List UInt8 × Int)
  | 0, _ => []
  | n + 1, i => (if i = L.length then [([], 0)] else []) ++ rs.flatMap fun r => if fits L r i then (res L rs n (i + r.from_.length)).map fun p => (r.to_ ++ p.1, r.cost + p.2) else []
section
variable {L : List (List UInt8)} {rs : List R}
theorem res_re : ∀ {n i : Nat} {p : List UInt8 × Int}, p ∈ res L rs n i → Re L rs i p.1 p.2
  | 0, _, _, h => by unfold res at h; cases h
  | n + 1, i, p, h => by
    unfold res at h
    rcases List.mem_append.1 h with h | h
    · split at h
      · rename_i hi
        rw [List.mem_singleton] at h
        subst h; subst hi
        exact Re.nil
      · cases h
    · obtain ⟨r, hr, h⟩ := List.mem_flatMap.1 h
      split at h
      · rename_i hf
        obtain ⟨q, hq, rfl⟩ := List.mem_map.1 h
        exact Re.cons hr hf (res_re hq)
      · cases h
theorem re_res (hg : Good rs) {i : Nat} {f : List UInt8} {c : Int} (h : Re L rs i f c) : ∀ n : Nat, L.length < n + i → (f, c) ∈ res L rs n i := by
  induction h with
  | nil =>
    intro n hn
    cases n with
    | zero => omega
    | succ n => unfold res; exact List.mem_append_left _ (by rw [if_pos rfl]; exact List.mem_singleton.2 rfl)
  | @cons i r f c hr hf h ih =>
    intro n hn
    have h1 := fits_le hf
    have h2 := hg.some_ r hr
    cases n with
    | zero => omega
    | succ n =>
      unfold res
      refine List.mem_append_right _ (List.mem_flatMap.2 ⟨r, hr, ?_⟩)
      rw [if_pos hf]
      exact List.mem_map.2 ⟨(f, c), ih n (by omega), rfl⟩

/-- is this the list of forms? -/
def isForms (L : List (List UInt8)) (rs : List R) (most : Int) (out : List (List UInt8)) (costs : List Int) : Bool :=
  decide (out.Pairwise (fun a b => a < b)) && decide (costs.length = out.length) && decide (out.length ≤ 1000) &&
  (out.zip costs).all (fun p => (res L rs (L.length + 1) 0).contains p && decide (p.2 ≤ most) && (res L rs (L.length + 1) 0).all fun q => !decide (q.1 = p.1) || decide (p.2 ≤ q.2)) &&
  (res L rs (L.length + 1) 0).all (fun q => !decide (q.2 ≤ most) || out.contains q.1)
theorem isForms_ok (hg : Good rs) {most : Int} {out : List (List UInt8)} {costs : List Int} (h : isForms L rs most out costs = true) : Forms lt L rs most out costs := by
  unfold isForms at h
  simp only [Bool.and_eq_true, decide_eq_true_eq, List.all_eq_true, Bool.or_eq_true, Bool.not_eq_true', decide_eq_false_iff_not] at h
  obtain ⟨⟨⟨⟨h1, h2⟩, h3⟩, h4⟩, h5⟩ := h
  refine ⟨h1, h2, h3, fun k f c hf hc => ?_, fun f c hr hm => ?_⟩
  · have hz : (f, c) ∈ out.zip costs := List.mem_of_getElem? (i := k) (by rw [List.getElem?_zip_eq_some]; exact ⟨hf, hc⟩)
    obtain ⟨⟨h6, h7⟩, h8⟩ := h4 _ hz
    refine ⟨⟨res_re (List.contains_iff_mem.1 h6), fun d hd => ?_⟩, h7⟩
    rcases h8 _ (re_res hg hd (L.length + 1) (by omega)) with h9 | h9
    · exact absurd rfl h9
    · exact h9
  · rcases h5 _ (re_res hg hr (L.length + 1) (by omega)) with h9 | h9
    · exact absurd hm h9
    · exact List.contains_iff_mem.1 h9
end
end Fo
