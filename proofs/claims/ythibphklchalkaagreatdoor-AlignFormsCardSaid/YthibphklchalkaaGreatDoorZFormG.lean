/-
  AlignItself and AlignForms, plainly, over what rewrite.Forms and align.Best answer. Plain.
-/
import Derived.Test.YthibphklchalkaaGreatDoorZFormE
import Derived.Test.YthibphklchalkaaGreatDoorZAlLaws
namespace Fo
open Go.Proofs.YthibphklchalkaaGreatDoor Go.Proofs.YthibphklchalkaaGreatDoor.Al

theorem best_noarg {t : Rw.Table} {a : Int} {x : List UInt8} (b : Int) (y : List UInt8) (h : letters a x = [] ∨ Rw.valid t = false) : (Al.bestOf t a x b y).2 = 1 := by
  have ho : Al.openB t a x b y = false := by
    unfold Al.openB
    rcases h with h | h
    · rw [side_none t.rules h]; rfl
    · rw [h, Bool.and_false]
  rw [Al.bestOf_no ho]
theorem open_two {t : Rw.Table} {a : Int} {x : List UInt8} {b : Int} {y : List UInt8} (hx : letters a x ≠ []) (hy : letters b y ≠ []) (hv : Rw.valid t = true) :
    ∃ S1 S2, Al.side t.rules a x = some S1 ∧ Al.side t.rules b y = some S2 ∧ Al.bestOf t a x b y = Al.best ⟨S1, S2⟩ ∧ Few ⟨S1, S2⟩ ∧ S1.letters = letters a x ∧ S1.rules = Al.rulesFrom a 0 t.rules ∧ S2.letters = letters b y ∧ S2.rules = Al.rulesFrom b 0 t.rules := by
  obtain ⟨S1, h1⟩ := side_letters t.rules hx
  obtain ⟨S2, h2⟩ := side_letters t.rules hy
  have ho : Al.openB t a x b y = true := by unfold Al.openB; rw [h1, h2, hv]; rfl
  obtain ⟨e1, e2, -⟩ := letters_side h1
  obtain ⟨e3, e4, -⟩ := letters_side h2
  exact ⟨S1, S2, h1, h2, Al.bestOf_eq ho h1 h2, few_valid hv h1 h2, e1, e2, e3, e4⟩
theorem itself_plain {t : Rw.Table} {a : Int} {x : List UInt8} (hx : letters a x ≠ []) (hv : Rw.valid t = true) {out : List (List UInt8)} {costs : List Int} (hF : Forms lt (letters a x) (Al.rulesFrom a 0 t.rules) 40 out costs) {least : Int} (hl : Least (fun c => c ∈ costs) least) :
    (Al.bestOf t a x a x).2 = 0 ∧ (Al.bestOf t a x a x).1.cost = 2 * least := by
  obtain ⟨S1, S2, h1, h2, h3, h4, h5, h6, -, -⟩ := open_two hx hx hv
  rw [h1] at h2
  cases h2
  rw [h3]
  exact law_itself h4.good h4.small (by rw [h5, h6]; exact hF) hl
theorem forms_plain {t : Rw.Table} {a : Int} {x : List UInt8} {b : Int} {y : List UInt8} (hx : letters a x ≠ []) (hy : letters b y ≠ []) (hv : Rw.valid t = true) {most : Int} {l k : List (List UInt8)} {m n : List Int} (h1 : Forms lt (letters a x) (Al.rulesFrom a 0 t.rules) most l m) (h2 : Forms lt (letters b y) (Al.rulesFrom b 0 t.rules) most k n)
    {least : Int} (hl : (least = -1 ∧ ∀ c, ¬ Common l k m n c) ∨ Least (Common l k m n) least) :
    (0 ≤ least → (Al.bestOf t a x b y).2 = 0 ∧ (Al.bestOf t a x b y).1.cost ≤ least) ∧ ((Al.bestOf t a x b y).2 = 0 → (Al.bestOf t a x b y).1.cost ≤ most → least = (Al.bestOf t a x b y).1.cost) := by
  obtain ⟨S1, S2, -, -, h3, h4, h5, h6, h7, h8⟩ := open_two hx hy hv
  rw [h3]
  exact law_forms h4.good h4.small (by show Forms lt S1.letters S1.rules most l m; rw [h5, h6]; exact h1) (by show Forms lt S2.letters S2.rules most k n; rw [h7, h8]; exact h2) hl
/-- the least of the first numbers -/
theorem least_first {m : List Int} {c : Int} (h : m[0]? = some c) : Least (fun d => d ∈ m.take 1) c := by
  cases m with
  | nil => cases h
  | cons d m =>
    simp at h
    subst h
    exact ⟨by simp, fun e he => by simp at he; omega⟩
theorem least_next {m : List Int} {i : Nat} {c e : Int} (h : m[i]? = some e) (hl : Least (fun d => d ∈ m.take i) c) : Least (fun d => d ∈ m.take (i + 1)) (min c e) := by
  have ht : m.take (i + 1) = m.take i ++ [e] := by
    obtain ⟨h1, h2⟩ := List.getElem?_eq_some_iff.1 h
    rw [List.take_succ_eq_append_getElem h1, h2]
  rw [ht]
  refine ⟨?_, fun d hd => ?_⟩
  · by_cases hle : c ≤ e
    · rw [Int.min_eq_left hle]; exact List.mem_append_left _ hl.1
    · rw [Int.min_eq_right (by omega)]; exact List.mem_append_right _ List.mem_cons_self
  · rcases List.mem_append.1 hd with hd | hd
    · have := hl.2 d hd; omega
    · rw [List.mem_singleton.1 hd]; omega
theorem forms_cost {L : List (List UInt8)} {rs : List Al.R} (hg : Good rs) (hL : L.length ≤ 12) {most : Int} {out : List (List UInt8)} {costs : List Int} (h : Forms lt L rs most out costs) {k : Nat} {c : Int} (hc : costs[k]? = some c) : 0 ≤ c ∧ c ≤ 12000 := by
  obtain ⟨f, hf⟩ : ∃ f, out[k]? = some f := ⟨_, List.getElem?_eq_getElem (by rw [← h.len]; exact (List.getElem?_eq_some_iff.1 hc).1)⟩
  have := (h.cost k f c hf hc).1.1.cost hg
  omega

end Fo
