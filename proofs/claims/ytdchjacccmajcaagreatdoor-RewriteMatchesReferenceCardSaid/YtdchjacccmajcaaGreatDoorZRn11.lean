/-
  rewrite.Forms' answer whatever the table and the word; RewriteRules, plainly. Conditions: lengths; the library's tables.
-/
import Derived.Test.YtdchjacccmajcaaGreatDoorZRn10
namespace Fo
open Al (R)
/-- the answer, an argument's error too -/
def AnsX (t : Rw.Table) (k : Int) (L : List (List UInt8)) (most : Int) (out : List (List UInt8)) (costs : List Int) (err : Int) : Prop :=
  ((L = [] ∨ Rw.valid t = false) ∧ out = [] ∧ costs = [] ∧ err = 1) ∨ (L ≠ [] ∧ Rw.valid t = true ∧ Ans L (Al.rulesFrom k 0 t.rules) most out costs err)
section
variable {t : Rw.Table} {x : Rw.Rule} {k : Int} {L : List (List UInt8)} {most : Int} {a b c : List (List UInt8)} {m n q : List Int} {e f g : Int}
theorem AnsX.len (h : AnsX t k L most a m e) : m.length = a.length ∧ a.length ≤ 1000 := by
  rcases h with ⟨-, rfl, rfl, -⟩ | ⟨-, -, h⟩
  · exact ⟨rfl, by simp⟩
  · exact ⟨h.len.1, h.len.2.1⟩
theorem AnsX.same_of {t' : Rw.Table} (hv : Rw.valid t = true) (hv' : Rw.valid t' = true) (ha : Alike L (Al.rulesFrom k 0 t.rules) (Al.rulesFrom k 0 t'.rules)) (h : AnsX t k L most a m e) (h' : AnsX t' k L most b n f) : a = b ∧ m = n ∧ e = f := by
  rcases h with ⟨h1, rfl, rfl, rfl⟩ | ⟨h1, -, h⟩
  · rcases h' with ⟨-, rfl, rfl, rfl⟩ | ⟨h2, -, -⟩
    · exact ⟨rfl, rfl, rfl⟩
    · rcases h1 with h1 | h1
      · exact absurd h1 h2
      · rw [hv] at h1; cases h1
  · rcases h' with ⟨h2, -⟩ | ⟨-, -, h'⟩
    · rcases h2 with h2 | h2
      · exact absurd h2 h1
      · rw [hv'] at h2; cases h2
    · refine Ans.uniq (good_rules hv' k) ?_ h'
      cases h with
      | many h => exact .many (ha.many h)
      | ok h => exact .ok (ha.forms h)
theorem AnsX.back_ (hv : Rw.valid t = true) (h : AnsX t k L most a m e) (h' : AnsX (Rw.back t) k L most b n f) : a = b ∧ m = n ∧ e = f :=
  h.same_of hv (by rw [Rw.back_valid]; exact hv) (alike_back L t k) h'
theorem AnsX.no (hv : Rw.valid t = false) (h : AnsX t k L most a m e) : e = 1 := by
  rcases h with ⟨-, -, -, h⟩ | ⟨-, h, -⟩
  · exact h
  · rw [hv] at h; cases h
theorem AnsX.other (hv : Rw.valid t = true) (hv' : Rw.valid (Rw.backAnd t x) = true) (hx : ¬ x.script = k) (h : AnsX t k L most a m e) (h' : AnsX (Rw.backAnd t x) k L most c q g) : a = c ∧ m = q ∧ e = g :=
  h.same_of hv hv' (by rw [rules_other t hx]; exact alike_back L t k) h'
/-- where one of both has no forms -/
theorem AnsX.none_ (_hv : Rw.valid t = true) (hv' : Rw.valid (Rw.backAnd t x) = true) (h : AnsX t k L most a m e) (h' : AnsX (Rw.backAnd t x) k L most c q g) (he : ¬ e = 0) : g = e := by
  rcases h with ⟨h1, rfl, rfl, rfl⟩ | ⟨h1, _, h⟩
  · rcases h' with ⟨-, -, -, h⟩ | ⟨h2, -, -⟩
    · exact h
    · rcases h1 with h1 | h1
      · exact absurd h1 h2
      · rw [_hv] at h1; cases h1
  · rcases h' with ⟨h2, -⟩ | ⟨-, -, h'⟩
    · rcases h2 with h2 | h2
      · exact absurd h2 h1
      · rw [hv'] at h2; cases h2
    · cases h with
      | many h =>
        cases h' with
        | many _ => rfl
        | ok h' => exact absurd (h.more (rules_and t x k)) h'.not_many
      | ok h => exact absurd rfl he
theorem AnsX.forms (h : AnsX t k L most a m 0) : Forms lt L (Al.rulesFrom k 0 t.rules) most a m := by
  rcases h with ⟨-, -, -, h⟩ | ⟨-, -, h⟩
  · cases h
  · generalize hz : (0 : Int) = z at h
    cases h with
    | many _ => cases hz
    | ok h => exact h
/-- walking through both lists -/
def Behind (a c : List (List UInt8)) (i p : Nat) : Prop := ∀ j z x, j < p → c[j]? = some z → a[i]? = some x → z < x
theorem Behind.start : Behind a c 0 0 := fun j _ _ h => by omega
theorem Behind.step {i p : Nat} {z x : List UInt8} (h : Behind a c i p) (hz : c[p]? = some z) (hx : a[i]? = some x) (hlt : z < x) : Behind a c i (p + 1) := by
  intro j z' x' hj hz' hx'
  by_cases hjp : j = p
  · subst hjp
    rw [hz] at hz'
    rw [hx] at hx'
    cases hz'
    cases hx'
    exact hlt
  · exact h j z' x' (by omega) hz' hx'
theorem pairwise_at {l : List (List UInt8)} (h : l.Pairwise lt) {i j : Nat} {x y : List UInt8} (hij : i < j) (hx : l[i]? = some x) (hy : l[j]? = some y) : x < y := by
  obtain ⟨h1, e1⟩ := List.getElem?_eq_some_iff.1 hx
  obtain ⟨h2, e2⟩ := List.getElem?_eq_some_iff.1 hy
  have := List.pairwise_iff_getElem.1 h i j h1 h2 hij
  rw [e1, e2] at this
  exact this
theorem Behind.next {i p : Nat} (ha : a.Pairwise lt) (h : Behind a c i p) : Behind a c (i + 1) p := by
  intro j z x hj hz hx
  have hi : i < a.length := by have := (List.getElem?_eq_some_iff.1 hx).1; omega
  obtain ⟨y, hy⟩ : ∃ y, a[i]? = some y := ⟨_, List.getElem?_eq_getElem hi⟩
  exact lt_trans _ _ _ (h j z y hj hz hy) (pairwise_at ha (Nat.lt_succ_self i) hy hx)
/-- where the inner walk ends, the form stands -/
theorem Behind.found {rs rs' : List R} {i p : Nat} {x : List UInt8} {u : Int} (hs : ∀ r ∈ rs, ∃ r' ∈ rs', r'.cost = r.cost ∧ r'.from_ = r.from_ ∧ r'.to_ = r.to_) (hA : Forms lt L rs most a m) (hC : Forms lt L rs' most c q) (h : Behind a c i p) (hx : a[i]? = some x) (hu : m[i]? = some u)
    (hend : ∀ z, c[p]? = some z → ¬ z < x) : ∃ v, c[p]? = some x ∧ q[p]? = some v ∧ v ≤ u := by
  obtain ⟨j, v, h1, h2, h3⟩ := Forms.more hs hA hC hx hu
  have hj : j = p := by
    rcases Nat.lt_trichotomy j p with h4 | h4 | h4
    · exact absurd (h j x x h4 h1 hx) (lt_irrefl x)
    · exact h4
    · have hp : p < c.length := by have := (List.getElem?_eq_some_iff.1 h1).1; omega
      obtain ⟨z, hz⟩ : ∃ z, c[p]? = some z := ⟨_, List.getElem?_eq_getElem hp⟩
      exact absurd (pairwise_at hC.order h4 hz h1) (hend z hz)
  subst hj
  exact ⟨v, h1, h2, h3⟩
end
end Fo
namespace Go.Proofs.YtdchjacccmajcaaGreatDoor
open Go.RowKit Go.Lib Go.Maps

/-- Forms' answer -/
def FmX (t : Rw.Table) (k : Int) (L : List (List UInt8)) (most : Int) (W : World) (e : Ending) (W' : World) : Prop :=
  ∃ (out : List (List UInt8)) (costs : List Int) (err : Int) (oa : Option Addr) (oc : Nat) (ua : Option Addr) (uc : Nat), e = .returned (.tuple #[.slice oa out.length oc, .slice ua costs.length uc, .int .i64 err]) ∧ SlOf W' (.slice oa out.length oc) 1 strC out ∧ SlOf W' (.slice ua costs.length uc) 1 numC costs ∧ Fo.AnsX t k L most out costs err ∧ Below W.heap.size W W'
theorem forms_x {t : Rw.Table} {tv : Value} {k : Int} {word : ByteArray} {L : List (List UInt8)} (most : Int) {W : World} (ht : TableAt W t tv) (hT : Tabs W) (hw : word.size ≤ 1000000) (hL : Fo.letters k word.data.toList = L) :
    Calls Tryz.prog 17 #[tv, .int .i64 k, .string word, .int .i64 most] W (FmX t k L most W) := by
  refine (forms_any t tv k word most W ht hT hw).mono ?_
  rintro e W' ⟨hb, h⟩
  rw [hL] at h
  rcases h with ⟨h, rfl⟩ | ⟨h0, hv, ⟨h, rfl⟩ | ⟨v, u, o2, c2, rfl, h1, h2, h3⟩⟩
  · exact ⟨[], [], 1, none, 0, none, 0, rfl, SlOf.nil _ _ _, SlOf.nil _ _ _, .inl ⟨h, rfl, rfl, rfl⟩, hb⟩
  · exact ⟨[], [], 2, none, 0, none, 0, rfl, SlOf.nil _ _ _, SlOf.nil _ _ _, .inr ⟨h0, hv, .many h⟩, hb⟩
  · obtain ⟨oa, oc, rfl, -⟩ := id h1
    obtain ⟨ua, uc, rfl, -⟩ := id h2
    exact ⟨_, _, 0, oa, oc, ua, uc, rfl, h1, h2, .inr ⟨h0, hv, .ok h3⟩, hb⟩
theorem bs_less (a b : List UInt8) : Op.bytesLess (bs a).toList (bs b).toList = decide (a < b) := by
  have h : ∀ x : List UInt8, (bs x).toList = x := fun x => by rw [ByteArray.toList_eq]; rfl
  rw [h, h]
  exact bytesLess_eq a b

end Go.Proofs.YtdchjacccmajcaaGreatDoor
