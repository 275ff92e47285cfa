/-
  The statement LexerWords as the program computes it: true at every name, number, symbol and text. Conditions: none but Go's own bounds.
-/
import Derived.Test.YtlojckkccgpabaaDoorZLawCalls
namespace Go.Proofs.YtlojckkccgpabaaDoor
open Go.RowKit

/-- no quote and no line feed among the first bytes -/
def plainTo (t : ByteArray) (k : Nat) : Prop := (t.data.toList.take k).all Lx.inBody = true

theorem plain_snoc {t : ByteArray} {k : Nat} (hlt : k < t.size) (h : plainTo t k) (h1 : Lx.inBody t[k] = true) : plainTo t (k + 1) := by
  unfold plainTo at *
  rw [List.take_succ_eq_append_getElem (by simpa using hlt), List.all_append, h]
  simp
  exact h1

theorem body_of {c : UInt8} (h1 : ((c.toNat : Int) == 34) = false) (h2 : ((c.toNat : Int) == 10) = false) : Lx.inBody c = true := by
  have e1 : c ≠ 34 := by intro h; subst h; simp at h1
  have e2 : c ≠ 10 := by intro h; subst h; simp at h2
  simp [Lx.inBody, e1, e2]

/-- the symbols that the law draws from -/
theorem symbols {j : Nat} (h : j < 15) : ∃ c, (⟨#[61, 59, 60, 62, 40, 41, 123, 125, 91, 93, 44, 46, 58, 43, 45]⟩ : ByteArray).extract j (j + 1) = bs [c] ∧ (Lx.isAngle c = true ∨ Lx.isPlain c = true) := by
  have key : ∀ j, j < 15 → ∃ c, ((([61, 59, 60, 62, 40, 41, 123, 125, 91, 93, 44, 46, 58, 43, 45] : List UInt8).drop j).take (j + 1 - j)) = [c] ∧ (Lx.isAngle c = true ∨ Lx.isPlain c = true) := by
    intro j h
    match j, h with
    | 0, _ => exact ⟨61, rfl, by decide⟩
    | 1, _ => exact ⟨59, rfl, by decide⟩
    | 2, _ => exact ⟨60, rfl, by decide⟩
    | 3, _ => exact ⟨62, rfl, by decide⟩
    | 4, _ => exact ⟨40, rfl, by decide⟩
    | 5, _ => exact ⟨41, rfl, by decide⟩
    | 6, _ => exact ⟨123, rfl, by decide⟩
    | 7, _ => exact ⟨125, rfl, by decide⟩
    | 8, _ => exact ⟨91, rfl, by decide⟩
    | 9, _ => exact ⟨93, rfl, by decide⟩
    | 10, _ => exact ⟨44, rfl, by decide⟩
    | 11, _ => exact ⟨46, rfl, by decide⟩
    | 12, _ => exact ⟨58, rfl, by decide⟩
    | 13, _ => exact ⟨43, rfl, by decide⟩
    | 14, _ => exact ⟨45, rfl, by decide⟩
  obtain ⟨c, h1, h2⟩ := key j h
  exact ⟨c, bs_ext (by rw [extract_list]; exact h1), h2⟩

/-- the four tokens -/
def four (nm t : ByteArray) (c : UInt8) (n : Nat) : List (Nat × Lx.Tk) :=
  [(0, ⟨1, 0, nm.data.toList⟩), (nm.data.toList.length, ⟨4, 0, [c]⟩), (nm.data.toList.length + 1, ⟨2, n, Lx.dec n⟩), (nm.data.toList.length + 1 + (Lx.dec n).length, ⟨3, 0, t.data.toList⟩)]

theorem four_lu {nm t : ByteArray} {c : UInt8} {n : Nat} (h1 : nameB nm = true) (h2 : Lx.isAngle c = true ∨ Lx.isPlain c = true) (h3 : n < 10000000000000) (h4 : t.size ≤ 400) (h5 : t.data.toList.all Lx.inBody = true) :
    Lx.lu (nm ++ bs [c] ++ bs (Lx.dec n) ++ ⟨#[34]⟩ ++ t ++ ⟨#[34]⟩).data.toList = .ok (four nm t c n) := by
  simp only [app_list, bs_list]
  simp only [nameB, Bool.and_eq_true, decide_eq_true_eq] at h1
  obtain ⟨⟨⟨n1, n2⟩, n3⟩, n4⟩ := h1
  obtain ⟨d1, d2, d3, d4⟩ := Lx.dec_facts n
  refine Lx.words ?_ ?_ ?_ ?_
  · refine .inl ⟨rfl, rfl, by simpa using n3, n1, ?_⟩
    show ∃ c s, nm.data.toList = c :: s ∧ _
    cases hl : nm.data.toList with
    | nil => rw [hl] at n4; cases n4
    | cons a b => rw [hl] at n4; exact ⟨a, b, rfl, by simpa using n4⟩
  · exact .inr (.inr (.inr ⟨rfl, rfl, c, .inr ⟨rfl, h2⟩⟩))
  · exact .inr (.inl ⟨rfl, d3.symm, d4 13 (by decide) h3, d1, d2⟩)
  · exact .inr (.inr (.inl ⟨rfl, rfl, by simpa using h4, h5⟩))

set_option maxRecDepth 100000 in
set_option maxHeartbeats 1600000 in
theorem law_words (nm : ByteArray) (number : Int) (symbol : Int) (t : ByteArray) (w : World) (hs : nm.size ≤ maxLen) (hn : (Lit.int .u64 number).wf = true) (hy : (Lit.int .u8 symbol).wf = true) (ht : t.size ≤ maxLen) :
    Calls Tryd.prog 10 #[.string nm, .int .u64 number, .int .u8 symbol, .string t] w (Gives (.bool true) w) := by
  unfold maxLen at hs ht
  obtain ⟨n0, n1⟩ : 0 ≤ number ∧ number ≤ 18446744073709551615 := by
    simp only [Lit.wf, Bool.and_eq_true, decide_eq_true_eq] at hn
    exact ⟨hn.1, hn.2⟩
  obtain ⟨y0, y1⟩ : 0 ≤ symbol ∧ symbol ≤ 255 := by
    simp only [Lit.wf, Bool.and_eq_true, decide_eq_true_eq] at hy
    exact ⟨hy.1, hy.2⟩
  clear hn hy
  obtain ⟨m, rfl⟩ := Int.eq_ofNat_of_zero_le n0
  obtain ⟨y, rfl⟩ := Int.eq_ofNat_of_zero_le y0
  have hm : m % 10000000000000 < 10000000000000 := Nat.mod_lt _ (by decide)
  go_enter Tryd.func10, Tryd.ntmps10
  go_wp2_with (go_at_call 11; refine (head_true _).mono ?_; rintro e w1 ⟨rfl, hb1⟩)
  refine (name_any nm w1 (by unfold maxLen; omega)).mono ?_
  rintro e w2 ⟨rfl, hw2⟩
  subst hw2
  cases hname : nameB nm with
  | false =>
    go_wp2
    go_ret
    exact ⟨rfl, hb1⟩
  | true =>
    by_cases h4 : (400 : Int) < t.size
    · go_wp2
      go_ret
      exact ⟨rfl, hb1⟩
    have hN := hid hname
    clear hname
    go_wp2
    go_loop [10] (fun i => ∃ k : Nat, k ≤ t.size ∧ i = .int .i64 k ∧ Hid (plainTo t k)) (fun i => t.size - (intOf i).toNat)
    case atStart => exact ⟨0, Nat.zero_le _, rfl, by simp [Hid, plainTo]⟩
    case round =>
      obtain ⟨k, hk, rfl, hpl⟩ := hrel
      by_cases hlt : k < t.size
      · by_cases q1 : ((t[k].toNat : Int) == 34) = true
        · go_wp2
          go_ret
          exact ⟨rfl, hb1⟩
        by_cases q2 : ((t[k].toNat : Int) == 10) = true
        · have q1' : ((t[k].toNat : Int) == 34) = false := by simpa using q1
          go_wp2
          go_ret
          exact ⟨rfl, hb1⟩
        have q1' : ((t[k].toNat : Int) == 34) = false := by simpa using q1
        have q2' : ((t[k].toNat : Int) == 10) = false := by simpa using q2
        have H2 := hid (plain_snoc hlt hpl.out (body_of q1' q2'))
        clear q1 q2
        go_wp2
        go_round
        case rel => exact ⟨k + 1, by omega, by go_num, H2⟩
        case measure => simp [intOf]; omega
      · have hall := hid (show t.data.toList.all Lx.inBody = true by have := hpl.out; unfold plainTo at this; rwa [List.take_of_length_le (by simp; omega)] at this)
        have i1 := decimal_any (m % 10000000000000) w2 hm
        rw [show ((m % 10000000000000 : Nat) : Int) = (m : Int) % 10000000000000 by omega] at i1
        have I1 := hid i1
        have hd13 : (bs (Lx.dec (m % 10000000000000))).size ≤ 13 := by rw [bs_size]; exact dec_size hm
        have hn24 : nm.size ≤ 24 := by have := hN.out; simp only [nameB, Bool.and_eq_true, decide_eq_true_eq] at this; exact this.1.2
        obtain ⟨j, hj⟩ : ∃ j : Nat, (y : Int) % 15 = (j : Int) := ⟨y % 15, by omega⟩
        have hj15 : j < 15 := by omega
        clear i1
        go_wp2_with fail
        refine (I1.out).mono ?_
        rintro e w3 ⟨rfl, hw3⟩
        subst hw3
        go_wp2_with fail
        obtain ⟨c, hc1, hc2⟩ := symbols hj15
        rw [hc1]
        have hl := hid (four_lu (t := t) hN.out hc2 hm (by omega) hall.out)
        have h5 : (nm ++ bs [c] ++ bs (Lx.dec (m % 10000000000000)) ++ ⟨#[34]⟩ ++ t ++ ⟨#[34]⟩).size ≤ 5000 := by
          simp only [ByteArray.size_append, show (⟨#[34]⟩ : ByteArray).size = 1 from rfl, show (bs [c]).size = 1 from rfl]
          omega
        refine (lex_toks w3 hl.out h5).mono ?_
        rintro e w4 ⟨v, rfl, hv, hb4⟩
        obtain ⟨cap, m1, m2, m3⟩ := hv
        rcases m3 with ⟨m3, _⟩ | ⟨g, o, rfl, hr⟩
        · cases m3
        have A0 := hr.2 0 _ rfl
        have A1 := hr.2 1 _ rfl
        have A2 := hr.2 2 _ rfl
        have A3 := hr.2 3 _ rfl
        have hg := hr.1
        have en : bs nm.data.toList = nm := rfl
        have et : bs t.data.toList = t := rfl
        have ln : nm.data.toList.length = nm.size := by simp
        have ld : (Lx.dec (m % 10000000000000)).length = (bs (Lx.dec (m % 10000000000000))).size := (bs_size _).symm
        have a0 : w4.cell? ⟨g, o, none⟩ = some (.int .i64 1) := A0.c0
        have a1 : w4.cell? ⟨g, o + 1, none⟩ = some (.int .i64 0) := A0.c1
        have a2 : w4.cell? ⟨g, o + 2, none⟩ = some (.int .i64 0) := A0.c2
        have a3 : w4.cell? ⟨g, o + 3, none⟩ = some (.string nm) := A0.c3
        have b0 : w4.cell? ⟨g, o + 4, none⟩ = some (.int .i64 4) := A1.c0
        have b1 : w4.cell? ⟨g, o + 4 + 1, none⟩ = some (.int .i64 nm.size) := by rw [← ln]; exact A1.c1
        have b2 : w4.cell? ⟨g, o + 4 + 2, none⟩ = some (.int .i64 0) := A1.c2
        have b3 : w4.cell? ⟨g, o + 4 + 3, none⟩ = some (.string (bs [c])) := A1.c3
        have c0 : w4.cell? ⟨g, o + 8, none⟩ = some (.int .i64 2) := A2.c0
        have c1 : w4.cell? ⟨g, o + 8 + 1, none⟩ = some (.int .i64 ((nm.size : Int) + 1)) := by rw [← ln]; exact A2.c1
        have c2 : w4.cell? ⟨g, o + 8 + 2, none⟩ = some (.int .i64 ((m : Int) % 10000000000000)) := by
          rw [show (m : Int) % 10000000000000 = ((m % 10000000000000 : Nat) : Int) by omega]; exact A2.c2
        have c3 : w4.cell? ⟨g, o + 8 + 3, none⟩ = some (.string (bs (Lx.dec (m % 10000000000000)))) := A2.c3
        have d0 : w4.cell? ⟨g, o + 12, none⟩ = some (.int .i64 3) := A3.c0
        have d1 : w4.cell? ⟨g, o + 12 + 1, none⟩ = some (.int .i64 ((nm.size : Int) + 1 + (bs (Lx.dec (m % 10000000000000))).size)) := by rw [← ln, ← ld]; exact A3.c1
        have d2 : w4.cell? ⟨g, o + 12 + 2, none⟩ = some (.int .i64 0) := A3.c2
        have d3 : w4.cell? ⟨g, o + 12 + 3, none⟩ = some (.string t) := A3.c3
        have HB := hid (Below.step hb1 hb4)
        clear A0 A1 A2 A3 hr en et ln ld hb1 hb4
        have l4 : (four nm t c (m % 10000000000000)).length = 4 := rfl
        rw [l4] at m1 ⊢
        unfold maxLen at m2
        go_wp2_with fail
        go_ret
        exact ⟨rfl, HB.out⟩

end Go.Proofs.YtlojckkccgpabaaDoor
