/-
  Several texts in one: ZLiMem, ZLiAid, ZLi1, ZLi2, ZLi4, ZLi5, ZLi3, ZLi7, ZLi8, ZLi9. Conditions: as each law says.
-/
import Derived.Test.YtidkmhokolknbaaGreatDoorZTch
import Derived.Test.YtidkmhokolknbaaGreatDoorZMLiP
import Derived.Test.YtidkmhokolknbaaGreatDoorZLexLib1
import Derived.Test.YtidkmhokolknbaaGreatDoorZMPlain
import Derived.Test.YtidkmhokolknbaaGreatDoorZScr1
import Derived.Test.YtidkmhokolknbaaGreatDoorZTok
import Derived.Test.YtidkmhokolknbaaGreatDoorZLexF
import Derived.Test.YtidkmhokolknbaaGreatDoorZScr3
import Derived.Test.YtidkmhokolknbaaGreatDoorZFaLib
namespace Go.Proofs.YtidkmhokolknbaaGreatDoor
open Go.RowKit Go.Maps

def strC (s : List UInt8) : List Value := [.string (bs s)]
def nmC (p : Li.Nm × Value) : List Value := [.int .i64 p.1.script, p.2]
def nmV (p : Li.Nm × Value) : Value := .agg #[.int .i64 p.1.script, p.2]
/-- a name's words -/
def NmAt (w : World) (p : Li.Nm × Value) : Prop := SlOf w p.2 1 strC p.1.words
/-- a slice of names -/
def NmSl (w : World) (v : Value) (l : List Li.Nm) : Prop := ∃ ps : List (Li.Nm × Value), ps.map Prod.fst = l ∧ SlOf w v 2 nmC ps ∧ ∀ p ∈ ps, NmAt w p
def enC (p : Li.En × Value) : List Value := [.string (bs p.1.id), p.2]
def enV (p : Li.En × Value) : Value := .agg #[.string (bs p.1.id), p.2]
def EnSl (w : World) (v : Value) (l : List Li.En) : Prop := ∃ ps : List (Li.En × Value), ps.map Prod.fst = l ∧ SlOf w v 2 enC ps ∧ ∀ p ∈ ps, NmSl w p.2 p.1.names
def lsC (p : Li.Ls × Value) : List Value := [.string (bs p.1.en.id), p.2, .int .i64 p.1.from_, .int .i64 p.1.to_, .bool p.1.void]
def lsV (p : Li.Ls × Value) : Value := .agg #[.string (bs p.1.en.id), p.2, .int .i64 p.1.from_, .int .i64 p.1.to_, .bool p.1.void]
def LsSl (w : World) (v : Value) (l : List Li.Ls) : Prop := ∃ ps : List (Li.Ls × Value), ps.map Prod.fst = l ∧ SlOf w v 5 lsC ps ∧ ∀ p ∈ ps, NmSl w p.2 p.1.en.names
def chV (c : Li.Ch) (u : Value) : Value := .agg #[.int .i64 c.kind, .string (bs c.id), .string (bs c.en.id), u, .int .i64 c.at_]
def chC (p : Li.Ch × Value) : List Value := [.int .i64 p.1.kind, .string (bs p.1.id), .string (bs p.1.en.id), p.2, .int .i64 p.1.at_]

section
variable {w w' : World} {v : Value}
theorem NmAt.below {p : Li.Nm × Value} (h : NmAt w p) (hb : Below w.heap.size w w') : NmAt w' p := SlOf.below h hb
theorem NmSl.below {l : List Li.Nm} (h : NmSl w v l) (hb : Below w.heap.size w w') : NmSl w' v l := by
  obtain ⟨ps, h1, h2, h3⟩ := h
  exact ⟨ps, h1, h2.below hb, fun p hp => (h3 p hp).below hb⟩
theorem EnSl.below {l : List Li.En} (h : EnSl w v l) (hb : Below w.heap.size w w') : EnSl w' v l := by
  obtain ⟨ps, h1, h2, h3⟩ := h
  exact ⟨ps, h1, h2.below hb, fun p hp => (h3 p hp).below hb⟩
theorem LsSl.below {l : List Li.Ls} (h : LsSl w v l) (hb : Below w.heap.size w w') : LsSl w' v l := by
  obtain ⟨ps, h1, h2, h3⟩ := h
  exact ⟨ps, h1, h2.below hb, fun p hp => (h3 p hp).below hb⟩
theorem NmSl.nil (w : World) : NmSl w (.slice none 0 0) [] := ⟨[], rfl, SlOf.nil _ _ _, fun p hp => by cases hp⟩
theorem EnSl.nil (w : World) : EnSl w (.slice none 0 0) [] := ⟨[], rfl, SlOf.nil _ _ _, fun p hp => by cases hp⟩
theorem LsSl.nil (w : World) : LsSl w (.slice none 0 0) [] := ⟨[], rfl, SlOf.nil _ _ _, fun p hp => by cases hp⟩
end

end Go.Proofs.YtidkmhokolknbaaGreatDoor

namespace Go.Proofs.YtidkmhokolknbaaGreatDoor
open Go.RowKit Go.Maps Go.Lib

theorem bs_inj {a b : List UInt8} (h : bs a = bs b) : a = b := by
  have := congrArg (fun x => x.data.toList) h
  simpa [bs] using this
theorem bs_iff {a b : List UInt8} : bs a = bs b ↔ a = b := ⟨bs_inj, fun h => by rw [h]⟩
theorem name_beq (a b : List UInt8) : ((bs a).toList == (bs b).toList) = decide (a = b) := by
  rw [byteList_beq]
  by_cases h : a = b
  · subst h
    simp
  · have h2 : ¬ (bs a).data.toList = (bs b).data.toList := h
    simp only [decide_eq_false h]
    exact decide_eq_false h2
theorem list_beq (a b : ByteArray) : (a.toList == b.toList) = decide (a = b) := by
  rw [byteList_beq]
  have : a.data.toList = b.data.toList ↔ a = b := ⟨fun h => by
    obtain ⟨⟨x⟩⟩ := a; obtain ⟨⟨y⟩⟩ := b; simp at h; rw [h], fun h => by rw [h]⟩
  simp only [this]
theorem blk_set {w : World} {g : Nat} {t : TypeId} {cs : Array Value} (h : w.heap[g]? = some (.cells cs t (0, 0))) (i : Nat) (u : Value) : (w.setCell ⟨g, i, none⟩ u).heap[g]? = some (.cells (cs.setIfInBounds i u) t (0, 0)) := by
  simp [World.setCell, Array.getElem?_modify, h]
theorem bs_app (a b : List UInt8) : bs a ++ bs b = bs (a ++ b) := bs_ext (by simp [bs])
theorem take_snoc {α : Type} {l : List α} {k : Nat} {x : α} (h : l[k]? = some x) : l.take (k + 1) = l.take k ++ [x] := by
  obtain ⟨hk, hx⟩ := List.getElem?_eq_some_iff.1 h
  rw [List.take_succ_eq_append_getElem hk, hx]
theorem drop_cons {α : Type} {l : List α} {k : Nat} {x : α} (h : l[k]? = some x) : l.drop k = x :: l.drop (k + 1) := by
  obtain ⟨hk, hx⟩ := List.getElem?_eq_some_iff.1 h
  rw [List.drop_eq_getElem_cons hk, hx]

end Go.Proofs.YtidkmhokolknbaaGreatDoor

namespace Go.Proofs.YtidkmhokolknbaaGreatDoor
open Go.RowKit Go.Lib Go.Maps

set_option maxRecDepth 100000 in
set_option maxHeartbeats 2000000 in
theorem ident_lg (t : ByteArray) (w : World) (hs : t.size ≤ 5000) : Calls Tryz.prog 56 #[.string t] w (Gives (.bool (Lg.nm t)) w) := by
  have HN := Lg.ident_nm hs
  unfold Lg.identP at HN
  have hm : t.size ≤ maxLen := by unfold maxLen; omega
  have HL := hid (lex_any t w hm)
  clear hs hm
  go_enter Tryz.func56, Tryz.ntmps56
  go_wp2_with fail
  refine (HL.out).mono ?_
  rintro e w1 ⟨v, rfl, ho, hb⟩
  have HT := TokSl.of_owns ho
  have HB := hid hb
  clear ho hb HL
  generalize Lx.lex t.data.toList = r at HN HT ⊢
  obtain ⟨l, x, y⟩ := r
  simp only at HN HT ⊢
  obtain ⟨cap, k1, k2, HT⟩ := HT
  by_cases hx : x = 0
  · subst hx
    rcases l with _ | ⟨p, _ | ⟨q, l⟩⟩
    · have hn := hid (show Lg.nm t = false by rw [Bool.eq_false_iff]; intro h; have := HN.2 h; simp at this)
      clear HN
      obtain ⟨a, hv⟩ : ∃ a, v = .slice a 0 cap := by
        rcases HT with ⟨_, rfl⟩ | ⟨g, o, rfl, _⟩
        · exact ⟨_, rfl⟩
        · exact ⟨_, rfl⟩
      subst hv
      clear HT k1 k2
      go_wp2
      go_ret
      exact ⟨ret_bool hn.out.symm, HB.out⟩
    · rcases HT with ⟨h, _⟩ | ⟨g, o, rfl, hr⟩
      · cases h
      · obtain ⟨c0, c1, c2, c3⟩ := hr.2 0 p rfl
        rw [Nat.zero_mul, Nat.add_zero] at c0 c1 c2 c3
        have hg := hr.1
        clear hr c1 c2
        by_cases hk : p.2.kind = 1
        · rw [hk] at c0
          have hl := list_beq (bs p.2.text) t
          cases hd : decide (bs p.2.text = t) with
          | true =>
            rw [hd] at hl
            have hn := hid (show Lg.nm t = true from HN.1 ⟨rfl, p.1, p.2.n, by
              obtain ⟨o, k, n, x⟩ := p
              simp only at hk hd
              subst hk
              rw [decide_eq_true_eq] at hd
              rw [← hd]
              rfl⟩)
            clear HN hd hk
            simp only [List.length_cons, List.length_nil] at k1 ⊢
            go_wp2
            go_ret
            exact ⟨ret_bool hn.out.symm, HB.out⟩
          | false =>
            rw [hd] at hl
            have hn := hid (show Lg.nm t = false by
              rw [Bool.eq_false_iff]; intro h
              obtain ⟨_, o, n, e⟩ := HN.2 h
              simp only [List.cons.injEq, and_true] at e
              rw [e] at hd
              simp only [decide_eq_false_iff_not] at hd
              exact hd rfl)
            clear HN hd hk
            simp only [List.length_cons, List.length_nil] at k1 ⊢
            go_wp2
            go_ret
            exact ⟨ret_bool hn.out.symm, HB.out⟩
        · have hk' : ((p.2.kind : Int) == 1) = false := by rw [beq_eq_false_iff_ne]; omega
          have hn := hid (show Lg.nm t = false by
            rw [Bool.eq_false_iff]; intro h
            obtain ⟨_, o, n, e⟩ := HN.2 h
            simp only [List.cons.injEq, and_true] at e
            rw [e] at hk
            exact hk rfl)
          clear HN hk
          simp only [List.length_cons, List.length_nil] at k1 ⊢
          go_wp2
          go_ret
          exact ⟨ret_bool hn.out.symm, HB.out⟩
    · have hn := hid (show Lg.nm t = false by rw [Bool.eq_false_iff]; intro h; obtain ⟨_, o, n, e⟩ := HN.2 h; simp at e)
      clear HN
      obtain ⟨n, hn2, e⟩ : ∃ n : Nat, 2 ≤ n ∧ (p :: q :: l).length = n := ⟨_, by simp, rfl⟩
      rw [e] at HT k1
      obtain ⟨a, hv⟩ : ∃ a, v = .slice a n cap := by
        rcases HT with ⟨h, rfl⟩ | ⟨g, o, rfl, _⟩
        · cases h
        · exact ⟨_, rfl⟩
      subst hv
      clear HT k1 k2 e
      have hne : ((n : Int) == 1) = false := by rw [beq_eq_false_iff_ne]; omega
      go_wp2
      go_ret
      exact ⟨ret_bool hn.out.symm, HB.out⟩
  · have hn := hid (show Lg.nm t = false by rw [Bool.eq_false_iff]; intro h; exact hx (HN.2 h).1)
    have hx' : (x == 0) = false := by rw [beq_eq_false_iff_ne]; exact hx
    clear HN HT hx
    go_wp2
    go_ret
    exact ⟨ret_bool hn.out.symm, HB.out⟩

theorem ident_any (s : List UInt8) (w : World) (hs : s.length ≤ 5000) : Calls Tryz.prog 56 #[.string (bs s)] w (Gives (.bool (Li.ident s)) w) := by
  have h := ident_lg (bs s) w (by rw [bs_len]; exact hs)
  have e : Lg.nm (bs s) = Li.ident s := by
    unfold Lg.nm Li.ident
    rw [bs_len]
    rfl
  rw [e] at h
  exact h

end Go.Proofs.YtidkmhokolknbaaGreatDoor

namespace Go.Proofs.YtidkmhokolknbaaGreatDoor
open Go.RowKit Go.Lib Go.Maps

/-- is every one of these a word? -/
def lettersOk (k : Int) (l : List (List UInt8)) : Bool := l.all fun w => (Sc.lets k w).isSome
theorem lettersOk_step {k : Int} {l : List (List UInt8)} {i : Nat} {x : List UInt8} (hx : l[i]? = some x) : lettersOk k (l.take (i + 1)) = (lettersOk k (l.take i) && (Sc.lets k x).isSome) := by
  unfold lettersOk
  rw [take_snoc hx, List.all_append]
  simp
theorem lettersOk_no {k : Int} {l : List (List UInt8)} {x : List UInt8} (hx : x ∈ l) (h : Sc.lets k x = none) : lettersOk k l = false := by
  rw [Bool.eq_false_iff]; intro e
  unfold lettersOk at e
  have := List.all_eq_true.1 e x hx
  rw [h] at this
  cases this
theorem nmOk_of (n : Li.Nm) : Li.nmOk n = (lettersOk n.script n.words && decide (0 < n.words.length) && decide (n.words.length ≤ 6)) := rfl

/-- a name's two cells -/
theorem name_box {w W : World} {k : Int} {v : Value} (h : W = w.alloc (.cells #[.int .i64 k, v] 73)) : W.cell? ⟨w.heap.size, 0, none⟩ = some (.int .i64 k) ∧ W.cell? ⟨w.heap.size, 1, none⟩ = some v ∧ w.heap.size < W.heap.size ∧ Below w.heap.size w W := by
  subst h
  exact ⟨by rw [World.cell?_alloc_at _ _ _ _ rfl]; rfl, by rw [World.cell?_alloc_at _ _ _ _ rfl]; rfl, by rw [World.size_alloc]; omega, (Below.refl _ w).alloc (Nat.le_refl _) _⟩

set_option maxRecDepth 100000 in
set_option maxHeartbeats 4000000 in
theorem scrValid_any (n : Li.Nm) (v : Value) (w : World) (h : NmAt w (n, v)) (hw : ∀ x ∈ n.words, x.length ≤ 1000000) (hT : Tabs w) : Calls Tryz.prog 55 #[nmV (n, v)] w (Gives (.bool (Li.nmOk n)) w) := by
  unfold nmV
  simp only
  obtain ⟨W1, hW1⟩ : ∃ W1, W1 = w.alloc (.cells #[.int .i64 n.script, v] 73) := ⟨_, rfl⟩
  obtain ⟨c0, c1, z1, hb1⟩ := name_box hW1
  have HB := hid hb1
  have HS := hid h
  have HN := hid hw
  have HT := hid (hT.below hb1)
  have HC := hid (And.intro c0 c1)
  have HZ := hid z1
  obtain ⟨va, cap, e, k1, k2, -⟩ := h
  simp only at e k1 k2
  subst e
  have hl1 : n.words.length ≤ 9223372036854775807 := by unfold maxLen at k2; omega
  clear k1 k2 hb1 hw hT
  go_enter Tryz.func55, Tryz.ntmps55
  go_upto_region 1 with (fail)
  rw [← hW1]
  clear hW1
  go_wp2_with fail
  go_loopw [10] (fun iv wr => ∃ k : Nat, k ≤ n.words.length ∧ iv = .int .i64 k ∧ Hid (lettersOk n.script (n.words.take k) = true) ∧ Hid (Below W1.heap.size W1 wr)) (fun iv _ => n.words.length - (RowKit.intOf iv).toNat)
  case atStart => exact ⟨0, Nat.zero_le _, rfl, by simp [Hid, lettersOk], Below.refl _ _⟩
  case round =>
    obtain ⟨k, hk, rfl, HV, HR⟩ := hrel
    have HBR := hid (Below.step HB.out HR.out)
    clear c0 c1 z1
    have c0 := (HR.out.cell (p := ⟨w.heap.size, 0, none⟩) HZ.out).trans HC.out.1
    have c1 := (HR.out.cell (p := ⟨w.heap.size, 1, none⟩) HZ.out).trans HC.out.2
    have z1 := Nat.lt_of_lt_of_le HZ.out HR.out.size
    by_cases hlt : k < n.words.length
    · obtain ⟨x, hx⟩ : ∃ x, n.words[k]? = some x := ⟨_, List.getElem?_eq_getElem hlt⟩
      obtain ⟨g, o, rfl, hg, e0⟩ : ∃ g o, va = some ⟨g, o, none⟩ ∧ g < wr.heap.size ∧ wr.cell? ⟨g, o + k, none⟩ = some (.string (bs x)) := by
        obtain ⟨a', cap', ev, -, -, hr⟩ := HS.out.below HBR.out
        simp only at ev hr
        cases ev
        obtain ⟨g, o, ea, hr⟩ := hr (by omega)
        refine ⟨g, o, ea, hr.1, ?_⟩
        have := hr.2 k x hx 0 _ rfl
        simpa using this
      have hk0 : (0 : Int) ≤ (k : Int) := by omega
      have hk1 : (k : Int) < (n.words.length : Int) := by omega
      have HX := hid hx
      have HL := hid (letters_any n.script (bs x) wr (by rw [bs_len]; exact HN.out x (List.mem_of_getElem? hx)) (HT.out.below HR.out))
      clear hx
      go_wp2_with fail
      refine (HL.out).mono ?_
      rintro e2 w2 h2
      unfold LettersPost at h2
      rw [show (bs x).data.toList = x from rfl] at h2
      cases hl : Sc.lets n.script x with
      | none =>
        rw [hl] at h2
        obtain ⟨rfl, hb2⟩ := h2
        have HB2 := hid (Below.step HBR.out hb2)
        have HE := hid (show Li.nmOk n = false by rw [nmOk_of, lettersOk_no (List.mem_of_getElem? HX.out) hl]; rfl)
        clear hl hb2
        go_wp2_with fail
        go_ret
        exact ⟨by rw [HE.out]; rfl, HB2.out⟩
      | some ls =>
        rw [hl] at h2
        obtain ⟨v2, rfl, -, hb2⟩ := h2
        have HR2 := hid (Below.step HR.out hb2)
        have HE := hid (show lettersOk n.script (n.words.take (k + 1)) = true by rw [lettersOk_step HX.out, HV.out, hl]; rfl)
        clear hl hb2
        go_wp2_with fail
        go_roundw
        case rel => exact ⟨k + 1, by omega, by go_num, HE, HR2⟩
        case measure => simp [RowKit.intOf]; omega
    · have HE := hid (show Li.nmOk n = (decide (0 < n.words.length) && decide (n.words.length ≤ 6)) by
        have hv := HV.out
        rw [List.take_of_length_le (by omega)] at hv
        rw [nmOk_of, hv]; rfl)
      by_cases h0 : 0 < n.words.length
      · have HE2 := hid (show Li.nmOk n = decide ((n.words.length : Int) ≤ 6) by
          rw [HE.out, decide_eq_true h0, Bool.true_and]
          exact decide_eq_decide.2 (by omega))
        go_wp2_with fail
        go_ret
        exact ⟨by rw [HE2.out]; rfl, HBR.out⟩
      · have HE2 := hid (show Li.nmOk n = false by rw [HE.out, decide_eq_false h0]; rfl)
        go_wp2_with fail
        go_ret
        exact ⟨by rw [HE2.out]; rfl, HBR.out⟩

end Go.Proofs.YtidkmhokolknbaaGreatDoor

namespace Go.Proofs.YtidkmhokolknbaaGreatDoor
open Go.RowKit Go.Lib Go.Maps

/-- names whose words are short -/
def shortN (n : Li.Nm) : Prop := ∀ x ∈ n.words, x.length ≤ 1000000

set_option maxRecDepth 100000 in
theorem wrong_any (p : Li.Nm × Value) (w : World) (h : NmAt w p) (hw : shortN p.1) (hT : Tabs w) : Calls Tryz.prog 54 #[nmV p] w (Gives (.bool (!Li.nmOk p.1)) w) := by
  obtain ⟨W1, hW1⟩ : ∃ W1, W1 = w.alloc (.cells #[.int .i64 p.1.script, p.2] 73) := ⟨_, rfl⟩
  obtain ⟨c0, c1, z1, hb1⟩ := name_box hW1
  have HB := hid hb1
  have HV := hid (scrValid_any p.1 p.2 W1 (h.below hb1) hw (hT.below hb1))
  unfold nmV at HV ⊢
  clear h hT hb1
  go_enter Tryz.func54, Tryz.ntmps54
  go_upto_region 1 with (fail)
  rw [← hW1]
  clear hW1
  go_wp2_with fail
  refine (HV.out).mono ?_
  rintro e w1 ⟨rfl, hb⟩
  have HB1 := hid (Below.step HB.out hb)
  clear hb
  go_wp2_with fail
  go_ret
  exact ⟨rfl, HB1.out⟩

/-- is there a wrong name? -/
def hasBad (l : List (Li.Nm × Value)) : Bool := l.any fun p => !Li.nmOk p.1
/-- what IndexFunc ends in -/
def IdxN (l : List (Li.Nm × Value)) (W : World) (e : Ending) (W' : World) : Prop :=
  Below W.heap.size W W' ∧ ∃ i : Int, e = .returned (.int .i64 i) ∧ decide (0 ≤ i) = hasBad l

/-- names that lie in w -/
structure NmsAt (w : World) (v : Value) (l : List (Li.Nm × Value)) : Prop where
  sl : SlOf w v 2 nmC l
  at_ : ∀ p ∈ l, NmAt w p
  short : ∀ p ∈ l, shortN p.1
theorem NmsAt.below {w w' : World} {v : Value} {l : List (Li.Nm × Value)} (h : NmsAt w v l) (hb : Below w.heap.size w w') : NmsAt w' v l := ⟨h.sl.below hb, fun p hp => (h.at_ p hp).below hb, h.short⟩

set_option maxRecDepth 100000 in
set_option maxHeartbeats 2000000 in
theorem idx_name (l : List (Li.Nm × Value)) (v : Value) (W : World) (h : NmsAt W v l) (hT : Tabs W) :
    Calls Tryz.prog 81 #[v, .func (.func 54) #[] #[]] W (IdxN l W) := by
  have HA := hid h
  have HT := hid hT
  obtain ⟨⟨a, cap, rfl, h1, h2, h3⟩, -, -⟩ := h
  have hl1 : l.length ≤ 9223372036854775807 := by unfold maxLen at h2; omega
  have H3 := hid h3
  clear h3 hT h1 h2
  go_enter Tryz.func81, Tryz.ntmps81
  go_wp2_with fail
  go_loopw [8] (fun k wr => ∃ n : Nat, n ≤ l.length ∧ k = .int .i64 n ∧ Hid (hasBad (l.take n) = false) ∧ Below W.heap.size W wr) (fun k _ => l.length - (intOf k).toNat)
  case atStart => exact ⟨0, Nat.zero_le _, rfl, rfl, Below.refl _ _⟩
  case round =>
    obtain ⟨n, hn, rfl, HNO, hb⟩ := hrel
    by_cases hlt : n < l.length
    · obtain ⟨g, o, rfl, hr⟩ := H3.out (by omega)
      obtain ⟨q, hq⟩ : ∃ q, l[n]? = some q := ⟨_, List.getElem?_eq_getElem hlt⟩
      have hc := (hr.below hb).2 n q hq
      have c0 := hc 0 _ rfl
      have c1 := hc 1 _ rfl
      rw [Nat.add_zero] at c0
      have hg := (hr.below hb).1
      have hn0 : (0 : Int) ≤ (n : Int) := by omega
      have hn1 : (n : Int) < (l.length : Int) := by omega
      have hm := List.mem_of_getElem? hq
      have HC := hid (wrong_any q wr ((HA.out.at_ q hm).below hb) (HA.out.short q hm) (HT.out.below hb))
      unfold nmV at HC
      have hstep : hasBad (l.take (n + 1)) = (hasBad (l.take n) || !Li.nmOk q.1) := by
        unfold hasBad
        rw [take_snoc hq, List.any_append]
        simp
      have HP := hid (And.intro hq hstep)
      have HBB := hid hb
      clear hc hr hq hb hstep hm
      go_wp2_with fail
      refine (HC.out).mono ?_
      rintro e w1 ⟨rfl, hb1⟩
      have HB1 := hid (Below.trans HBB.out (hb1.mono HBB.out.size))
      clear hb1
      cases he : Li.nmOk q.1 with
      | false =>
        have HE := hid he
        clear he
        go_wp2_with fail
        go_ret
        refine ⟨HB1.out, (n : Int), rfl, ?_⟩
        rw [show hasBad l = true from by
          unfold hasBad
          rw [List.any_eq_true]
          exact ⟨q, List.mem_of_getElem? HP.out.1, by rw [HE.out]; rfl⟩]
        simp
      | true =>
        have HE := hid he
        clear he
        go_wp2_with fail
        go_roundw
        case rel =>
          refine ⟨n + 1, by omega, by go_num, ?_, HB1.out⟩
          have := HP.out.2
          rw [HNO.out, HE.out] at this
          exact this
        case measure => simp [intOf]; omega
    · have hne : n = l.length := by omega
      subst hne
      have HBB := hid hb
      clear hb
      go_wp2_with fail
      go_ret
      refine ⟨HBB.out, -1, rfl, ?_⟩
      have := HNO.out
      rw [List.take_length] at this
      rw [this]; rfl

set_option maxRecDepth 100000 in
set_option maxHeartbeats 2000000 in
theorem contains_name (l : List (Li.Nm × Value)) (v : Value) (W : World) (h : NmsAt W v l) (hT : Tabs W) :
    Calls Tryz.prog 57 #[v, .func (.func 54) #[] #[]] W (Gives (.bool (hasBad l)) W) := by
  have HC := hid (idx_name l v W h hT)
  obtain ⟨⟨a, cap, rfl, h1, h2, h3⟩, -, -⟩ := h
  clear h3 hT
  go_enter Tryz.func57, Tryz.ntmps57
  go_wp2_with fail
  refine (HC.out).mono ?_
  rintro e w1 ⟨hb1, i, rfl, hi⟩
  have HI := hid hi
  have HB1 := hid hb1
  clear hi hb1
  go_wp2_with fail
  go_ret
  exact ⟨ret_bool HI.out, HB1.out⟩

end Go.Proofs.YtidkmhokolknbaaGreatDoor

namespace Go.Proofs.YtidkmhokolknbaaGreatDoor
open Go.RowKit Go.Lib Go.Maps

/-- an entry's two cells -/
theorem entry_box {w W : World} {s v : Value} (h : W = w.alloc (.cells #[s, v] 25)) : W.cell? ⟨w.heap.size, 0, none⟩ = some s ∧ W.cell? ⟨w.heap.size, 1, none⟩ = some v ∧ w.heap.size < W.heap.size ∧ Below w.heap.size w W := by
  subst h
  exact ⟨by rw [World.cell?_alloc_at _ _ _ _ rfl]; rfl, by rw [World.cell?_alloc_at _ _ _ _ rfl]; rfl, by rw [World.size_alloc]; omega, (Below.refl _ w).alloc (Nat.le_refl _) _⟩

theorem hasBad_all (l : List (Li.Nm × Value)) : (!hasBad l) = (l.map Prod.fst).all Li.nmOk := by
  unfold hasBad
  induction l with
  | nil => rfl
  | cons a l ih => rw [List.any_cons, List.map_cons, List.all_cons, Bool.not_or, ih, Bool.not_not]

set_option maxRecDepth 100000 in
set_option maxHeartbeats 4000000 in
theorem proper_any (id : List UInt8) (l : List (Li.Nm × Value)) (v : Value) (w : World) (h : NmsAt w v l) (hs : id.length ≤ 5000) (hT : Tabs w) :
    Calls Tryz.prog 22 #[.agg #[.string (bs id), v]] w (Gives (.bool (Li.proper ⟨id, l.map Prod.fst⟩)) w) := by
  obtain ⟨W1, hW1⟩ : ∃ W1, W1 = w.alloc (.cells #[.string (bs id), v] 25) := ⟨_, rfl⟩
  obtain ⟨c0, c1, z1, hb1⟩ := entry_box hW1
  have HB := hid hb1
  have HI := hid (ident_any id W1 hs)
  have HA := hid (h.below hb1)
  have HT := hid (hT.below hb1)
  have HP := hid (show Li.proper ⟨id, l.map Prod.fst⟩ = (Li.ident id && decide (0 < l.length) && decide (l.length ≤ 8) && !hasBad l) by
    rw [hasBad_all]
    unfold Li.proper
    simp only [List.length_map])
  obtain ⟨⟨a, cap, rfl, h1, h2, -⟩, -, -⟩ := h
  have hl1 : l.length ≤ 9223372036854775807 := by unfold maxLen at h2; omega
  clear hT hb1 h1 h2
  go_enter Tryz.func22, Tryz.ntmps22
  go_upto_region 1 with (fail)
  rw [← hW1]
  clear hW1
  go_wp2_with fail
  refine (HI.out).mono ?_
  rintro e w1 ⟨rfl, hb2⟩
  have HB2 := hid (Below.step HB.out hb2)
  have HA2 := hid (HA.out.below hb2)
  have HT2 := hid (HT.out.below hb2)
  replace c0 := (hb2.cell (p := ⟨w.heap.size, 0, none⟩) z1).trans c0
  replace c1 := (hb2.cell (p := ⟨w.heap.size, 1, none⟩) z1).trans c1
  replace z1 := Nat.lt_of_lt_of_le z1 hb2.size
  clear hb2
  have HC := hid (contains_name l _ w1 HA2.out HT2.out)
  cases hid_ : Li.ident id with
  | false =>
    have HE := hid (show Li.proper ⟨id, l.map Prod.fst⟩ = false by rw [HP.out, hid_]; rfl)
    clear hid_
    go_wp2_with fail
    go_ret
    exact ⟨by rw [HE.out]; rfl, HB2.out⟩
  | true =>
    have HID := hid hid_
    clear hid_
    by_cases h0 : 0 < l.length
    · have h0' : (0 : Int) < (l.length : Int) := by omega
      by_cases h8 : l.length ≤ 8
      · have h8' : (l.length : Int) ≤ 8 := by omega
        have HE := hid (show Li.proper ⟨id, l.map Prod.fst⟩ = !hasBad l by rw [HP.out, HID.out, decide_eq_true h0, decide_eq_true h8]; rfl)
        go_wp2_with fail
        refine (HC.out).mono ?_
        rintro e w2 ⟨rfl, hb3⟩
        have HB3 := hid (Below.step HB2.out hb3)
        clear hb3
        go_wp2_with fail
        go_ret
        exact ⟨by rw [HE.out]; rfl, HB3.out⟩
      · have h8' : ¬ (l.length : Int) ≤ 8 := by omega
        have HE := hid (show Li.proper ⟨id, l.map Prod.fst⟩ = false by rw [HP.out, HID.out, decide_eq_true h0, decide_eq_false h8]; rfl)
        go_wp2_with fail
        go_ret
        exact ⟨by rw [HE.out]; rfl, HB2.out⟩
    · have h0' : ¬ (0 : Int) < (l.length : Int) := by omega
      have HE := hid (show Li.proper ⟨id, l.map Prod.fst⟩ = false by rw [HP.out, HID.out, decide_eq_false h0]; rfl)
      go_wp2_with fail
      go_ret
      exact ⟨by rw [HE.out]; rfl, HB2.out⟩

end Go.Proofs.YtidkmhokolknbaaGreatDoor

namespace Go.Proofs.YtidkmhokolknbaaGreatDoor
open Go.RowKit Go.Lib Go.Maps

set_option maxRecDepth 100000 in
theorem clockInst_any (t : Int) (w : World) : Calls Tryz.prog 104 #[.int .i64 t] w (Same (.bool (Li.inst t)) w) := by
  by_cases h0 : 0 ≤ t
  · have HE := hid (show Li.inst t = decide (t ≤ 144001439) by unfold Li.inst; rw [decide_eq_true h0]; rfl)
    go_enter Tryz.func104, Tryz.ntmps104
    go_wp2
    go_ret
    exact ⟨by rw [HE.out]; rfl, rfl⟩
  · have HE := hid (show Li.inst t = false by unfold Li.inst; rw [decide_eq_false h0]; rfl)
    go_enter Tryz.func104, Tryz.ntmps104
    go_wp2
    go_ret
    exact ⟨by rw [HE.out]; rfl, rfl⟩

/-- a short text comes back -/
def ShortP (n : Nat) (w : World) (e : Ending) (w' : World) : Prop := ∃ s : List UInt8, e = .returned (.string (bs s)) ∧ s.length ≤ n ∧ Below w.heap.size w w'

theorem itoa_short (n : Int) (h0 : 0 ≤ n) (h1 : n < 1000000000) (w : World) (hT : Tab10 w) : Calls Tryz.prog 44 #[.int .i64 n] w (ShortP 9 w) :=
  (itoa_any n h0 (by omega) w hT).mono (by
    rintro e w1 ⟨rfl, hb⟩
    exact ⟨_, rfl, (Lx.dec_facts n.toNat).2.2.2 9 (by decide) (by omega), hb⟩)

set_option maxRecDepth 100000 in
set_option maxHeartbeats 2000000 in
theorem two_short (n : Int) (h0 : 0 ≤ n) (h1 : n < 1000) (w : World) (hT : Tab10 w) : Calls Tryz.prog 105 #[.int .i64 n] w (ShortP 18 w) := by
  have hq : n.tdiv 10 = n / 10 := Int.tdiv_eq_ediv_of_nonneg h0
  have hr : n.tmod 10 = n % 10 := Int.tmod_eq_emod_of_nonneg h0
  have HT := hid hT
  have HI := hid (itoa_short (n / 10) (by omega) (by omega) w hT)
  clear hT
  go_enter Tryz.func105, Tryz.ntmps105
  go_wp2_with fail
  refine (HI.out).mono ?_
  rintro e w1 ⟨s1, rfl, l1, hb1⟩
  have HB1 := hid hb1
  have HI2 := hid (itoa_short (n % 10) (by omega) (by omega) w1 (HT.out.below hb1))
  clear hb1
  go_wp2_with fail
  refine (HI2.out).mono ?_
  rintro e w2 ⟨s2, rfl, l2, hb2⟩
  have HB2 := hid (Below.step HB1.out hb2)
  have e1 := bs_len s1
  have e2 := bs_len s2
  clear hb2
  go_wp2_with fail
  go_ret
  refine ⟨s1 ++ s2, ?_, by rw [List.length_append]; omega, HB2.out⟩
  rw [← bs_app]
  rfl

/-- what clock.Text returns -/
def CTextP (t : Int) (w : World) (e : Ending) (w' : World) : Prop := ∃ s : List UInt8, e = .returned (.tuple #[.string (bs s), .int .i64 (if Li.inst t = true then 0 else 1)]) ∧ Below w.heap.size w w'

set_option maxRecDepth 100000 in
set_option maxHeartbeats 2000000 in
theorem clockText_any (t : Int) (w : World) (hT : Tab10 w) : Calls Tryz.prog 85 #[.int .i64 t] w (CTextP t w) := by
  by_cases hi : Li.inst t = true
  · have hin := hi
    unfold Li.inst at hin
    simp only [Bool.and_eq_true, decide_eq_true_eq] at hin
    obtain ⟨h0, h1⟩ := hin
    have hq : t.tdiv 1440 = t / 1440 := Int.tdiv_eq_ediv_of_nonneg h0
    have hr : t.tmod 1440 = t % 1440 := Int.tmod_eq_emod_of_nonneg h0
    have hr6 : t.tmod 60 = t % 60 := Int.tmod_eq_emod_of_nonneg h0
    have hqq : (t % 1440).tdiv 60 = t % 1440 / 60 := Int.tdiv_eq_ediv_of_nonneg (by omega)
    have HI := hid hi
    have HC := clockInst_any t w
    rw [hi] at HC
    have HCC := hid HC
    have HT := hid hT
    have HA := hid (itoa_short (t / 1440) (by omega) (by omega) w hT)
    clear hi HC hT
    go_enter Tryz.func85, Tryz.ntmps85
    go_wp2_with fail
    refine (HCC.out).mono ?_
    rintro e w0 ⟨rfl, rfl⟩
    go_wp2_with fail
    refine (HA.out).mono ?_
    rintro e w1 ⟨s1, rfl, l1, hb1⟩
    have HB1 := hid hb1
    have HI1 := hid (two_short (t % 1440 / 60) (by omega) (by omega) w1 (HT.out.below hb1))
    have e1 := bs_len s1
    clear hb1
    go_wp2_with fail
    refine (HI1.out).mono ?_
    rintro e w2 ⟨s2, rfl, l2, hb2⟩
    have HB2 := hid (Below.step HB1.out hb2)
    have HI2 := hid (two_short (t % 60) (by omega) (by omega) w2 (HT.out.below HB2.out))
    have e2 := bs_len s2
    clear hb2
    go_wp2_with fail
    refine (HI2.out).mono ?_
    rintro e w3 ⟨s3, rfl, l3, hb3⟩
    have HB3 := hid (Below.step HB2.out hb3)
    have e3 := bs_len s3
    clear hb3
    go_wp2_with fail
    go_ret2
    refine ⟨s1 ++ [47] ++ s2 ++ [58] ++ s3, ?_, HB3.out⟩
    rw [if_pos HI.out, ← bs_app, ← bs_app, ← bs_app, ← bs_app]
    rfl
  · have HI := hid hi
    have HC := clockInst_any t w
    rw [Bool.eq_false_iff.2 hi] at HC
    have HCC := hid HC
    clear hi HC
    go_enter Tryz.func85, Tryz.ntmps85
    go_wp2_with fail
    refine (HCC.out).mono ?_
    rintro e w0 ⟨rfl, rfl⟩
    go_wp2_with fail
    go_ret2
    exact ⟨[], by rw [if_neg HI.out]; rfl, Below.refl _ _⟩

set_option maxRecDepth 100000 in
theorem listInst_any (t : Int) (w : World) (hT : Tab10 w) : Calls Tryz.prog 60 #[.int .i64 t] w (Gives (.bool (Li.inst t)) w) := by
  have HC := hid (clockText_any t w hT)
  go_enter Tryz.func60, Tryz.ntmps60
  go_wp2_with fail
  refine (HC.out).mono ?_
  rintro e w1 ⟨s, rfl, hb⟩
  have HB := hid hb
  clear hb
  cases hi : Li.inst t with
  | true =>
    rw [if_pos rfl]
    go_wp2_with fail
    go_ret
    exact ⟨by rw [hi]; rfl, HB.out⟩
  | false =>
    rw [if_neg (by decide)]
    go_wp2_with fail
    go_ret
    exact ⟨by rw [hi]; rfl, HB.out⟩

end Go.Proofs.YtidkmhokolknbaaGreatDoor

namespace Go.Proofs.YtidkmhokolknbaaGreatDoor
open Go.RowKit Go.Lib Go.Maps

/-- a change's five cells in its box -/
structure ChBox (w W : World) (kd : Int) (id eid : List UInt8) (v : Value) (at_ : Int) : Prop where
  c0 : W.cell? ⟨w.heap.size, 0, none⟩ = some (.int .i64 kd)
  c1 : W.cell? ⟨w.heap.size, 1, none⟩ = some (.string (bs id))
  c2 : W.cell? ⟨w.heap.size, 2, none⟩ = some (.string (bs eid))
  c3 : W.cell? ⟨w.heap.size, 3, none⟩ = some v
  c4 : W.cell? ⟨w.heap.size, 4, none⟩ = some (.int .i64 at_)
  lt : w.heap.size < W.heap.size
  below : Below w.heap.size w W
theorem ChBox.new {w W : World} {kd : Int} {id eid : List UInt8} {v : Value} {at_ : Int} (h : W = w.alloc (.cells #[.int .i64 kd, .string (bs id), .string (bs eid), v, .int .i64 at_] 27)) : ChBox w W kd id eid v at_ := by
  subst h
  exact ⟨by rw [World.cell?_alloc_at _ _ _ _ rfl]; rfl, by rw [World.cell?_alloc_at _ _ _ _ rfl]; rfl, by rw [World.cell?_alloc_at _ _ _ _ rfl]; rfl, by rw [World.cell?_alloc_at _ _ _ _ rfl]; rfl, by rw [World.cell?_alloc_at _ _ _ _ rfl]; rfl, by rw [World.size_alloc]; omega, (Below.refl _ w).alloc (Nat.le_refl _) _⟩
theorem ChBox.step {w W W' : World} {kd : Int} {id eid : List UInt8} {v : Value} {at_ : Int} (h : ChBox w W kd id eid v at_) (hb : Below W.heap.size W W') : ChBox w W' kd id eid v at_ :=
  ⟨(hb.cell (p := ⟨w.heap.size, 0, none⟩) h.lt).trans h.c0, (hb.cell (p := ⟨w.heap.size, 1, none⟩) h.lt).trans h.c1, (hb.cell (p := ⟨w.heap.size, 2, none⟩) h.lt).trans h.c2, (hb.cell (p := ⟨w.heap.size, 3, none⟩) h.lt).trans h.c3, (hb.cell (p := ⟨w.heap.size, 4, none⟩) h.lt).trans h.c4, Nat.lt_of_lt_of_le h.lt hb.size, Below.step h.below hb⟩

set_option maxRecDepth 100000 in
set_option maxHeartbeats 4000000 in
theorem formed_void (id eid : List UInt8) (l : List (Li.Nm × Value)) (v : Value) (at_ : Int) (w : World) (h : NmsAt w v l) (hs : id.length ≤ 5000) :
    Calls Tryz.prog 37 #[.agg #[.int .i64 4, .string (bs id), .string (bs eid), v, .int .i64 at_]] w (Gives (.bool (Li.formed ⟨4, id, ⟨eid, l.map Prod.fst⟩, at_⟩)) w) := by
  obtain ⟨W1, hW1⟩ : ∃ W1, W1 = w.alloc (.cells #[.int .i64 4, .string (bs id), .string (bs eid), v, .int .i64 at_] 27) := ⟨_, rfl⟩
  have HX := hid (ChBox.new hW1)
  have HI := hid (ident_any id W1 hs)
  have hle := name_beq eid []
  rw [show bs [] = ⟨#[]⟩ from rfl] at hle
  have HP := hid (show Li.formed ⟨4, id, ⟨eid, l.map Prod.fst⟩, at_⟩ = (Li.ident id && (decide (eid = []) && decide (l.map Prod.fst = [])) && decide (at_ = 0)) by
    simp [Li.formed, Li.withEntry, Li.dated])
  obtain ⟨⟨a, cap, rfl, h1, h2, -⟩, -, -⟩ := h
  have hl1 : l.length ≤ 9223372036854775807 := by unfold maxLen at h2; omega
  obtain ⟨c0, c1, c2, c3, c4, z1, -⟩ := HX.out
  clear h1 h2
  go_enter Tryz.func37, Tryz.ntmps37
  go_upto_region 1 with (fail)
  rw [← hW1]
  clear hW1
  go_wp2_with fail
  refine (HI.out).mono ?_
  rintro e w1 ⟨rfl, hb2⟩
  have HX2 := hid (HX.out.step hb2)
  clear c0 c1 c2 c3 c4 z1 hb2
  obtain ⟨c0, c1, c2, c3, c4, z1, hbW⟩ := HX2.out
  have HBW := hid hbW
  clear hbW
  cases hi : Li.ident id with
  | false =>
    have HE := hid (show Li.formed ⟨4, id, ⟨eid, l.map Prod.fst⟩, at_⟩ = false by rw [HP.out, hi]; rfl)
    clear hi
    go_wp2_with fail
    go_ret
    exact ⟨by rw [HE.out]; rfl, HBW.out⟩
  | true =>
    have HID := hid hi
    clear hi
    by_cases he : eid = []
    · rw [decide_eq_true he] at hle
      have hz : (bs eid).toList = [] := by simpa using hle
      clear hle
      by_cases hn : l.length = 0
      · have hn' : ((l.length : Int) : Int) = 0 := by omega
        have hn2 : ¬ (0 : Int) < (l.length : Int) := by omega
        have hlm : l.map Prod.fst = [] := by rw [List.map_eq_nil_iff]; exact List.length_eq_zero_iff.1 hn
        have HE := hid (show Li.formed ⟨4, id, ⟨eid, l.map Prod.fst⟩, at_⟩ = (at_ == 0) by
          rw [HP.out, HID.out, decide_eq_true he, decide_eq_true hlm]
          by_cases q : at_ = 0 <;> simp [q])
        clear he hn hlm
        go_wp2_with fail
        go_ret
        exact ⟨by rw [HE.out]; rfl, HBW.out⟩
      · have hn2 : (0 : Int) < (l.length : Int) := by omega
        have HE := hid (show Li.formed ⟨4, id, ⟨eid, l.map Prod.fst⟩, at_⟩ = false by
          rw [HP.out, decide_eq_false (show ¬ l.map Prod.fst = [] from fun e => hn (by have := congrArg List.length e; simpa using this))]
          simp)
        clear he hn
        go_wp2_with fail
        go_ret
        exact ⟨by rw [HE.out]; rfl, HBW.out⟩
    · rw [decide_eq_false he] at hle
      have hz : ¬ (bs eid).toList = [] := by simpa using hle
      clear hle
      have HE := hid (show Li.formed ⟨4, id, ⟨eid, l.map Prod.fst⟩, at_⟩ = false by rw [HP.out, decide_eq_false he]; simp)
      clear he
      go_wp2_with fail
      go_ret
      exact ⟨by rw [HE.out]; rfl, HBW.out⟩

set_option maxRecDepth 100000 in
set_option maxHeartbeats 4000000 in
theorem formed_remove (id eid : List UInt8) (l : List (Li.Nm × Value)) (v : Value) (at_ : Int) (w : World) (h : NmsAt w v l) (hs : id.length ≤ 5000) (hT : Tab10 w) :
    Calls Tryz.prog 37 #[.agg #[.int .i64 2, .string (bs id), .string (bs eid), v, .int .i64 at_]] w (Gives (.bool (Li.formed ⟨2, id, ⟨eid, l.map Prod.fst⟩, at_⟩)) w) := by
  obtain ⟨W1, hW1⟩ : ∃ W1, W1 = w.alloc (.cells #[.int .i64 2, .string (bs id), .string (bs eid), v, .int .i64 at_] 27) := ⟨_, rfl⟩
  have HX := hid (ChBox.new hW1)
  have HI := hid (ident_any id W1 hs)
  have hle := name_beq eid []
  rw [show bs [] = ⟨#[]⟩ from rfl] at hle
  have HP := hid (show Li.formed ⟨2, id, ⟨eid, l.map Prod.fst⟩, at_⟩ = (Li.ident id && (decide (eid = []) && decide (l.map Prod.fst = [])) && Li.inst at_) by
    simp [Li.formed, Li.withEntry, Li.dated])
  obtain ⟨⟨a, cap, rfl, h1, h2, -⟩, -, -⟩ := h
  have hl1 : l.length ≤ 9223372036854775807 := by unfold maxLen at h2; omega
  obtain ⟨c0, c1, c2, c3, c4, z1, -⟩ := HX.out
  have HTT := hid hT
  clear h1 h2 hT
  go_enter Tryz.func37, Tryz.ntmps37
  go_upto_region 1 with (fail)
  rw [← hW1]
  clear hW1
  go_wp2_with fail
  refine (HI.out).mono ?_
  rintro e w1 ⟨rfl, hb2⟩
  have HX2 := hid (HX.out.step hb2)
  clear c0 c1 c2 c3 c4 z1 hb2
  obtain ⟨c0, c1, c2, c3, c4, z1, hbW⟩ := HX2.out
  have HBW := hid hbW
  have HN := hid (listInst_any at_ w1 (HTT.out.below hbW))
  clear hbW
  cases hi : Li.ident id with
  | false =>
    have HE := hid (show Li.formed ⟨2, id, ⟨eid, l.map Prod.fst⟩, at_⟩ = false by rw [HP.out, hi]; rfl)
    clear hi
    go_wp2_with fail
    go_ret
    exact ⟨by rw [HE.out]; rfl, HBW.out⟩
  | true =>
    have HID := hid hi
    clear hi
    by_cases he : eid = []
    · rw [decide_eq_true he] at hle
      have hz : (bs eid).toList = [] := by simpa using hle
      clear hle
      by_cases hn : l.length = 0
      · have hn' : ((l.length : Int) : Int) = 0 := by omega
        have hn2 : ¬ (0 : Int) < (l.length : Int) := by omega
        have hlm : l.map Prod.fst = [] := by rw [List.map_eq_nil_iff]; exact List.length_eq_zero_iff.1 hn
        have HE := hid (show Li.formed ⟨2, id, ⟨eid, l.map Prod.fst⟩, at_⟩ = Li.inst at_ by
          rw [HP.out, HID.out, decide_eq_true he, decide_eq_true hlm]
          simp)
        clear he hn hlm
        go_wp2_with fail
        refine (HN.out).mono ?_
        rintro e w2 ⟨rfl, hb3⟩
        have HB3 := hid (Below.step HBW.out hb3)
        clear hb3
        cases hin : Li.inst at_ with
        | true =>
          rw [hin] at HE
          go_wp2_with fail
          go_ret
          exact ⟨by rw [HE.out]; rfl, HB3.out⟩
        | false =>
          rw [hin] at HE
          go_wp2_with fail
          go_ret
          exact ⟨by rw [HE.out]; rfl, HB3.out⟩
      · have hn2 : (0 : Int) < (l.length : Int) := by omega
        have HE := hid (show Li.formed ⟨2, id, ⟨eid, l.map Prod.fst⟩, at_⟩ = false by
          rw [HP.out, decide_eq_false (show ¬ l.map Prod.fst = [] from fun e => hn (by have := congrArg List.length e; simpa using this))]
          simp)
        clear he hn
        go_wp2_with fail
        go_ret
        exact ⟨by rw [HE.out]; rfl, HBW.out⟩
    · rw [decide_eq_false he] at hle
      have hz : ¬ (bs eid).toList = [] := by simpa using hle
      clear hle
      have HE := hid (show Li.formed ⟨2, id, ⟨eid, l.map Prod.fst⟩, at_⟩ = false by rw [HP.out, decide_eq_false he]; simp)
      clear he
      go_wp2_with fail
      go_ret
      exact ⟨by rw [HE.out]; rfl, HBW.out⟩

end Go.Proofs.YtidkmhokolknbaaGreatDoor

namespace Go.Proofs.YtidkmhokolknbaaGreatDoor
open Go.RowKit Go.Lib Go.Maps

set_option maxRecDepth 100000 in
set_option maxHeartbeats 4000000 in
theorem formed_add (id eid : List UInt8) (l : List (Li.Nm × Value)) (v : Value) (at_ : Int) (w : World) (h : NmsAt w v l) (hs : id.length ≤ 5000) (hs2 : eid.length ≤ 5000) (hA : Tabs w) (hT : Tab10 w) :
    Calls Tryz.prog 37 #[.agg #[.int .i64 1, .string (bs id), .string (bs eid), v, .int .i64 at_]] w (Gives (.bool (Li.formed ⟨1, id, ⟨eid, l.map Prod.fst⟩, at_⟩)) w) := by
  obtain ⟨W1, hW1⟩ : ∃ W1, W1 = w.alloc (.cells #[.int .i64 1, .string (bs id), .string (bs eid), v, .int .i64 at_] 27) := ⟨_, rfl⟩
  have HX := hid (ChBox.new hW1)
  have HI := hid (ident_any id W1 hs)
  have hle := name_beq eid id
  have HNS := hid h
  have HAA := hid hA
  have HTT := hid hT
  have HP := hid (show Li.formed ⟨1, id, ⟨eid, l.map Prod.fst⟩, at_⟩ = (Li.ident id && (decide (eid = id) && Li.proper ⟨eid, l.map Prod.fst⟩) && Li.inst at_) by
    simp [Li.formed, Li.withEntry, Li.dated])
  obtain ⟨c0, c1, c2, c3, c4, z1, -⟩ := HX.out
  clear hA hT h
  go_enter Tryz.func37, Tryz.ntmps37
  go_upto_region 1 with (fail)
  rw [← hW1]
  clear hW1
  go_wp2_with fail
  refine (HI.out).mono ?_
  rintro e w1 ⟨rfl, hb2⟩
  have HX2 := hid (HX.out.step hb2)
  clear c0 c1 c2 c3 c4 z1 hb2
  obtain ⟨c0, c1, c2, c3, c4, z1, hbW⟩ := HX2.out
  have HBW := hid hbW
  have HQ := hid (proper_any eid l v w1 (HNS.out.below hbW) hs2 (HAA.out.below hbW))
  clear hbW
  cases hi : Li.ident id with
  | false =>
    have HE := hid (show Li.formed ⟨1, id, ⟨eid, l.map Prod.fst⟩, at_⟩ = false by rw [HP.out, hi]; rfl)
    clear hi
    go_wp2_with fail
    go_ret
    exact ⟨by rw [HE.out]; rfl, HBW.out⟩
  | true =>
    have HID := hid hi
    clear hi
    by_cases he : eid = id
    · rw [decide_eq_true he] at hle
      have HEE := hid he
      clear he
      go_wp2_with fail
      refine (HQ.out).mono ?_
      rintro e w2 ⟨rfl, hb3⟩
      have HX3 := hid (HX2.out.step hb3)
      clear c0 c1 c2 c3 c4 z1 hb3
      obtain ⟨c0, c1, c2, c3, c4, z1, hbW⟩ := HX3.out
      have HBW3 := hid hbW
      have HN := hid (listInst_any at_ w2 (HTT.out.below hbW))
      clear hbW
      cases hq : Li.proper ⟨eid, l.map Prod.fst⟩ with
      | false =>
        have HE := hid (show Li.formed ⟨1, id, ⟨eid, l.map Prod.fst⟩, at_⟩ = false by rw [HP.out, hq]; simp)
        clear hq
        go_wp2_with fail
        go_ret
        exact ⟨by rw [HE.out]; rfl, HBW3.out⟩
      | true =>
        have HE := hid (show Li.formed ⟨1, id, ⟨eid, l.map Prod.fst⟩, at_⟩ = Li.inst at_ by rw [HP.out, hq, HID.out, decide_eq_true HEE.out]; simp)
        clear hq
        go_wp2_with fail
        refine (HN.out).mono ?_
        rintro e w3 ⟨rfl, hb4⟩
        have HB4 := hid (Below.step HBW3.out hb4)
        clear hb4
        cases hin : Li.inst at_ with
        | true =>
          rw [hin] at HE
          go_wp2_with fail
          go_ret
          exact ⟨by rw [HE.out]; rfl, HB4.out⟩
        | false =>
          rw [hin] at HE
          go_wp2_with fail
          go_ret
          exact ⟨by rw [HE.out]; rfl, HB4.out⟩
    · rw [decide_eq_false he] at hle
      have HE := hid (show Li.formed ⟨1, id, ⟨eid, l.map Prod.fst⟩, at_⟩ = false by rw [HP.out, decide_eq_false he]; simp)
      clear he
      go_wp2_with fail
      go_ret
      exact ⟨by rw [HE.out]; rfl, HBW.out⟩

set_option maxRecDepth 100000 in
set_option maxHeartbeats 4000000 in
theorem formed_correct (id eid : List UInt8) (l : List (Li.Nm × Value)) (v : Value) (at_ : Int) (w : World) (h : NmsAt w v l) (hs : id.length ≤ 5000) (hs2 : eid.length ≤ 5000) (hA : Tabs w) :
    Calls Tryz.prog 37 #[.agg #[.int .i64 3, .string (bs id), .string (bs eid), v, .int .i64 at_]] w (Gives (.bool (Li.formed ⟨3, id, ⟨eid, l.map Prod.fst⟩, at_⟩)) w) := by
  obtain ⟨W1, hW1⟩ : ∃ W1, W1 = w.alloc (.cells #[.int .i64 3, .string (bs id), .string (bs eid), v, .int .i64 at_] 27) := ⟨_, rfl⟩
  have HX := hid (ChBox.new hW1)
  have HI := hid (ident_any id W1 hs)
  have hle := name_beq eid id
  have HNS := hid h
  have HAA := hid hA
  have HP := hid (show Li.formed ⟨3, id, ⟨eid, l.map Prod.fst⟩, at_⟩ = (Li.ident id && (decide (eid = id) && Li.proper ⟨eid, l.map Prod.fst⟩) && decide (at_ = 0)) by
    simp [Li.formed, Li.withEntry, Li.dated])
  obtain ⟨c0, c1, c2, c3, c4, z1, -⟩ := HX.out
  clear hA h
  go_enter Tryz.func37, Tryz.ntmps37
  go_upto_region 1 with (fail)
  rw [← hW1]
  clear hW1
  go_wp2_with fail
  refine (HI.out).mono ?_
  rintro e w1 ⟨rfl, hb2⟩
  have HX2 := hid (HX.out.step hb2)
  clear c0 c1 c2 c3 c4 z1 hb2
  obtain ⟨c0, c1, c2, c3, c4, z1, hbW⟩ := HX2.out
  have HBW := hid hbW
  have HQ := hid (proper_any eid l v w1 (HNS.out.below hbW) hs2 (HAA.out.below hbW))
  clear hbW
  cases hi : Li.ident id with
  | false =>
    have HE := hid (show Li.formed ⟨3, id, ⟨eid, l.map Prod.fst⟩, at_⟩ = false by rw [HP.out, hi]; rfl)
    clear hi
    go_wp2_with fail
    go_ret
    exact ⟨by rw [HE.out]; rfl, HBW.out⟩
  | true =>
    have HID := hid hi
    clear hi
    by_cases he : eid = id
    · rw [decide_eq_true he] at hle
      have HEE := hid he
      clear he
      go_wp2_with fail
      refine (HQ.out).mono ?_
      rintro e w2 ⟨rfl, hb3⟩
      have HX3 := hid (HX2.out.step hb3)
      clear c0 c1 c2 c3 c4 z1 hb3
      obtain ⟨c0, c1, c2, c3, c4, z1, hbW⟩ := HX3.out
      have HBW3 := hid hbW
      clear hbW
      cases hq : Li.proper ⟨eid, l.map Prod.fst⟩ with
      | false =>
        have HE := hid (show Li.formed ⟨3, id, ⟨eid, l.map Prod.fst⟩, at_⟩ = false by rw [HP.out, hq]; simp)
        clear hq
        go_wp2_with fail
        go_ret
        exact ⟨by rw [HE.out]; rfl, HBW3.out⟩
      | true =>
        have HE := hid (show Li.formed ⟨3, id, ⟨eid, l.map Prod.fst⟩, at_⟩ = (at_ == 0) by
          rw [HP.out, hq, HID.out, decide_eq_true HEE.out]
          by_cases q : at_ = 0 <;> simp [q])
        clear hq
        go_wp2_with fail
        go_ret
        exact ⟨by rw [HE.out]; rfl, HBW3.out⟩
    · rw [decide_eq_false he] at hle
      have HE := hid (show Li.formed ⟨3, id, ⟨eid, l.map Prod.fst⟩, at_⟩ = false by rw [HP.out, decide_eq_false he]; simp)
      clear he
      go_wp2_with fail
      go_ret
      exact ⟨by rw [HE.out]; rfl, HBW.out⟩

end Go.Proofs.YtidkmhokolknbaaGreatDoor

namespace Go.Proofs.YtidkmhokolknbaaGreatDoor
open Go.RowKit Go.Lib Go.Maps

set_option maxRecDepth 100000 in
set_option maxHeartbeats 4000000 in
theorem formed_else (kd : Int) (id eid : List UInt8) (l : List (Li.Nm × Value)) (v : Value) (at_ : Int) (w : World) (hk : ¬ (1 ≤ kd ∧ kd ≤ 4)) (hs : id.length ≤ 5000) :
    Calls Tryz.prog 37 #[.agg #[.int .i64 kd, .string (bs id), .string (bs eid), v, .int .i64 at_]] w (Gives (.bool (Li.formed ⟨kd, id, ⟨eid, l.map Prod.fst⟩, at_⟩)) w) := by
  obtain ⟨W1, hW1⟩ : ∃ W1, W1 = w.alloc (.cells #[.int .i64 kd, .string (bs id), .string (bs eid), v, .int .i64 at_] 27) := ⟨_, rfl⟩
  have HX := hid (ChBox.new hW1)
  have HI := hid (ident_any id W1 hs)
  have HE := hid (show Li.formed ⟨kd, id, ⟨eid, l.map Prod.fst⟩, at_⟩ = false by
    rw [Bool.eq_false_iff]; intro e
    have := Li.formed_parts e
    exact hk ⟨this.2.1, this.2.2.1⟩)
  have q1 : (kd == 1) = false := by rw [beq_eq_false_iff_ne]; omega
  have q2 : (kd == 2) = false := by rw [beq_eq_false_iff_ne]; omega
  have q3 : (kd == 3) = false := by rw [beq_eq_false_iff_ne]; omega
  obtain ⟨c0, c1, c2, c3, c4, z1, -⟩ := HX.out
  go_enter Tryz.func37, Tryz.ntmps37
  go_upto_region 1 with (fail)
  rw [← hW1]
  clear hW1
  go_wp2_with fail
  refine (HI.out).mono ?_
  rintro e w1 ⟨rfl, hb2⟩
  have HX2 := hid (HX.out.step hb2)
  clear c0 c1 c2 c3 c4 z1 hb2
  obtain ⟨c0, c1, c2, c3, c4, z1, hbW⟩ := HX2.out
  have HBW := hid hbW
  clear hbW
  cases hi : Li.ident id with
  | false =>
    clear hi
    go_wp2_with fail
    go_ret
    exact ⟨by rw [HE.out]; rfl, HBW.out⟩
  | true =>
    clear hi
    by_cases k1 : kd < 1
    · clear hk
      go_wp2_with fail
      go_ret
      exact ⟨by rw [HE.out]; rfl, HBW.out⟩
    · have k4 : 4 < kd := by omega
      clear hk
      go_wp2_with fail
      go_ret
      exact ⟨by rw [HE.out]; rfl, HBW.out⟩

theorem formed_any (kd : Int) (id eid : List UInt8) (l : List (Li.Nm × Value)) (v : Value) (at_ : Int) (w : World) (h : NmsAt w v l) (hs : id.length ≤ 5000) (hs2 : eid.length ≤ 5000) (hA : Tabs w) (hT : Tab10 w) :
    Calls Tryz.prog 37 #[.agg #[.int .i64 kd, .string (bs id), .string (bs eid), v, .int .i64 at_]] w (Gives (.bool (Li.formed ⟨kd, id, ⟨eid, l.map Prod.fst⟩, at_⟩)) w) := by
  by_cases hk : 1 ≤ kd ∧ kd ≤ 4
  · have : kd = 1 ∨ kd = 2 ∨ kd = 3 ∨ kd = 4 := by omega
    rcases this with rfl | rfl | rfl | rfl
    · exact formed_add id eid l v at_ w h hs hs2 hA hT
    · exact formed_remove id eid l v at_ w h hs hT
    · exact formed_correct id eid l v at_ w h hs hs2 hA
    · exact formed_void id eid l v at_ w h hs
  · exact formed_else kd id eid l v at_ w hk hs

end Go.Proofs.YtidkmhokolknbaaGreatDoor
