/-
  What the reference's Width, Lex return; how tokens lie in memory. Conditions: lengths within Go's own bound.
-/
import Derived.Test.YteogmlgmodeajaaGreatDoorZLexRefC
import Derived.Test.YteogmlgmodeajaaGreatDoorZLexLoop
import Derived.Test.YteogmlgmodeajaaGreatDoorZMBase
namespace Go.Proofs.YteogmlgmodeajaaGreatDoor
open Go.RowKit

theorem bs_size (l : List UInt8) : (bs l).size = l.length := by simp [bs, ByteArray.size]

theorem width_any (kind at_ n : Int) (s : ByteArray) (w : World) (hs : s.size + 2 ≤ maxLen) :
    Calls Tryz.prog 56 #[.agg #[.int .i64 kind, .int .i64 at_, .int .i64 n, .string s]] w (Gives (.int .i64 (if kind = 3 then (s.size : Int) + 2 else s.size)) w) := by
  unfold maxLen at hs
  by_cases h : kind = 3
  · subst h
    go_enter Tryz.func56, Tryz.ntmps56
    go_wp2
    go_ret
    exact ⟨rfl, by repeat (first | exact Below.refl _ _ | refine Below.alloc ?_ (by simp) _)⟩
  · have hb : (kind == 3) = false := by simpa using h
    have h' := hid h
    clear h
    go_enter Tryz.func56, Tryz.ntmps56
    go_wp2
    go_ret
    exact ⟨rfl, by repeat (first | exact Below.refl _ _ | refine Below.alloc ?_ (by simp) _)⟩

theorem width_tok (at_ : Int) (t : Lx.Tk) (w : World) (hs : t.text.length + 2 ≤ maxLen) :
    Calls Tryz.prog 56 #[.agg #[.int .i64 t.kind, .int .i64 at_, .int .i64 t.n, .string (bs t.text)]] w (Gives (.int .i64 (t.width : Nat)) w) := by
  refine (width_any t.kind at_ t.n (bs t.text) w (by rw [bs_size]; exact hs)).mono ?_
  rintro e w' ⟨rfl, hb⟩
  refine ⟨ret_int ?_, hb⟩
  rw [bs_size]
  unfold Lx.Tk.width
  by_cases h : t.kind = 3
  · rw [if_pos h, if_pos (by omega)]; rfl
  · rw [if_neg h, if_neg (by omega)]

theorem nextTok_err_pos {c : UInt8} {s : List UInt8} {e : Nat} (h : Lx.nextTok c s = .error e) : 0 < e ∧ e < 100 := by
  unfold Lx.nextTok at h
  repeat' (split at h)
  all_goals (cases h)
  all_goals omega

theorem rnext_err (t : ByteArray) (k e : Nat) (w : World) (hs : t.size ≤ maxLen) (hk : k < t.size) (h : Hid (Lx.nextTok t[k] (t.data.toList.drop (k + 1)) = .error e)) :
    Calls Tryz.prog 55 #[.string t, .int .i64 k] w (Gives (.tuple #[.agg #[.int .i64 0, .int .i64 0, .int .i64 0, .string ⟨#[]⟩], .int .i64 e]) w) := by
  have := rnext_any t k w hs hk
  rw [h.out] at this
  exact this

theorem rnext_ok (t : ByteArray) (k : Nat) (tk : Lx.Tk) (w : World) (hs : t.size ≤ maxLen) (hk : k < t.size) (h : Hid (Lx.nextTok t[k] (t.data.toList.drop (k + 1)) = .ok tk)) :
    Calls Tryz.prog 55 #[.string t, .int .i64 k] w (Gives (.tuple #[.agg #[.int .i64 tk.kind, .int .i64 k, .int .i64 tk.n, .string (bs tk.text)], .int .i64 0]) w) := by
  have := rnext_any t k w hs hk
  rw [h.out] at this
  exact this

/-- the cells of tokens in a row -/
def tokCells (l : List (Nat × Lx.Tk)) : List Value := l.flatMap fun p => [.int .i64 p.2.kind, .int .i64 p.1, .int .i64 p.2.n, .string (bs p.2.text)]

theorem tokCells_length (l : List (Nat × Lx.Tk)) : (tokCells l).length = l.length * 4 := by
  induction l with
  | nil => rfl
  | cons x l ih => simp only [tokCells, List.flatMap_cons, List.length_append, List.length_cons, List.length_nil] at ih ⊢; omega

theorem tokCells_snoc (l : List (Nat × Lx.Tk)) (k : Nat) (t : Lx.Tk) : tokCells (l ++ [(k, t)]) = tokCells l ++ [.int .i64 t.kind, .int .i64 k, .int .i64 t.n, .string (bs t.text)] := by
  simp [tokCells]

/-- a fresh slice of these tokens, no error, or an error and its offset; what was there is as it was -/
def LexPost (w : World) (r : List (Nat × Lx.Tk) × Int × Int) (e : Ending) (w' : World) : Prop :=
  ∃ v, e = .returned (.tuple #[v, .int .i64 r.2.1, .int .i64 r.2.2]) ∧ w'.ownsRow w.heap.size 58 4 v r.1.length (tokCells r.1) ∧ Below w.heap.size w w'

theorem lex_ok {L : List UInt8} {l : List (Nat × Lx.Tk)} (h20 : L.length ≤ 20000) (h : Lx.lx 0 L = .ok l) : Lx.lex L = (l, 0, 0) := by
  rw [Lx.lex, if_neg (by omega), h]
theorem lex_err {L : List UInt8} {e o : Nat} (h20 : L.length ≤ 20000) (h : Lx.lx 0 L = .error (e, o)) : Lx.lex L = ([], (e : Int), (o : Int)) := by
  rw [Lx.lex, if_neg (by omega), h]

theorem Tryz.infoTok : (Tryz.prog.info? 58).map (fun i => (i.zero, i.size, i.bytes)) = some (some (.agg #[.int .i64 0, .int .i64 0, .int .i64 0, .string ⟨#[]⟩]), 4, 40) := by kernel_rfl

theorem LexPost.nil {w w' : World} {e off : Int} {r : List (Nat × Lx.Tk) × Int × Int} (h : r = ([], e, off)) (hb : Below w.heap.size w w') :
    LexPost w r (.returned (.tuple #[.slice none 0 0, .int .i64 e, .int .i64 off])) w' := by
  subst h
  exact ⟨_, rfl, World.ownsRow_nil _ _ _ _, hb⟩

theorem LexPost.mk {w w' : World} {v : Value} {l : List (Nat × Lx.Tk)} {r : List (Nat × Lx.Tk) × Int × Int} (h : r = (l, 0, 0)) (ho : w'.ownsRow w.heap.size 58 4 v l.length (tokCells l)) (hb : Below w.heap.size w w') :
    LexPost w r (.returned (.tuple #[v, .int .i64 0, .int .i64 0])) w' := by
  subst h
  exact ⟨_, rfl, ho, hb⟩

set_option maxRecDepth 100000 in
set_option maxHeartbeats 1600000 in
theorem rlex_any (t : ByteArray) (w : World) (hs : t.size ≤ maxLen) :
    Calls Tryz.prog 35 #[.string t] w (LexPost w (Lx.lex t.data.toList)) := by
  obtain ⟨i0, hi, hz0, hz1, hz2⟩ := info_parts Tryz.infoTok
  have hs' := hs
  unfold maxLen at hs
  have hl : t.data.toList.length = t.size := by simp
  by_cases h20 : 20000 < t.size
  · have hpost := hid (show Lx.lex t.data.toList = ([], 2, -1) by rw [Lx.lex, if_pos (by omega)])
    clear hl
    go_enter Tryz.func35, Tryz.ntmps35
    go_wp2
    go_ret3
    exact LexPost.nil hpost.out (Below.refl _ _)
  · have h20' : t.size ≤ 20000 := by omega
    have S0 := Lx.St.start t.data.toList
    have hg0 : Lx.gapTo false t.data.toList 0 ≤ t.size := by have := Lx.gapTo_le false t.data.toList 0; omega
    go_enter Tryz.func35, Tryz.ntmps35
    go_wp2_with (go_at_call 54; refine (rgap_core t _ 0 _ hs' (Nat.zero_le _) rfl).mono ?_; rintro e w' ⟨rfl, rfl⟩)
    go_loopw [5, 6] (fun v i wr => ∃ (acc : List (Nat × Lx.Tk)) (j k : Nat), k ≤ t.size ∧ i = .int .i64 k ∧ Hid (Lx.St t.data.toList acc j k) ∧ wr.ownsRow w'.heap.size 58 4 v acc.length (tokCells acc) ∧ Below w'.heap.size w' wr) (fun _ i _ => t.size - (intOf i).toNat)
    case atStart => exact ⟨[], 0, _, hg0, rfl, S0, World.ownsRow_nil _ _ _ _, Below.refl _ _⟩
    case round =>
      obtain ⟨acc, j, k, hk, rfl, HS, hown, hb⟩ := hrel
      by_cases hlt : k < t.size
      · have hl' : k < t.data.toList.length := by omega
        have hbig : w'.heap.size ≤ wr.heap.size := hb.size
        cases hn : Lx.nextTok t[k] (t.data.toList.drop (k + 1)) with
        | error e =>
          have H1 := hid hn
          have he := nextTok_err_pos hn
          have he' : ((e : Int) != 0) = true := by rw [bne_iff_ne]; omega
          have hpost := hid (lex_err (by omega) (HS.out.err hl' hn))
          clear hn hown S0 hg0
          go_wp2_with (go_at_call 55; refine (rnext_err t k e _ hs' hlt H1).mono ?_; rintro e w1 ⟨rfl, hb1⟩)
          go_ret3
          exact LexPost.nil hpost.out ((hb.trans (hb1.mono hbig)).alloc (by have := hb1.size; omega) _)
        | ok tk => 
          have H1 := hid hn
          have hwd := Lx.next_width hn
          have hfew := HS.out.few
          have htl : tk.text.length + 2 ≤ maxLen := by
            have h1 : tk.text.length ≤ tk.width := by unfold Lx.Tk.width; split <;> omega
            have h2 := hwd.2
            simp at h2
            unfold maxLen
            omega
          by_cases hc : acc.length = 5000
          · have hpost := hid (lex_err (by omega) (HS.out.full hl' hn hc))
            have hc' : ((acc.length : Int) == 5000) = true := by rw [beq_iff_eq]; omega
            clear hn S0 hg0 hwd htl
            rcases hown.2 with ⟨rfl, hz⟩ | ⟨g, cap, cur, rfl, _⟩
            · omega
            · clear hown hc
              go_wp2_with (go_at_call 55; refine (rnext_ok t k tk _ hs' hlt H1).mono ?_; rintro e w1 ⟨rfl, hb1⟩)
              go_ret3
              exact LexPost.nil hpost.out ((hb.trans (hb1.mono hbig)).alloc (by have := hb1.size; omega) _)
          · have hstep := HS.out.next hl' hn hc
            have hc' : ((acc.length : Int) == 5000) = false := by rw [Bool.eq_false_iff]; intro h; rw [beq_iff_eq] at h; omega
            have hstep1 := hid hstep.1
            have hw0 := hstep.2.1
            have hwl := hstep.2.2
            have hg1 := Lx.gapTo_ge false t.data.toList (k + tk.width) hwl
            have hg2 := Lx.gapTo_le false t.data.toList (k + tk.width)
            have hwl' : k + tk.width ≤ t.size := by omega
            clear hstep hn S0 hg0 hwd HS
            obtain ⟨a, cap, rfl⟩ := ownsRow_slice hown
            go_wp2_with (first
              | (go_at_call 55; refine (rnext_ok t k tk _ hs' hlt H1).mono ?_; rintro e w1 ⟨rfl, hb1⟩; have hown1 := ownsRow_below hown hb1; have hbz := hb1.size)
              | (go_at_call 56; refine (width_tok _ tk _ htl).mono ?_; rintro e w3 ⟨rfl, hb3⟩)
              | (go_at_call 54; refine (rgap_core t _ _ _ hs' hwl' rfl).mono ?_; rintro e w4 ⟨rfl, rfl⟩)
              | (at_builtin; refine wpList_append_own _ rfl _ _ 45 rfl w'.heap.size 58 i0 (.agg #[.int .i64 0, .int .i64 0, .int .i64 0, .string ⟨#[]⟩]) 4 40 Tryz.underlying45 hi hz0 hz1 hz2 rfl (by decide) _ _ _ rfl ((hown1.alloc _).alloc _) ⟨w1.heap.size + 1, 0, none⟩ 1 1 [.int .i64 tk.kind, .int .i64 k, .int .i64 tk.n, .string (bs tk.text)] rfl rfl ?c1 ?c2 ?c3 ?c4 ?c5 ?_))
            case c1 => exact cells_new (by simp)
            case c2 => intro x hx; simp at hx; rcases hx with rfl | rfl | rfl | rfl <;> rfl
            case c3 => unfold maxLen; omega
            case c4 => omega
            case c5 => simp; omega
            intro v' w2 hown2 hgrow2 _
            have hb2 : Below w'.heap.size w' w2 := Below.appended (((hb.trans (hb1.mono hbig)).alloc (by omega) _).alloc (by simp; omega) _) hgrow2 (by simp; omega) ((hown1.alloc _).alloc _)
            have hblk : w2.heap[w1.heap.size]? = some (.cells #[.int .i64 tk.kind, .int .i64 k, .int .i64 tk.n, .string (bs tk.text)] 58) := by
              rw [hgrow2.block w1.heap.size (by simp; omega) (ownsRow_lt hown1 (Nat.le_refl _)), Below.heap_alloc _ _ _ (by simp), heap_alloc_new]
            have d0 := cell_of_row w2 w1.heap.size 0 _ _ _ hblk
            have d1 := cell_of_row w2 w1.heap.size 1 _ _ _ hblk
            have d2 := cell_of_row w2 w1.heap.size 2 _ _ _ hblk
            have d3 := cell_of_row w2 w1.heap.size 3 _ _ _ hblk
            simp only [List.size_toArray, List.length_cons, List.length_nil, Nat.zero_add, Nat.reduceAdd, Nat.reduceLT, getElem?_pos, List.getElem_toArray, List.getElem_cons_zero, List.getElem_cons_succ] at d0 d1 d2 d3
            have hbz2 := hb2.size
            clear hown hown1 hgrow2 hblk H1 hi hz0 hz1 hz2
            go_wp2_with (first
              | (go_at_call 56; refine (width_tok _ tk _ htl).mono ?_; rintro e w3 ⟨rfl, hb3⟩)
              | (go_at_call 54; refine (rgap_core t _ _ _ hs' hwl' rfl).mono ?_; rintro e w4 ⟨rfl, rfl⟩))
            go_roundw
            case rel => exact ⟨acc ++ [(k, tk)], k + tk.width, Lx.gapTo false t.data.toList (k + tk.width), by omega, rfl, hstep1, by rw [tokCells_snoc, List.length_append]; exact ownsRow_below hown2 hb3, hb2.trans (hb3.mono (by omega))⟩
            case measure => simp [intOf]; omega
      · have hpost := hid (lex_ok (by omega) (HS.out.done (by omega)))
        go_wp2
        go_ret3
        exact LexPost.mk hpost.out hown hb

end Go.Proofs.YteogmlgmodeajaaGreatDoor
