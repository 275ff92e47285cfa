/-
  What the program's Lex returns: the tokens, the error and the offset as the plain lexer has them. Conditions: lengths within Go's own bound.
-/
import Derived.Test.YtidkmhokolknbaaGreatDoorZLexF0
import Derived.Test.YtidkmhokolknbaaGreatDoorZMLexR
namespace Go.Proofs.YtidkmhokolknbaaGreatDoor
open Go.RowKit

theorem next_err (b : Nat) (t : ByteArray) (k e : Nat) (w : World) (h : ScanAt w b t) (hm : t.size ≤ 20000) (hk : k < t.size) (hn : Hid (Lx.nextTok t[k] (t.data.toList.drop (k + 1)) = .error e)) :
    Calls Tryz.prog 73 #[.pointer (some ⟨b, 0, none⟩), .int .i64 k] w (Gives (.tuple #[.agg #[.int .i64 0, .int .i64 0, .int .i64 0, .string ⟨#[]⟩], .int .i64 0, .int .i64 e]) w) := by
  have := next_any b t k w h hk hm
  rw [hn.out] at this
  exact this

theorem next_ok (b : Nat) (t : ByteArray) (k : Nat) (tk : Lx.Tk) (w : World) (h : ScanAt w b t) (hm : t.size ≤ 20000) (hk : k < t.size) (hn : Hid (Lx.nextTok t[k] (t.data.toList.drop (k + 1)) = .ok tk)) :
    Calls Tryz.prog 73 #[.pointer (some ⟨b, 0, none⟩), .int .i64 k] w (Gives (.tuple #[.agg #[.int .i64 tk.kind, .int .i64 k, .int .i64 tk.n, .string (bs tk.text)], .int .i64 ((k + tk.width : Nat) : Int), .int .i64 0]) w) := by
  have := next_any b t k w h hk hm
  rw [hn.out] at this
  rw [Int.natCast_add]
  exact this

theorem gap_any (b : Nat) (t : ByteArray) (k : Nat) (w : World) (h : ScanAt w b t) (hk : k ≤ t.size) (hm : t.size ≤ maxLen) :
    Calls Tryz.prog 72 #[.pointer (some ⟨b, 0, none⟩), .int .i64 k] w (Gives (.int .i64 ((Lx.gapTo false t.data.toList k : Nat) : Int)) w) := gap_core b t k _ w h hk hm rfl

/-- what is known at a round's head: tokens found, memory below b as it was, the scanner -/
theorem ScanAt.belowB {w w' : World} {b B : Nat} {t : ByteArray} (h : ScanAt w b t) (hb : Below B w w') (hB : b < B) : ScanAt w' b t := by
  unfold ScanAt at *
  rw [hb.block b hB, h]

set_option maxRecDepth 100000 in
set_option maxHeartbeats 3200000 in
theorem lex_any (t : ByteArray) (w : World) (hs : t.size ≤ maxLen) :
    Calls Tryz.prog 49 #[.string t] w (LexPost w (Lx.lex t.data.toList)) := by
  obtain ⟨i0, hi, hz0, hz1, hz2⟩ := info_parts Tryz.infoTok
  have hs' := hs
  unfold maxLen at hs
  have hl : t.data.toList.length = t.size := by simp
  by_cases h20 : 20000 < t.size
  · have hpost := hid (show Lx.lex t.data.toList = ([], 2, -1) by rw [Lx.lex, if_pos (by omega)])
    clear hl
    go_enter Tryz.func49, Tryz.ntmps49
    go_wp2
    go_ret3
    exact LexPost.nil hpost.out (Below.refl _ _)
  · have h20' : t.size ≤ 20000 := by omega
    have S0 := Lx.St.start t.data.toList
    have hg0 : Lx.gapTo false t.data.toList 0 ≤ t.size := by have := Lx.gapTo_le false t.data.toList 0; omega
    go_enter Tryz.func49, Tryz.ntmps49
    go_wp2_with (first
      | (go_at_call 71; refine (classes_any _).mono ?_; rintro e w1 ⟨rfl, hb1⟩)
      | (refine wpList_build_eq rfl 106 [(0, .tmp 14), (1, .tmp 15)] rfl [(0, .string t), (1, .agg clsA)] rfl (scanCells t) (built_scan t) ?_)
      | (refine wpList_alloc_agg rfl 106 rfl z257 257 Tryz.infoScan ?_)
      | (refine wpList_store_row rfl 106 _ _ rfl w1.heap.size (scanCells t) rfl rfl 106 z257 (heap_alloc_new _ _) (scan_info t) (z257_size.trans (scan_size t).symm) (scan_one t) ?_))
    have hsc2 : ScanAt ((w1.alloc (.cells z257 106)).setRow w1.heap.size (scanCells t)) w1.heap.size t := setRow_heap _ _ _ _ _ _ (heap_alloc_new _ _)
    have hb2 : Below w.heap.size w ((w1.alloc (.cells z257 106)).setRow w1.heap.size (scanCells t)) :=
      (hb1.alloc hb1.size _).trans ⟨rfl, rfl, rfl, by simp, fun k hk => setRow_other _ _ _ _ (by have := hb1.size; omega)⟩
    have hz2' : w1.heap.size + 1 ≤ ((w1.alloc (.cells z257 106)).setRow w1.heap.size (scanCells t)).heap.size := by simp
    have hz1' := hb1.size
    generalize ((w1.alloc (.cells z257 106)).setRow w1.heap.size (scanCells t)) = w2 at *
    generalize w1.heap.size = b at *
    clear hb1
    refine (gap_any b t 0 _ hsc2 (Nat.zero_le _) hs').mono ?_
    rintro e w3 ⟨rfl, hb3⟩
    have hsc3 := hid (hsc2.below hb3)
    have hb3' : Below w.heap.size w w3 := hb2.trans (hb3.mono (by omega))
    have hz3 := hb3.size
    clear hsc2 hb2 hb3
    go_wp2_with fail
    go_loopw [6, 7] (fun v i wr => ∃ (acc : List (Nat × Lx.Tk)) (j k : Nat), k ≤ t.size ∧ i = .int .i64 k ∧ Hid (Lx.St t.data.toList acc j k) ∧ wr.ownsRow (b + 1) 81 4 v acc.length (tokCells acc) ∧ Below (b + 1) w3 wr) (fun _ i _ => t.size - (intOf i).toNat)
    case atStart => exact ⟨[], 0, _, hg0, rfl, S0, World.ownsRow_nil _ _ _ _, Below.refl _ _⟩
    case round =>
      obtain ⟨acc, j, k, hk, rfl, HS, hown, hb⟩ := hrel
      have hsr : ScanAt wr b t := hsc3.out.belowB hb (by omega)
      have hbw : Below w.heap.size w wr := hb3'.trans (hb.mono (by omega))
      have hzr := hb.size
      by_cases hlt : k < t.size
      · have hl' : k < t.data.toList.length := by omega
        cases hn : Lx.nextTok t[k] (t.data.toList.drop (k + 1)) with
        | error e =>
          have H1 := hid hn
          have he := nextTok_err_pos hn
          have he0 : ((e : Int) == 0) = false := by rw [Bool.eq_false_iff]; intro h; rw [beq_iff_eq] at h; omega
          have he' : ((e : Int) != 0) = true := by rw [bne_iff_ne]; omega
          have hpost := hid (lex_err (by omega) (HS.out.err hl' hn))
          have hsr' := hid hsr
          clear hn hown S0 hg0 hsr
          go_wp2_with (go_at_call 73; refine (next_err b t k e _ hsr'.out h20' hlt H1).mono ?_; rintro e w4 ⟨rfl, hb4⟩)
          go_ret3
          exact LexPost.nil hpost.out ((hbw.trans (hb4.mono hbw.size)).alloc (by have := hb4.size; have := hbw.size; omega) _)
        | ok tk =>
          have H1 := hid hn
          have hwd := Lx.next_width hn
          have hfew := HS.out.few
          have htl : tk.text.length + 2 ≤ maxLen := by
            have h1 : tk.text.length ≤ tk.width := by unfold Lx.Tk.width; split <;> omega
            have h2 := hwd.2
            simp at h2
            unfold maxLen
            omega
          have hsr' := hid hsr
          obtain ⟨a, cap, rfl⟩ := ownsRow_slice hown
          by_cases hc : acc.length = 5000
          · have hpost := hid (lex_err (by omega) (HS.out.full hl' hn hc))
            have hc' : ((acc.length : Int) == 5000) = true := by rw [beq_iff_eq]; omega
            clear hn S0 hg0 hwd htl hsr hown hc
            go_wp2_with (go_at_call 73; refine (next_ok b t k tk _ hsr'.out h20' hlt H1).mono ?_; rintro e w4 ⟨rfl, hb4⟩)
            go_ret3
            exact LexPost.nil hpost.out ((hbw.trans (hb4.mono hbw.size)).alloc (by have := hb4.size; have := hbw.size; omega) _)
          · have hstep := HS.out.next hl' hn hc
            have hc' : ((acc.length : Int) == 5000) = false := by rw [Bool.eq_false_iff]; intro h; rw [beq_iff_eq] at h; omega
            have hstep1 := hid hstep.1
            have hw0 := hstep.2.1
            have hwl := hstep.2.2
            have hg1 := Lx.gapTo_ge false t.data.toList (k + tk.width) hwl
            have hg2 := Lx.gapTo_le false t.data.toList (k + tk.width)
            have hwl' : k + tk.width ≤ t.size := by omega
            clear hstep hn S0 hg0 hwd HS hsr
            go_wp2_with (first
              | (go_at_call 73; refine (next_ok b t k tk _ hsr'.out h20' hlt H1).mono ?_; rintro e w4 ⟨rfl, hb4⟩; have hown1 := ownsRow_below hown hb4; have hbz := hb4.size)
              | (at_builtin; refine wpList_append_own _ rfl _ _ 76 rfl (b + 1) 81 i0 (.agg #[.int .i64 0, .int .i64 0, .int .i64 0, .string ⟨#[]⟩]) 4 40 Tryz.underlying76 hi hz0 hz1 hz2 rfl (by decide) _ _ _ rfl ((hown1.alloc _).alloc _) ⟨w4.heap.size + 1, 0, none⟩ 1 1 [.int .i64 tk.kind, .int .i64 k, .int .i64 tk.n, .string (bs tk.text)] rfl rfl ?c1 ?c2 ?c3 ?c4 ?c5 ?_))
            case c1 => exact cells_new (by simp)
            case c2 => intro x hx; simp at hx; rcases hx with rfl | rfl | rfl | rfl <;> rfl
            case c3 => unfold maxLen; omega
            case c4 => omega
            case c5 => simp; omega
            intro v' w5 hown2 hgrow2 _
            have hb5 : Below (b + 1) w3 w5 := Below.appended (((hb.trans (hb4.mono (by omega))).alloc (by omega) _).alloc (by simp; omega) _) hgrow2 (by simp; omega) ((hown1.alloc _).alloc _)
            have hbz5 := hb5.size
            have hs5 := hid (hsc3.out.belowB hb5 (by omega))
            clear hown hown1 hgrow2 H1 hi hz0 hz1 hz2
            go_wp2_with (go_at_call 72; refine (gap_any b t _ _ hs5.out hwl' hs').mono ?_; rintro e w6 ⟨rfl, hb6⟩)
            go_roundw
            case rel => exact ⟨acc ++ [(k, tk)], k + tk.width, Lx.gapTo false t.data.toList (k + tk.width), by omega, rfl, hstep1, by rw [tokCells_snoc, List.length_append]; exact ownsRow_below hown2 hb6, hb5.trans (hb6.mono (by omega))⟩
            case measure => simp [intOf]; omega
      · have hpost := hid (lex_ok (by omega) (HS.out.done (by omega)))
        go_wp2
        go_ret3
        exact LexPost.mk hpost.out (ownsRow_base hown (by omega)) hbw

end Go.Proofs.YtidkmhokolknbaaGreatDoor
