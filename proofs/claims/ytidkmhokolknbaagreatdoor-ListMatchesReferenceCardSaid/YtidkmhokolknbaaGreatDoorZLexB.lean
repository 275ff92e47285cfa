/-
  What the scanner's 'gap' returns: where the gaps end. Conditions: the scanner lies in memory as a text and the classes of the bytes; lengths within Go's own bound.
-/
import Derived.Test.YtidkmhokolknbaaGreatDoorZLexA
import Derived.Test.YtidkmhokolknbaaGreatDoorZLexLib
namespace Go.Proofs.YtidkmhokolknbaaGreatDoor
open Go.RowKit

/-- what holds of 256 bytes by a look at each holds of every byte -/
theorem all_bytes (P : UInt8 → Bool) (h : (List.range 256).all (fun n => P n.toUInt8) = true) (c : UInt8) : P c = true := by
  have := List.all_eq_true.1 h c.toNat (List.mem_range.2 c.toNat_lt)
  simpa using this

theorem inCls_blank : inCls [1] = Lx.isBlank := by
  funext c
  exact eq_of_beq (all_bytes (fun c => inCls [1] c == Lx.isBlank c) (by decide +kernel) c)
theorem inCls_word : inCls [3, 4, 5] = Lx.isWord := by
  funext c
  exact eq_of_beq (all_bytes (fun c => inCls [3, 4, 5] c == Lx.isWord c) (by decide +kernel) c)
theorem inCls_digit : inCls [4] = Lx.isDigit := by
  funext c
  exact eq_of_beq (all_bytes (fun c => inCls [4] c == Lx.isDigit c) (by decide +kernel) c)
theorem cls_hash (c : UInt8) : ((cls c : Int) == 2) = (c == 35) :=
  eq_of_beq (all_bytes (fun c => ((cls c : Int) == 2) == (c == 35)) (by decide +kernel) c)

theorem skip_run (l : List UInt8) : Lx.skip false (l.dropWhile Lx.isBlank) = Lx.skip false l := by
  induction l with
  | nil => rfl
  | cons c l ih =>
    rw [List.dropWhile_cons]
    split
    · rename_i h; rw [ih]; simp [Lx.skip, h]
    · rfl

theorem gapTo_run (l : List UInt8) (k : Nat) : Lx.gapTo false l (Lx.run Lx.isBlank l k) = Lx.gapTo false l k := by
  unfold Lx.gapTo
  rw [Lx.run_drop, skip_run]

/-- behind a comment -/
theorem skip_comment (l : List UInt8) : Lx.skip true l = if Lib.indexByte l 10 < 0 then [] else Lx.skip false (l.drop (Lib.indexByte l 10).toNat) := by
  induction l with
  | nil => rfl
  | cons c l ih =>
    have hge := Lib.indexByte_ge l 10
    simp only [Lx.skip, Lib.indexByte, beq_iff_eq]
    by_cases h : c = 10
    · subst h
      simp [Lx.skip, Lx.isBlank]
    · rw [if_neg h, if_neg h, ih]
      by_cases h2 : Lib.indexByte l 10 = -1
      · simp [h2]
      · rw [if_neg h2, if_neg (by omega), if_neg (by omega)]
        congr 1
        have : (Lib.indexByte l 10 + 1).toNat = (Lib.indexByte l 10).toNat + 1 := by omega
        rw [this]; rfl

theorem indexByte_lt (l : List UInt8) (c : UInt8) : Lib.indexByte l c < l.length ∨ l = [] := by
  induction l with
  | nil => exact .inr rfl
  | cons b l ih =>
    left
    simp only [Lib.indexByte, List.length_cons]
    split
    · omega
    · split
      · omega
      · rcases ih with ih | ih
        · omega
        · subst ih; simp [Lib.indexByte]

theorem gapTo_comment {l : List UInt8} {k : Nat} (h : k < l.length) (hh : l[k] = 35) :
    (Lib.indexByte (l.drop k) 10 < 0 → Lx.gapTo false l k = l.length) ∧
    (0 ≤ Lib.indexByte (l.drop k) 10 → k + (Lib.indexByte (l.drop k) 10).toNat ≤ l.length ∧ 0 < (Lib.indexByte (l.drop k) 10).toNat ∧ Lx.gapTo false l (k + (Lib.indexByte (l.drop k) 10).toNat) = Lx.gapTo false l k) := by
  have e : Lx.skip false (l.drop k) = Lx.skip true (l.drop k) := by
    rw [Lx.drop_cons h]; simp [Lx.skip, hh, Lx.isBlank]
  have hlt := indexByte_lt (l.drop k) 10
  constructor
  · intro hn
    unfold Lx.gapTo
    rw [e, skip_comment, if_pos hn]; rfl
  · intro hn
    have hne : l.drop k ≠ [] := by simp; omega
    have h1 := hlt.resolve_right hne
    rw [List.length_drop] at h1
    refine ⟨by omega, ?_, ?_⟩
    · rw [Lx.drop_cons h] at hn ⊢
      simp only [Lib.indexByte, hh] at hn ⊢
      have hge := Lib.indexByte_ge (l.drop (k + 1)) 10
      rw [if_neg (by decide)] at hn ⊢
      split at hn
      · omega
      · rename_i h2
        rw [if_neg h2]
        simp at h2
        omega
    · unfold Lx.gapTo
      rw [e, skip_comment (l.drop k), if_neg (by omega), List.drop_drop]

theorem run_stops (p : UInt8 → Bool) (l : List UInt8) (k : Nat) (h : Lx.run p l k < l.length) : p l[Lx.run p l k] = false := by
  have := Lx.head_drop h
  rw [Lx.run_drop] at this
  exact Lx.dropWhile_head this

theorem while_blank (b : Nat) (t : ByteArray) (k : Nat) (g : Nat) (w : World) (h : ScanAt w b t) (hx : IntsAt w g [1]) (hk : k ≤ t.size) (hm : t.size ≤ maxLen) :
    Calls Tryz.prog 91 #[.pointer (some ⟨b, 0, none⟩), .int .i64 k, .slice (some ⟨g, 0, none⟩) 1 1] w (Draws (.int .i64 (Lx.run Lx.isBlank t.data.toList k)) w) := by
  have := while_core b t k _ g 1 [1] w h hx hk hm (by decide) rfl
  rw [inCls_blank] at this
  exact this

theorem ints_one {w : World} {n : Nat} (x : Int) (T : TypeId) (h : n = w.heap.size) : IntsAt (w.alloc (.cells #[.int .i64 x] T)) n [x] := by
  intro i y hy
  have hi : i = 0 := by
    have := (List.getElem?_eq_some_iff.1 hy).1
    simpa using this
  subst hi
  simp at hy
  subst hy
  rw [World.cell?_alloc_at _ _ _ _ h]
  rfl

theorem indexByte_at (s : ByteArray) (N : Int) (w : World) (h : Hid (Lib.indexByte s.data.toList 10 = N)) :
    Calls Tryz.prog 93 #[.string s, .int .u8 10] w (Same (.int .i64 N) w) := by
  have := indexByte_any s w
  rwa [h.out] at this

set_option maxHeartbeats 1600000 in
theorem gap_core (b : Nat) (t : ByteArray) (k E : Nat) (w : World) (h : ScanAt w b t) (hk : k ≤ t.size) (hm : t.size ≤ maxLen) (hE : Hid (Lx.gapTo false t.data.toList k = E)) :
    Calls Tryz.prog 72 #[.pointer (some ⟨b, 0, none⟩), .int .i64 k] w (Gives (.int .i64 E) w) := by
  have hm' := hm
  unfold maxLen at hm
  have hS := hid h
  have hlt := h.lt
  clear h
  go_enter Tryz.func72, Tryz.ntmps72
  go_wp2_with (go_at_call 91; refine (while_blank b t k _ _ (hS.out.below ((Below.refl _ _).alloc (Nat.le_refl _) _)) (ints_one 1 _ rfl) hk hm').mono ?_; rintro e w' ⟨rfl, q, rfl⟩)
  have HE1 := hid ((gapTo_run t.data.toList k).trans hE.out)
  have hr1 := Lx.run_le Lx.isBlank t.data.toList k (by simpa using hk)
  have hll : t.data.toList.length = t.size := by simp
  have hstop := hid (show ∀ hj : Lx.run Lx.isBlank t.data.toList k < t.size, Lx.isBlank t[Lx.run Lx.isBlank t.data.toList k] = false from fun hj => run_stops Lx.isBlank t.data.toList k (by simpa using hj))
  generalize Lx.run Lx.isBlank t.data.toList k = r at *
  go_loopw [1] (fun i wr => ∃ j : Nat, j ≤ t.size ∧ i = .int .i64 j ∧ Below w.heap.size w wr ∧ Hid (Lx.gapTo false t.data.toList j = E) ∧ Hid (∀ hj : j < t.size, Lx.isBlank t[j] = false)) (fun i _ => t.size - (intOf i).toNat)
  case atStart => exact ⟨r, by omega, rfl, below_drewN ((Below.refl _ _).alloc (Nat.le_refl _) _) _, HE1, hstop⟩
  case round =>
    obtain ⟨j, hj, rfl, hb, hG, hnb⟩ := hrel
    have hSr := hid (hS.out.below hb)
    have hbz := hb.size
    by_cases hlt' : j < t.size
    · by_cases hh : t[j] = 35
      · have hc : ((cls t[j] : Int) == 2) = true := by rw [cls_hash]; simpa using hh
        obtain ⟨N, hN⟩ : ∃ N, Lib.indexByte (t.extract j t.size).data.toList 10 = N := ⟨_, rfl⟩
        have hN' := hid hN
        have hx := gapTo_comment (l := t.data.toList) (k := j) (by simpa using hlt') hh
        rw [extract_list, List.take_of_length_le (by simp)] at hN
        rw [hN] at hx
        by_cases hneg : N < 0
        · have H2 := hid (show t.size = E by rw [← hG.out, hx.1 hneg]; omega)
          clear hx hN hh
          go_wp2_with (first
            | (go_at_call 92; refine (at_in b t j _ hSr.out hlt' hm').mono ?_; rintro e w' ⟨rfl, q', rfl⟩; have htx := hSr.out.text)
            | (go_at_call 93; refine (indexByte_at _ N _ hN').mono ?_; rintro e w' ⟨rfl, rfl⟩))
          go_ret
          exact ⟨ret_nat H2.out, below_drewN hb _⟩
        · obtain ⟨n, rfl⟩ := Int.eq_ofNat_of_zero_le (show 0 ≤ N by omega)
          have hx2 := hx.2 (by omega)
          simp only [Int.toNat_natCast] at hx2
          obtain ⟨x1, x2, x3⟩ := hx2
          have x1' : j + n ≤ t.size := by omega
          have HE1 := hid ((gapTo_run t.data.toList (j + n)).trans (x3.trans hG.out))
          have hr1 := Lx.run_le Lx.isBlank t.data.toList (j + n) (by simpa using x1')
          have hr2 := Lx.run_ge Lx.isBlank t.data.toList (j + n)
          have hstop := hid (show ∀ hj : Lx.run Lx.isBlank t.data.toList (j + n) < t.size, Lx.isBlank t[Lx.run Lx.isBlank t.data.toList (j + n)] = false from fun hj => run_stops Lx.isBlank t.data.toList (j + n) (by simpa using hj))
          have hwh : ∀ (w' : World) (g : Nat), ScanAt w' b t → IntsAt w' g [1] → Calls Tryz.prog 91 #[.pointer (some ⟨b, 0, none⟩), .int .i64 ((j : Int) + (n : Int)), .slice (some ⟨g, 0, none⟩) 1 1] w' (Draws (.int .i64 (Lx.run Lx.isBlank t.data.toList (j + n))) w') := fun w' g h1 h2 => by
            have := while_blank b t (j + n) g w' h1 h2 x1' hm'
            rwa [Int.natCast_add] at this
          have hwh' := hid hwh
          clear hx hN hh x3 hwh
          go_wp2_with (first
            | (go_at_call 92; refine (at_in b t j _ hSr.out hlt' hm').mono ?_; rintro e w' ⟨rfl, q', rfl⟩; have htx := hSr.out.text)
            | (go_at_call 93; refine (indexByte_at _ _ _ hN').mono ?_; rintro e w' ⟨rfl, rfl⟩)
            | (go_at_call 91; refine (hwh'.out _ _ ((hSr.out.drewN q').below ((Below.refl _ _).alloc (Nat.le_refl _) _)) (ints_one 1 _ rfl)).mono ?_; rintro e w' ⟨rfl, q2, rfl⟩))
          go_roundw
          case rel => exact ⟨_, by omega, rfl, below_drewN (hb.alloc hbz _) _, HE1, hstop⟩
          case measure => simp [intOf]; omega
      · have hc : ((cls t[j] : Int) == 2) = false := by rw [cls_hash]; simpa using hh
        have H2 := hid ((Lx.gapTo_stop (l := t.data.toList) (by simpa using hlt') (hnb.out hlt') hh).symm.trans hG.out)
        go_wp2_with (go_at_call 92; refine (at_in b t j _ hSr.out hlt' hm').mono ?_; rintro e w' ⟨rfl, q', rfl⟩)
        go_ret
        exact ⟨ret_nat H2.out, below_drewN hb _⟩
    · have H2 := hid (show j = E by rw [← hG.out, Lx.gapTo_end (by omega)]; omega)
      go_wp2_with (go_at_call 92; refine (at_out b t j _ hSr.out (by omega) (by unfold maxLen; omega)).mono ?_; rintro e w' ⟨rfl, q', rfl⟩)
      go_ret
      exact ⟨ret_nat H2.out, below_drewN hb _⟩

end Go.Proofs.YtidkmhokolknbaaGreatDoor
