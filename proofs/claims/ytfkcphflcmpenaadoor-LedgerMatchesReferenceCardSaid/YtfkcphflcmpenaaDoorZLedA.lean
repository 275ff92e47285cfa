/-
  ledger.formed$1, slices.IndexFunc, ContainsFunc at postings: is an account among them? Conditions: lengths.
-/
import Derived.Test.YtfkcphflcmpenaaDoorZLedMem
import Derived.Test.YtfkcphflcmpenaaDoorZLexLib1
namespace Go.Proofs.YtfkcphflcmpenaaDoor
open Go.RowKit Go.Lib Go.Maps

theorem list_beq (a b : ByteArray) : (a.toList == b.toList) = decide (a = b) := by
  rw [byteList_beq]
  have : a.data.toList = b.data.toList ↔ a = b := ⟨fun h => by
    obtain ⟨⟨x⟩⟩ := a; obtain ⟨⟨y⟩⟩ := b; simp at h; rw [h], fun h => by rw [h]⟩
  simp only [this]

set_option maxRecDepth 100000 in
theorem same_post (p q : ByteArray × Int) (B : Nat) (W : World) (hB : W.cell? ⟨B, 0, none⟩ = some (.string p.1)) (hBs : B < W.heap.size) :
    Calls Tryd.prog 41 #[postV q, .pointer (some ⟨B, 0, none⟩)] W (Gives (.bool (decide (q.1 = p.1))) W) := by
  unfold postV
  have hl := list_beq q.1 p.1
  have hbW := hid (show Below W.heap.size W (W.alloc (.cells #[.string q.1, .int .i64 q.2] 47)) from (Below.refl _ W).alloc (Nat.le_refl _) _)
  go_enter Tryd.func41, Tryd.ntmps41
  go_wp2
  go_ret
  exact ⟨rfl, hbW.out⟩

/-- is an account among these postings? -/
def hasP (a : ByteArray) (l : List (ByteArray × Int)) : Bool := l.any fun q => decide (q.1 = a)

/-- what IndexFunc ends in -/
def IdxP (l : List (ByteArray × Int)) (a : ByteArray) (W : World) (e : Ending) (W' : World) : Prop :=
  Below W.heap.size W W' ∧ ∃ i : Int, e = .returned (.int .i64 i) ∧ decide (0 ≤ i) = hasP a l

set_option maxRecDepth 100000 in
set_option maxHeartbeats 2000000 in
theorem idx_post (l : List (ByteArray × Int)) (v : Value) (p : ByteArray × Int) (B : Nat) (W : World) (h : SlOf W v 2 postC l) (hB : W.cell? ⟨B, 0, none⟩ = some (.string p.1)) (hBs : B < W.heap.size) (hlen : l.length ≤ 1000000) :
    Calls Tryd.prog 47 #[v, .func (.func 41) #[] #[.pointer (some ⟨B, 0, none⟩)]] W (IdxP l p.1 W) := by
  obtain ⟨a, cap, rfl, h1, h2, h3⟩ := h
  have H3 := hid h3
  have HB := hid hB
  clear h3 hB
  go_enter Tryd.func47, Tryd.ntmps47
  go_wp2_with fail
  go_loopw [8] (fun k wr => ∃ n : Nat, n ≤ l.length ∧ k = .int .i64 n ∧ Hid (hasP p.1 (l.take n) = false) ∧ Below W.heap.size W wr) (fun k _ => l.length - (intOf k).toNat)
  case atStart => exact ⟨0, Nat.zero_le _, rfl, rfl, Below.refl _ _⟩
  case round =>
    obtain ⟨n, hn, rfl, HNO, hb⟩ := hrel
    by_cases hlt : n < l.length
    · obtain ⟨g, o, rfl, hr⟩ := H3.out (by omega)
      obtain ⟨q, hq⟩ : ∃ q, l[n]? = some q := ⟨_, List.getElem?_eq_getElem hlt⟩
      have hc := (hr.below hb).2 n q hq
      have c0 := hc 0 _ rfl
      have c1 := hc 1 _ rfl
      rw [Nat.add_zero] at c0
      have hg := (hr.below hb).1
      have hn0 : (0 : Int) ≤ (n : Int) := by omega
      have hn1 : (n : Int) < (l.length : Int) := by omega
      have HC := hid (same_post p q B wr ((hb.cell (p := ⟨B, 0, none⟩) hBs).trans HB.out) (Nat.lt_of_lt_of_le hBs hb.size))
      unfold postV at HC
      have hstep : hasP p.1 (l.take (n + 1)) = (hasP p.1 (l.take n) || decide (q.1 = p.1)) := by
        obtain ⟨hk, hx⟩ := List.getElem?_eq_some_iff.1 hq
        unfold hasP
        rw [List.take_succ_eq_append_getElem hk, hx, List.any_append]
        simp
      have HP := hid (And.intro hq hstep)
      have HBB := hid hb
      clear hc hr hq hb hstep
      go_wp2_with fail
      refine (HC.out).mono ?_
      rintro e w1 ⟨rfl, hb1⟩
      have HB1 := hid (Below.trans HBB.out (hb1.mono HBB.out.size))
      clear hb1
      cases he : decide (q.1 = p.1) with
      | true =>
        have HE := hid he
        clear he
        go_wp2_with fail
        go_ret
        refine ⟨HB1.out, (n : Int), rfl, ?_⟩
        rw [show hasP p.1 l = true from by
          unfold hasP
          rw [List.any_eq_true]
          exact ⟨q, List.mem_of_getElem? HP.out.1, HE.out⟩]
        simp
      | false =>
        have HE := hid he
        clear he
        go_wp2_with fail
        go_roundw
        case rel =>
          refine ⟨n + 1, by omega, by go_num, ?_, HB1.out⟩
          have := HP.out.2
          rw [HNO.out, HE.out] at this
          exact this
        case measure => simp [intOf]; omega
    · have hne : n = l.length := by omega
      subst hne
      have HBB := hid hb
      clear hb
      go_wp2_with fail
      go_ret
      refine ⟨HBB.out, -1, rfl, ?_⟩
      have := HNO.out
      rw [List.take_length] at this
      rw [this]; rfl

set_option maxRecDepth 100000 in
set_option maxHeartbeats 2000000 in
theorem contains_post (l : List (ByteArray × Int)) (v : Value) (p : ByteArray × Int) (B : Nat) (W : World) (h : SlOf W v 2 postC l) (hB : W.cell? ⟨B, 0, none⟩ = some (.string p.1)) (hBs : B < W.heap.size) (hlen : l.length ≤ 1000000) :
    Calls Tryd.prog 40 #[v, .func (.func 41) #[] #[.pointer (some ⟨B, 0, none⟩)]] W (Gives (.bool (hasP p.1 l)) W) := by
  have HC := hid (idx_post l v p B W h hB hBs hlen)
  obtain ⟨a, cap, rfl, h1, h2, h3⟩ := h
  clear h3 hB
  go_enter Tryd.func40, Tryd.ntmps40
  go_wp2_with fail
  refine (HC.out).mono ?_
  rintro e w1 ⟨hb1, i, rfl, hi⟩
  have HI := hid hi
  have HB1 := hid hb1
  clear hi hb1
  go_wp2_with fail
  go_ret
  exact ⟨ret_bool HI.out, HB1.out⟩

end Go.Proofs.YtfkcphflcmpenaaDoor
