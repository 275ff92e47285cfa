/-
  The law file's apart: the texts of tokens, each followed by a line feed. Conditions: lengths.
-/
import Derived.Test.YteogmlgmodeajaaDoorZFa15
import Derived.OwnWalk
namespace Go.Proofs.YteogmlgmodeajaaDoor
open Go.RowKit Go.Lib Go.Maps

/-- a token of a slice, its cells -/
theorem tok_cells {w wr : World} {va : Option Addr} {cap k : Nat} {l : List Fa.T} {t : Fa.T} (h : SlOf w (.slice va l.length cap) 4 tkC l) (hk : l[k]? = some t) (hb : Below w.heap.size w wr) :
    ∃ g o, va = some ⟨g, o, none⟩ ∧ g < wr.heap.size ∧ wr.cell? ⟨g, o + k * 4, none⟩ = some (.int .i64 t.2.kind) ∧ wr.cell? ⟨g, o + k * 4 + 1, none⟩ = some (.int .i64 t.1) ∧ wr.cell? ⟨g, o + k * 4 + 2, none⟩ = some (.int .i64 t.2.n) ∧ wr.cell? ⟨g, o + k * 4 + 3, none⟩ = some (.string (bs t.2.text)) := by
  obtain ⟨a', cap', ea, _, _, h4⟩ := h
  cases ea
  obtain ⟨g, o, rfl, hr⟩ := h4 (by have := (List.getElem?_eq_some_iff.1 hk).1; omega)
  have hc := (hr.below hb).2 k t hk
  have e0 := hc 0 _ rfl
  rw [Nat.add_zero] at e0
  exact ⟨g, o, rfl, (hr.below hb).1, e0, hc 1 _ rfl, hc 2 _ rfl, hc 3 _ rfl⟩
theorem bs_app (a b : List UInt8) : bs a ++ bs b = bs (a ++ b) := bs_ext (by simp [bs])
theorem apart_take {l : List Fa.T} {k : Nat} {p : Fa.T} (h : l[k]? = some p) : Fa.apart (l.take (k + 1)) = Fa.apart (l.take k) ++ (p.2.written ++ [10]) := by
  rw [take_snoc h]
  simp [Fa.apart]
theorem apart_le {l : List Fa.T} (k : Nat) : (Fa.apart (l.take k)).length ≤ (Fa.apart l).length := by
  have : Fa.apart l = Fa.apart (l.take k) ++ Fa.apart (l.drop k) := by
    conv => lhs; rw [← List.take_append_drop k l]
    simp only [Fa.apart, List.flatMap_append]
  rw [this, List.length_append]
  omega

set_option maxRecDepth 100000 in
set_option maxHeartbeats 4000000 in
theorem apart_any (l : List Fa.T) (v : Value) (w : World) (h : SlOf w v 4 tkC l) (hl : (Fa.apart l).length ≤ 1000000) : Calls Tryd.prog 22 #[v] w (Gives (.string (bs (Fa.apart l))) w) := by
  have HS := hid h
  obtain ⟨va, cap, rfl, k1, k2, -⟩ := h
  have hl1 : l.length ≤ 9223372036854775807 := by unfold maxLen at k2; omega
  clear k1 k2
  go_enter Tryd.func22, Tryd.ntmps22
  go_wp2_with fail
  go_loopw [3, 4] (fun sv iv wr => ∃ k : Nat, k ≤ l.length ∧ iv = .int .i64 k ∧ sv = .string (bs (Fa.apart (l.take k))) ∧ Hid (Below w.heap.size w wr)) (fun _ iv _ => l.length - (RowKit.intOf iv).toNat)
  case atStart => exact ⟨0, Nat.zero_le _, rfl, rfl, Below.refl _ _⟩
  case round =>
    obtain ⟨k, hk, rfl, rfl, HR⟩ := hrel
    by_cases hlt : k < l.length
    · obtain ⟨p, hp⟩ : ∃ p, l[k]? = some p := ⟨_, List.getElem?_eq_getElem hlt⟩
      obtain ⟨g, o, rfl, hg, e0, e1, e2, e3⟩ := tok_cells HS.out hp HR.out
      have hk0 : (0 : Int) ≤ (k : Int) := by omega
      have hk1 : (k : Int) < (l.length : Int) := by omega
      have hstep := apart_take hp
      have hle2 := apart_le (l := l) (k + 1)
      rw [hstep] at hle2
      simp only [List.length_append, List.length_cons, List.length_nil, Lx.written_length] at hle2
      have hwl : p.2.text.length ≤ p.2.width := by unfold Lx.Tk.width; split <;> omega
      have z1 : (bs (Fa.apart (l.take k))).size ≤ 1000000 := by rw [bs_size]; omega
      have z2 : (bs p.2.text).size ≤ 1000000 := by rw [bs_size]; omega
      by_cases h3 : p.2.kind = 3
      · have hkd : (((p.2.kind : Nat) : Int) == 3) = true := by rw [h3]; rfl
        have HE := hid (show bs (Fa.apart (l.take k)) ++ ⟨#[34]⟩ ++ bs p.2.text ++ ⟨#[34, 10]⟩ = bs (Fa.apart (l.take (k + 1))) from bs_ext (by
          rw [hstep]; simp [bs, Lx.Tk.written, h3, ByteArray.data_append]))
        have hs1 : ¬ 9223372036854775807 < (bs (Fa.apart (l.take k))).size + 1 := by omega
        clear hp hstep hle2 hwl h3
        go_wp2_with fail
        go_roundw
        case rel => exact ⟨k + 1, by omega, by go_num, by rw [HE.out], HR⟩
        case measure => simp [RowKit.intOf]; omega
      · have hkd : (((p.2.kind : Nat) : Int) == 3) = false := by
          rw [beq_eq_false_iff_ne]; omega
        have HE := hid (show bs (Fa.apart (l.take k)) ++ bs p.2.text ++ ⟨#[10]⟩ = bs (Fa.apart (l.take (k + 1))) from bs_ext (by
          rw [hstep]; simp [bs, Lx.Tk.written, h3, ByteArray.data_append]))
        have hs1 : ¬ 9223372036854775807 < (bs (Fa.apart (l.take k))).size + (bs p.2.text).size := by omega
        clear hp hstep hle2 hwl h3
        go_wp2_with fail
        go_roundw
        case rel => exact ⟨k + 1, by omega, by go_num, by rw [HE.out], HR⟩
        case measure => simp [RowKit.intOf]; omega
    · have hks : k = l.length := by omega
      subst hks
      go_wp2_with fail
      go_ret
      exact ⟨by rw [List.take_length]; rfl, HR.out⟩

end Go.Proofs.YteogmlgmodeajaaDoor
