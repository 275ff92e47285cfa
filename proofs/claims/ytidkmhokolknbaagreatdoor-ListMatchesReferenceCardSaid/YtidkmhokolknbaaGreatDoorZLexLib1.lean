/-
  The library's HasPrefix at '=' and Atoi at at most 13 digits, walked. Conditions: as each theorem says.
-/
import Derived.Test.YtidkmhokolknbaaGreatDoorZMBase
import Derived.Test.YtidkmhokolknbaaGreatDoorZLexAid
namespace Go.Proofs.YtidkmhokolknbaaGreatDoor
open Go.RowKit

theorem byteList_beq {a : ByteArray} {b : ByteArray} : (a.toList == b.toList) = decide (a.data.toList = b.data.toList) := by
  rw [Bool.eq_iff_iff]
  simp [ByteArray.toList_eq]

set_option maxRecDepth 100000 in
theorem prefix_no (s : ByteArray) (w : World) (h : s.size = 0) : Calls Tryz.prog 120 #[.string s, .string ⟨#[61]⟩] w (Same (.bool false) w) := by
  go_enter Tryz.func120, Tryz.ntmps120
  go_wp2
  go_ret
  exact ⟨rfl, rfl⟩

/-- does the text begin with '='? -/
def eqHead (s : ByteArray) : Bool := decide (s.data.toList.head? = some 61)

set_option maxRecDepth 100000 in
theorem prefix_yes (s : ByteArray) (w : World) (h : 1 ≤ s.size) (hm : s.size ≤ maxLen) : Calls Tryz.prog 120 #[.string s, .string ⟨#[61]⟩] w (Same (.bool (eqHead s)) w) := by
  unfold maxLen at hm
  go_enter Tryz.func120, Tryz.ntmps120
  go_wp2
  go_ret
  refine ⟨ret_bool ?_, rfl⟩
  rw [show ([61] : List UInt8) = (⟨#[61]⟩ : ByteArray).data.toList from rfl, eqHead]
  rw [Bool.eq_iff_iff]
  simp only [ByteArray.toList_eq, beq_iff_eq, decide_eq_true_eq]
  rw [extract_list]
  cases hl : s.data.toList with
  | nil => simp
  | cons c l => simp

/-- '[]byte(s)': a fresh slice that reads as the text -/
theorem wpList_string_bytes {P : Program} {ops : Array Oper} {rest : List Oper} {o : Oper} {a : Act} {w : World} {Q : Exit → Act → World → Prop} (hgd : o.guard = none) (src dst e : TypeId) (x : Operand) (ho : o.op = .convert src dst x)
    (s : ByteArray) (hx : a.eval x = .string s) (hs : P.underlying src = some .string) (hd : P.underlying dst = some (.slice e)) (he : P.underlying e = some (.int .u8))
    (h : ∀ cap w', (∀ i (hi : i < s.size), w'.cell? ⟨w.heap.size, i, none⟩ = some (.int .u8 (s[i].toNat : Int))) → Below w.heap.size w w' → wpList P ops Q rest (a.put o.dst (.slice (some ⟨w.heap.size, 0, none⟩) s.size cap)) w') :
    wpList P ops Q (o :: rest) a w :=
  wpList_plain hgd fun K hK => by
    unfold Oper.wp execOp
    simp only [ho, hx, Sem.run_bind, run_bytes_of_string w src dst e s hs hd he, Result.andThen]
    refine hK _ _ (h _ _ (fun i hi => ?_) (((Below.refl _ w).drew).alloc (Nat.le_refl _) _))
    rw [cell_of_row _ w.heap.size i _ _ _ (heap_alloc_new w.drew _)]
    exact bytesRow_at s _ i hi

theorem Lx_digit {c : UInt8} (h : Lx.isDigit c = true) : 48 ≤ c.toNat ∧ c.toNat ≤ 57 := by
  simpa [Lx.isDigit, UInt8.le_iff_toNat_le] using h
/-- the number that the first m digits make -/
def dval (s : ByteArray) (m : Nat) : Nat := Lx.value (s.data.toList.take m)
theorem dval_all (s : ByteArray) : dval s s.size = Lx.value s.data.toList := by
  unfold dval; rw [List.take_of_length_le (by simp)]
theorem dig_at {s : ByteArray} {m : Nat} (h : s.data.toList.all Lx.isDigit = true) (hm : m < s.size) : Lx.isDigit s[m] = true := by
  refine List.all_eq_true.1 h s[m] ?_
  have e : s[m] = s.data.toList[m]'(by simpa using hm) := rfl
  rw [e]; exact List.getElem_mem _
theorem dval_step {s : ByteArray} {m : Nat} (hm : m < s.size) (h48 : 48 ≤ (s[m].toNat : Int)) : (dval s (m + 1) : Int) = 10 * (dval s m : Int) + ((s[m].toNat : Int) - 48) := by
  have := Lx.value_step (l := s.data.toList) (k := 0) (m := m) (by simpa using hm) (Nat.zero_le _)
  simp only [List.drop_zero, Nat.sub_zero] at this
  unfold dval
  rw [this]
  have e : s.data.toList[m]'(by simpa using hm) = s[m] := rfl
  rw [e]
  omega
theorem dval_lt {s : ByteArray} {m : Nat} (h : s.data.toList.all Lx.isDigit = true) (hm : m ≤ s.size) (h13 : s.size ≤ 13) : (dval s m : Int) < 10000000000000 := by
  have h2 := Lx.value_lt (s.data.toList.take m) (by
    rw [List.all_eq_true] at h ⊢
    exact fun x hx => h x (List.mem_of_mem_take hx))
  have h3 : (s.data.toList.take m).length ≤ 13 := by simp; omega
  have h4 : 10 ^ (s.data.toList.take m).length ≤ 10 ^ 13 := Nat.pow_le_pow_right (by omega) h3
  have : (10 : Nat) ^ 13 = 10000000000000 := by decide
  unfold dval
  omega

set_option maxRecDepth 100000 in
set_option maxHeartbeats 800000 in
theorem atoi2_any (s : ByteArray) (w : World) (h : Hid (s.data.toList.all Lx.isDigit = true)) (h1 : 0 < s.size) (h13 : s.size ≤ 13) :
    Calls Tryz.prog 114 #[.string s] w (Gives (.tuple #[.int .i64 (Lx.value s.data.toList), .nilIface]) w) := by
  have hg : Lx.isDigit s[0] = true := by
    have := List.all_eq_true.1 h.out s[0] (by
      have e : s[0] = s.data.toList[0]'(by simpa using h1) := rfl
      rw [e]; exact List.getElem_mem _)
    exact this
  have h45 : ((s[0].toNat : Int) == 45) = false := u8_ne (d := 45) (by intro e; rw [e] at hg; exact absurd hg (by decide))
  have h43 : ((s[0].toNat : Int) == 43) = false := u8_ne (d := 43) (by intro e; rw [e] at hg; exact absurd hg (by decide))
  clear hg
  go_enter Tryz.func114, Tryz.ntmps114
  go_wp2_with (refine wpList_string_bytes rfl 9 92 5 (.tmp 46) rfl s rfl Tryz.underlying9 Tryz.underlying92 Tryz.underlying5 ?_; intro cap w1 hcells hb1)
  have hzw := hb1.size
  have hcells' := hid hcells
  clear hcells
  go_loop [6, 49] (fun n i => ∃ m : Nat, m ≤ s.size ∧ i = .int .i64 m ∧ n = .int .i64 (dval s m)) (fun _ i => s.size - (intOf i).toNat)
  case atStart => exact ⟨0, Nat.zero_le _, rfl, rfl⟩
  case round =>
    obtain ⟨m, hm, rfl, rfl⟩ := hrel
    by_cases hlt : m < s.size
    · have hc := hcells'.out m hlt
      have hd := dig_at h.out hlt
      have hd2 := Lx_digit hd
      have hst := dval_step hlt (by omega)
      obtain ⟨d, hdd⟩ : ∃ d : Nat, (s[m].toNat : Int) = (d : Int) + 48 := ⟨s[m].toNat - 48, by omega⟩
      have hd9 : (d : Int) ≤ 9 := by omega
      rw [hdd] at hc hst
      have b3 := dval_lt h.out hm h13
      have hdc : decide ((9 : Int) < (d : Int)) = false := by simp; omega
      have HS := hid hst
      clear hd hd2 hdd hst h45 h43
      go_wp2
      go_round
      case rel => exact ⟨m + 1, by omega, by go_num, by rw [HS.out]; congr 1; omega⟩
      case measure => simp [intOf]; omega
    · have hms : m = s.size := by omega
      subst hms
      go_wp2
      go_ret2
      exact ⟨by rw [dval_all]; rfl, hb1⟩

/-- 'strconv.Atoi' at at most 13 digits -/
theorem atoi_walk (s : ByteArray) (w : World) (h : s.data.toList.all Lx.isDigit = true) (h1 : 0 < s.size) (h13 : s.size ≤ 13) :
    Calls Tryz.prog 94 #[.string s] w (Gives (.tuple #[.int .i64 (Lx.value s.data.toList), .nilIface]) w) := by
  go_enter Tryz.func94, Tryz.ntmps94
  go_wp2_with (go_at_call 114; refine (atoi2_any s _ h h1 h13).mono ?_; rintro e w' ⟨rfl, hb⟩)
  go_ret2
  exact ⟨rfl, hb⟩

theorem hasPrefix_walk (s : ByteArray) (w : World) (hm : s.size ≤ maxLen) :
    Calls Tryz.prog 96 #[.string s, .string ⟨#[61]⟩] w (Same (.bool (eqHead s)) w) := by
  by_cases h : 1 ≤ s.size
  · go_enter Tryz.func96, Tryz.ntmps96
    go_wp2_with (go_at_call 120; refine (prefix_yes s _ h hm).mono ?_; rintro e w' ⟨rfl, rfl⟩)
    go_ret
    exact ⟨rfl, rfl⟩
  · have h0 : s.size = 0 := by omega
    have e : eqHead s = false := by
      have : s.data.toList = [] := List.length_eq_zero_iff.1 (by simpa using h0)
      simp [eqHead, this]
    have e' := hid e
    clear e
    go_enter Tryz.func96, Tryz.ntmps96
    go_wp2_with (go_at_call 120; refine (prefix_no s _ h0).mono ?_; rintro e w' ⟨rfl, rfl⟩)
    go_ret
    exact ⟨by rw [e'.out]; rfl, rfl⟩

end Go.Proofs.YtidkmhokolknbaaGreatDoor
