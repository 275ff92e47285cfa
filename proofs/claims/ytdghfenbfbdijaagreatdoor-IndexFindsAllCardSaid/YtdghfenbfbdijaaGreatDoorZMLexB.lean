/-
 Several texts in one: ZLexLib1, ZLexLib2, ZLexLib. Conditions: as each law says.
-/
import Derived.Test.YtdghfenbfbdijaaGreatDoorZMBase
import Derived.Test.YtdghfenbfbdijaaGreatDoorZMLexA
import Derived.Test.YtdghfenbfbdijaaGreatDoorZShelf
import Derived.Deep.LoopGhost
import Derived.Lib.OthersKept
import Derived.Laws.Runes
import Derived.WalkMore
import Derived.Deep.RegionWith
import Derived.Lib.Bytealg
import Derived.Lib.Strings
namespace Go.Proofs.YtdghfenbfbdijaaGreatDoor
open Go.RowKit
theorem byteList_beq {a : ByteArray} {b : ByteArray} : (a.toList == b.toList) = decide (a.data.toList = b.data.toList) := by
 rw [Bool.eq_iff_iff]
 simp [ByteArray.toList_eq]
set_option maxRecDepth 100000 in
theorem prefix_no (s : ByteArray) (w : World) (h : s.size = 0) : Calls Tryz.prog 172 #[.string s,.string ⟨#[61]⟩] w (Same (.bool false) w) := by
 go_enter Tryz.func172,Tryz.ntmps172
 go_wp2
 go_ret
 exact ⟨rfl,rfl⟩
def eqHead (s : ByteArray) : Bool := decide (s.data.toList.head? = some 61)
set_option maxRecDepth 100000 in
theorem prefix_yes (s : ByteArray) (w : World) (h : 1 ≤ s.size) (hm : s.size ≤ maxLen) : Calls Tryz.prog 172 #[.string s,.string ⟨#[61]⟩] w (Same (.bool (eqHead s)) w) := by
 unfold maxLen at hm
 go_enter Tryz.func172,Tryz.ntmps172
 go_wp2
 go_ret
 refine ⟨ret_bool ?_,rfl⟩
 rw [show ([61] : List UInt8) = (⟨#[61]⟩ : ByteArray).data.toList from rfl,eqHead]
 rw [Bool.eq_iff_iff]
 simp only [ByteArray.toList_eq,beq_iff_eq,decide_eq_true_eq]
 rw [extract_list]
 cases hl : s.data.toList with
 | nil => simp
 | cons c l => simp
theorem wpList_string_bytes {P : Program} {ops : Array Oper} {rest : List Oper} {o : Oper} {a : Act} {w : World} {Q : Exit → Act → World → Prop} (hgd : o.guard = none) (src dst e : TypeId) (x : Operand) (ho : o.op = .convert src dst x)
  (s : ByteArray) (hx : a.eval x = .string s) (hs : P.underlying src = some .string) (hd : P.underlying dst = some (.slice e)) (he : P.underlying e = some (.int .u8))
  (h : ∀ cap w',(∀ i (hi : i < s.size),w'.cell? ⟨w.heap.size,i,none⟩ = some (.int .u8 (s[i].toNat : Int))) → Below w.heap.size w w' → wpList P ops Q rest (a.put o.dst (.slice (some ⟨w.heap.size,0,none⟩) s.size cap)) w') :
  wpList P ops Q (o :: rest) a w :=
 wpList_plain hgd fun K hK => by
  unfold Oper.wp execOp
  simp only [ho,hx,Sem.run_bind,run_bytes_of_string w src dst e s hs hd he,Result.andThen]
  refine hK _ _ (h _ _ (fun i hi => ?_) (((Below.refl _ w).drew).alloc (Nat.le_refl _) _))
  rw [cell_of_row _ w.heap.size i _ _ _ (heap_alloc_new w.drew _)]
  exact bytesRow_at s _ i hi
theorem Lx_digit {c : UInt8} (h : Lx.isDigit c = true) : 48 ≤ c.toNat ∧ c.toNat ≤ 57 := by
 simpa [Lx.isDigit,UInt8.le_iff_toNat_le] using h
def dval (s : ByteArray) (m : Nat) : Nat := Lx.value (s.data.toList.take m)
theorem dval_all (s : ByteArray) : dval s s.size = Lx.value s.data.toList := by
 unfold dval; rw [List.take_of_length_le (by simp)]
theorem dig_at {s : ByteArray} {m : Nat} (h : s.data.toList.all Lx.isDigit = true) (hm : m < s.size) : Lx.isDigit s[m] = true := by
 refine List.all_eq_true.1 h s[m] ?_
 have e : s[m] = s.data.toList[m]'(by simpa using hm) := rfl
 rw [e]; exact List.getElem_mem _
theorem dval_step {s : ByteArray} {m : Nat} (hm : m < s.size) (h48 : 48 ≤ (s[m].toNat : Int)) : (dval s (m + 1) : Int) = 10 * (dval s m : Int) + ((s[m].toNat : Int) - 48) := by
 have := Lx.value_step (l := s.data.toList) (k := 0) (m := m) (by simpa using hm) (Nat.zero_le _)
 simp only [List.drop_zero,Nat.sub_zero] at this
 unfold dval
 rw [this]
 have e : s.data.toList[m]'(by simpa using hm) = s[m] := rfl
 rw [e]
 omega
theorem dval_lt {s : ByteArray} {m : Nat} (h : s.data.toList.all Lx.isDigit = true) (hm : m ≤ s.size) (h13 : s.size ≤ 13) : (dval s m : Int) < 10000000000000 := by
 have h2 := Lx.value_lt (s.data.toList.take m) (by
  rw [List.all_eq_true] at h ⊢
  exact fun x hx => h x (List.mem_of_mem_take hx))
 have h3 : (s.data.toList.take m).length ≤ 13 := by simp; omega
 have h4 : 10 ^ (s.data.toList.take m).length ≤ 10 ^ 13 := Nat.pow_le_pow_right (by omega) h3
 have : (10 : Nat) ^ 13 = 10000000000000 := by decide
 unfold dval
 omega
set_option maxRecDepth 100000 in
set_option maxHeartbeats 800000 in
theorem atoi2_any (s : ByteArray) (w : World) (h : Hid (s.data.toList.all Lx.isDigit = true)) (h1 : 0 < s.size) (h13 : s.size ≤ 13) :
  Calls Tryz.prog 168 #[.string s] w (Gives (.tuple #[.int .i64 (Lx.value s.data.toList),.nilIface]) w) := by
 have hg : Lx.isDigit s[0] = true := by
  have := List.all_eq_true.1 h.out s[0] (by
   have e : s[0] = s.data.toList[0]'(by simpa using h1) := rfl
   rw [e]; exact List.getElem_mem _)
  exact this
 have h45 : ((s[0].toNat : Int) == 45) = false := u8_ne (d := 45) (by intro e; rw [e] at hg; exact absurd hg (by decide))
 have h43 : ((s[0].toNat : Int) == 43) = false := u8_ne (d := 43) (by intro e; rw [e] at hg; exact absurd hg (by decide))
 clear hg
 go_enter Tryz.func168,Tryz.ntmps168
 go_wp2_with (refine wpList_string_bytes rfl 9 257 5 (.tmp 46) rfl s rfl Tryz.underlying9 Tryz.underlying257 Tryz.underlying5 ?_; intro cap w1 hcells hb1)
 have hzw := hb1.size
 have hcells' := hid hcells
 clear hcells
 go_loop [6,49] (fun n i => ∃ m : Nat,m ≤ s.size ∧ i = .int .i64 m ∧ n = .int .i64 (dval s m)) (fun _ i => s.size - (intOf i).toNat)
 case atStart => exact ⟨0,Nat.zero_le _,rfl,rfl⟩
 case round =>
  obtain ⟨m,hm,rfl,rfl⟩ := hrel
  by_cases hlt : m < s.size
  ·have hc := hcells'.out m hlt
   have hd := dig_at h.out hlt
   have hd2 := Lx_digit hd
   have hst := dval_step hlt (by omega)
   obtain ⟨d,hdd⟩ : ∃ d : Nat,(s[m].toNat : Int) = (d : Int) + 48 := ⟨s[m].toNat - 48,by omega⟩
   have hd9 : (d : Int) ≤ 9 := by omega
   rw [hdd] at hc hst
   have b3 := dval_lt h.out hm h13
   have hdc : decide ((9 : Int) < (d : Int)) = false := by simp; omega
   have HS := hid hst
   clear hd hd2 hdd hst h45 h43
   go_wp2
   go_round
   case rel => exact ⟨m + 1,by omega,by go_num,by rw [HS.out]; congr 1; omega⟩
   case measure => simp [intOf]; omega
  ·have hms : m = s.size := by omega
   subst hms
   go_wp2
   go_ret2
   exact ⟨by rw [dval_all]; rfl,hb1⟩
theorem atoi_walk (s : ByteArray) (w : World) (h : s.data.toList.all Lx.isDigit = true) (h1 : 0 < s.size) (h13 : s.size ≤ 13) :
  Calls Tryz.prog 132 #[.string s] w (Gives (.tuple #[.int .i64 (Lx.value s.data.toList),.nilIface]) w) := by
 go_enter Tryz.func132,Tryz.ntmps132
 go_wp2_with (go_at_call 168; refine (atoi2_any s _ h h1 h13).mono ?_; rintro e w' ⟨rfl,hb⟩)
 go_ret2
 exact ⟨rfl,hb⟩
theorem hasPrefix_walk (s : ByteArray) (w : World) (hm : s.size ≤ maxLen) :
  Calls Tryz.prog 134 #[.string s,.string ⟨#[61]⟩] w (Same (.bool (eqHead s)) w) := by
 by_cases h : 1 ≤ s.size
 ·go_enter Tryz.func134,Tryz.ntmps134
  go_wp2_with (go_at_call 172; refine (prefix_yes s _ h hm).mono ?_; rintro e w' ⟨rfl,rfl⟩)
  go_ret
  exact ⟨rfl,rfl⟩
 ·have h0 : s.size = 0 := by omega
  have e : eqHead s = false := by
   have : s.data.toList = [] := List.length_eq_zero_iff.1 (by simpa using h0)
   simp [eqHead,this]
  have e' := hid e
  clear e
  go_enter Tryz.func134,Tryz.ntmps134
  go_wp2_with (go_at_call 172; refine (prefix_no s _ h0).mono ?_; rintro e w' ⟨rfl,rfl⟩)
  go_ret
  exact ⟨by rw [e'.out]; rfl,rfl⟩
end Go.Proofs.YtdghfenbfbdijaaGreatDoor
namespace Go.Proofs.YtdghfenbfbdijaaGreatDoor
open Go.RowKit
theorem indexByte_walk (s : ByteArray) (w : World) :
  Calls Tryz.prog 131 #[.string s,.int .u8 10] w (Same (.int .i64 (Lib.indexByte s.data.toList 10)) w) :=
 (Tryz.strings_IndexByte s 10 w).mono fun _ _ h => h
def ends2 : ByteArray := ⟨#[34,10]⟩
theorem below_iterAt {B : Nat} {a w : World} (h : Below B a w) (k : Nat) (hk : B ≤ k) (s : ByteArray) (p : Nat) : Below B a (w.iterAt k s p) :=
 h.trans ⟨rfl,rfl,rfl,by simp [World.iterAt],fun j hj => by
  simp only [World.iterAt,Array.getElem?_setIfInBounds]
  rw [if_neg (by omega)]⟩
theorem below_iter {B : Nat} {a w : World} (h : Below B a w) (hB : B ≤ w.heap.size) (s : ByteArray) (p : Nat) : Below B a (w.iter s p) := h.alloc hB _
set_option maxRecDepth 100000 in
set_option maxHeartbeats 800000 in
theorem rune_err (w : World) : Calls Tryz.prog 170 #[.string ⟨#[34,10]⟩,.int .i32 65533] w (Gives (.int .i64 (-1)) w) := by
 go_enter Tryz.func170,Tryz.ntmps170
 go_wp2
 go_loopg [5,6] 2 (fun g _ _ wx => ∃ i : Nat,i + g = 2 ∧ wx = w.iter ends2 i)
 case atStart => exact ⟨0,by omega,rfl⟩
 case round =>
  obtain ⟨i,hig,rfl⟩ := hrel
  cases gk with
  | zero =>
   obtain rfl : i = 2 := by omega
   have hnx := fun ty => run_next_end (P := Tryz.prog) w ends2 2 ty (by decide)
   go_wp2
   go_ret
   exact ⟨rfl,below_iter (Below.refl _ _) (Nat.le_refl _) _ _⟩
  | succ g =>
   have hi : i < ends2.size := by show i < 2; omega
   have hv : (ends2[i]'hi).toNat < 128 := by
    rcases (by omega : i = 0 ∨ i = 1) with rfl | rfl
    ·show (34 : UInt8).toNat < 128; decide
    ·show (10 : UInt8).toNat < 128; decide
   have hnx := fun ty => run_next_ascii (P := Tryz.prog) w ends2 i ty hi hv
   obtain ⟨x,hx⟩ : ∃ x : Nat,(ends2[i]'hi).toNat = x := ⟨_,rfl⟩
   rw [hx] at hnx hv
   clear hx
   have hne : (((x : Nat) : Int) == 65533) = false := beq_eq_false_iff_ne.2 (by omega)
   go_wp2
   go_roundg g
   case measure => omega
   case rel => exact ⟨i + 1,by omega,rfl⟩
set_option maxRecDepth 100000 in
theorem rune_bad (r : Int) (w : World) (h0 : 128 ≤ r) (hne : (r == 65533) = false) (hv : Lib.validRune r = false) :
  Calls Tryz.prog 170 #[.string ⟨#[34,10]⟩,.int .i32 r] w (Gives (.int .i64 (-1)) w) := by
 have h128 : decide (r < 128) = false := by simpa using h0
 go_enter Tryz.func170,Tryz.ntmps170
 go_wp2_with (go_at_call 207; refine (Tryz.utf8_ValidRune r _).mono ?_; rintro e w' ⟨rfl,rfl⟩; rw [hv])
 go_ret
 exact ⟨rfl,Below.refl _ _⟩
theorem ib_empty (x : UInt8) (w : World) : Calls Tryz.prog 131 #[.string ByteArray.empty,.int .u8 x.toNat] w (Same (.int .i64 (-1)) w) :=
 (Tryz.strings_IndexByte _ _ _).mono fun _ _ h => h
theorem valid_of {r : Int} (hv : Lib.validRune r = true) : Utf8.valid r = true := by
 simp only [Lib.validRune,decide_eq_true_eq] at hv
 simp only [Utf8.valid,Bool.or_eq_true,Bool.and_eq_true,decide_eq_true_eq]
 omega
set_option maxRecDepth 100000 in
set_option maxHeartbeats 800000 in
theorem rune_two (r : Int) (w : World) (h0 : 128 ≤ r) (hne : (r == 65533) = false) (hv : Lib.validRune r = true) (rs : ByteArray) (hrs : Utf8.encode r = rs) (h2 : rs.size = 2) (x : UInt8)
  (hx : rs[1]'(by omega) = x) (hb : 128 ≤ x.toNat) :
  Calls Tryz.prog 170 #[.string ⟨#[34,10]⟩,.int .i32 r] w (Gives (.int .i64 (-1)) w) := by
 have h128 : decide (r < 128) = false := by simpa using h0
 have h10 : (((((⟨#[34,10]⟩ : ByteArray)[1]'(by decide)).toNat : Nat) : Int) != (x.toNat : Int)) = true := by
  show ((((10 : UInt8).toNat : Nat) : Int) != (x.toNat : Int)) = true
  simp; omega
 go_enter Tryz.func170,Tryz.ntmps170
 go_wp2_with (go_at_call 207; refine (Tryz.utf8_ValidRune r _).mono ?_; rintro e w' ⟨rfl,rfl⟩; rw [hv])
 go_step3
 go_wp2
 go_loop [9,10] (fun i _ => i = .int .i64 1) (fun _ _ => 0)
 case atStart => exact rfl
 case round =>
  obtain rfl := hrel
  go_wp2
  go_step3
  go_wp2
  go_quiet (fail)
  go_wp2
  go_region_with (go_at_call 131; refine (ib_empty x _).mono ?_; rintro e w' ⟨rfl,rfl⟩)
  all_goals go_wp2
  all_goals go_ret
  all_goals exact ⟨rfl,below_drewN (Below.refl _ _) _⟩
set_option maxRecDepth 100000 in
set_option maxHeartbeats 800000 in
theorem rune_long (r : Int) (w : World) (h0 : 128 ≤ r) (hne : (r == 65533) = false) (hv : Lib.validRune r = true) (rs : ByteArray) (hrs : Utf8.encode r = rs) (h3 : 3 ≤ rs.size) (h4 : rs.size ≤ 4) :
  Calls Tryz.prog 170 #[.string ⟨#[34,10]⟩,.int .i32 r] w (Gives (.int .i64 (-1)) w) := by
 have h128 : decide (r < 128) = false := by simpa using h0
 have hls : ((rs.size : Int) - 1) = ((rs.size - 1 : Nat) : Int) := by omega
 go_enter Tryz.func170,Tryz.ntmps170
 go_wp2_with (go_at_call 207; refine (Tryz.utf8_ValidRune r _).mono ?_; rintro e w' ⟨rfl,rfl⟩; rw [hv])
 go_step3
 go_wp2
 go_loop [9,10] (fun i _ => i = .int .i64 ((rs.size - 1 : Nat) : Int)) (fun _ _ => 0)
 case atStart => exact rfl
 case round =>
  obtain rfl := hrel
  go_wp2
  go_ret
  exact ⟨rfl,Below.refl _ _⟩
theorem rune_any (r : Int) (w : World) (h0 : 128 ≤ r) : Calls Tryz.prog 170 #[.string ⟨#[34,10]⟩,.int .i32 r] w (Gives (.int .i64 (-1)) w) := by
 by_cases he : r = 65533
 ·subst he; exact rune_err w
 ·have hne : (r == 65533) = false := beq_eq_false_iff_ne.2 he
  cases hv : Lib.validRune r with
  | false => exact rune_bad r w h0 hne hv
  | true =>
   obtain ⟨h2,h4,hb⟩ := encode_facts r (valid_of hv) h0
   by_cases h : (Utf8.encode r).size = 2
   ·have hb1 := hb (by omega)
    refine rune_two r w h0 hne hv _ rfl h _ rfl ?_
    have e : (Utf8.encode r).size - 1 = 1 := by omega
    simpa only [e] using hb1
   ·exact rune_long r w h0 hne hv _ rfl (by omega) h4
theorem byte_two (x : UInt8) : Lib.indexByte ends2.data.toList x = if x = 34 then 0 else if x = 10 then 1 else -1 := by
 show Lib.indexByte [34,10] x = _
 by_cases h1 : x = 34
 ·subst h1; rfl
 ·by_cases h2 : x = 10
  ·subst h2; rfl
  ·have e1 : ((34 : UInt8) == x) = false := beq_eq_false_iff_ne.2 (fun e => h1 e.symm)
   have e2 : ((10 : UInt8) == x) = false := beq_eq_false_iff_ne.2 (fun e => h2 e.symm)
   simp [Lib.indexByte,e1,e2,h1,h2]
set_option maxRecDepth 100000 in
theorem rune_byte (x : UInt8) (w : World) (h : x.toNat < 128) :
  Calls Tryz.prog 170 #[.string ⟨#[34,10]⟩,.int .i32 x.toNat] w (Same (.int .i64 (if x = 34 then 0 else if x = 10 then 1 else -1)) w) := by
 refine (Tryz.strings_IndexRune_ascii _ _ _ (by omega) (by omega)).mono ?_
 rintro e w' ⟨he,hw⟩
 refine ⟨?_,hw⟩
 rw [he,← byte_two x]
 have : ((x.toNat : Int)).toNat.toUInt8 = x := by simp
 rw [this]; rfl
def indexEnd : List UInt8 → Int
 | [] => -1
 | b :: l => if Lx.inBody b = false then 0 else if indexEnd l == -1 then -1 else indexEnd l + 1
theorem two_body (b : UInt8) : ([34,10] : List UInt8).contains b = !Lx.inBody b := by
 by_cases h1 : b = 34
 ·subst h1; rfl
 ·by_cases h2 : b = 10
  ·subst h2; rfl
  ·simp [Lx.inBody,h1,h2]
theorem indexEnd_any : ∀ l : List UInt8,indexEnd l = Lib.indexAny l [34,10]
 | [] => rfl
 | b :: l => by
  rw [indexEnd,Lib.indexAny,indexEnd_any l]
  rw [two_body b]
  simp
theorem high_two {b : UInt8} (h : 128 ≤ b.toNat) : ([34,10] : List UInt8).contains b = false := by
 have h1 : b ≠ 34 := by rintro rfl; exact absurd h (by decide)
 have h2 : b ≠ 10 := by rintro rfl; exact absurd h (by decide)
 simp [h1,h2]
theorem get_of {s : ByteArray} {j : Nat} {b : UInt8} (hb : s.data.toList[j]? = some b) : s.get! j = b := by
 obtain ⟨hj,he⟩ := List.getElem?_eq_some_iff.1 hb
 have hj' : j < s.size := by simpa using hj
 have := get_at s j hj'
 rw [Nat.add_zero] at this
 rw [this,← he]
 rfl
theorem decode_rest (s : ByteArray) (pos : Nat) (h : pos < s.size) (h128 : 128 ≤ (s.get! pos).toNat) :
  1 ≤ (Utf8.decode s pos).2 ∧ pos + (Utf8.decode s pos).2 ≤ s.size ∧ ∀ j,pos ≤ j → j < pos + (Utf8.decode s pos).2 → 128 ≤ (s.get! j).toNat := by
 have hn : ¬ (s.get! (pos + 0)).toNat < 128 := by rw [Nat.add_zero]; omega
 have h0 : ∀ k,k = 1 → 1 ≤ k ∧ pos + k ≤ s.size ∧ ∀ j,pos ≤ j → j < pos + k → 128 ≤ (s.get! j).toNat := by
  rintro k rfl
  exact ⟨Nat.le_refl _,by omega,fun j h1 h2 => by obtain rfl : j = pos := (by omega); exact h128⟩
 simp only [Utf8.decode,hn,if_false]
 split
 ·rename_i hc
  simp only [Bool.and_eq_true,decide_eq_true_eq,beq_iff_eq] at hc
  split
  ·refine ⟨by simp,by omega,fun j h1 h2 => ?_⟩
   rcases (by omega : j = pos ∨ j = pos + 1) with rfl | rfl
   ·exact h128
   ·omega
  ·exact h0 _ rfl
 ·split
  ·rename_i hc
   simp only [Bool.and_eq_true,decide_eq_true_eq,beq_iff_eq] at hc
   split
   ·refine ⟨by simp,by omega,fun j h1 h2 => ?_⟩
    rcases (by omega : j = pos ∨ j = pos + 1 ∨ j = pos + 2) with rfl | rfl | rfl
    ·exact h128
    ·omega
    ·omega
   ·exact h0 _ rfl
  ·split
   ·rename_i hc
    simp only [Bool.and_eq_true,decide_eq_true_eq,beq_iff_eq] at hc
    split
    ·refine ⟨by simp,by omega,fun j h1 h2 => ?_⟩
     rcases (by omega : j = pos ∨ j = pos + 1 ∨ j = pos + 2 ∨ j = pos + 3) with rfl | rfl | rfl | rfl
     ·exact h128
     ·omega
     ·omega
     ·omega
    ·exact h0 _ rfl
   ·exact h0 _ rfl
theorem noAny_over {s : ByteArray} {pos : Nat} (h : pos < s.size) (h128 : 128 ≤ (s.get! pos).toNat) (hn : Lib.NoAny s.data.toList [34,10] pos) :
  Lib.NoAny s.data.toList [34,10] (pos + (Utf8.decode s pos).2) := fun j b hj hb => by
 by_cases hlt : j < pos
 ·exact hn j b hlt hb
 ·refine high_two ?_
  rw [← get_of hb]
  exact (decode_rest s pos h h128).2.2 j (by omega) hj
set_option maxRecDepth 100000 in
theorem should_short (n : Int) (w : World) (h : n ≤ 8) : Calls Tryz.prog 171 #[.int .i64 n] w (Same (.bool false) w) := by
 have h8 : decide ((8 : Int) < n) = false := by simpa using h
 go_enter Tryz.func171,Tryz.ntmps171
 go_wp2
 go_ret
 exact ⟨rfl,rfl⟩
theorem iterPos_of {w : World} {k : Nat} {s : ByteArray} {p : Nat} (h : w.heap[k]? = some (.stringIter s p)) : w.iterPos k = p := by simp [World.iterPos,h]
theorem kept_iter {B : Nat} {w w' : World} {s : ByteArray} {p : Nat} (h : Below w.heap.size w w') (hk : w.heap[B]? = some (.stringIter s p)) : w'.heap[B]? = some (.stringIter s p) := by
 have hlt : B < w.heap.size := (Array.getElem?_eq_some_iff.1 hk).1
 rw [h.block B hlt,hk]
set_option maxRecDepth 100000 in
set_option maxHeartbeats 1600000 in
theorem indexAny_short (s : ByteArray) (w : World) (h8 : s.size ≤ 8) :
  Calls Tryz.prog 133 #[.string s,.string ⟨#[34,10]⟩] w (Gives (.int .i64 (Lib.indexAny s.data.toList [34,10])) w) := by
 have h8z : (s.size : Int) ≤ 8 := by omega
 go_enter Tryz.func133,Tryz.ntmps133
 go_wp2_with (go_at_call 171; refine (should_short _ _ h8z).mono ?_; rintro e w0 ⟨rfl,rfl⟩)
 go_loopw [9,10] (fun _ _ wr => Below w0.heap.size w0 wr ∧ ∃ p : Nat,p ≤ s.size ∧ wr.heap[w0.heap.size]? = some (.stringIter s p) ∧ Lib.NoAny s.data.toList [34,10] p) (fun _ _ wr => s.size - wr.iterPos w0.heap.size)
 case atStart => exact ⟨below_iter (Below.refl _ _) (Nat.le_refl _) _ _,0,Nat.zero_le _,World.iter_heap _ _ _,Lib.NoAny.zero _ _⟩
 case round =>
  obtain ⟨hb,p,hp,hk,hno⟩ := hrel
  have HN := hid hno
  clear hno
  have hip := hid (iterPos_of hk)
  by_cases hlt : p < s.size
  ·by_cases hx : (s[p]'hlt).toNat < 128
   ·have hnx := fun ty => Lib.run_next_ascii_at (P := Tryz.prog) wr w0.heap.size s p ty hk hlt hx
    obtain ⟨x,hxe⟩ : ∃ x,s[p]'hlt = x := ⟨_,rfl⟩
    rw [hxe] at hnx hx
    have Hx := hid (show s.data.toList[p]? = some x by rw [← hxe]; exact Lib.data_getElem? s p hlt)
    have hk' := hid (Lib.iterAt_heap wr w0.heap.size s p (p + 1) hk)
    have hb' := hid (below_iterAt hb w0.heap.size (Nat.le_refl _) s (p + 1))
    clear hk hxe hb
    cases hin : ([34,10] : List UInt8).contains x with
    | false =>
     have HI := hid hin
     have hv : (if x = 34 then (0 : Int) else if x = 10 then 1 else -1) = -1 := by
      have h1 : x ≠ 34 := by rintro rfl; exact absurd hin (by decide)
      have h2 : x ≠ 10 := by rintro rfl; exact absurd hin (by decide)
      simp [h1,h2]
     clear hin
     go_wp2_with (go_at_call 170; refine (rune_byte x _ hx).mono ?_; rw [hv]; rintro e w' ⟨rfl,rfl⟩)
     go_roundw
     case rel => exact ⟨hb'.out,p + 1,by omega,hk'.out,HN.out.succ Hx.out HI.out⟩
     case measure => rw [iterPos_of hk'.out,hip.out]; omega
    | true =>
     have HI := hid hin
     have hv : ∃ v : Int,(if x = 34 then (0 : Int) else if x = 10 then 1 else -1) = v ∧ 0 ≤ v := by
      by_cases h1 : x = 34
      ·exact ⟨0,by simp [h1],by omega⟩
      ·by_cases h2 : x = 10
       ·exact ⟨1,by simp [h2],by omega⟩
       ·simp [h1,h2] at hin
     obtain ⟨v,hv,hv0⟩ := hv
     clear hin
     go_wp2_with (go_at_call 170; refine (rune_byte x _ hx).mono ?_; rw [hv]; rintro e w' ⟨rfl,rfl⟩)
     go_ret
     exact ⟨by rw [Lib.indexAny_hit HN.out Hx.out HI.out]; rfl,hb'.out⟩
   ·have hg : (s.get! p).toNat = (s[p]'hlt).toNat := by have := get_at s p hlt; rw [Nat.add_zero] at this; rw [this]
    have h128 : 128 ≤ (s.get! p).toNat := by omega
    obtain ⟨r1,r2,_⟩ := decode_rest s p hlt h128
    have hno' := hid (noAny_over hlt h128 HN.out)
    have hnx := fun ty => Lib.run_next_any_at (P := Tryz.prog) wr w0.heap.size s p ty hk hlt
    have hr128 := (decode_high s p hlt (by omega)).1
    obtain ⟨r,hr⟩ : ∃ r,(Utf8.decode s p).1 = r := ⟨_,rfl⟩
    obtain ⟨d,hd⟩ : ∃ d,(Utf8.decode s p).2 = d := ⟨_,rfl⟩
    rw [hr] at hnx hr128
    rw [hd] at hnx r1 r2 hno'
    have hk' := hid (Lib.iterAt_heap wr w0.heap.size s p (p + d) hk)
    have hb' := hid (below_iterAt hb w0.heap.size (Nat.le_refl _) s (p + d))
    have hsz := hid (Array.getElem?_eq_some_iff.1 hk').1
    have hz : (128 : Int) ≤ (r : Int) := by omega
    clear hk hb hg h128 hr hd hx
    go_wp2_with (go_at_call 170; refine (rune_any _ _ hz).mono ?_; rintro e w' ⟨rfl,hbx⟩)
    go_roundw
    case rel => exact ⟨hb'.out.trans (hbx.mono hb'.out.size),p + d,r2,kept_iter hbx hk'.out,hno'.out⟩
    case measure => rw [iterPos_of (kept_iter hbx hk'.out),hip.out]; omega
  ·have hnx := fun ty => Lib.run_next_end_at (P := Tryz.prog) wr w0.heap.size s p ty hk hlt
   have HE := hid (show p = s.data.toList.length by rw [← Lib.size_eq]; omega)
   go_wp2
   go_ret
   exact ⟨by rw [Lib.indexAny_none (by rw [← HE.out]; exact HN.out)]; rfl,hb⟩
end Go.Proofs.YtdghfenbfbdijaaGreatDoor
namespace Go.Proofs.YtdghfenbfbdijaaGreatDoor
open Go.RowKit
theorem indexByte_any (s : ByteArray) (w : World) :
  Calls Tryz.prog 131 #[.string s,.int .u8 10] w (Same (.int .i64 (Lib.indexByte s.data.toList 10)) w) := indexByte_walk s w
theorem indexAny_any (s : ByteArray) (w : World) (hs : s.size ≤ 100000) :
  Calls Tryz.prog 133 #[.string s,.string ⟨#[34,10]⟩] w (Gives (.int .i64 (indexEnd s.data.toList)) w) := by
 rw [indexEnd_any]
 by_cases h8 : s.size ≤ 8
 ·exact indexAny_short s w h8
 ·have hz := zero_of_info (P := Tryz.prog) (t := 223) (by kernel_rfl : (Tryz.prog.info? 223).map (fun i => (i.zero,i.size)) = some (some (.agg (Array.replicate 256 (.bool false))),256))
  refine (Tryz.strings_IndexAny_long hz.1 s ⟨#[34,10]⟩ w (by decide) (by omega) (by omega) (by decide) ?_).mono ?_
  ·intro j b hb
   match j,hb with
   | 0,hb => cases hb; decide
   | 1,hb => cases hb; decide
   | j + 2,hb => simp at hb
  ·rintro e w' ⟨rfl,rfl⟩
   exact ⟨rfl,((Below.refl _ _).alloc (Nat.le_refl _) _).alloc (by simp) _⟩
theorem hasPrefix_any (s : ByteArray) (w : World) (hm : s.size ≤ maxLen) :
  Calls Tryz.prog 134 #[.string s,.string ⟨#[61]⟩] w (Same (.bool (decide (s.data.toList.head? = some 61))) w) := hasPrefix_walk s w hm
theorem atoi_any (s : ByteArray) (w : World) (h : s.data.toList.all Lx.isDigit = true) (h1 : 0 < s.size) (h13 : s.size ≤ 13) :
  Calls Tryz.prog 132 #[.string s] w (Gives (.tuple #[.int .i64 (Lx.value s.data.toList),.nilIface]) w) := atoi_walk s w h h1 h13
end Go.Proofs.YtdghfenbfbdijaaGreatDoor
