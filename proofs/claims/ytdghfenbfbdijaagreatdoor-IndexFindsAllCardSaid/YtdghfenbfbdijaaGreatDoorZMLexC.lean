/-
 Several texts in one: ZLexA, ZLexB. Conditions: as each law says.
-/
import Derived.Test.YtdghfenbfbdijaaGreatDoorZMBase
import Derived.Test.YtdghfenbfbdijaaGreatDoorZMLexA
import Derived.Test.YtdghfenbfbdijaaGreatDoorZMLexB
namespace Go.Proofs.YtdghfenbfbdijaaGreatDoor
open Go.RowKit
def cls (c : UInt8) : Nat :=
 if Lx.isLetter c then 3 else if Lx.isDigit c then 4 else if c = 95 then 5 else if Lx.isBlank c then 1 else if c = 35 then 2
 else if c = 34 then 6 else if c = 33 then 7 else if Lx.isAngle c then 8 else if Lx.isPlain c then 9 else 0
def clsA : Array Value := ((List.range 256).map fun n => Value.int .i64 (cls n.toUInt8)).toArray
theorem clsA_size : clsA.size = 256 := by rw [clsA,List.size_toArray,List.length_map,List.length_range]
theorem clsA_get (c : UInt8) : clsA[c.toNat]? = some (.int .i64 (cls c)) := by
 have h : c.toNat < 256 := c.toNat_lt
 rw [clsA,List.getElem?_toArray,List.getElem?_map,List.getElem?_range h]
 simp
attribute [irreducible] clsA
def scanCells (t : ByteArray) : Array Value := #[Value.string t] ++ clsA
def ScanAt (w : World) (b : Nat) (t : ByteArray) : Prop := w.heap[b]? = some (.cells (scanCells t) 172 (0,0))
theorem ScanAt.text {w : World} {b : Nat} {t : ByteArray} (h : ScanAt w b t) : w.cell? ⟨b,0,none⟩ = some (.string t) := by
 rw [cell_of_row w b 0 _ _ _ h,scanCells,Array.getElem?_append_left (by simp)]; rfl
theorem ScanAt.cls {w : World} {b : Nat} {t : ByteArray} (h : ScanAt w b t) (c : UInt8) : w.cell? ⟨b,1 + c.toNat,none⟩ = some (.int .i64 (cls c)) := by
 rw [cell_of_row w b _ _ _ _ h,scanCells,Array.getElem?_append_right (by simp)]
 simpa using clsA_get c
theorem ScanAt.below {w w' : World} {b : Nat} {t : ByteArray} (h : ScanAt w b t) (hb : Below w.heap.size w w') : ScanAt w' b t := by
 unfold ScanAt at *
 rw [hb.block b (Array.getElem?_eq_some_iff.1 h).1,h]
theorem ScanAt.lt {w : World} {b : Nat} {t : ByteArray} (h : ScanAt w b t) : b < w.heap.size := (Array.getElem?_eq_some_iff.1 h).1
theorem ScanAt.drewN {w : World} {b : Nat} {t : ByteArray} (h : ScanAt w b t) (n : Nat) : ScanAt (w.drewN n) b t := h
def Draws (v : Value) (w : World) (e : Ending) (w' : World) : Prop := e = .returned v ∧ ∃ n,w' = w.drewN n
set_option maxHeartbeats 400000 in
theorem at_in (b : Nat) (t : ByteArray) (k : Nat) (w : World) (h : ScanAt w b t) (hk : k < t.size) (_hm : t.size ≤ maxLen) :
  Calls Tryz.prog 130 #[.pointer (some ⟨b,0,none⟩),.int .i64 k] w (Draws (.int .i64 (cls t[k])) w) := by
 have h1 := h.text
 have h2 := hid (h.cls t[k])
 clear h
 go_enter Tryz.func130,Tryz.ntmps130
 go_wp2
 have h2' := h2.out
 have h3 : ((t[k].toNat : Nat) : Int) < 256 := by have := t[k].toNat_lt; omega
 have h4 : (0 : Int) ≤ ((t[k].toNat : Nat) : Int) := by omega
 go_quiet (fail)
 go_wp2
 go_ret
 exact ⟨rfl,_,rfl⟩
set_option maxHeartbeats 400000 in
theorem at_out (b : Nat) (t : ByteArray) (k : Nat) (w : World) (h : ScanAt w b t) (hk : t.size ≤ k) (_hm : k ≤ maxLen) :
  Calls Tryz.prog 130 #[.pointer (some ⟨b,0,none⟩),.int .i64 k] w (Draws (.int .i64 0) w) := by
 have h1 := h.text
 clear h
 go_enter Tryz.func130,Tryz.ntmps130
 go_wp2
 go_ret
 exact ⟨rfl,0,rfl⟩
def IntsAt (w : World) (g : Nat) (xs : List Int) : Prop := ∀ i x,xs[i]? = some x → w.cell? ⟨g,i,none⟩ = some (.int .i64 x)
def IdxPost (xs : List Int) (x : Int) (w : World) (e : Ending) (w' : World) : Prop := ∃ r : Int,e = .returned (.int .i64 r) ∧ (0 ≤ r ↔ x ∈ xs) ∧ w' = w
theorem mem_take_succ {xs : List Int} {k : Nat} {y : Int} (h : xs[k]? = some y) (x : Int) : x ∈ xs.take (k + 1) ↔ x ∈ xs.take k ∨ x = y := by
 obtain ⟨hk,rfl⟩ := List.getElem?_eq_some_iff.1 h
 rw [List.take_succ_eq_append_getElem hk,List.mem_append,List.mem_singleton]
set_option maxHeartbeats 400000 in
theorem index_any (g cap : Nat) (xs : List Int) (x : Int) (w : World) (h : Hid (IntsAt w g xs)) (hm : xs.length ≤ maxLen) :
  Calls Tryz.prog 200 #[.slice (some ⟨g,0,none⟩) xs.length cap,.int .i64 x] w (IdxPost xs x w) := by
 unfold maxLen at hm
 go_enter Tryz.func200,Tryz.ntmps200
 go_wp2
 go_loop [8] (fun i => ∃ k : Nat,k ≤ xs.length ∧ i = .int .i64 k ∧ Hid (x ∉ xs.take k)) (fun i => xs.length - (intOf i).toNat)
 case atStart => exact ⟨0,Nat.zero_le _,rfl,by simp [Hid]⟩
 case round =>
  obtain ⟨k,hk,rfl,hn⟩ := hrel
  by_cases hlt : k < xs.length
  ·obtain ⟨y,hy⟩ : ∃ y,xs[k]? = some y := ⟨_,List.getElem?_eq_getElem hlt⟩
   have hc := h.out k y hy
   have hk0 : (0 : Int) ≤ (k : Int) := by omega
   have hk1 : (k : Int) < (xs.length : Int) := by omega
   by_cases he : x = y
   ·have hmem := hid (show x ∈ xs by rw [he]; exact List.mem_of_getElem? hy)
    have hb : (x == y) = true := by simpa using he
    clear hy he
    go_wp2
    go_ret
    exact ⟨_,rfl,⟨fun _ => hmem.out,fun _ => by omega⟩,rfl⟩
   ·have hb : (x == y) = false := by simpa using he
    have hn2 := hid (show x ∉ xs.take (k + 1) by rw [mem_take_succ hy]; exact fun hh => hh.elim hn.out he)
    clear hy he hn
    go_wp2
    go_round
    case rel => exact ⟨k + 1,by omega,by go_num,hn2⟩
    case measure => simp [intOf]; omega
  ·go_wp2
   go_ret
   exact ⟨_,rfl,⟨fun hh => absurd hh (by decide),fun hh => absurd (by rw [List.take_of_length_le (by omega)]; exact hh) hn.out⟩,rfl⟩
theorem contains_any (g cap : Nat) (xs : List Int) (x : Int) (w : World) (h : Hid (IntsAt w g xs)) (hm : xs.length ≤ maxLen) :
  Calls Tryz.prog 166 #[.slice (some ⟨g,0,none⟩) xs.length cap,.int .i64 x] w (Same (.bool (xs.contains x)) w) := by
 go_enter Tryz.func166,Tryz.ntmps166
 go_wp2_with (go_at_call 200; refine (index_any _ _ _ _ _ h hm).mono ?_; rintro e w' ⟨r,rfl,hr,rfl⟩)
 go_ret
 refine ⟨ret_bool ?_,rfl⟩
 rw [Bool.eq_iff_iff]
 simp
def inCls (xs : List Int) (c : UInt8) : Bool := xs.contains (cls c : Int)
set_option maxHeartbeats 800000 in
theorem while_core (b : Nat) (t : ByteArray) (k E : Nat) (g cap : Nat) (xs : List Int) (w : World) (h : ScanAt w b t) (hx : IntsAt w g xs) (hk : k ≤ t.size) (hm : t.size ≤ maxLen) (hxm : xs.length ≤ maxLen)
  (hE : Hid (Lx.run (inCls xs) t.data.toList k = E)) :
  Calls Tryz.prog 129 #[.pointer (some ⟨b,0,none⟩),.int .i64 k,.slice (some ⟨g,0,none⟩) xs.length cap] w (Draws (.int .i64 E) w) := by
 have hm' := hm
 unfold maxLen at hm
 have hX : ∀ n,Hid (IntsAt (w.drewN n) g xs) := fun _ => hx
 have hS := hid h
 clear hx h
 go_enter Tryz.func129,Tryz.ntmps129
 go_wp2
 go_loopw [1] (fun i wr => ∃ j q : Nat,j ≤ t.size ∧ i = .int .i64 j ∧ wr = w.drewN q ∧ Hid (Lx.run (inCls xs) t.data.toList j = E)) (fun i _ => t.size - (intOf i).toNat)
 case atStart => exact ⟨k,0,hk,rfl,rfl,hE⟩
 case round =>
  obtain ⟨j,q,hj,rfl,rfl,hr⟩ := hrel
  have h1 := hS.out.text
  by_cases hlt : j < t.size
  ·have hl' : j < t.data.toList.length := by simpa using hlt
   by_cases hp : inCls xs t[j] = true
   ·have hp' : ((cls t[j] : Nat) : Int) ∈ xs := by simpa [inCls] using hp
    have H5 : Hid (Lx.run (inCls xs) t.data.toList (j + 1) = E) := (Lx.run_step hl' hp).trans hr.out
    clear hp hr
    go_wp2_with (first
     | (go_at_call 130; refine (at_in b t j _ (hS.out.drewN q) hlt hm').mono ?_; rintro e w' ⟨rfl,q',rfl⟩)
     | (go_at_call 166; refine (contains_any g cap xs _ _ (hX _) hxm).mono ?_; rintro e w' ⟨rfl,rfl⟩))
    go_roundw
    case rel => exact ⟨j + 1,_,by omega,by go_num,rfl,H5⟩
    case measure => simp [intOf]; omega
   ·have hp' : ¬ ((cls t[j] : Nat) : Int) ∈ xs := by simpa [inCls] using hp
    have H5 : Hid (j = E) := (Lx.run_stop (fun _ => Bool.eq_false_iff.2 hp)).symm.trans hr.out
    clear hp hr
    go_wp2_with (first
     | (go_at_call 130; refine (at_in b t j _ (hS.out.drewN q) hlt hm').mono ?_; rintro e w' ⟨rfl,q',rfl⟩)
     | (go_at_call 166; refine (contains_any g cap xs _ _ (hX _) hxm).mono ?_; rintro e w' ⟨rfl,rfl⟩))
    go_ret
    exact ⟨ret_nat H5.out,_,rfl⟩
  ·have H5 : Hid (j = E) := (Lx.run_stop (fun hh => absurd hh (by simpa using hlt))).symm.trans hr.out
   clear hr
   go_wp2
   go_ret
   exact ⟨ret_nat H5.out,q,rfl⟩
end Go.Proofs.YtdghfenbfbdijaaGreatDoor
namespace Go.Proofs.YtdghfenbfbdijaaGreatDoor
open Go.RowKit
theorem all_bytes (P : UInt8 → Bool) (h : (List.range 256).all (fun n => P n.toUInt8) = true) (c : UInt8) : P c = true := by
 have := List.all_eq_true.1 h c.toNat (List.mem_range.2 c.toNat_lt)
 simpa using this
theorem inCls_blank : inCls [1] = Lx.isBlank := by
 funext c
 exact eq_of_beq (all_bytes (fun c => inCls [1] c == Lx.isBlank c) (by decide +kernel) c)
theorem inCls_word : inCls [3,4,5] = Lx.isWord := by
 funext c
 exact eq_of_beq (all_bytes (fun c => inCls [3,4,5] c == Lx.isWord c) (by decide +kernel) c)
theorem inCls_digit : inCls [4] = Lx.isDigit := by
 funext c
 exact eq_of_beq (all_bytes (fun c => inCls [4] c == Lx.isDigit c) (by decide +kernel) c)
theorem cls_hash (c : UInt8) : ((cls c : Int) == 2) = (c == 35) :=
 eq_of_beq (all_bytes (fun c => ((cls c : Int) == 2) == (c == 35)) (by decide +kernel) c)
theorem skip_run (l : List UInt8) : Lx.skip false (l.dropWhile Lx.isBlank) = Lx.skip false l := by
 induction l with
 | nil => rfl
 | cons c l ih =>
  rw [List.dropWhile_cons]
  split
  ·rename_i h; rw [ih]; simp [Lx.skip,h]
  ·rfl
theorem gapTo_run (l : List UInt8) (k : Nat) : Lx.gapTo false l (Lx.run Lx.isBlank l k) = Lx.gapTo false l k := by
 unfold Lx.gapTo
 rw [Lx.run_drop,skip_run]
theorem skip_comment (l : List UInt8) : Lx.skip true l = if Lib.indexByte l 10 < 0 then [] else Lx.skip false (l.drop (Lib.indexByte l 10).toNat) := by
 induction l with
 | nil => rfl
 | cons c l ih =>
  have hge := Lib.indexByte_ge l 10
  simp only [Lx.skip,Lib.indexByte,beq_iff_eq]
  by_cases h : c = 10
  ·subst h
   simp [Lx.skip,Lx.isBlank]
  ·rw [if_neg h,if_neg h,ih]
   by_cases h2 : Lib.indexByte l 10 = -1
   ·simp [h2]
   ·rw [if_neg h2,if_neg (by omega),if_neg (by omega)]
    congr 1
    have : (Lib.indexByte l 10 + 1).toNat = (Lib.indexByte l 10).toNat + 1 := by omega
    rw [this]; rfl
theorem indexByte_lt (l : List UInt8) (c : UInt8) : Lib.indexByte l c < l.length ∨ l = [] := by
 induction l with
 | nil => exact .inr rfl
 | cons b l ih =>
  left
  simp only [Lib.indexByte,List.length_cons]
  split
  ·omega
  ·split
   ·omega
   ·rcases ih with ih | ih
    ·omega
    ·subst ih; simp [Lib.indexByte]
theorem gapTo_comment {l : List UInt8} {k : Nat} (h : k < l.length) (hh : l[k] = 35) :
  (Lib.indexByte (l.drop k) 10 < 0 → Lx.gapTo false l k = l.length) ∧
  (0 ≤ Lib.indexByte (l.drop k) 10 → k + (Lib.indexByte (l.drop k) 10).toNat ≤ l.length ∧ 0 < (Lib.indexByte (l.drop k) 10).toNat ∧ Lx.gapTo false l (k + (Lib.indexByte (l.drop k) 10).toNat) = Lx.gapTo false l k) := by
 have e : Lx.skip false (l.drop k) = Lx.skip true (l.drop k) := by
  rw [Lx.drop_cons h]; simp [Lx.skip,hh,Lx.isBlank]
 have hlt := indexByte_lt (l.drop k) 10
 constructor
 ·intro hn
  unfold Lx.gapTo
  rw [e,skip_comment,if_pos hn]; rfl
 ·intro hn
  have hne : l.drop k ≠ [] := by simp; omega
  have h1 := hlt.resolve_right hne
  rw [List.length_drop] at h1
  refine ⟨by omega,?_,?_⟩
  ·rw [Lx.drop_cons h] at hn ⊢
   simp only [Lib.indexByte,hh] at hn ⊢
   have hge := Lib.indexByte_ge (l.drop (k + 1)) 10
   rw [if_neg (by decide)] at hn ⊢
   split at hn
   ·omega
   ·rename_i h2
    rw [if_neg h2]
    simp at h2
    omega
  ·unfold Lx.gapTo
   rw [e,skip_comment (l.drop k),if_neg (by omega),List.drop_drop]
theorem run_stops (p : UInt8 → Bool) (l : List UInt8) (k : Nat) (h : Lx.run p l k < l.length) : p l[Lx.run p l k] = false := by
 have := Lx.head_drop h
 rw [Lx.run_drop] at this
 exact Lx.dropWhile_head this
theorem while_blank (b : Nat) (t : ByteArray) (k : Nat) (g : Nat) (w : World) (h : ScanAt w b t) (hx : IntsAt w g [1]) (hk : k ≤ t.size) (hm : t.size ≤ maxLen) :
  Calls Tryz.prog 129 #[.pointer (some ⟨b,0,none⟩),.int .i64 k,.slice (some ⟨g,0,none⟩) 1 1] w (Draws (.int .i64 (Lx.run Lx.isBlank t.data.toList k)) w) := by
 have := while_core b t k _ g 1 [1] w h hx hk hm (by decide) rfl
 rw [inCls_blank] at this
 exact this
theorem ints_one {w : World} {n : Nat} (x : Int) (T : TypeId) (h : n = w.heap.size) : IntsAt (w.alloc (.cells #[.int .i64 x] T)) n [x] := by
 intro i y hy
 have hi : i = 0 := by
  have := (List.getElem?_eq_some_iff.1 hy).1
  simpa using this
 subst hi
 simp at hy
 subst hy
 rw [World.cell?_alloc_at _ _ _ _ h]
 rfl
theorem indexByte_at (s : ByteArray) (N : Int) (w : World) (h : Hid (Lib.indexByte s.data.toList 10 = N)) :
  Calls Tryz.prog 131 #[.string s,.int .u8 10] w (Same (.int .i64 N) w) := by
 have := indexByte_any s w
 rwa [h.out] at this
set_option maxHeartbeats 1600000 in
theorem gap_core (b : Nat) (t : ByteArray) (k E : Nat) (w : World) (h : ScanAt w b t) (hk : k ≤ t.size) (hm : t.size ≤ maxLen) (hE : Hid (Lx.gapTo false t.data.toList k = E)) :
  Calls Tryz.prog 88 #[.pointer (some ⟨b,0,none⟩),.int .i64 k] w (Gives (.int .i64 E) w) := by
 have hm' := hm
 unfold maxLen at hm
 have hS := hid h
 have hlt := h.lt
 clear h
 go_enter Tryz.func88,Tryz.ntmps88
 go_wp2_with (go_at_call 129; refine (while_blank b t k _ _ (hS.out.below ((Below.refl _ _).alloc (Nat.le_refl _) _)) (ints_one 1 _ rfl) hk hm').mono ?_; rintro e w' ⟨rfl,q,rfl⟩)
 have HE1 := hid ((gapTo_run t.data.toList k).trans hE.out)
 have hr1 := Lx.run_le Lx.isBlank t.data.toList k (by simpa using hk)
 have hll : t.data.toList.length = t.size := by simp
 have hstop := hid (show ∀ hj : Lx.run Lx.isBlank t.data.toList k < t.size,Lx.isBlank t[Lx.run Lx.isBlank t.data.toList k] = false from fun hj => run_stops Lx.isBlank t.data.toList k (by simpa using hj))
 generalize Lx.run Lx.isBlank t.data.toList k = r at *
 go_loopw [1] (fun i wr => ∃ j : Nat,j ≤ t.size ∧ i = .int .i64 j ∧ Below w.heap.size w wr ∧ Hid (Lx.gapTo false t.data.toList j = E) ∧ Hid (∀ hj : j < t.size,Lx.isBlank t[j] = false)) (fun i _ => t.size - (intOf i).toNat)
 case atStart => exact ⟨r,by omega,rfl,below_drewN ((Below.refl _ _).alloc (Nat.le_refl _) _) _,HE1,hstop⟩
 case round =>
  obtain ⟨j,hj,rfl,hb,hG,hnb⟩ := hrel
  have hSr := hid (hS.out.below hb)
  have hbz := hb.size
  by_cases hlt' : j < t.size
  ·by_cases hh : t[j] = 35
   ·have hc : ((cls t[j] : Int) == 2) = true := by rw [cls_hash]; simpa using hh
    obtain ⟨N,hN⟩ : ∃ N,Lib.indexByte (t.extract j t.size).data.toList 10 = N := ⟨_,rfl⟩
    have hN' := hid hN
    have hx := gapTo_comment (l := t.data.toList) (k := j) (by simpa using hlt') hh
    rw [extract_list,List.take_of_length_le (by simp)] at hN
    rw [hN] at hx
    by_cases hneg : N < 0
    ·have H2 := hid (show t.size = E by rw [← hG.out,hx.1 hneg]; omega)
     clear hx hN hh
     go_wp2_with (first
      | (go_at_call 130; refine (at_in b t j _ hSr.out hlt' hm').mono ?_; rintro e w' ⟨rfl,q',rfl⟩; have htx := hSr.out.text)
      | (go_at_call 131; refine (indexByte_at _ N _ hN').mono ?_; rintro e w' ⟨rfl,rfl⟩))
     go_ret
     exact ⟨ret_nat H2.out,below_drewN hb _⟩
    ·obtain ⟨n,rfl⟩ := Int.eq_ofNat_of_zero_le (show 0 ≤ N by omega)
     have hx2 := hx.2 (by omega)
     simp only [Int.toNat_natCast] at hx2
     obtain ⟨x1,x2,x3⟩ := hx2
     have x1' : j + n ≤ t.size := by omega
     have HE1 := hid ((gapTo_run t.data.toList (j + n)).trans (x3.trans hG.out))
     have hr1 := Lx.run_le Lx.isBlank t.data.toList (j + n) (by simpa using x1')
     have hr2 := Lx.run_ge Lx.isBlank t.data.toList (j + n)
     have hstop := hid (show ∀ hj : Lx.run Lx.isBlank t.data.toList (j + n) < t.size,Lx.isBlank t[Lx.run Lx.isBlank t.data.toList (j + n)] = false from fun hj => run_stops Lx.isBlank t.data.toList (j + n) (by simpa using hj))
     have hwh : ∀ (w' : World) (g : Nat),ScanAt w' b t → IntsAt w' g [1] → Calls Tryz.prog 129 #[.pointer (some ⟨b,0,none⟩),.int .i64 ((j : Int) + (n : Int)),.slice (some ⟨g,0,none⟩) 1 1] w' (Draws (.int .i64 (Lx.run Lx.isBlank t.data.toList (j + n))) w') := fun w' g h1 h2 => by
      have := while_blank b t (j + n) g w' h1 h2 x1' hm'
      rwa [Int.natCast_add] at this
     have hwh' := hid hwh
     clear hx hN hh x3 hwh
     go_wp2_with (first
      | (go_at_call 130; refine (at_in b t j _ hSr.out hlt' hm').mono ?_; rintro e w' ⟨rfl,q',rfl⟩; have htx := hSr.out.text)
      | (go_at_call 131; refine (indexByte_at _ _ _ hN').mono ?_; rintro e w' ⟨rfl,rfl⟩)
      | (go_at_call 129; refine (hwh'.out _ _ ((hSr.out.drewN q').below ((Below.refl _ _).alloc (Nat.le_refl _) _)) (ints_one 1 _ rfl)).mono ?_; rintro e w' ⟨rfl,q2,rfl⟩))
     go_roundw
     case rel => exact ⟨_,by omega,rfl,below_drewN (hb.alloc hbz _) _,HE1,hstop⟩
     case measure => simp [intOf]; omega
   ·have hc : ((cls t[j] : Int) == 2) = false := by rw [cls_hash]; simpa using hh
    have H2 := hid ((Lx.gapTo_stop (l := t.data.toList) (by simpa using hlt') (hnb.out hlt') hh).symm.trans hG.out)
    go_wp2_with (go_at_call 130; refine (at_in b t j _ hSr.out hlt' hm').mono ?_; rintro e w' ⟨rfl,q',rfl⟩)
    go_ret
    exact ⟨ret_nat H2.out,below_drewN hb _⟩
  ·have H2 := hid (show j = E by rw [← hG.out,Lx.gapTo_end (by omega)]; omega)
   go_wp2_with (go_at_call 130; refine (at_out b t j _ hSr.out (by omega) (by unfold maxLen; omega)).mono ?_; rintro e w' ⟨rfl,q',rfl⟩)
   go_ret
   exact ⟨ret_nat H2.out,below_drewN hb _⟩
end Go.Proofs.YtdghfenbfbdijaaGreatDoor
