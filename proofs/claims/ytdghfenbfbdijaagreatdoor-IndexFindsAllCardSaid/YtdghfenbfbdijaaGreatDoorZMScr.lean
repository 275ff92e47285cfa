/-
 Several texts in one: ZScr1, ZScr2, ZScr3, ZScr4. Conditions: as each law says.
-/
import Derived.Test.YtdghfenbfbdijaaGreatDoorZMPlain
import Derived.Test.YtdghfenbfbdijaaGreatDoorZMBase
import Derived.Test.YtdghfenbfbdijaaGreatDoorZShelf
import Derived.RangeFuncBox
import Derived.RangeFuncLeaves
import Derived.Shelf.Abstract
import Derived.Shelf.RegionOpen
import Derived.OwnWalkIn
import Derived.TacticsInMore
import Derived.LoopNIn
import Derived.LoopIn
import Derived.OwnWalk
import Derived.Deep.AppendLies
import Derived.Maps.AppendAt
import Derived.Deep.RegionLaw
namespace Go.Proofs.YtdghfenbfbdijaaGreatDoor
open Go.RowKit Go.Lib
theorem indexByte_mem (l : List UInt8) (c : UInt8) : (0 ≤ Lib.indexByte l c) ↔ c ∈ l := by
 constructor
 ·intro h
  obtain ⟨o,ho⟩ : ∃ o : Nat,Lib.indexByte l c = o := ⟨(Lib.indexByte l c).toNat,by omega⟩
  exact List.mem_of_getElem? (Lib.indexByte_some ho).1
 ·intro h
  have hge := Lib.indexByte_ge l c
  obtain ⟨i,hi⟩ := List.getElem?_of_mem h
  apply Classical.byContradiction
  intro hn
  exact Lib.indexByte_none (by omega : Lib.indexByte l c = -1) i hi
theorem bs_len (l : List UInt8) : (bs l).size = l.length := by simp [bs,ByteArray.size]
structure Tabs (w : World) : Prop where
 case_ : CaseVar 0 caseA w
 utf8 : Lib.Utf8Tabs 1 2 w
set_option maxRecDepth 100000 in
theorem is_any (s set : ByteArray) (i : Nat) (w : World) (_hs : s.size ≤ maxLen) : Calls Tryz.prog 173 #[.string s,.int .i64 i,.string set] w (Same (.bool (Sc.among s.data.toList i set.data.toList)) w) := by
 by_cases hlt : i < s.size
 ·have he := hid (show Sc.among s.data.toList i set.data.toList = decide (0 ≤ Lib.indexByte set.data.toList s[i]) by
   have h1 : s.data.toList[i]? = some s[i] := by
    rw [List.getElem?_eq_getElem (by simpa using hlt)]; rfl
   unfold Sc.among
   rw [h1]
   simp only
   rw [Bool.eq_iff_iff,decide_eq_true_eq,indexByte_mem,List.contains_iff_mem])
  have h0 : (0 : Int) ≤ (i : Int) := by omega
  have h1 : (i : Int) < (s.size : Int) := by omega
  have hge := Lib.indexByte_ge set.data.toList s[i]
  have e : (((s[i].toNat : Nat) : Int)).toNat.toUInt8 = s[i] := by simp
  have hc := Tryz.strings_IndexByte set ((s[i].toNat : Nat) : Int) w
  rw [e] at hc
  have HC := hid hc
  clear e hc
  generalize Lib.indexByte set.data.toList s[i] = n at *
  go_enter Tryz.func173,Tryz.ntmps173
  go_wp2_with (go_at_call 131; refine (HC.out).mono ?_; rintro e w' ⟨rfl,rfl⟩)
  go_ret
  exact ⟨ret_bool he.out.symm,rfl⟩
 ·have he := hid (show Sc.among s.data.toList i set.data.toList = false by
   unfold Sc.among
   rw [List.getElem?_eq_none (by simp; omega)])
  have h1 : ¬ (i : Int) < (s.size : Int) := by omega
  go_enter Tryz.func173,Tryz.ntmps173
  go_wp2
  go_ret
  exact ⟨ret_bool he.out.symm,rfl⟩
theorem is_val (s set : ByteArray) (i : Nat) (b : Bool) (w : World) (hs : s.size ≤ maxLen) (h : Sc.among s.data.toList i set.data.toList = b) :
  Calls Tryz.prog 173 #[.string s,.int .i64 i,.string set] w fun e w' => e = .returned (.bool b) ∧ w = w' := by
 refine (is_any s set i w hs).mono ?_
 rintro e w' ⟨rfl,rfl⟩
 exact ⟨by rw [h],rfl⟩
theorem Tabs.below {w w' : World} (h : Tabs w) (hb : Below w.heap.size w w') : Tabs w' := by
 obtain ⟨⟨R,oR,cap,h1,h2⟩,h3,h4⟩ := h
 have key : ∀ (a : Addr) v,w.cell? a = some v → w'.cell? a = some v := fun a v ha => (hb.cell (World.block_lt_of_cell? w a ha)).trans ha
 refine ⟨⟨R,oR,cap,key _ _ h1,?_⟩,fun c hc => key _ _ (h3 c hc),fun i hi => ⟨key _ _ (h4 i hi).1,key _ _ (h4 i hi).2⟩⟩
 intro i hi
 obtain ⟨a1,a2,a3,a4,a5⟩ := h2 i hi
 exact ⟨key _ _ a1,key _ _ a2,key _ _ a3,key _ _ a4,key _ _ a5⟩
theorem lower_low (c : UInt8) : Lib.lowerB c = Sc.low c := by
 unfold Lib.lowerB Lib.isUpperB Sc.low
 simp only [Bool.and_eq_true,decide_eq_true_eq,UInt8.le_iff_toNat_le]
 rfl
theorem lower_word (l : List UInt8) (h : ∀ c ∈ l,c.toNat < 128) : Lib.toLowerD l = Sc.fold l := by
 rw [Lib.toLowerD_ascii _ h]
 exact List.map_congr_left fun c _ => lower_low c
theorem lower_high : ∀ n : Fin 256,128 ≤ n.val → Lib.toLowerD [UInt8.ofNat n.val] = [239,191,189] := by decide +kernel
theorem lower_head (s : List UInt8) : Sc.among (Lib.toLowerD (s.take 1)) 0 Sc.small = Sc.among (s.map Sc.low) 0 Sc.small := by
 cases s with
 | nil => rfl
 | cons c s =>
  rw [List.take_succ_cons,List.take_zero]
  by_cases h : c.toNat < 128
  ·rw [lower_word _ (by intro b hb; simp at hb; subst hb; exact h)]; rfl
  ·have e : c = UInt8.ofNat c.toNat := by simp
   have hc := lower_high ⟨c.toNat,by have := c.toNat_lt; omega⟩ (by simp; omega)
   simp only [UInt8.ofNat_toNat] at hc
   rw [hc]
   have h1 : Sc.among ((c :: s).map Sc.low) 0 Sc.small = Sc.small.contains (Sc.low c) := rfl
   rw [h1]
   have h2 : Sc.small.contains (Sc.low c) = false := by
    rw [Bool.eq_false_iff]
    intro hm
    have := Sc.small_lt _ (by simpa using hm)
    exact h (Sc.low_lt this)
   rw [h2]; decide
set_option maxRecDepth 100000 in
set_option maxHeartbeats 800000 in
theorem length_one (k : Int) (s : ByteArray) (w : World) (hs : s.size ≤ maxLen) (k2 : k ≠ 2) (k4 : k ≠ 4) : Calls Tryz.prog 137 #[.int .i64 k,.string s] w (Gives (.int .i64 (Sc.len k s.data.toList)) w) := by
 have hs' := hs
 unfold maxLen at hs
 by_cases k1 : k = 1
 ·subst k1
  cases h : Sc.among s.data.toList 0 Sc.small with
  | true =>
   have he := hid (show Sc.len 1 s.data.toList = 1 by unfold Sc.len; rw [if_pos rfl,if_pos h])
   have H := hid h
   clear h k2 k4
   go_enter Tryz.func137,Tryz.ntmps137
   go_wp2_with (go_at_call 173; refine (is_val _ _ 0 _ _ hs' H.out).mono ?_; rintro e w' ⟨rfl,rfl⟩)
   go_ret
   exact ⟨by rw [he.out]; rfl,Below.refl _ _⟩
  | false =>
   have he := hid (show Sc.len 1 s.data.toList = 0 by unfold Sc.len; rw [if_pos rfl,if_neg (by rw [h]; decide)])
   have H := hid h
   clear h k2 k4
   go_enter Tryz.func137,Tryz.ntmps137
   go_wp2_with (go_at_call 173; refine (is_val _ _ 0 _ _ hs' H.out).mono ?_; rintro e w' ⟨rfl,rfl⟩)
   go_ret
   exact ⟨by rw [he.out]; rfl,Below.refl _ _⟩
 by_cases k3 : k = 3
 ·subst k3
  cases h : Sc.among s.data.toList 0 Sc.abj with
  | true =>
   have he := hid (show Sc.len 3 s.data.toList = 1 by unfold Sc.len; rw [if_neg (by decide),if_neg (by decide),if_pos rfl,if_pos h])
   have H := hid h
   clear h k2 k4 k1
   go_enter Tryz.func137,Tryz.ntmps137
   go_wp2_with (go_at_call 173; refine (is_val _ _ 0 _ _ hs' H.out).mono ?_; rintro e w' ⟨rfl,rfl⟩)
   go_ret
   exact ⟨by rw [he.out]; rfl,Below.refl _ _⟩
  | false =>
   have he := hid (show Sc.len 3 s.data.toList = 0 by unfold Sc.len; rw [if_neg (by decide),if_neg (by decide),if_pos rfl,if_neg (by rw [h]; decide)])
   have H := hid h
   clear h k2 k4 k1
   go_enter Tryz.func137,Tryz.ntmps137
   go_wp2_with (go_at_call 173; refine (is_val _ _ 0 _ _ hs' H.out).mono ?_; rintro e w' ⟨rfl,rfl⟩)
   go_ret
   exact ⟨by rw [he.out]; rfl,Below.refl _ _⟩
 have he := hid (show Sc.len k s.data.toList = 0 by unfold Sc.len; rw [if_neg k1,if_neg k2,if_neg k3,if_neg k4])
 have b1 : (k == 1) = false := by simpa using k1
 have b2 : (k == 2) = false := by simpa using k2
 have b3 : (k == 3) = false := by simpa using k3
 have b4 : (k == 4) = false := by simpa using k4
 clear k1 k2 k3 k4
 go_enter Tryz.func137,Tryz.ntmps137
 go_wp2
 go_ret
 exact ⟨by rw [he.out]; rfl,Below.refl _ _⟩
theorem lower_short (s : List UInt8) : (Lib.toLowerD (s.take 1)).length ≤ 3 := by
 cases s with
 | nil => decide
 | cons c s =>
  rw [List.take_succ_cons,List.take_zero]
  by_cases h : c.toNat < 128
  ·rw [lower_word _ (by intro b hb; simp at hb; subst hb; exact h)]; simp [Sc.fold]
  ·have hc := lower_high ⟨c.toNat,by have := c.toNat_lt; omega⟩ (by simp; omega)
   simp only [UInt8.ofNat_toNat] at hc
   rw [hc]; decide
set_option maxRecDepth 100000 in
set_option maxHeartbeats 800000 in
theorem length_two (s : ByteArray) (w : World) (hs : s.size ≤ 1000000) (hT : Tabs w) : Calls Tryz.prog 137 #[.int .i64 2,.string s] w (Gives (.int .i64 (Sc.len 2 s.data.toList)) w) := by
 have hs' : s.size ≤ maxLen := by unfold maxLen; omega
 have hlo := hid (lower_head s.data.toList)
 obtain ⟨n,hn,hn1⟩ : ∃ n : Nat,n = min 1 s.size ∧ n ≤ s.size := ⟨_,rfl,Nat.min_le_right _ _⟩
 have hx := hid (show (s.extract 0 n).data.toList = s.data.toList.take 1 by
  rw [extract_list,List.drop_zero,Nat.sub_zero,hn]
  by_cases h0 : s.size = 0
  ·have : s.data.toList = [] := List.length_eq_zero_iff.1 (by simpa using h0)
   rw [this]; simp
  ·rw [show min 1 s.size = 1 by omega])
 have hlow := Tryz.strings_ToLower_any (s.extract 0 n) w (by rw [ByteArray.size_extract]; omega) hT.case_ hT.utf8
 rw [hx.out] at hlow
 have HL := hid hlow
 have hlz : (⟨(Lib.toLowerD (s.data.toList.take 1)).toArray⟩ : ByteArray).size ≤ maxLen := by
  have := lower_short s.data.toList
  show (Lib.toLowerD (s.data.toList.take 1)).toArray.size ≤ maxLen
  rw [List.size_toArray]; unfold maxLen; omega
 have hn' : min 1 (s.size : Int) = (n : Int) := by omega
 clear hlow hn
 cases h : Sc.among (s.data.toList.map Sc.low) 0 Sc.small with
 | false =>
  have he := hid (show Sc.len 2 s.data.toList = 0 by rw [Sc.len_at2,if_neg (by rw [h]; decide)])
  rw [← hlo.out] at h
  have H := hid h
  clear h
  go_enter Tryz.func137,Tryz.ntmps137
  go_wp2_with fail
  refine (HL.out).mono ?_
  rintro e w1 ⟨rfl,hb1⟩
  go_wp2_with (go_at_call 173; refine (is_val _ _ 0 _ _ hlz H.out).mono ?_; rintro e w' ⟨rfl,rfl⟩)
  go_ret
  exact ⟨by rw [he.out]; rfl,hb1⟩
 | true =>
  rw [← hlo.out] at h
  have H := hid h
  cases h2 : Sc.among s.data.toList 1 Sc.acc with
  | false =>
   have he := hid (show Sc.len 2 s.data.toList = 1 by rw [Sc.len_at2,if_pos (by rw [← hlo.out]; exact h),if_neg (by rw [h2]; decide)])
   have H2 := hid h2
   clear h h2
   go_enter Tryz.func137,Tryz.ntmps137
   go_wp2_with fail
   refine (HL.out).mono ?_
   rintro e w1 ⟨rfl,hb1⟩
   go_wp2_with fail
   refine (is_val _ _ 0 _ _ hlz H.out).mono ?_
   rintro e w' ⟨rfl,rfl⟩
   go_wp2_with fail
   refine (is_val _ _ 1 _ _ hs' H2.out).mono ?_
   rintro e w' ⟨rfl,rfl⟩
   go_wp2
   go_ret
   exact ⟨by rw [he.out]; rfl,hb1⟩
  | true =>
   have he := hid (show Sc.len 2 s.data.toList = 2 by rw [Sc.len_at2,if_pos (by rw [← hlo.out]; exact h),if_pos h2])
   have H2 := hid h2
   clear h h2
   go_enter Tryz.func137,Tryz.ntmps137
   go_wp2_with fail
   refine (HL.out).mono ?_
   rintro e w1 ⟨rfl,hb1⟩
   go_wp2_with fail
   refine (is_val _ _ 0 _ _ hlz H.out).mono ?_
   rintro e w' ⟨rfl,rfl⟩
   go_wp2_with fail
   refine (is_val _ _ 1 _ _ hs' H2.out).mono ?_
   rintro e w' ⟨rfl,rfl⟩
   go_wp2
   go_ret
   exact ⟨by rw [he.out]; rfl,hb1⟩
theorem len_at4 (s : List UInt8) : Sc.len 4 s = if Sc.among s 0 Sc.ons && Sc.among s 1 Sc.vow then 2 else if Sc.among s 0 Sc.vow || Sc.among s 0 [110] then 1 else 0 := by
 unfold Sc.len
 rw [if_neg (by decide),if_neg (by decide),if_neg (by decide),if_pos rfl]
set_option maxRecDepth 100000 in
set_option maxHeartbeats 1600000 in
theorem length_four (s : ByteArray) (w : World) (hs : s.size ≤ maxLen) : Calls Tryz.prog 137 #[.int .i64 4,.string s] w (Gives (.int .i64 (Sc.len 4 s.data.toList)) w) := by
 have hs' := hs
 unfold maxLen at hs
 cases h1 : Sc.among s.data.toList 0 Sc.ons with
 | true =>
  cases h2 : Sc.among s.data.toList 1 Sc.vow with
  | true =>
   have he := hid (show Sc.len 4 s.data.toList = 2 by rw [len_at4,h1,h2]; rfl)
   have H1 := hid h1
   have H2 := hid h2
   clear h1 h2
   go_enter Tryz.func137,Tryz.ntmps137
   go_wp2_with fail
   refine (is_val _ _ 0 _ _ hs' H1.out).mono ?_
   rintro e w' ⟨rfl,rfl⟩
   go_wp2_with fail
   refine (is_val _ _ 1 _ _ hs' H2.out).mono ?_
   rintro e w' ⟨rfl,rfl⟩
   go_wp2
   go_ret
   exact ⟨by rw [he.out]; rfl,Below.refl _ _⟩
  | false =>
   cases h3 : Sc.among s.data.toList 0 Sc.vow with
   | true =>
    have he := hid (show Sc.len 4 s.data.toList = 1 by rw [len_at4,h1,h2,h3]; rfl)
    have H1 := hid h1
    have H2 := hid h2
    have H3 := hid h3
    clear h1 h2 h3
    go_enter Tryz.func137,Tryz.ntmps137
    go_wp2_with fail
    refine (is_val _ _ 0 _ _ hs' H1.out).mono ?_
    rintro e w' ⟨rfl,rfl⟩
    go_wp2_with fail
    refine (is_val _ _ 1 _ _ hs' H2.out).mono ?_
    rintro e w' ⟨rfl,rfl⟩
    go_wp2_with fail
    refine (is_val _ _ 0 _ _ hs' H3.out).mono ?_
    rintro e w' ⟨rfl,rfl⟩
    go_wp2
    go_ret
    exact ⟨by rw [he.out]; rfl,Below.refl _ _⟩
   | false =>
    cases h4 : Sc.among s.data.toList 0 [110] with
    | true | false =>
     have he := hid (show Sc.len 4 s.data.toList = _ by rw [len_at4,h1,h2,h3,h4])
     have H1 := hid h1
     have H2 := hid h2
     have H3 := hid h3
     have H4 := hid h4
     clear h1 h2 h3 h4
     go_enter Tryz.func137,Tryz.ntmps137
     go_wp2_with fail
     refine (is_val _ _ 0 _ _ hs' H1.out).mono ?_
     rintro e w' ⟨rfl,rfl⟩
     go_wp2_with fail
     refine (is_val _ _ 1 _ _ hs' H2.out).mono ?_
     rintro e w' ⟨rfl,rfl⟩
     go_wp2_with fail
     refine (is_val _ _ 0 _ _ hs' H3.out).mono ?_
     rintro e w' ⟨rfl,rfl⟩
     go_wp2_with fail
     refine (is_val _ _ 0 _ _ hs' H4.out).mono ?_
     rintro e w' ⟨rfl,rfl⟩
     go_wp2
     go_ret
     exact ⟨by rw [he.out]; rfl,Below.refl _ _⟩
 | false =>
  cases h3 : Sc.among s.data.toList 0 Sc.vow with
  | true =>
   have he := hid (show Sc.len 4 s.data.toList = 1 by rw [len_at4,h1,h3]; rfl)
   have H1 := hid h1
   have H3 := hid h3
   clear h1 h3
   go_enter Tryz.func137,Tryz.ntmps137
   go_wp2_with fail
   refine (is_val _ _ 0 _ _ hs' H1.out).mono ?_
   rintro e w' ⟨rfl,rfl⟩
   go_wp2_with fail
   refine (is_val _ _ 0 _ _ hs' H3.out).mono ?_
   rintro e w' ⟨rfl,rfl⟩
   go_wp2
   go_ret
   exact ⟨by rw [he.out]; rfl,Below.refl _ _⟩
  | false =>
   cases h4 : Sc.among s.data.toList 0 [110] with
   | true | false =>
    have he := hid (show Sc.len 4 s.data.toList = _ by rw [len_at4,h1,h3,h4])
    have H1 := hid h1
    have H3 := hid h3
    have H4 := hid h4
    clear h1 h3 h4
    go_enter Tryz.func137,Tryz.ntmps137
    go_wp2_with fail
    refine (is_val _ _ 0 _ _ hs' H1.out).mono ?_
    rintro e w' ⟨rfl,rfl⟩
    go_wp2_with fail
    refine (is_val _ _ 0 _ _ hs' H3.out).mono ?_
    rintro e w' ⟨rfl,rfl⟩
    go_wp2_with fail
    refine (is_val _ _ 0 _ _ hs' H4.out).mono ?_
    rintro e w' ⟨rfl,rfl⟩
    go_wp2
    go_ret
    exact ⟨by rw [he.out]; rfl,Below.refl _ _⟩
theorem length_any (k : Int) (s : ByteArray) (w : World) (hs : s.size ≤ 1000000) (hT : Tabs w) : Calls Tryz.prog 137 #[.int .i64 k,.string s] w (Gives (.int .i64 (Sc.len k s.data.toList)) w) := by
 by_cases k2 : k = 2
 ·subst k2; exact length_two s w hs hT
 by_cases k4 : k = 4
 ·subst k4; exact length_four s w (by unfold maxLen; omega)
 exact length_one k s w (by unfold maxLen; omega) k2 k4
end Go.Proofs.YtdghfenbfbdijaaGreatDoor
namespace Go.Proofs.YtdghfenbfbdijaaGreatDoor
open Go.RowKit Go.Lib Go.Shelf
attribute [local go_sem] Oper.semAt_some
structure LetKeep (Bk Bs : Nat) (W W' : World) : Prop where
 size : W.heap.size ≤ W'.heap.size
 k : W'.heap[Bk]? = W.heap[Bk]?
 s : W'.heap[Bs]? = W.heap[Bs]?
 tabs : Tabs W → Tabs W'
def nxLetter (k : Int) (s : List UInt8) : Option (Array Value × List UInt8) :=
 if Sc.len k s = 0 then none else some (#[.string (bs (s.take (Sc.len k s)))],s.drop (Sc.len k s))
structure LetStart (k : Int) (Bk Bs : Nat) (s : List UInt8) (W : World) : Prop where
 ck : W.heap[Bk]? = some (.cells #[.int .i64 k] 3 (0,0))
 cs : W.heap[Bs]? = some (.cells #[.string (bs s)] 9 (0,0))
 tabs : Tabs W
 len : s.length ≤ 1000000
def textAt (w : World) (B : Nat) : Nat := match w.cell? ⟨B,0,none⟩ with | some (.string s) => s.size | _ => 0
theorem cell_blk {w : World} {B : Nat} {v : Value} {t : TypeId} (h : w.heap[B]? = some (.cells #[v] t (0,0))) : w.cell? ⟨B,0,none⟩ = some v ∧ w.frozen? ⟨B,0,none⟩ = false := by
 constructor
 ·simp [World.cell?,h]
 ·simp [World.frozen?,h]
theorem set_blk {w : World} {B : Nat} {v u : Value} {t : TypeId} (h : w.heap[B]? = some (.cells #[v] t (0,0))) : (w.setCell ⟨B,0,none⟩ u).heap[B]? = some (.cells #[u] t (0,0)) := by
 simp [World.setCell,Array.getElem?_modify,h]
theorem set_grown (w : World) (B : Nat) (u : Value) : w.grownBy (w.setCell ⟨B,0,none⟩ u) (some B) :=
 ⟨rfl,rfl,rfl,by simp [World.setCell],fun k _ hk => Below.heap_setCell w ⟨B,0,none⟩ u k (fun e => hk (by rw [e]))⟩
theorem Tabs.grown {w w' : World} {row : Option Nat} (h : Tabs w) (hg : w.grownBy w' row) (hr : ∀ (B : Nat) (v : Value) (o : Nat),row = some B → w.cell? ⟨B,o,none⟩ = some v → (∃ s,v = .string s)) : Tabs w' := by
 have key : ∀ (B o : Nat) v,w.cell? ⟨B,o,none⟩ = some v → (∀ s,v ≠ .string s) → w'.cell? ⟨B,o,none⟩ = some v := fun B o v ha hn => by
  refine (World.cell?_of_block (hg.block B (World.block_lt_of_cell? w _ ha) ?_)).trans ha
  intro e
  obtain ⟨s,hs⟩ := hr B v o e.symm ha
  exact hn s hs
 obtain ⟨⟨R,oR,cap,h1,h2⟩,h3,h4⟩ := h
 have q : ∀ {k : IntKind} {x : Int},∀ s,Value.int k x ≠ .string s := fun s => by intro h; cases h
 refine ⟨⟨R,oR,cap,key _ _ _ h1 (fun s => by intro h; cases h),?_⟩,fun c hc => key _ _ _ (h3 c hc) q,fun i hi => ⟨key _ _ _ (h4 i hi).1 q,key _ _ _ (h4 i hi).2 q⟩⟩
 intro i hi
 obtain ⟨a1,a2,a3,a4,a5⟩ := h2 i hi
 exact ⟨key _ _ _ a1 q,key _ _ _ a2 q,key _ _ _ a3 q,key _ _ _ a4 q,key _ _ _ a5 q⟩
set_option maxRecDepth 100000 in
set_option maxHeartbeats 2000000 in
theorem letters_iter (k : Int) (Bk Bs : Nat) (hne : Bk ≠ Bs) (n : Nat) (hn : 1 ≤ n) :
  IterX Fence.wide n Tryz.prog 136 #[.pointer (some ⟨Bk,0,none⟩),.pointer (some ⟨Bs,0,none⟩)] (some Bs) (LetKeep Bk Bs) (nxLetter k) (LetStart k Bk Bs) := by
 intro l J Jx b0 W hJ hJx hY hS h0
 obtain ⟨sk,ss,st,sl⟩ := hS
 refine callsIn_of_wp Tryz.func136 rfl trivial ?_ rfl
 simp only [Tryz.ntmps136,List.size_toArray,List.length_cons,List.length_nil,Nat.reduceAdd,Nat.reduceSub,Array.replicate_succ,Array.replicate_zero,List.push_toArray,List.append_toArray,List.nil_append,List.cons_append]
 have ck : W.cell? ⟨Bk,0,none⟩ = some (.int .i64 k) := by simp [World.cell?,sk]
 have cs : W.cell? ⟨Bs,0,none⟩ = some (.string (bs b0)) := by simp [World.cell?,ss]
 have hz0 : (bs b0).size ≤ 1000000 := by rw [bs_len]; exact sl
 gi_wp2_with (refine ⟨trivial,?_⟩; gi_at_call 137; refine (callsIn_wide.2 (length_any k (bs b0) _ hz0 st)).mono ?_; rintro e w' ⟨rfl,hb1⟩)
 gi_loopw [4] (fun t wr => ∃ b,t = .int .i64 (Sc.len k b) ∧ wr.heap[Bk]? = some (.cells #[.int .i64 k] 3 (0,0)) ∧ wr.heap[Bs]? = some (.cells #[.string (bs b)] 9 (0,0)) ∧ Tabs wr ∧ b.length ≤ 1000000 ∧ J b wr) (fun _ wr => textAt wr Bs)
 case atStart =>
  exact ⟨b0,rfl,(hb1.block Bk (Array.getElem?_eq_some_iff.1 sk).1).trans sk,(hb1.block Bs (Array.getElem?_eq_some_iff.1 ss).1).trans ss,st.below hb1,sl,hJ _ _ _ none h0 (Below.grows hb1 none) (fun r e => by cases e)⟩
 case round =>
  obtain ⟨b,rfl,rk,rs,rt,rl,hJr⟩ := hrel
  by_cases hz : Sc.len k b = 0
  ·have hnx := hid (show nxLetter k b = none by unfold nxLetter; rw [if_pos hz])
   rw [hz]
   gi_wp2
   refine ⟨fun _ h => (by cases h),?_⟩
   gi_wp2
   go_end0
   exact ⟨⟨_,rfl⟩,.inl ⟨b,hnx.out,hJr⟩⟩
  ·obtain ⟨fn,tmps,assign,body,hy,hR⟩ := hY b _ _ wr (by unfold nxLetter; rw [if_neg hz]) hJr
   have hle := Sc.len_le k b
   have e1 : (bs b).extract 0 (Sc.len k b) = bs (b.take (Sc.len k b)) := by rw [extract_bs]; simp [bs]
   have e2 : (bs b).extract (Sc.len k b) (bs b).size = bs (b.drop (Sc.len k b)) := by rw [extract_bs,bs_len,List.take_of_length_le (by simp [bs])]; rfl
   obtain ⟨ck',_⟩ := cell_blk rk
   obtain ⟨cs',fs'⟩ := cell_blk rs
   obtain ⟨m,hm⟩ := exq (Sc.len k b)
   rw [← hm] at hz hy hR hle e1 e2
   rw [← hm]
   have q1 : (0 : Int) < (m : Int) := by omega
   have q2 : (m : Int) ≤ ((bs b).size : Int) := by rw [bs_len]; omega
   have q3 : m ≤ (bs b).size := by rw [bs_len]; omega
   have HM := hid hm
   clear hm
   gi_wp2
   refine hR.mono ?_
   rintro e W3 (⟨rfl,hJ3,hk3⟩ | ⟨rfl,hJx3⟩)
   ·have rk3 := hk3.k.trans rk
    have rs3 := hk3.s.trans rs
    have rt3 := hk3.tabs rt
    obtain ⟨ck3,_⟩ := cell_blk rk3
    obtain ⟨cs3,fs3⟩ := cell_blk rs3
    have hg4 := set_grown W3 Bs (.string (bs (b.drop m)))
    have rk4 := (hg4.block Bk (Array.getElem?_eq_some_iff.1 rk3).1 (by intro e; exact hne (by cases e; rfl))).trans rk3
    have rs4 := set_blk (u := .string (bs (b.drop m))) rs3
    have rt4 : Tabs (W3.setCell ⟨Bs,0,none⟩ (.string (bs (b.drop m)))) := rt3.grown hg4 (fun B v o e hv => by
     cases e
     cases o with
     | zero => exact ⟨_,Option.some.inj (hv.symm.trans cs3)⟩
     | succ o => exfalso; simp [World.cell?,rs3] at hv)
    have hJ4 := hJ _ _ _ _ hJ3 hg4 (fun r e => e)
    have hl4 : (b.drop m).length ≤ 1000000 := by simp; omega
    have hz4 : (bs (b.drop m)).size ≤ 1000000 := by rw [bs_len]; exact hl4
    have HX := hid (length_any k (bs (b.drop m)) _ hz4 rt4)
    have R4 := hid (And.intro rk4 (And.intro rs4 (And.intro rt4 hJ4)))
    clear rk4 rs4 rt4 hJ4
    gi_wp2_with (refine ⟨trivial,?_⟩; gi_at_call 137; refine (callsIn_wide.2 HX.out).mono ?_; rintro e W5 ⟨rfl,hb5⟩)
    go_roundw
    case rel =>
     obtain ⟨rk4,rs4,rt4,hJ4⟩ := R4.out
     exact ⟨b.drop m,rfl,(hb5.block Bk (Array.getElem?_eq_some_iff.1 rk4).1).trans rk4,(hb5.block Bs (Array.getElem?_eq_some_iff.1 rs4).1).trans rs4,rt4.below hb5,hl4,hJ _ _ _ none hJ4 (Below.grows hb5 none) (fun r e => by cases e)⟩
    case measure =>
     obtain ⟨rk4,rs4,rt4,hJ4⟩ := R4.out
     have t1 : textAt wr Bs = b.length := by unfold textAt; rw [cs']; exact bs_len b
     have t2 : textAt W5 Bs = (b.drop m).length := by
      unfold textAt
      rw [(cell_blk ((hb5.block Bs (Array.getElem?_eq_some_iff.1 rs4).1).trans rs4)).1]
      exact bs_len _
     rw [t1,t2,List.length_drop]; omega
   ·gi_wp2
    go_end0
    exact ⟨⟨_,rfl⟩,.inr ⟨_,hJx3⟩⟩
end Go.Proofs.YtdghfenbfbdijaaGreatDoor
namespace Go.Proofs.YtdghfenbfbdijaaGreatDoor
open Go.RowKit Go.Lib Go.Shelf
attribute [local go_sem] Oper.semAt_some
set_option maxRecDepth 100000 in
theorem letters_mk (k : Int) (s : ByteArray) (w : World) : Calls Tryz.prog 93 #[.int .i64 k,.string s] w fun e w' =>
  e = .returned (.func (.func 136) #[] #[.pointer (some ⟨w.heap.size,0,none⟩),.pointer (some ⟨w.heap.size + 1,0,none⟩)]) ∧ w' = (w.alloc (.cells #[.int .i64 k] 3)).alloc (.cells #[.string s] 9) := by
 go_enter Tryz.func93,Tryz.ntmps93
 go_wp2
 go_ret
 exact ⟨rfl,rfl⟩
theorem info_str : (Tryz.prog.info? 9).map (fun i => (i.zero,i.size,i.bytes)) = some (some (.string ⟨#[]⟩),1,16) := by kernel_rfl
def LettersPost (k : Int) (s : List UInt8) (w : World) (e : Ending) (w' : World) : Prop :=
 match Sc.lets k s with
 | none => e = .returned (.tuple #[.slice none 0 0,.int .i64 1]) ∧ Below w.heap.size w w'
 | some ls => ∃ v,e = .returned (.tuple #[v,.int .i64 0]) ∧ w'.ownsRow w.heap.size 9 1 v ls.length (ls.map fun l => .string (bs l)) ∧ Below w.heap.size w w'
def LetI (k : Int) (s : List UInt8) (B o m : Nat) (w : World) (b : List UInt8) (W : World) : Prop :=
 ∃ ls v,Sc.cuts k s = (ls ++ (Sc.cuts k b).1,(Sc.cuts k b).2) ∧ o ≤ ls.length ∧ ls.length ≤ m ∧ b.length ≤ 1000000 ∧ W.heap[B]? = some (.cells #[v] 27 (0,0)) ∧ W.heap[B + 1]? = some (.cells #[.string (bs b)] 9 (0,0)) ∧
  W.ownsRow (B + 4) 9 1 v ls.length (ls.map fun l => .string (bs l)) ∧ (v = .slice none 0 0 ↔ ls = []) ∧ Below B w W
theorem own_cells {w : World} {base : Nat} {e : TypeId} {size : Nat} {v : Value} {n : Nat} {xs : List Value} (h : w.ownsRow base e size v n xs) {g : Nat} (hg : v.ownBlock = some g) : base ≤ g ∧ ∃ cs,w.heap[g]? = some (.cells cs e (0,0)) := by
 rcases h.2 with ⟨rfl,_⟩ | ⟨g',cap,cur,rfl,hb,hh,_⟩
 ·cases hg
 ·obtain rfl : g' = g := by simpa [Value.ownBlock] using hg
  exact ⟨hb,_,hh⟩
theorem letI_stays (k : Int) (s : List UInt8) (B o m : Nat) (w : World) : Stays (B + 4) (some (B + 3)) (LetI k s B o m w) := by
 rintro b A A' row ⟨ls,v,h1,h0,h2,h2',h3,h4,h5,h6,h7⟩ hg hr
 have far : ∀ q o,q < B + 3 → A.heap[q]? = some o → A'.heap[q]? = some o := fun q o hq ho =>
  (hg.block q (Array.getElem?_eq_some_iff.1 ho).1 (fun e => by
   rcases hr q e.symm with h | ⟨h,_⟩
   ·cases h; omega
   ·omega)).trans ho
 refine ⟨ls,v,h1,h0,h2,h2',far _ _ (by omega) h3,far _ _ (by omega) h4,h5.kept hg ?_,h6,h7.grown hg (Nat.le_of_lt (Array.getElem?_eq_some_iff.1 h3).1) (fun r e => ?_)⟩
 ·cases hv : v.ownBlock with
  | none => exact .inl rfl
  | some g =>
   obtain ⟨hb,cs,hc⟩ := own_cells h5 hv
   refine .inr (fun e => ?_)
   rcases hr g e.symm with h | ⟨_,o,ho,hn⟩
   ·cases h; omega
   ·rw [hc] at ho; cases ho; cases hn
 ·rcases hr r e with h | ⟨h,_⟩
  ·cases h; omega
  ·omega
theorem below_record {B : Nat} {w W : World} {D : Nat} {o : Obj} (o' : Obj) (h : Below B w W) (hD : B ≤ D) (hK : W.heap[D]? = some o) : Below B w (W.putObj D o') :=
 h.grown (grownBy_putObj' W D o') (by have := (Array.getElem?_eq_some_iff.1 hK).1; omega) (fun r e => by cases e; exact hD)
theorem own_record {W : World} {base : Nat} {e : TypeId} {size : Nat} {v : Value} {n : Nat} {xs : List Value} {D : Nat} {o : Obj} (o' : Obj) (h : W.ownsRow base e size v n xs) (hK : W.heap[D]? = some o) (ho : o.isCells = false) :
  (W.putObj D o').ownsRow base e size v n xs := by
 refine h.kept (grownBy_putObj' W D o') ?_
 cases hv : v.ownBlock with
 | none => exact .inl rfl
 | some g =>
  refine .inr (fun e => ?_)
  cases e
  obtain ⟨_,cs,hc⟩ := own_cells h hv
  rw [hK] at hc; cases hc; cases ho
def LetX (k : Int) (s : List UInt8) (B : Nat) (w : World) (c : Code) (b : List UInt8) (W : World) : Prop :=
 c = .exit 0 ∧ LetI k s B 13 13 w b W
theorem letX_stays (k : Int) (s : List UInt8) (B : Nat) (w : World) (c : Code) : Stays (B + 4) (some (B + 3)) (LetX k s B w c) :=
 fun b A A' row h hg hr => ⟨h.1,letI_stays k s B 13 13 w b A A' row h.2 hg hr⟩
theorem letKeep_record (B : Nat) (W : World) (l : Nat) (o o' : Obj) (hl : B + 4 ≤ l) (h : W.heap[l]? = some o) (ho : o.isCells = false) : LetKeep (B + 2) (B + 3) W (W.putObj l o') :=
 ⟨by simp,World.putObj_heap_other (by omega),World.putObj_heap_other (by omega),fun ht => ht.grown (grownBy_putObj' W l o') (fun q v o1 e hc => by
  cases e
  exfalso
  obtain ⟨o2,h2,h3⟩ := cells_of_cell hc
  rw [h] at h2; cases h2; rw [ho] at h3; cases h3)⟩
theorem LetKeep.trans {Bk Bs : Nat} {A B C : World} (h : LetKeep Bk Bs A B) (k : LetKeep Bk Bs B C) : LetKeep Bk Bs A C :=
 ⟨Nat.le_trans h.size k.size,k.k.trans h.k,k.s.trans h.s,fun t => k.tabs (h.tabs t)⟩
set_option maxRecDepth 100000 in
set_option maxHeartbeats 2000000 in
theorem letters_any (k : Int) (s : ByteArray) (w : World) (hs : s.size ≤ 1000000) (hT : Tabs w) : Calls Tryz.prog 61 #[.int .i64 k,.string s] w (LettersPost k s.data.toList w) := by
 refine (callsIn_wide (n := 9)).1 ?_
 refine callsIn_of_wp_marks Tryz.func61 rfl trivial ?_ rfl
 simp only [Tryz.ntmps61,List.size_toArray,List.length_cons,List.length_nil,Nat.reduceAdd,Nat.reduceSub,Array.replicate_succ,Array.replicate_zero,List.push_toArray,List.append_toArray,List.nil_append,List.cons_append]
 refine wpIn_wide.2 ?_
 go_wp2_with fail
 refine (letters_mk k s _).mono ?_
 rintro e w1 ⟨rfl,hw1⟩
 have hB : w.heap.size + 4 = w1.heap.size := by rw [hw1]; simp
 have c0 : w1.heap[w.heap.size]? = some (.cells #[.slice none 0 0] 27 (0,0)) := by
  rw [hw1]; exact (Below.heap_alloc _ _ _ (by simp; try omega)).trans ((Below.heap_alloc _ _ _ (by simp; try omega)).trans ((Below.heap_alloc _ _ _ (by simp)).trans (World.alloc_heap_new w _)))
 have c1 : w1.heap[w.heap.size + 1]? = some (.cells #[.string s] 9 (0,0)) := by
  rw [hw1]
  refine (Below.heap_alloc _ _ _ (by simp; try omega)).trans ((Below.heap_alloc _ _ _ (by simp)).trans ?_)
  have := World.alloc_heap_new (w.alloc (.cells #[.slice none 0 0] 27)) (.cells #[.string s] 9)
  rwa [World.size_alloc] at this
 have c2 : w1.heap[w.heap.size + 2]? = some (.cells #[.int .i64 k] 3 (0,0)) := by
  rw [hw1]
  refine (Below.heap_alloc _ _ _ (by simp)).trans ?_
  have := World.alloc_heap_new ((w.alloc (.cells #[.slice none 0 0] 27)).alloc (.cells #[.string s] 9)) (.cells #[.int .i64 k] 3)
  rwa [World.size_alloc,World.size_alloc] at this
 have c3 : w1.heap[w.heap.size + 3]? = some (.cells #[.string s] 9 (0,0)) := by
  rw [hw1]
  have := World.alloc_heap_new (((w.alloc (.cells #[.slice none 0 0] 27)).alloc (.cells #[.string s] 9)).alloc (.cells #[.int .i64 k] 3)) (.cells #[.string s] 9)
  rwa [World.size_alloc,World.size_alloc,World.size_alloc] at this
 have hb1 : Below w.heap.size w w1 := by
  rw [hw1]; exact ((((Below.refl _ w).alloc (Nat.le_refl _) _).alloc (by simp) _).alloc (by simp; try omega) _).alloc (by simp; try omega) _
 have hT1 := hid (hT.below hb1)
 simp only [World.size_alloc]
 have C := hid (And.intro c0 (And.intro c1 (And.intro c2 (And.intro c3 hw1))))
 clear c0 c1 c2 c3 hw1
 have hB' := hid hB
 clear hB
 go_wp2_with fail
 refine (wpIn_wide (n := 9)).1 (wp_iter (own := some (w.heap.size + 3)) rfl (by omega) (gf := 136) (lb := #[.pointer (some ⟨w.heap.size + 2,0,none⟩),.pointer (some ⟨w.heap.size + 3,0,none⟩)]) rfl trivial (enters_of Tryz.func136 (by kernel_rfl) rfl)
  (letters_iter k (w.heap.size + 2) (w.heap.size + 3) (by omega) 8 (by omega)) s.data.toList (fun r e => by cases e; have := hB'.out; omega)
  (fun W hW => ?st) (fun b vals b' h => ?ps) (fun h1 h2 => h1.trans h2) (fun W l o o' hl => letKeep_record w.heap.size W l o o' (by have := hB'.out; omega))
  (LetI k s.data.toList w.heap.size 0 12 w) (LetX k s.data.toList w.heap.size w) ?hI ?hIx ?h0 ?hround ?hdone ?hstop)
 case st =>
  obtain ⟨c0,c1,c2,c3,_⟩ := C.out
  exact ⟨(hW.block _ (Array.getElem?_eq_some_iff.1 c2).1).trans c2,(hW.block _ (Array.getElem?_eq_some_iff.1 c3).1).trans c3,hT1.out.below hW,by simpa using hs⟩
 case ps =>
  unfold nxLetter at h
  split at h
  ·cases h
  ·cases h; rfl
 case hI => rw [← hB'.out]; exact letI_stays _ _ _ _ _ _
 case hIx => intro c; rw [← hB'.out]; exact letX_stays _ _ _ _ _
 case h0 =>
  obtain ⟨c0,c1,c2,c3,_⟩ := C.out
  exact ⟨[],.slice none 0 0,rfl,Nat.zero_le _,by simp,by simpa using hs,c0,c1,World.ownsRow_nil _ _ _ _,by simp,hb1⟩
 case hround =>
  rw [← hB'.out]
  intro l b vals b' W hl hlo hnx hi
  have hi3 := fun W3 hg => letI_stays _ _ _ _ _ _ b W W3 (some l) hi hg (fun r e => by cases e; exact .inr ⟨by omega,hlo⟩)
  have hz : Sc.len k b ≠ 0 := by
   intro h
   unfold nxLetter at hnx
   rw [if_pos h] at hnx
   cases hnx
  unfold nxLetter at hnx
  rw [if_neg hz] at hnx
  obtain ⟨rfl,rfl⟩ : #[Value.string (bs (b.take (Sc.len k b)))] = vals ∧ b.drop (Sc.len k b) = b' := by
   have := Option.some.inj hnx
   exact ⟨congrArg Prod.fst this,congrArg Prod.snd this⟩
  clear hnx
  gi_wp2
  refine ⟨KeepsFrom.refl _ _,⟨Nat.le_refl _,rfl,rfl,fun h => h⟩,fun W3 hg3 => ?_⟩
  obtain ⟨ls,v,e1,_,e2,e3,b0,b1,hown,hnil,hbw⟩ := hi3 W3 hg3
  obtain ⟨a,cap,rfl⟩ := ownsRow_slice hown
  obtain ⟨q0,f0⟩ := cell_blk b0
  obtain ⟨q1,f1⟩ := cell_blk b1
  have hle := Sc.len_le k b
  have HI := hid hi
  clear hi hi3
  obtain ⟨m,hm⟩ := exq (Sc.len k b)
  rw [← hm] at hz hle ⊢
  have HM := hid hm
  clear hm
  gi_wp2_with (fail)
  have hsz : (bs (b.take m)).size = m := by rw [bs_len,List.length_take]; omega
  have x2 : (bs b).extract m (bs b).size = bs (b.drop m) := by rw [extract_bs,bs_len,List.take_of_length_le (by simp [bs])]; rfl
  have x3 : (m : Int) ≤ ((bs b).size : Int) := by rw [bs_len]; omega
  have x4 : m ≤ (bs b).size := by rw [bs_len]; omega
  refine round_heldS (S := TwoS 8 9 (fun W => W.cell? ⟨w.heap.size,0,none⟩ = some (.slice a ls.length cap)) (fun W => W.cell? ⟨w.heap.size + 1,0,none⟩ = some (.string (bs b)))) (by kernel_rfl) (by kernel_rfl) (fun ⟨_,_,h⟩ => h) ?_
  simp only [List.size_toArray,List.length_cons,List.length_nil,Nat.reduceAdd]
  intro hc
  have S0 : TwoS 8 9 (fun W => W.cell? ⟨w.heap.size,0,none⟩ = some (.slice a ls.length cap)) (fun W => W.cell? ⟨w.heap.size + 1,0,none⟩ = some (.string (bs b))) (Array.replicate 10 false) W3.drew := ⟨.inr q0,.inr q1⟩
  refine wpAnyS_take (i := 0) (v := .slice a ls.length cap) rfl (by kernel_rfl) (by kernel_rfl) (by kernel_rfl) (fun _ _ _ h => h) (fun _ _ => TwoS.set_ (by decide) (by decide) _ _) hc (by rfl) (fun wx hx => ?_) S0 (fun hc S0 => ?_)
  ·have g := hx.left (by kernel_rfl)
   go_simp
  simp only [Act.put,List.setIfInBounds_toArray]
  refine wpAnyS_take (i := 1) (v := .string (bs (b.take m))) rfl (by kernel_rfl) (by kernel_rfl) (by kernel_rfl) (fun _ _ _ h => h) (fun _ _ => TwoS.set_ (by decide) (by decide) _ _) hc (by rfl) (fun wx hx => ?_) S0 (fun hc S0 => ?_)
  ·go_simp
  simp only [Act.put]
  refine wpAnyS_take (i := 4) (v := .string (bs b)) rfl (by kernel_rfl) (by kernel_rfl) (by kernel_rfl) (fun _ _ _ h => h) (fun _ _ => TwoS.set_ (by decide) (by decide) _ _) hc (by rfl) (fun wx hx => ?_) S0 (fun hc S0 => ?_)
  ·have g := hx.right (by kernel_rfl)
   go_simp
  simp only [Act.put]
  refine wpAnyS_take (i := 5) (v := .string (bs (b.take m))) rfl (by kernel_rfl) (by kernel_rfl) (by kernel_rfl) (fun _ _ _ h => h) (fun _ _ => TwoS.set_ (by decide) (by decide) _ _) hc (by rfl) (fun wx hx => ?_) S0 (fun hc S0 => ?_)
  ·go_simp
  simp only [Act.put]
  refine wpAnyS_take (i := 6) (v := .int .i64 m) rfl (by kernel_rfl) (by kernel_rfl) (by kernel_rfl) (fun _ _ _ h => h) (fun _ _ => TwoS.set_ (by decide) (by decide) _ _) hc (by rfl) (fun wx hx => ?_) S0 (fun hc S0 => ?_)
  ·go_simp
  simp only [Act.put]
  refine wpAnyS_take (i := 7) (v := .string (bs (b.drop m))) rfl (by kernel_rfl) (by kernel_rfl) (by kernel_rfl) (fun _ _ _ h => h) (fun _ _ => TwoS.set_ (by decide) (by decide) _ _) hc (by rfl) (fun wx hx => ?_) S0 (fun hc S0 => ?_)
  ·go_simp
  simp only [Act.put]
  refine onI (i := 2) rfl hc (fun K' hK => ?_)
  go_simp
  refine hK.out _ _ ⟨.inr ?_,.inr ?_⟩ (fun hc => ?_)
  ·exact (World.cell?_alloc_lt _ _ _ (Array.getElem?_eq_some_iff.1 b0).1).trans q0
  ·exact (World.cell?_alloc_lt _ _ _ (Array.getElem?_eq_some_iff.1 b1).1).trans q1
  clear hK K'
  obtain ⟨i0,hi0,hz0,hz1,hz2⟩ := info_parts info_str
  have hown1 := (hown.alloc (.cells #[.string (bs (b.take m))] 9)).drew
  have hsz3 : w.heap.size + 4 ≤ W3.heap.size := by
   obtain ⟨o,ho,_⟩ := hlo
   have := (Array.getElem?_eq_some_iff.1 ho).1
   have := hg3.size
   omega
  refine wpAnyS_law (i := 3) rfl (by kernel_rfl) hc (fun K' hK => ?_)
  refine step_append_lies _ rfl _ _ 27 rfl (w.heap.size + 4) 9 i0 (.string ⟨#[]⟩) 1 16 Tryz.underlying27 hi0 hz0 hz1 hz2 rfl (by decide) _ _ _ rfl hown1 ⟨W3.heap.size,0,none⟩ 1 1 [.string (bs (b.take m))] rfl rfl (cell_one_new _ _ _) (by simp [Value.oneCell']) (by decide) (by unfold maxLen; omega) (by omega) (by simp; omega) (W3.heap.size + 1) (by simp) ?_
  intro g cap' w4 hown4 hgr4 hat hlt4
  have hgB : w.heap.size + 4 ≤ g := by
   rcases hat with h | h
   ·exact (own_cells hown h).1
   ·omega
  have far4 : ∀ q o,q < w.heap.size + 4 → W3.heap[q]? = some o → w4.heap[q]? = some o := fun q o hq ho =>
   (hgr4.block q (by show q < (W3.alloc _).heap.size; rw [World.size_alloc]; omega) (fun e => by
    have := (own_cells hown e.symm).1; omega)).trans ((Below.heap_alloc W3 _ q (by omega)).trans ho)
  have b04 := far4 _ _ (by omega) b0
  have b14 := far4 _ _ (by omega) b1
  obtain ⟨q04,f04⟩ := cell_blk b04
  obtain ⟨q14,f14⟩ := cell_blk b14
  refine hK.out _ _ ⟨.inr q04,.inr q14⟩ (fun hc => ?_)
  clear hK K'
  simp only [tk1,tk2,tk3,Act.put,tk4,tk5,tk6]
  refine onI (i := 8) rfl hc (fun K' hK => ?_)
  go_simp
  have b05 := set_blk (u := .slice (some ⟨g,0,none⟩) (ls.length + 1) cap') b04
  have b15 := (Below.heap_setCell w4 ⟨w.heap.size,0,none⟩ (.slice (some ⟨g,0,none⟩) (ls.length + 1) cap') (w.heap.size + 1) (by simp)).trans b14
  obtain ⟨q15,f15⟩ := cell_blk b15
  refine hK.out _ _ ⟨.inl rfl,.inr q15⟩ (fun hc => ?_)
  clear hK K'
  refine onI (i := 9) rfl hc (fun K' hK => ?_)
  go_simp
  refine hK.out _ _ ⟨.inl rfl,.inl rfl⟩ (fun hc => ?_)
  clear hK K'
  refine wpAnyS_done (by kernel_rfl) ?_ _
  obtain ⟨w6,hw6⟩ := exq ((w4.setCell ⟨w.heap.size,0,none⟩ (.slice (some ⟨g,0,none⟩) (ls.length + 1) cap')).setCell ⟨w.heap.size + 1,0,none⟩ (.string (bs (b.drop m))))
  have b06 : w6.heap[w.heap.size]? = some (.cells #[.slice (some ⟨g,0,none⟩) (ls.length + 1) cap'] 27 (0,0)) := by
   rw [hw6]; exact (Below.heap_setCell _ ⟨w.heap.size + 1,0,none⟩ _ w.heap.size (by simp)).trans b05
  have b16 : w6.heap[w.heap.size + 1]? = some (.cells #[.string (bs (b.drop m))] 9 (0,0)) := by rw [hw6]; exact set_blk b15
  have hset : ∀ q,q ≠ w.heap.size → q ≠ w.heap.size + 1 → w6.heap[q]? = w4.heap[q]? := fun q h1 h2 => by
   rw [hw6]; exact (Below.heap_setCell _ ⟨w.heap.size + 1,0,none⟩ _ q h2).trans (Below.heap_setCell _ ⟨w.heap.size,0,none⟩ _ q h1)
  have hs6 : w6.heap.size = w4.heap.size := by rw [hw6]; simp [World.setCell]
  have hg46 : ∀ row,(some w.heap.size = row ∨ True) → True := fun _ _ => trivial
  have own6 : w6.ownsRow (w.heap.size + 4) 9 1 (.slice (some ⟨g,0,none⟩) (ls.length + 1) cap') (ls.length + 1) ((ls ++ [b.take m]).map fun l => .string (bs l)) := by
   rw [List.map_append]
   rw [hw6]
   refine (hown4.kept (set_grown w4 w.heap.size _) (.inr ?_)).kept (set_grown _ (w.heap.size + 1) _) (.inr ?_)
   ·simp [Value.ownBlock]; omega
   ·simp [Value.ownBlock]; omega
  have hb6 : Below w.heap.size w w6 := by
   have h4 : Below w.heap.size w w4 := ((hbw.alloc (by omega) (.cells #[.string (bs (b.take m))] 9)).drew).grown hgr4 (by show w.heap.size ≤ (W3.alloc _).heap.size; rw [World.size_alloc]; omega) (fun r e => by have := (own_cells hown e).1; omega)
   rw [hw6]
   exact (h4.setCell (p := ⟨w.heap.size,0,none⟩) (Nat.le_refl _) _).setCell (p := ⟨w.heap.size + 1,0,none⟩) (by simp) _
  have sz34 : W3.heap.size ≤ w4.heap.size := Nat.le_trans (by show W3.heap.size ≤ (W3.alloc _).heap.size; rw [World.size_alloc]; omega) hgr4.size
  have hkf : KeepsFrom (w.heap.size + 4) W3 w6 := by
   refine ⟨by omega,fun q o hq ho hn => ?_⟩
   rw [hset q (by omega) (by omega)]
   refine (hgr4.block q (by show q < (W3.alloc _).heap.size; rw [World.size_alloc]; have := (Array.getElem?_eq_some_iff.1 ho).1; omega) (fun e => ?_)).trans ((Below.heap_alloc W3 _ q (Array.getElem?_eq_some_iff.1 ho).1).trans ho)
   obtain ⟨_,cs,hcs⟩ := own_cells hown e.symm
   rw [ho] at hcs; cases hcs; cases hn
  have hlk : LetKeep (w.heap.size + 2) (w.heap.size + 3) W3 w6 := by
   have far6 : ∀ q,q < w.heap.size + 4 → w.heap.size + 1 < q → w6.heap[q]? = W3.heap[q]? := fun q h1 h2 => by
    rw [hset q (by omega) (by omega)]
    refine (hgr4.block q (by show q < (W3.alloc _).heap.size; rw [World.size_alloc]; omega) (fun e => ?_)).trans (Below.heap_alloc W3 _ q (by omega))
    have := (own_cells hown e.symm).1; omega
   exact ⟨by omega,far6 _ (by omega) (by omega),far6 _ (by omega) (by omega),fun _ => hT.below hb6⟩
  have e4 : Sc.cuts k s.data.toList = ((ls ++ [b.take m]) ++ (Sc.cuts k (b.drop m)).1,(Sc.cuts k (b.drop m)).2) := by
   rw [e1,Sc.cuts_step (by rw [← HM.out]; exact hz),← HM.out]; simp
  have FIN := hid (And.intro hkf (And.intro hlk (And.intro own6 (And.intro hb6 (And.intro b06 b16)))))
  have E4 := hid e4
  obtain ⟨q06,f06⟩ := cell_blk b06
  rw [← hw6]
  clear hw6 b06 b16 hset hs6 hg46 own6 hb6 hkf hlk e4 hown4 hown1 hgr4 hat far4 b04 b14 q04 f04 q14 f14 b05 b15 q15 f15 hnil hown b0 b1 q0 f0 q1 f1 e1 hc S0 x2 x3 x4 hsz
  by_cases h12 : (12 : Int) < ((ls.length : Int) + 1)
  ·gi_wp2
   obtain ⟨hkf,hlk,own6,hb6,b06,b16⟩ := FIN.out
   exact ⟨hkf,rfl,ls ++ [b.take m],_,E4.out,by simp; omega,by simp; omega,by simp; omega,b06,b16,by rw [List.length_append]; exact own6,by simp,hb6⟩
  ·gi_wp2
   obtain ⟨hkf,hlk,own6,hb6,b06,b16⟩ := FIN.out
   exact ⟨hkf,hlk,ls ++ [b.take m],_,E4.out,Nat.zero_le _,by simp; omega,by simp; omega,b06,b16,by rw [List.length_append]; exact own6,by simp,hb6⟩
 case hdone =>
  rw [← hB'.out]
  intro D b W hD hnx hi hK
  obtain ⟨ls,v,e1,_,e2,_,b0,b1,hown,hnil,hbw⟩ := hi
  have hz : Sc.len k b = 0 := by
   unfold nxLetter at hnx
   split at hnx
   ·assumption
   ·cases hnx
  rw [Sc.cuts_stop hz,List.append_nil] at e1
  obtain ⟨a,cap,rfl⟩ := ownsRow_slice hown
  obtain ⟨q0,_⟩ := cell_blk b0
  obtain ⟨q1,_⟩ := cell_blk b1
  have e2' : (ls.length : Int) ≤ 12 := by omega
  cases b with
  | cons c b =>
   have hne : (bs (c :: b)).toList.isEmpty = false := by rw [ByteArray.toList_eq]; rfl
   have hL := hid (show Sc.lets k s.data.toList = none by unfold Sc.lets; rw [e1,if_neg (by simp)])
   have HH := hid (And.intro hbw hK)
   clear e1 hown hnil hnx hz e2 hK hbw b0 b1
   go_wp2
   refine ⟨by simp,.inl ⟨_,_,rfl,run_takeDeferred HH.out.2,_,results_tmp2 rfl _ _ _,?_⟩⟩
   unfold LettersPost
   rw [hL.out]
   exact ⟨rfl,below_record _ HH.out.1 (by omega) HH.out.2⟩
  | nil =>
   have hne : (bs []).toList.isEmpty = true := by rw [ByteArray.toList_eq]; rfl
   cases ls with
   | nil =>
    have hL := hid (show Sc.lets k s.data.toList = none by unfold Sc.lets; rw [e1,if_neg (by simp)])
    have HH := hid (And.intro hbw hK)
    clear e1 hown hnil hnx hz e2 hK hbw b0 b1
    go_wp2
    refine ⟨by simp,.inl ⟨_,_,rfl,run_takeDeferred HH.out.2,_,results_tmp2 rfl _ _ _,?_⟩⟩
    unfold LettersPost
    rw [hL.out]
    exact ⟨rfl,below_record _ HH.out.1 (by omega) HH.out.2⟩
   | cons x ls =>
    have hL := hid (show Sc.lets k s.data.toList = some (x :: ls) by unfold Sc.lets; rw [e1,if_pos ⟨rfl,by simp,e2⟩])
    have HH := hid (And.intro hbw (And.intro hK hown))
    have hn0 : (((x :: ls).length : Int) == 0) = false := by rw [beq_eq_false_iff_ne]; simp; omega
    have hn1 : ¬ (12 : Int) < ((x :: ls).length : Int) := by omega
    clear e1 hown hnil hnx hz e2 hK hbw b0 b1
    generalize hlen : (x :: ls).length = N at *
    have hlen' := hid hlen
    clear hlen
    go_wp2
    refine ⟨by simp,.inl ⟨_,_,rfl,run_takeDeferred HH.out.2.1,_,results_tmp2 rfl _ _ _,?_⟩⟩
    unfold LettersPost
    rw [hL.out]
    exact ⟨_,rfl,by rw [hlen'.out]; exact ownsRow_base (own_record _ HH.out.2.2 HH.out.2.1 rfl) (by omega),below_record _ HH.out.1 (by omega) HH.out.2.1⟩
 case hstop =>
  rw [← hB'.out]
  intro D c b W hD hx hK
  obtain ⟨rfl,ls,v,e1,h13,h13',_,b0,b1,hown,hnil,hbw⟩ := hx
  obtain ⟨a,cap,rfl⟩ := ownsRow_slice hown
  obtain ⟨q0,_⟩ := cell_blk b0
  obtain ⟨q1,_⟩ := cell_blk b1
  have hl13 : ls.length = 13 := by omega
  have hL := hid (show Sc.lets k s.data.toList = none by unfold Sc.lets; rw [e1,if_neg (by simp; omega)])
  have HH := hid (And.intro hbw hK)
  rw [hl13] at q0
  clear e1 hown hnil h13 h13' hK hbw b0 b1 hl13
  refine wpIn_wide.2 ?_
  cases b with
  | cons c b =>
   have hne : (bs (c :: b)).toList.isEmpty = false := by rw [ByteArray.toList_eq]; rfl
   go_wp2
   refine ⟨by simp,.inl ⟨_,_,rfl,run_takeDeferred HH.out.2,_,results_tmp2 rfl _ _ _,?_⟩⟩
   unfold LettersPost
   rw [hL.out]
   exact ⟨rfl,below_record _ HH.out.1 (by omega) HH.out.2⟩
  | nil =>
   have hne : (bs []).toList.isEmpty = true := by rw [ByteArray.toList_eq]; rfl
   go_wp2
   refine ⟨by simp,.inl ⟨_,_,rfl,run_takeDeferred HH.out.2,_,results_tmp2 rfl _ _ _,?_⟩⟩
   unfold LettersPost
   rw [hL.out]
   exact ⟨rfl,below_record _ HH.out.1 (by omega) HH.out.2⟩
end Go.Proofs.YtdghfenbfbdijaaGreatDoor
namespace Go.Proofs.YtdghfenbfbdijaaGreatDoor
open Go.RowKit Go.Lib
def FoldPost (k : Int) (s : List UInt8) (w : World) (e : Ending) (w' : World) : Prop :=
 (match Sc.lets k s with
 | none => e = .returned (.tuple #[.string ⟨#[]⟩,.int .i64 1])
 | some _ => e = .returned (.tuple #[.string (bs (Sc.fold s)),.int .i64 0])) ∧ Below w.heap.size w w'
set_option maxRecDepth 100000 in
set_option maxHeartbeats 800000 in
theorem fold_any (k : Int) (s : ByteArray) (w : World) (hs : s.size ≤ 1000000) (hT : Tabs w) : Calls Tryz.prog 82 #[.int .i64 k,.string s] w (FoldPost k s.data.toList w) := by
 cases hl : Sc.lets k s.data.toList with
 | none =>
  have HL := hid hl
  clear hl
  go_enter Tryz.func82,Tryz.ntmps82
  go_wp2_with fail
  refine (letters_any k s w hs hT).mono ?_
  rintro e w1 h1
  unfold LettersPost at h1
  rw [HL.out] at h1
  obtain ⟨rfl,hb1⟩ := h1
  go_wp2
  go_ret2
  unfold FoldPost
  rw [HL.out]
  exact ⟨rfl,hb1⟩
 | some ls =>
  have HL := hid hl
  have hlow := lower_word s.data.toList (Sc.lets_ascii hl)
  clear hl
  go_enter Tryz.func82,Tryz.ntmps82
  go_wp2_with fail
  refine (letters_any k s w hs hT).mono ?_
  rintro e w1 h1
  unfold LettersPost at h1
  rw [HL.out] at h1
  obtain ⟨v,rfl,_,hb1⟩ := h1
  have hlo := Tryz.strings_ToLower_any s w1 (by omega) (hT.below hb1).case_ (hT.below hb1).utf8
  rw [hlow] at hlo
  have HX := hid hlo
  have HB := hid hb1
  clear hlo hb1 hlow
  go_wp2_with fail
  refine (HX.out).mono ?_
  rintro e w2 ⟨rfl,hb2⟩
  go_wp2
  go_ret2
  unfold FoldPost
  rw [HL.out]
  exact ⟨rfl,HB.out.trans (hb2.mono HB.out.size)⟩
end Go.Proofs.YtdghfenbfbdijaaGreatDoor
