/-
 Several texts in one: ZLexD, ZLexE, ZLexF0, ZLexF. Conditions: as each law says.
-/
import Derived.Test.YtdghfenbfbdijaaGreatDoorZLexC
import Derived.Test.YtdghfenbfbdijaaGreatDoorZMLexA
namespace Go.Proofs.YtdghfenbfbdijaaGreatDoor
open Go.RowKit
theorem hasPrefix_yes (s : ByteArray) (w : World) (hm : s.size ≤ maxLen) (h : s.data.toList.head? = some 61) : Calls Tryz.prog 134 #[.string s,.string ⟨#[61]⟩] w (Same (.bool true) w) := by
 have := hasPrefix_any s w hm
 rwa [decide_eq_true h] at this
theorem hasPrefix_no (s : ByteArray) (w : World) (hm : s.size ≤ maxLen) (h : ¬ s.data.toList.head? = some 61) : Calls Tryz.prog 134 #[.string s,.string ⟨#[61]⟩] w (Same (.bool false) w) := by
 have := hasPrefix_any s w hm
 rwa [decide_eq_false h] at this
theorem extract_max {t : ByteArray} {a b : Nat} (h : t.size ≤ maxLen) : (t.extract a b).size ≤ maxLen := by
 rw [ByteArray.size_extract]; omega
theorem head_no {t : ByteArray} {k : Nat} (hne : ∀ hk1 : k + 1 < t.size,t[k + 1] ≠ 61) : ¬ (t.extract (k + 1) t.size).data.toList.head? = some 61 := by
 rw [extract_list,List.take_of_length_le (by simp)]
 intro hh
 by_cases h2 : k + 1 < t.data.toList.length
 ·rw [Lx.head_drop h2] at hh
  simp only [Option.some.injEq] at hh
  exact hne (by simpa using h2) hh
 ·rw [List.drop_eq_nil_of_le (by omega)] at hh
  cases hh
theorem cls_angle {c : UInt8} (h : Lx.isAngle c = true) : cls c = 8 ∧ Lx.isRest c = true := by
 have := all_bytes (fun c => !Lx.isAngle c || (cls c == 8 && Lx.isRest c)) (by decide +kernel) c
 simpa [h] using this
theorem cls_plain {c : UInt8} (h : Lx.isPlain c = true) : cls c = 9 ∧ Lx.isRest c = true ∧ Lx.isAngle c = false ∧ c ≠ 33 := by
 have := all_bytes (fun c => !Lx.isPlain c || (cls c == 9 && Lx.isRest c && !Lx.isAngle c && c != 33)) (by decide +kernel) c
 simp [h] at this
 exact ⟨this.1.1.1,this.1.1.2,this.1.2,this.2⟩
theorem cls_other {c : UInt8} (h : Lx.isRest c = true) (h1 : Lx.isAngle c = false) (h2 : Lx.isPlain c = false) (h3 : c ≠ 33) : cls c = 0 ∨ cls c = 1 ∨ cls c = 2 ∨ cls c = 5 := by
 have := all_bytes (fun c => !Lx.isRest c || Lx.isAngle c || Lx.isPlain c || c == 33 || cls c == 0 || cls c == 1 || cls c == 2 || cls c == 5) (by decide +kernel) c
 simpa [h,h1,h2,h3,or_assoc] using this
set_option maxRecDepth 100000 in
set_option maxHeartbeats 1600000 in
theorem next_plain (b : Nat) (t : ByteArray) (k : Nat) (w : World) (h : ScanAt w b t) (hk : k < t.size) (hm : t.size ≤ maxLen) (hc : Lx.isPlain t[k] = true) :
  Calls Tryz.prog 89 #[.pointer (some ⟨b,0,none⟩),.int .i64 k] w (Gives (nextV k (Lx.nextTok t[k] (t.data.toList.drop (k + 1)))) w) := by
 have hm' := hm
 unfold maxLen at hm
 have hS := hid h
 have hlt := h.lt
 have htx := h.text
 have hl : k < t.data.toList.length := by simpa using hk
 obtain ⟨c1,c2,c3,c4⟩ := cls_plain hc
 have hcl : clsAt t k = 9 := by rw [clsAt_in hk,c1]; rfl
 have hfin := hid (Lx.next_one hl c2 (fun hh => (hh.elim c4 (fun h => absurd (show Lx.isAngle t[k] = true from h) (by rw [c3]; decide))).elim) (.inr hc))
 have hpre : Hid (∀ w',Calls Tryz.prog 134 #[.string t,.string ⟨#[61]⟩] w' (Same (.bool (decide (t.data.toList.head? = some 61))) w')) := fun w' => hasPrefix_any _ _ hm'
 clear h hc c1 c2 c3 c4
 go_enter Tryz.func89,Tryz.ntmps89
 go_wp2_with (first
  | (go_at_call 130; refine (at_any b t _ _ (by repeat (first | exact hS.out | refine ScanAt.alloc ?_ _ | refine ScanAt.drewN ?_ _)) (by omega) hm').mono ?_; rintro e w' ⟨rfl,q,rfl⟩)
  | (go_at_call 134; refine (hpre.out _).mono ?_; rintro e w' ⟨rfl,rfl⟩))
 refine post_cell_tmp2 rfl (v := .agg #[.int .i64 4,.int .i64 k,.int .i64 0,.string (t.extract k (k + 1))]) (x := .int .i64 ((k : Int) + 1)) (y := .int .i64 0) rfl (by simp [go_sem]) rfl rfl rfl ?_
 refine next_done hfin.out ?_ (by repeat (first | exact Below.refl _ _ | refine Below.alloc ?_ (by first | exact Nat.le_refl _ | (simp; done) | (simp; omega) | omega) _ | refine below_drewN ?_ _ | refine Below.drew ?_ | assumption))
 exact nextV_ok (end_ := k + 1) (by rw [extract_bs,Nat.add_sub_cancel_left]) (by simp [Lx.Tk.width]; omega)
set_option maxRecDepth 100000 in
set_option maxHeartbeats 1600000 in
theorem next_angle_two (b : Nat) (t : ByteArray) (k : Nat) (w : World) (h : ScanAt w b t) (hk : k < t.size) (hm : t.size ≤ maxLen) (hc : Lx.isAngle t[k] = true) (hk1 : k + 1 < t.size) (he : t[k + 1] = 61) :
  Calls Tryz.prog 89 #[.pointer (some ⟨b,0,none⟩),.int .i64 k] w (Gives (nextV k (Lx.nextTok t[k] (t.data.toList.drop (k + 1)))) w) := by
 have hm' := hm
 unfold maxLen at hm
 have hS := hid h
 have hlt := h.lt
 have htx := h.text
 have hl : k < t.data.toList.length := by simpa using hk
 obtain ⟨c1,c2⟩ := cls_angle hc
 have hcl : clsAt t k = 8 := by rw [clsAt_in hk,c1]; rfl
 have hfin := hid (Lx.next_two (by simpa using hk1) c2 (.inr hc) he)
 have hpre : Hid (∀ w',Calls Tryz.prog 134 #[.string (t.extract (k + 1) t.size),.string ⟨#[61]⟩] w' (Same (.bool true) w')) := fun w' => hasPrefix_yes _ _ (extract_max hm') (by rw [extract_list,List.take_of_length_le (by simp),Lx.head_drop (by simpa using hk1)]; exact congrArg some he)
 clear h hc c1 c2 he
 go_enter Tryz.func89,Tryz.ntmps89
 go_wp2_with (first
  | (go_at_call 130; refine (at_any b t _ _ (by repeat (first | exact hS.out | refine ScanAt.alloc ?_ _ | refine ScanAt.drewN ?_ _)) (by omega) hm').mono ?_; rintro e w' ⟨rfl,q,rfl⟩)
  | (go_at_call 134; refine (hpre.out _).mono ?_; rintro e w' ⟨rfl,rfl⟩))
 refine post_cell_tmp2 rfl (v := .agg #[.int .i64 4,.int .i64 k,.int .i64 0,.string (t.extract k (k + 2))]) (x := .int .i64 ((k : Int) + 2)) (y := .int .i64 0) rfl (by simp [go_sem]) rfl rfl rfl ?_
 refine next_done hfin.out ?_ (by repeat (first | exact Below.refl _ _ | refine Below.alloc ?_ (by first | exact Nat.le_refl _ | (simp; done) | (simp; omega) | omega) _ | refine below_drewN ?_ _ | refine Below.drew ?_ | assumption))
 exact nextV_ok (end_ := k + 2) (by rw [extract_bs,Nat.add_sub_cancel_left]) (by simp [Lx.Tk.width]; omega)
set_option maxRecDepth 100000 in
set_option maxHeartbeats 1600000 in
theorem next_angle_one (b : Nat) (t : ByteArray) (k : Nat) (w : World) (h : ScanAt w b t) (hk : k < t.size) (hm : t.size ≤ maxLen) (hc : Lx.isAngle t[k] = true) (hne : ∀ hk1 : k + 1 < t.size,t[k + 1] ≠ 61) :
  Calls Tryz.prog 89 #[.pointer (some ⟨b,0,none⟩),.int .i64 k] w (Gives (nextV k (Lx.nextTok t[k] (t.data.toList.drop (k + 1)))) w) := by
 have hm' := hm
 unfold maxLen at hm
 have hS := hid h
 have hlt := h.lt
 have htx := h.text
 have hl : k < t.data.toList.length := by simpa using hk
 obtain ⟨c1,c2⟩ := cls_angle hc
 have hcl : clsAt t k = 8 := by rw [clsAt_in hk,c1]; rfl
 have hfin := hid (Lx.next_one hl c2 (fun _ hh => hne (by simpa using hh)) (.inl hc))
 have hpre : Hid (∀ w',Calls Tryz.prog 134 #[.string (t.extract (k + 1) t.size),.string ⟨#[61]⟩] w' (Same (.bool false) w')) := fun w' => hasPrefix_no _ _ (extract_max hm') (head_no hne)
 clear h hc c1 c2 hne
 go_enter Tryz.func89,Tryz.ntmps89
 go_wp2_with (first
  | (go_at_call 130; refine (at_any b t _ _ (by repeat (first | exact hS.out | refine ScanAt.alloc ?_ _ | refine ScanAt.drewN ?_ _)) (by omega) hm').mono ?_; rintro e w' ⟨rfl,q,rfl⟩)
  | (go_at_call 134; refine (hpre.out _).mono ?_; rintro e w' ⟨rfl,rfl⟩))
 refine post_cell_tmp2 rfl (v := .agg #[.int .i64 4,.int .i64 k,.int .i64 0,.string (t.extract k (k + 1))]) (x := .int .i64 ((k : Int) + 1)) (y := .int .i64 0) rfl (by simp [go_sem]) rfl rfl rfl ?_
 refine next_done hfin.out ?_ (by repeat (first | exact Below.refl _ _ | refine Below.alloc ?_ (by first | exact Nat.le_refl _ | (simp; done) | (simp; omega) | omega) _ | refine below_drewN ?_ _ | refine Below.drew ?_ | assumption))
 exact nextV_ok (end_ := k + 1) (by rw [extract_bs,Nat.add_sub_cancel_left]) (by simp [Lx.Tk.width]; omega)
set_option maxRecDepth 100000 in
set_option maxHeartbeats 1600000 in
theorem next_mark_two (b : Nat) (t : ByteArray) (k : Nat) (w : World) (h : ScanAt w b t) (hk : k < t.size) (hm : t.size ≤ maxLen) (hc : t[k] = 33) (hk1 : k + 1 < t.size) (he : t[k + 1] = 61) :
  Calls Tryz.prog 89 #[.pointer (some ⟨b,0,none⟩),.int .i64 k] w (Gives (nextV k (Lx.nextTok t[k] (t.data.toList.drop (k + 1)))) w) := by
 have hm' := hm
 unfold maxLen at hm
 have hS := hid h
 have hlt := h.lt
 have htx := h.text
 have hl : k < t.data.toList.length := by simpa using hk
 have hcl : clsAt t k = 7 := by rw [clsAt_in hk,hc]; decide
 have hfin := hid (Lx.next_two (by simpa using hk1) (by show Lx.isRest t[k] = true; rw [hc]; decide) (.inl hc) he)
 have hpre : Hid (∀ w',Calls Tryz.prog 134 #[.string (t.extract (k + 1) t.size),.string ⟨#[61]⟩] w' (Same (.bool true) w')) := fun w' => hasPrefix_yes _ _ (extract_max hm') (by rw [extract_list,List.take_of_length_le (by simp),Lx.head_drop (by simpa using hk1)]; exact congrArg some he)
 clear h hc he
 go_enter Tryz.func89,Tryz.ntmps89
 go_wp2_with (first
  | (go_at_call 130; refine (at_any b t _ _ (by repeat (first | exact hS.out | refine ScanAt.alloc ?_ _ | refine ScanAt.drewN ?_ _)) (by omega) hm').mono ?_; rintro e w' ⟨rfl,q,rfl⟩)
  | (go_at_call 134; refine (hpre.out _).mono ?_; rintro e w' ⟨rfl,rfl⟩))
 refine post_cell_tmp2 rfl (v := .agg #[.int .i64 4,.int .i64 k,.int .i64 0,.string (t.extract k (k + 2))]) (x := .int .i64 ((k : Int) + 2)) (y := .int .i64 0) rfl (by simp [go_sem]) rfl rfl rfl ?_
 refine next_done hfin.out ?_ (by repeat (first | exact Below.refl _ _ | refine Below.alloc ?_ (by first | exact Nat.le_refl _ | (simp; done) | (simp; omega) | omega) _ | refine below_drewN ?_ _ | refine Below.drew ?_ | assumption))
 exact nextV_ok (end_ := k + 2) (by rw [extract_bs,Nat.add_sub_cancel_left]) (by simp [Lx.Tk.width]; omega)
set_option maxRecDepth 100000 in
set_option maxHeartbeats 1600000 in
theorem next_mark_bad (b : Nat) (t : ByteArray) (k : Nat) (w : World) (h : ScanAt w b t) (hk : k < t.size) (hm : t.size ≤ maxLen) (hc : t[k] = 33) (hne : ∀ hk1 : k + 1 < t.size,t[k + 1] ≠ 61) :
  Calls Tryz.prog 89 #[.pointer (some ⟨b,0,none⟩),.int .i64 k] w (Gives (nextV k (Lx.nextTok t[k] (t.data.toList.drop (k + 1)))) w) := by
 have hm' := hm
 unfold maxLen at hm
 have hS := hid h
 have hlt := h.lt
 have htx := h.text
 have hl : k < t.data.toList.length := by simpa using hk
 have hcl : clsAt t k = 7 := by rw [clsAt_in hk,hc]; decide
 have hfin := hid (Lx.next_bad hl (by show Lx.isRest t[k] = true; rw [hc]; decide) (fun _ hh => hne (by simpa using hh)) (by show Lx.isAngle t[k] = false ∧ Lx.isPlain t[k] = false; rw [hc]; decide))
 have hpre : Hid (∀ w',Calls Tryz.prog 134 #[.string (t.extract (k + 1) t.size),.string ⟨#[61]⟩] w' (Same (.bool false) w')) := fun w' => hasPrefix_no _ _ (extract_max hm') (head_no hne)
 clear h hc hne
 go_enter Tryz.func89,Tryz.ntmps89
 go_wp2_with (first
  | (go_at_call 130; refine (at_any b t _ _ (by repeat (first | exact hS.out | refine ScanAt.alloc ?_ _ | refine ScanAt.drewN ?_ _)) (by omega) hm').mono ?_; rintro e w' ⟨rfl,q,rfl⟩)
  | (go_at_call 134; refine (hpre.out _).mono ?_; rintro e w' ⟨rfl,rfl⟩))
 refine post_cell_tmp2 rfl (v := tok0) (x := .int .i64 0) (y := .int .i64 3) rfl (by simp [go_sem,tok0]) rfl rfl rfl ?_
 exact next_done hfin.out rfl (by repeat (first | exact Below.refl _ _ | refine Below.alloc ?_ (by first | exact Nat.le_refl _ | (simp; done) | (simp; omega) | omega) _ | refine below_drewN ?_ _ | refine Below.drew ?_ | assumption))
set_option maxRecDepth 100000 in
set_option maxHeartbeats 1600000 in
theorem next_other (b : Nat) (t : ByteArray) (k : Nat) (w : World) (h : ScanAt w b t) (hk : k < t.size) (hm : t.size ≤ maxLen) (hr : Lx.isRest t[k] = true) (h1 : Lx.isAngle t[k] = false) (h2 : Lx.isPlain t[k] = false) (h3 : t[k] ≠ 33) :
  Calls Tryz.prog 89 #[.pointer (some ⟨b,0,none⟩),.int .i64 k] w (Gives (nextV k (Lx.nextTok t[k] (t.data.toList.drop (k + 1)))) w) := by
 have hm' := hm
 unfold maxLen at hm
 have hS := hid h
 have hlt := h.lt
 have htx := h.text
 have hl : k < t.data.toList.length := by simpa using hk
 have hcl : clsAt t k = 0 ∨ clsAt t k = 1 ∨ clsAt t k = 2 ∨ clsAt t k = 5 := by
  rw [clsAt_in hk]
  rcases cls_other hr h1 h2 h3 with h | h | h | h <;> rw [h] <;> decide
 have hfin := hid (Lx.next_bad hl hr (fun hh => (hh.elim h3 (fun h => absurd (show Lx.isAngle t[k] = true from h) (by rw [h1]; decide))).elim) ⟨h1,h2⟩)
 have hpre : Hid (∀ w',Calls Tryz.prog 134 #[.string t,.string ⟨#[61]⟩] w' (Same (.bool (decide (t.data.toList.head? = some 61))) w')) := fun w' => hasPrefix_any _ _ hm'
 clear h hr h1 h2 h3
 rcases hcl with hcl | hcl | hcl | hcl
 all_goals
  go_enter Tryz.func89,Tryz.ntmps89
  go_wp2_with (first
   | (go_at_call 130; refine (at_any b t _ _ (by repeat (first | exact hS.out | refine ScanAt.alloc ?_ _ | refine ScanAt.drewN ?_ _)) (by omega) hm').mono ?_; rintro e w' ⟨rfl,q,rfl⟩)
   | (go_at_call 134; refine (hpre.out _).mono ?_; rintro e w' ⟨rfl,rfl⟩))
  refine post_cell_tmp2 rfl (v := tok0) (x := .int .i64 0) (y := .int .i64 3) rfl (by simp [go_sem,tok0]) rfl rfl rfl ?_
  exact next_done hfin.out rfl (by repeat (first | exact Below.refl _ _ | refine Below.alloc ?_ (by first | exact Nat.le_refl _ | (simp; done) | (simp; omega) | omega) _ | refine below_drewN ?_ _ | refine Below.drew ?_ | assumption))
theorem next_any (b : Nat) (t : ByteArray) (k : Nat) (w : World) (h : ScanAt w b t) (hk : k < t.size) (hm : t.size ≤ 20000) :
  Calls Tryz.prog 89 #[.pointer (some ⟨b,0,none⟩),.int .i64 k] w (Gives (nextV k (Lx.nextTok t[k] (t.data.toList.drop (k + 1)))) w) := by
 have hm' : t.size ≤ maxLen := by unfold maxLen; omega
 by_cases h1 : Lx.isLetter t[k] = true
 ·exact next_letter b t k w h hk hm' h1
 by_cases h2 : Lx.isDigit t[k] = true
 ·exact next_digit b t k w h hk hm' h2
 by_cases h3 : t[k] = 34
 ·exact next_quote b t k w h hk hm h3
 have hr : Lx.isRest t[k] = true := by simp [Lx.isRest,h1,h2,h3]
 by_cases h4 : Lx.isPlain t[k] = true
 ·exact next_plain b t k w h hk hm' h4
 by_cases h5 : Lx.isAngle t[k] = true
 ·by_cases h6 : ∃ hk1 : k + 1 < t.size,t[k + 1] = 61
  ·obtain ⟨hk1,he⟩ := h6
   exact next_angle_two b t k w h hk hm' h5 hk1 he
  ·exact next_angle_one b t k w h hk hm' h5 (fun hk1 he => h6 ⟨hk1,he⟩)
 by_cases h7 : t[k] = 33
 ·by_cases h6 : ∃ hk1 : k + 1 < t.size,t[k + 1] = 61
  ·obtain ⟨hk1,he⟩ := h6
   exact next_mark_two b t k w h hk hm' h7 hk1 he
  ·exact next_mark_bad b t k w h hk hm' h7 (fun hk1 he => h6 ⟨hk1,he⟩)
 exact next_other b t k w h hk hm' hr (Bool.eq_false_iff.2 h5) (Bool.eq_false_iff.2 h4) h7
end Go.Proofs.YtdghfenbfbdijaaGreatDoor
namespace Go.Proofs.YtdghfenbfbdijaaGreatDoor
open Go.RowKit
def setCls (cs : Array Value) (l : List UInt8) (c : Int) : Array Value := l.foldl (fun a x => a.setIfInBounds x.toNat (.int .i64 c)) cs
theorem setCls_size (cs : Array Value) (l : List UInt8) (c : Int) : (setCls cs l c).size = cs.size := by
 unfold setCls
 induction l generalizing cs with
 | nil => rfl
 | cons x l ih => rw [List.foldl_cons,ih]; simp
theorem setCls_snoc (cs : Array Value) (l : List UInt8) (x : UInt8) (c : Int) : setCls cs (l ++ [x]) c = (setCls cs l c).setIfInBounds x.toNat (.int .i64 c) := by
 simp [setCls]
structure RowAt (w w' : World) (g : Nat) (cs : Array Value) (T : TypeId) : Prop where
 os : w'.os = w.os
 tape : w'.tape = w.tape
 output : w'.output = w.output
 size : w'.heap.size = w.heap.size
 block : ∀ k,k ≠ g → w'.heap[k]? = w.heap[k]?
 row : w'.heap[g]? = some (.cells cs T (0,0))
theorem heap_setCell_row {w : World} {g i : Nat} {cs : Array Value} {T : TypeId} {v : Value} (h : w.heap[g]? = some (.cells cs T (0,0))) :
  (w.setCell ⟨g,i,none⟩ v).heap[g]? = some (.cells (cs.setIfInBounds i v) T (0,0)) := by
 rw [setCell_eq_setRow w g i cs T (0,0) v h]
 exact setRow_heap w g cs _ T (0,0) h
theorem RowAt.set {w w' : World} {g i : Nat} {cs : Array Value} {T : TypeId} {v : Value} (h : RowAt w w' g cs T) : RowAt w (w'.setCell ⟨g,i,none⟩ v) g (cs.setIfInBounds i v) T :=
 ⟨h.os,h.tape,h.output,by simp [World.setCell,h.size],fun k hk => by rw [Below.heap_setCell _ _ _ _ (by simpa using hk),h.block k hk],heap_setCell_row h.row⟩
theorem RowAt.refl {w : World} {g : Nat} {cs : Array Value} {T : TypeId} (h : w.heap[g]? = some (.cells cs T (0,0))) : RowAt w w g cs T := ⟨rfl,rfl,rfl,rfl,fun _ _ => rfl,h⟩
def SetPost (w : World) (g : Nat) (cs : Array Value) (e : Ending) (w' : World) : Prop := e = .returned (.tuple #[]) ∧ RowAt w w' g cs 169 ∧ cs.size = 256
set_option maxRecDepth 100000 in
set_option maxHeartbeats 800000 in
theorem set_any (s : ByteArray) (c : Int) (g : Nat) (cs : Array Value) (w : World) (hg : w.heap[g]? = some (.cells cs 169 (0,0))) (hsz : cs.size = 256) (hm : s.size ≤ maxLen) :
  Calls Tryz.prog 128 #[.string s,.int .i64 c,.pointer (some ⟨g,0,none⟩)] w (SetPost w g (setCls cs s.data.toList c)) := by
 unfold maxLen at hm
 have hR := RowAt.refl hg
 have hsz' := hid hsz
 clear hg hsz
 go_enter Tryz.func128,Tryz.ntmps128
 go_wp2
 go_loopw [5] (fun i wr => ∃ k : Nat,k ≤ s.size ∧ i = .int .i64 k ∧ RowAt w wr g (setCls cs (s.data.toList.take k) c) 169) (fun i _ => s.size - (intOf i).toNat)
 case atStart => exact ⟨0,Nat.zero_le _,rfl,hR⟩
 case round =>
  obtain ⟨k,hk,rfl,hr⟩ := hrel
  by_cases hlt : k < s.size
  ·have HT := hid (show s.data.toList.take (k + 1) = s.data.toList.take k ++ [s[k]] by
    rw [List.take_succ_eq_append_getElem (by simpa using hlt)]; rfl)
   have hlen : s[k].toNat < (setCls cs (s.data.toList.take k) c).size := by rw [setCls_size,hsz'.out]; exact s[k].toNat_lt
   obtain ⟨v,hv⟩ : ∃ v,(setCls cs (s.data.toList.take k) c)[s[k].toNat]? = some v := ⟨_,Array.getElem?_eq_getElem hlen⟩
   have h1 := (cell_of_row wr g s[k].toNat _ _ _ hr.row).trans hv
   have h2 := frozen_of_row wr g s[k].toNat _ _ hr.row
   have hr2 := hr.set (i := s[k].toNat) (v := .int .i64 c)
   rw [← setCls_snoc,← HT.out] at hr2
   have hr3 := hid hr2
   clear hr hv HT hr2 hlen
   have h3 : ((s[k].toNat : Nat) : Int) < 256 := by have := s[k].toNat_lt; omega
   have h4 : (0 : Int) ≤ ((s[k].toNat : Nat) : Int) := by omega
   go_wp2
   go_roundw
   case rel => exact ⟨k + 1,by omega,by go_num,hr3⟩
   case measure => simp [intOf]; omega
  ·go_wp2
   go_end0
   exact ⟨rfl,by rw [List.take_of_length_le (by simp; omega)] at hr; exact hr,(setCls_size _ _ _).trans hsz'.out⟩
def z256 : Array Value := Array.replicate 256 (.int .i64 0)
theorem z256_size : z256.size = 256 := by simp [z256]
theorem Tryz.infoArr : (Tryz.prog.info? 169).map (fun i => (i.zero,i.size)) = some (some (.agg z256),256) := by kernel_rfl
theorem cls_all : setCls (setCls (setCls (setCls (setCls (setCls (setCls (setCls (setCls z256
  [97,98,99,100,101,102,103,104,105,106,107,108,109,110,111,112,113,114,115,116,117,118,119,120,121,122,65,66,67,68,69,70,71,72,73,74,75,76,77,78,79,80,81,82,83,84,85,86,87,88,89,90] 3)
  [48,49,50,51,52,53,54,55,56,57] 4) [95] 5) [32,9,10] 1) [35] 2) [34] 6) [33] 7) [60,62] 8) [59,44,46,58,40,41,91,93,123,125,61,43,45] 9 = clsA := by kernel_rfl
attribute [irreducible] z256
theorem wpList_alloc_agg {P : Program} {ops : Array Oper} {rest : List Oper} {o : Oper} {a : Act} {w : World} {Q : Exit → Act → World → Prop} (hgd : o.guard = none) (T : TypeId) (ho : o.op = .alloc T)
  (Z : Array Value) (n : Nat) (hz : (P.info? T).map (fun i => (i.zero,i.size)) = some (some (.agg Z),n))
  (h : wpList P ops Q rest (a.put o.dst (.pointer (some ⟨w.heap.size,0,none⟩))) (w.alloc (.cells Z T))) : wpList P ops Q (o :: rest) a w :=
 wpList_plain hgd fun K hK => by
  obtain ⟨i,hi,hh⟩ := Option.map_eq_some_iff.1 hz
  simp only [Prod.mk.injEq] at hh
  have e : (Instr.alloc T true (.tuple #[])).run P w = .ok (.pointer (some ⟨w.heap.size,0,none⟩)) (w.alloc (.cells Z T)) := by
   simp [Instr.alloc,zeroValue,typeInfo,hi,hh.1,newVar,newRow,Value.cells]
  unfold Oper.wp execOp
  simp only [ho,Sem.run_bind,e]
  exact hK _ _ h
theorem clsA_info : (Tryz.prog.info? 169).map (·.size) = some clsA.size := by
 rw [clsA_size]; kernel_rfl
theorem clsA_one : clsA.all (·.oneCell') = true := by
 rw [← cls_all]; kernel_rfl
def ClsPost (w : World) (e : Ending) (w' : World) : Prop := e = .returned (.agg clsA) ∧ Below w.heap.size w w'
theorem RowAt.below {w w' : World} {g B : Nat} {cs : Array Value} {T : TypeId} (h : RowAt w w' g cs T) (hB : B ≤ g) : Below B w w' :=
 ⟨h.os,h.tape,h.output,by rw [h.size]; exact Nat.le_refl _,fun k hk => h.block k (by omega)⟩
set_option maxRecDepth 100000 in
set_option maxHeartbeats 1600000 in
theorem classes_any (w : World) : Calls Tryz.prog 87 #[] w (ClsPost w) := by
 go_enter Tryz.func87,Tryz.ntmps87
 go_wp2_with (refine wpList_alloc_agg rfl 169 rfl z256 256 Tryz.infoArr ?_)
 have r0 : ((w.alloc (.cells z256 169)).alloc (.cells z256 169)).heap[w.heap.size + 1]? = some (.cells z256 169 (0,0)) := by
  have := heap_alloc_new (w.alloc (.cells z256 169)) (.cells z256 169)
  simpa using this
 refine (set_any _ 3 _ _ _ r0 z256_size (by decide)).mono ?_
 rintro e w1 ⟨rfl,r1,s1⟩
 go_wp2_with fail
 refine (set_any _ 4 _ _ _ r1.row s1 (by decide)).mono ?_
 rintro e w2 ⟨rfl,r2,s2⟩
 go_wp2_with fail
 refine (set_any _ 5 _ _ _ r2.row s2 (by decide)).mono ?_
 rintro e w3 ⟨rfl,r3,s3⟩
 go_wp2_with fail
 refine (set_any _ 1 _ _ _ r3.row s3 (by decide)).mono ?_
 rintro e w4 ⟨rfl,r4,s4⟩
 go_wp2_with fail
 refine (set_any _ 2 _ _ _ r4.row s4 (by decide)).mono ?_
 rintro e w5 ⟨rfl,r5,s5⟩
 go_wp2_with fail
 refine (set_any _ 6 _ _ _ r5.row s5 (by decide)).mono ?_
 rintro e w6 ⟨rfl,r6,s6⟩
 go_wp2_with fail
 refine (set_any _ 7 _ _ _ r6.row s6 (by decide)).mono ?_
 rintro e w7 ⟨rfl,r7,s7⟩
 go_wp2_with fail
 refine (set_any _ 8 _ _ _ r7.row s7 (by decide)).mono ?_
 rintro e w8 ⟨rfl,r8,s8⟩
 go_wp2_with fail
 refine (set_any _ 9 _ _ _ r8.row s8 (by decide)).mono ?_
 rintro e w9 ⟨rfl,r9,s9⟩
 rw [show setCls (setCls (setCls (setCls (setCls (setCls (setCls (setCls (setCls z256 _ 3) _ 4) _ 5) _ 1) _ 2) _ 6) _ 7) _ 8) _ 9 = clsA from cls_all] at r9
 have rz : w9.heap[w.heap.size]? = some (.cells z256 169 (0,0)) := by
  rw [r9.block _ (by omega),r8.block _ (by omega),r7.block _ (by omega),r6.block _ (by omega),r5.block _ (by omega),r4.block _ (by omega),r3.block _ (by omega),r2.block _ (by omega),r1.block _ (by omega),Below.heap_alloc _ _ _ (by simp),heap_alloc_new]
 have hbw : Below w.heap.size w w9 :=
  ((((((((((((Below.refl _ w).alloc (Nat.le_refl _) _).alloc (by simp) _).trans (r1.below (by omega))).trans (r2.below (by omega))).trans (r3.below (by omega))).trans (r4.below (by omega))).trans (r5.below (by omega))).trans (r6.below (by omega))).trans (r7.below (by omega))).trans (r8.below (by omega))).trans (r9.below (by omega)))
 have hrow := r9.row
 clear r0 r1 r2 r3 r4 r5 r6 r7 r8 r9 s1 s2 s3 s4 s5 s6 s7 s8 s9
 go_wp2_with (first
  | (refine wpList_load_row rfl 169 _ rfl (w.heap.size + 1) rfl 169 clsA (0,0) _ hrow Tryz.underlying169 rfl clsA_info ?_)
  | (refine wpList_store_row rfl 169 _ _ rfl w.heap.size clsA rfl rfl 169 z256 rz clsA_info (z256_size.trans clsA_size.symm) clsA_one ?_))
 refine bodyPost_ret (results_cell_row rfl _ _ w.heap.size 169 clsA (0,0) _ rfl (setRow_heap _ _ _ _ _ _ rz) Tryz.underlying169 rfl clsA_info) rfl ⟨rfl,?_⟩
 exact hbw.trans ⟨rfl,rfl,rfl,by simp,fun k hk => setRow_other _ _ _ _ (by omega)⟩
end Go.Proofs.YtdghfenbfbdijaaGreatDoor
namespace Go.Proofs.YtdghfenbfbdijaaGreatDoor
open Go.RowKit
theorem wpList_build_eq {P : Program} {ops : Array Oper} {rest : List Oper} {o : Oper} {a : Act} {w : World} {Q : Exit → Act → World → Prop} (hg : o.guard = none) (t : TypeId) (parts : List (Nat × Operand)) (ho : o.op = .build t parts.toArray)
  (vs : List (Nat × Value)) (hv : parts.map (fun p => (p.1,a.eval p.2)) = vs) (cells : Array Value) (hf : P.built t vs = some cells)
  (h : wpList P ops Q rest (a.put o.dst (.agg cells)) w) : wpList P ops Q (o :: rest) a w := by
 have e : (parts.toArray.map fun (x : Nat × Operand) => (x.1,a.eval x.2)).toList = vs := by simpa using hv
 exact wpList_build hg t parts.toArray ho (by show (P.built t (parts.toArray.map fun (x : Nat × Operand) => (x.1,a.eval x.2)).toList).isSome = true; rw [e,hf]; rfl)
  (by show wpList P ops Q rest (a.put o.dst (.agg ((P.built t (parts.toArray.map fun (x : Nat × Operand) => (x.1,a.eval x.2)).toList).getD #[]))) w; rw [e,hf]; exact h)
def z257 : Array Value := #[.string ⟨#[]⟩] ++ z256
theorem z257_size : z257.size = 257 := by rw [z257,Array.size_append,z256_size]; rfl
theorem scan_size (t : ByteArray) : (scanCells t).size = 257 := by rw [scanCells,Array.size_append,clsA_size]; rfl
theorem Tryz.infoScan : (Tryz.prog.info? 172).map (fun i => (i.zero,i.size)) = some (some (.agg z257),257) := by kernel_rfl
theorem Tryz.infoScanSize : (Tryz.prog.info? 172).map (·.size) = some 257 := by kernel_rfl
theorem built_scan (t : ByteArray) : Tryz.prog.built 172 [(0,.string t),(1,.agg clsA)] = some (scanCells t) := by kernel_rfl
theorem scan_info (t : ByteArray) : (Tryz.prog.info? 172).map (·.size) = some (scanCells t).size := by rw [scan_size]; exact Tryz.infoScanSize
theorem scan_one (t : ByteArray) : (scanCells t).all (·.oneCell') = true := by
 rw [scanCells,Array.all_append,clsA_one]; simp [Value.oneCell']
attribute [irreducible] z257
end Go.Proofs.YtdghfenbfbdijaaGreatDoor
namespace Go.Proofs.YtdghfenbfbdijaaGreatDoor
open Go.RowKit
theorem next_err (b : Nat) (t : ByteArray) (k e : Nat) (w : World) (h : ScanAt w b t) (hm : t.size ≤ 20000) (hk : k < t.size) (hn : Hid (Lx.nextTok t[k] (t.data.toList.drop (k + 1)) = .error e)) :
  Calls Tryz.prog 89 #[.pointer (some ⟨b,0,none⟩),.int .i64 k] w (Gives (.tuple #[.agg #[.int .i64 0,.int .i64 0,.int .i64 0,.string ⟨#[]⟩],.int .i64 0,.int .i64 e]) w) := by
 have := next_any b t k w h hk hm
 rw [hn.out] at this
 exact this
theorem next_ok (b : Nat) (t : ByteArray) (k : Nat) (tk : Lx.Tk) (w : World) (h : ScanAt w b t) (hm : t.size ≤ 20000) (hk : k < t.size) (hn : Hid (Lx.nextTok t[k] (t.data.toList.drop (k + 1)) = .ok tk)) :
  Calls Tryz.prog 89 #[.pointer (some ⟨b,0,none⟩),.int .i64 k] w (Gives (.tuple #[.agg #[.int .i64 tk.kind,.int .i64 k,.int .i64 tk.n,.string (bs tk.text)],.int .i64 ((k + tk.width : Nat) : Int),.int .i64 0]) w) := by
 have := next_any b t k w h hk hm
 rw [hn.out] at this
 rw [Int.natCast_add]
 exact this
theorem gap_any (b : Nat) (t : ByteArray) (k : Nat) (w : World) (h : ScanAt w b t) (hk : k ≤ t.size) (hm : t.size ≤ maxLen) :
  Calls Tryz.prog 88 #[.pointer (some ⟨b,0,none⟩),.int .i64 k] w (Gives (.int .i64 ((Lx.gapTo false t.data.toList k : Nat) : Int)) w) := gap_core b t k _ w h hk hm rfl
theorem ScanAt.belowB {w w' : World} {b B : Nat} {t : ByteArray} (h : ScanAt w b t) (hb : Below B w w') (hB : b < B) : ScanAt w' b t := by
 unfold ScanAt at *
 rw [hb.block b hB,h]
set_option maxRecDepth 100000 in
set_option maxHeartbeats 3200000 in
theorem lex_any (t : ByteArray) (w : World) (hs : t.size ≤ maxLen) :
  Calls Tryz.prog 55 #[.string t] w (LexPost w (Lx.lex t.data.toList)) := by
 obtain ⟨i0,hi,hz0,hz1,hz2⟩ := info_parts Tryz.infoTok
 have hs' := hs
 unfold maxLen at hs
 have hl : t.data.toList.length = t.size := by simp
 by_cases h20 : 20000 < t.size
 ·have hpost := hid (show Lx.lex t.data.toList = ([],2,-1) by rw [Lx.lex,if_pos (by omega)])
  clear hl
  go_enter Tryz.func55,Tryz.ntmps55
  go_wp2
  go_ret3
  exact LexPost.nil hpost.out (Below.refl _ _)
 ·have h20' : t.size ≤ 20000 := by omega
  have S0 := Lx.St.start t.data.toList
  have hg0 : Lx.gapTo false t.data.toList 0 ≤ t.size := by have := Lx.gapTo_le false t.data.toList 0; omega
  go_enter Tryz.func55,Tryz.ntmps55
  go_wp2_with (first
   | (go_at_call 87; refine (classes_any _).mono ?_; rintro e w1 ⟨rfl,hb1⟩)
   | (refine wpList_build_eq rfl 172 [(0,.tmp 14),(1,.tmp 15)] rfl [(0,.string t),(1,.agg clsA)] rfl (scanCells t) (built_scan t) ?_)
   | (refine wpList_alloc_agg rfl 172 rfl z257 257 Tryz.infoScan ?_)
   | (refine wpList_store_row rfl 172 _ _ rfl w1.heap.size (scanCells t) rfl rfl 172 z257 (heap_alloc_new _ _) (scan_info t) (z257_size.trans (scan_size t).symm) (scan_one t) ?_))
  have hsc2 : ScanAt ((w1.alloc (.cells z257 172)).setRow w1.heap.size (scanCells t)) w1.heap.size t := setRow_heap _ _ _ _ _ _ (heap_alloc_new _ _)
  have hb2 : Below w.heap.size w ((w1.alloc (.cells z257 172)).setRow w1.heap.size (scanCells t)) :=
   (hb1.alloc hb1.size _).trans ⟨rfl,rfl,rfl,by simp,fun k hk => setRow_other _ _ _ _ (by have := hb1.size; omega)⟩
  have hz2' : w1.heap.size + 1 ≤ ((w1.alloc (.cells z257 172)).setRow w1.heap.size (scanCells t)).heap.size := by simp
  have hz1' := hb1.size
  generalize ((w1.alloc (.cells z257 172)).setRow w1.heap.size (scanCells t)) = w2 at *
  generalize w1.heap.size = b at *
  clear hb1
  refine (gap_any b t 0 _ hsc2 (Nat.zero_le _) hs').mono ?_
  rintro e w3 ⟨rfl,hb3⟩
  have hsc3 := hid (hsc2.below hb3)
  have hb3' : Below w.heap.size w w3 := hb2.trans (hb3.mono (by omega))
  have hz3 := hb3.size
  clear hsc2 hb2 hb3
  go_wp2_with fail
  go_loopw [6,7] (fun v i wr => ∃ (acc : List (Nat × Lx.Tk)) (j k : Nat),k ≤ t.size ∧ i = .int .i64 k ∧ Hid (Lx.St t.data.toList acc j k) ∧ wr.ownsRow (b + 1) 126 4 v acc.length (tokCells acc) ∧ Below (b + 1) w3 wr) (fun _ i _ => t.size - (intOf i).toNat)
  case atStart => exact ⟨[],0,_,hg0,rfl,S0,World.ownsRow_nil _ _ _ _,Below.refl _ _⟩
  case round =>
   obtain ⟨acc,j,k,hk,rfl,HS,hown,hb⟩ := hrel
   have hsr : ScanAt wr b t := hsc3.out.belowB hb (by omega)
   have hbw : Below w.heap.size w wr := hb3'.trans (hb.mono (by omega))
   have hzr := hb.size
   by_cases hlt : k < t.size
   ·have hl' : k < t.data.toList.length := by omega
    cases hn : Lx.nextTok t[k] (t.data.toList.drop (k + 1)) with
    | error e =>
     have H1 := hid hn
     have he := nextTok_err_pos hn
     have he0 : ((e : Int) == 0) = false := by rw [Bool.eq_false_iff]; intro h; rw [beq_iff_eq] at h; omega
     have he' : ((e : Int) != 0) = true := by rw [bne_iff_ne]; omega
     have hpost := hid (lex_err (by omega) (HS.out.err hl' hn))
     have hsr' := hid hsr
     clear hn hown S0 hg0 hsr
     go_wp2_with (go_at_call 89; refine (next_err b t k e _ hsr'.out h20' hlt H1).mono ?_; rintro e w4 ⟨rfl,hb4⟩)
     go_ret3
     exact LexPost.nil hpost.out ((hbw.trans (hb4.mono hbw.size)).alloc (by have := hb4.size; have := hbw.size; omega) _)
    | ok tk =>
     have H1 := hid hn
     have hwd := Lx.next_width hn
     have hfew := HS.out.few
     have htl : tk.text.length + 2 ≤ maxLen := by
      have h1 : tk.text.length ≤ tk.width := by unfold Lx.Tk.width; split <;> omega
      have h2 := hwd.2
      simp at h2
      unfold maxLen
      omega
     have hsr' := hid hsr
     obtain ⟨a,cap,rfl⟩ := ownsRow_slice hown
     by_cases hc : acc.length = 5000
     ·have hpost := hid (lex_err (by omega) (HS.out.full hl' hn hc))
      have hc' : ((acc.length : Int) == 5000) = true := by rw [beq_iff_eq]; omega
      clear hn S0 hg0 hwd htl hsr hown hc
      go_wp2_with (go_at_call 89; refine (next_ok b t k tk _ hsr'.out h20' hlt H1).mono ?_; rintro e w4 ⟨rfl,hb4⟩)
      go_ret3
      exact LexPost.nil hpost.out ((hbw.trans (hb4.mono hbw.size)).alloc (by have := hb4.size; have := hbw.size; omega) _)
     ·have hstep := HS.out.next hl' hn hc
      have hc' : ((acc.length : Int) == 5000) = false := by rw [Bool.eq_false_iff]; intro h; rw [beq_iff_eq] at h; omega
      have hstep1 := hid hstep.1
      have hw0 := hstep.2.1
      have hwl := hstep.2.2
      have hg1 := Lx.gapTo_ge false t.data.toList (k + tk.width) hwl
      have hg2 := Lx.gapTo_le false t.data.toList (k + tk.width)
      have hwl' : k + tk.width ≤ t.size := by omega
      clear hstep hn S0 hg0 hwd HS hsr
      go_wp2_with (first
       | (go_at_call 89; refine (next_ok b t k tk _ hsr'.out h20' hlt H1).mono ?_; rintro e w4 ⟨rfl,hb4⟩; have hown1 := ownsRow_below hown hb4; have hbz := hb4.size)
       | (at_builtin; refine wpList_append_own _ rfl _ _ 122 rfl (b + 1) 126 i0 (.agg #[.int .i64 0,.int .i64 0,.int .i64 0,.string ⟨#[]⟩]) 4 40 Tryz.underlying122 hi hz0 hz1 hz2 rfl (by decide) _ _ _ rfl ((hown1.alloc _).alloc _) ⟨w4.heap.size + 1,0,none⟩ 1 1 [.int .i64 tk.kind,.int .i64 k,.int .i64 tk.n,.string (bs tk.text)] rfl rfl ?c1 ?c2 ?c3 ?c4 ?c5 ?_))
      case c1 => exact cells_new (by simp)
      case c2 => intro x hx; simp at hx; rcases hx with rfl | rfl | rfl | rfl <;> rfl
      case c3 => unfold maxLen; omega
      case c4 => omega
      case c5 => simp; omega
      intro v' w5 hown2 hgrow2 _
      have hb5 : Below (b + 1) w3 w5 := Below.appended (((hb.trans (hb4.mono (by omega))).alloc (by omega) _).alloc (by simp; omega) _) hgrow2 (by simp; omega) ((hown1.alloc _).alloc _)
      have hbz5 := hb5.size
      have hs5 := hid (hsc3.out.belowB hb5 (by omega))
      clear hown hown1 hgrow2 H1 hi hz0 hz1 hz2
      go_wp2_with (go_at_call 88; refine (gap_any b t _ _ hs5.out hwl' hs').mono ?_; rintro e w6 ⟨rfl,hb6⟩)
      go_roundw
      case rel => exact ⟨acc ++ [(k,tk)],k + tk.width,Lx.gapTo false t.data.toList (k + tk.width),by omega,rfl,hstep1,by rw [tokCells_snoc,List.length_append]; exact ownsRow_below hown2 hb6,hb5.trans (hb6.mono (by omega))⟩
      case measure => simp [intOf]; omega
   ·have hpost := hid (lex_ok (by omega) (HS.out.done (by omega)))
    go_wp2
    go_ret3
    exact LexPost.mk hpost.out (ownsRow_base hown (by omega)) hbw
end Go.Proofs.YtdghfenbfbdijaaGreatDoor
