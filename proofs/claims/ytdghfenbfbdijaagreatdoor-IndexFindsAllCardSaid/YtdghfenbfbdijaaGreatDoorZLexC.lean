/-
 What the scanner's 'next' returns: the token at an offset as the plain lexer has it, and the offset behind it. Conditions: the scanner lies in memory; the offset lies in the text; lengths within Go's own bound.
-/
import Derived.Test.YtdghfenbfbdijaaGreatDoorZMLexC
import Derived.Test.YtdghfenbfbdijaaGreatDoorZMLexA
namespace Go.Proofs.YtdghfenbfbdijaaGreatDoor
open Go.RowKit
def nextV (k : Nat) : Except Nat Lx.Tk → Value
 | .ok t => .tuple #[tokV k t,.int .i64 ((k : Int) + (t.width : Int)),.int .i64 0]
 | .error e => .tuple #[tok0,.int .i64 0,.int .i64 e]
theorem next_done {k : Nat} {w w' : World} {r x : Except Nat Lx.Tk} {v : Value} (h : r = x) (hv : v = nextV k x) (hb : Below w.heap.size w w') :
  Gives (nextV k r) w (.returned v) w' := by
 subst h; subst hv; exact ⟨rfl,hb⟩
theorem nextV_ok {k end_ kind n : Nat} {s : ByteArray} {l : List UInt8} (hs : s = bs l) (he : end_ = k + (Lx.Tk.mk kind n l).width) :
  Value.tuple #[.agg #[.int .i64 (kind : Int),.int .i64 k,.int .i64 (n : Int),.string s],.int .i64 (end_ : Int),.int .i64 0] = nextV k (.ok ⟨kind,n,l⟩) := by
 subst hs; subst he
 simp [nextV,tokV]
theorem post_cell_tmp2 {P : Program} {fn : Func} {R : Ending → World → Prop} {a : Act} {w : World} {p u s : Tmp} {ty : TypeId} (h : fn.results = #[.cell p ty,.tmp u,.tmp s])
  {v x y : Value} {ad : Addr} (hp : a.tmps.getD p undef = .pointer (some ad)) (hl : (loadVar ty ad).run P w = .ok v w) (hu : a.tmps.getD u undef = x) (hs : a.tmps.getD s undef = y) (hd : a.defers = [])
  (hR : R (.returned (.tuple #[v,x,y])) w) : bodyPost P fn R .ret a w := by
 refine bodyPost_ret (v := .tuple #[v,x,y]) ?_ hd hR
 simp only [results,h]
 have e : (asAddr (.pointer (some ad))).run P w = .ok ad w := rfl
 have hp' : a.tmps[p]?.getD undef = .pointer (some ad) := by simpa using hp
 simp [Sem.run_bind,hp',e,hl,Result.andThen,← hu,← hs]
theorem cls_letter {c : UInt8} (h : Lx.isLetter c = true) : cls c = 3 := by
 have := all_bytes (fun c => !Lx.isLetter c || cls c == 3) (by decide +kernel) c
 simpa [h] using this
theorem cls_digit {c : UInt8} (h : Lx.isDigit c = true) : cls c = 4 := by
 have := all_bytes (fun c => !Lx.isDigit c || cls c == 4) (by decide +kernel) c
 simpa [h] using this
theorem cls_word {c : UInt8} (h : Lx.isWord c = true) (hd : Lx.isDigit c = false) : cls c = 3 ∨ cls c = 5 := by
 have := all_bytes (fun c => !Lx.isWord c || Lx.isDigit c || cls c == 3 || cls c == 5) (by decide +kernel) c
 simpa [h,hd] using this
theorem cls_noword {c : UInt8} (h : Lx.isWord c = false) : ((cls c : Int) == 3) = false ∧ ((cls c : Int) == 5) = false := by
 have := all_bytes (fun c => Lx.isWord c || (!((cls c : Int) == 3) && !((cls c : Int) == 5))) (by decide +kernel) c
 simpa [h] using this
theorem ints_list {w : World} {n : Nat} (xs : List Int) (T : TypeId) (h : n = w.heap.size) : IntsAt (w.alloc (.cells (xs.map (Value.int .i64)).toArray T)) n xs := by
 intro i y hy
 rw [World.cell?_alloc_at _ _ _ _ h]
 simp [hy]
theorem ints_listD {w : World} {n : Nat} (xs : List Int) (T : TypeId) (h : n = w.heap.size) (q : Nat) : IntsAt ((w.alloc (.cells (xs.map (Value.int .i64)).toArray T)).drewN q) n xs := ints_list xs T h
theorem while_word (b : Nat) (t : ByteArray) (k : Nat) (g : Nat) (w : World) (h : ScanAt w b t) (hx : IntsAt w g [3,4,5]) (hk : k ≤ t.size) (hm : t.size ≤ maxLen) :
  Calls Tryz.prog 129 #[.pointer (some ⟨b,0,none⟩),.int .i64 k,.slice (some ⟨g,0,none⟩) 3 3] w (Draws (.int .i64 (Lx.run Lx.isWord t.data.toList k)) w) := by
 have := while_core b t k _ g 3 [3,4,5] w h hx hk hm (by decide) rfl
 rw [inCls_word] at this
 exact this
theorem while_digit (b : Nat) (t : ByteArray) (k : Nat) (g : Nat) (w : World) (h : ScanAt w b t) (hx : IntsAt w g [4]) (hk : k ≤ t.size) (hm : t.size ≤ maxLen) :
  Calls Tryz.prog 129 #[.pointer (some ⟨b,0,none⟩),.int .i64 k,.slice (some ⟨g,0,none⟩) 1 1] w (Draws (.int .i64 (Lx.run Lx.isDigit t.data.toList k)) w) := by
 have := while_core b t k _ g 1 [4] w h hx hk hm (by decide) rfl
 rw [inCls_digit] at this
 exact this
theorem ScanAt.alloc {w : World} {b : Nat} {t : ByteArray} (h : ScanAt w b t) (o : Obj) : ScanAt (w.alloc o) b t := h.below ((Below.refl _ _).alloc (Nat.le_refl _) _)
set_option maxRecDepth 100000 in
set_option maxHeartbeats 1600000 in
theorem next_letter (b : Nat) (t : ByteArray) (k : Nat) (w : World) (h : ScanAt w b t) (hk : k < t.size) (hm : t.size ≤ maxLen) (hc : Lx.isLetter t[k] = true) :
  Calls Tryz.prog 89 #[.pointer (some ⟨b,0,none⟩),.int .i64 k] w (Gives (nextV k (Lx.nextTok t[k] (t.data.toList.drop (k + 1)))) w) := by
 have hm' := hm
 unfold maxLen at hm
 have hS := hid h
 have hlt := h.lt
 have htx := h.text
 have hcl := cls_letter hc
 have hcl' : ((cls t[k] : Nat) : Int) = 3 := by rw [hcl]; rfl
 have hl : k < t.data.toList.length := by simpa using hk
 obtain ⟨E,hE⟩ : ∃ E,Hid (Lx.run Lx.isWord t.data.toList k = E) := ⟨_,rfl⟩
 have hE2 := hid ((Lx.run_step hl (Lx.word_of_letter hc)).trans hE.out)
 have hkE : k < E := by have := Lx.run_ge Lx.isWord t.data.toList (k + 1); rw [hE2.out] at this; omega
 have hEs : E ≤ t.size := by have := Lx.run_le Lx.isWord t.data.toList k (by omega); rw [hE.out] at this; simpa using this
 have hwh : Hid (∀ (w' : World) (g : Nat),ScanAt w' b t → IntsAt w' g [3,4,5] → Calls Tryz.prog 129 #[.pointer (some ⟨b,0,none⟩),.int .i64 (k : Int),.slice (some ⟨g,0,none⟩) 3 3] w' (Draws (.int .i64 E) w')) := fun w' g h1 h2 => by
  have := while_word b t k g w' h1 h2 (by omega) hm'
  rwa [hE.out] at this
 have hc' := hid hc
 clear h hc hcl
 go_enter Tryz.func89,Tryz.ntmps89
 go_wp2_with (first
  | (go_at_call 130; refine (at_in b t k _ (hS.out.alloc _) hk hm').mono ?_; rintro e w' ⟨rfl,q,rfl⟩)
  | (go_at_call 129; refine (hwh.out _ _ (((hS.out.alloc _).drewN q).alloc _) (ints_list [3,4,5] _ (by simp))).mono ?_; rintro e w' ⟨rfl,q',rfl⟩))
 ·refine post_cell_tmp2 rfl (v := tok0) (x := .int .i64 0) (y := .int .i64 2) rfl (by simp [go_sem,tok0]) rfl rfl rfl ?_
  exact next_done (Lx.next_letter_err hl hc'.out (by rw [hE2.out]; omega)) rfl (by repeat (first | exact Below.refl _ _ | refine Below.alloc ?_ (by first | exact Nat.le_refl _ | (simp; done) | (simp; omega) | omega) _ | refine below_drewN ?_ _ | refine Below.drew ?_ | assumption))
 ·refine post_cell_tmp2 rfl (v := .agg #[.int .i64 1,.int .i64 k,.int .i64 0,.string (t.extract k E)]) (x := .int .i64 E) (y := .int .i64 0) rfl (by simp [go_sem]) rfl rfl rfl ?_
  refine next_done (Lx.next_letter_ok hl hc'.out (by rw [hE2.out]; omega)) ?_ (by repeat (first | exact Below.refl _ _ | refine Below.alloc ?_ (by first | exact Nat.le_refl _ | (simp; done) | (simp; omega) | omega) _ | refine below_drewN ?_ _ | refine Below.drew ?_ | assumption))
  rw [hE2.out]
  exact nextV_ok (by rw [extract_bs]) (by simp [Lx.Tk.width]; omega)
def clsAt (t : ByteArray) (j : Nat) : Int := if h : j < t.size then (cls t[j] : Int) else 0
theorem clsAt_in {t : ByteArray} {j : Nat} (h : j < t.size) : clsAt t j = (cls t[j] : Int) := by unfold clsAt; rw [dif_pos h]
theorem at_any (b : Nat) (t : ByteArray) (j : Nat) (w : World) (h : ScanAt w b t) (hj : j ≤ t.size) (hm : t.size ≤ maxLen) :
  Calls Tryz.prog 130 #[.pointer (some ⟨b,0,none⟩),.int .i64 j] w (Draws (.int .i64 (clsAt t j)) w) := by
 unfold clsAt
 split
 ·rename_i hlt; exact at_in b t j w h hlt hm
 ·rename_i hlt; exact at_out b t j w h (by omega) (by unfold maxLen at *; omega)
set_option maxRecDepth 100000 in
set_option maxHeartbeats 1600000 in
theorem next_digit_bad (b : Nat) (t : ByteArray) (k E : Nat) (w : World) (h : ScanAt w b t) (hk : k < t.size) (hm : t.size ≤ maxLen) (hc : Lx.isDigit t[k] = true)
  (hE : Hid (Lx.run Lx.isDigit t.data.toList k = E)) (hbad : Hid (13 < E - k ∨ (clsAt t E = 3 ∨ clsAt t E = 5))) (hbad2 : Hid (13 < E - k ∨ ∃ hh : E < t.size,Lx.isWord t[E] = true)) :
  Calls Tryz.prog 89 #[.pointer (some ⟨b,0,none⟩),.int .i64 k] w (Gives (nextV k (Lx.nextTok t[k] (t.data.toList.drop (k + 1)))) w) := by
 have hm' := hm
 unfold maxLen at hm
 have hS := hid h
 have hlt := h.lt
 have htx := h.text
 have hcl : clsAt t k = 4 := by rw [clsAt_in hk,cls_digit hc]; rfl
 have hl : k < t.data.toList.length := by simpa using hk
 have hE2 := hid ((Lx.run_step hl hc).trans hE.out)
 have hkE : k < E := by have := Lx.run_ge Lx.isDigit t.data.toList (k + 1); rw [hE2.out] at this; omega
 have hEs : E ≤ t.size := by have := Lx.run_le Lx.isDigit t.data.toList k (by omega); rw [hE.out] at this; simpa using this
 have hwh : Hid (∀ (w' : World) (g : Nat),ScanAt w' b t → IntsAt w' g [4] → Calls Tryz.prog 129 #[.pointer (some ⟨b,0,none⟩),.int .i64 (k : Int),.slice (some ⟨g,0,none⟩) 1 1] w' (Draws (.int .i64 E) w')) := fun w' g h1 h2 => by
  have := while_digit b t k g w' h1 h2 (by omega) hm'
  rwa [hE.out] at this
 have hfin := hid (Lx.next_digit_err hl hc (by rw [hE2.out]; rcases hbad2.out with h | ⟨hh,h⟩; exact .inl h; exact .inr ⟨by simpa using hh,h⟩))
 clear h hc
 by_cases hlong : 13 < E - k
 ·have hlong' : (13 : Int) < (E : Int) - (k : Int) := by omega
  go_enter Tryz.func89,Tryz.ntmps89
  go_wp2_with (first
   | (go_at_call 130; refine (at_any b t _ _ (by repeat (first | exact hS.out | refine ScanAt.alloc ?_ _ | refine ScanAt.drewN ?_ _)) (by omega) hm').mono ?_; rintro e w' ⟨rfl,q,rfl⟩)
   | (go_at_call 129; refine (hwh.out _ _ (by repeat (first | exact hS.out | refine ScanAt.alloc ?_ _ | refine ScanAt.drewN ?_ _)) (by first | exact ints_listD [4] _ (by simp) _ | exact ints_list [4] _ (by simp))).mono ?_; rintro e w' ⟨rfl,q',rfl⟩))
  refine post_cell_tmp2 rfl (v := tok0) (x := .int .i64 0) (y := .int .i64 4) rfl (by simp [go_sem,tok0]) rfl rfl rfl ?_
  exact next_done hfin.out rfl (by repeat (first | exact Below.refl _ _ | refine Below.alloc ?_ (by first | exact Nat.le_refl _ | (simp; done) | (simp; omega) | omega) _ | refine below_drewN ?_ _ | refine Below.drew ?_ | assumption))
 ·have hlong' : (E : Int) - (k : Int) ≤ 13 := by omega
  rcases hbad.out.resolve_left hlong with h3 | h3
  all_goals
   go_enter Tryz.func89,Tryz.ntmps89
   go_wp2_with (first
    | (go_at_call 130; refine (at_any b t _ _ (by repeat (first | exact hS.out | refine ScanAt.alloc ?_ _ | refine ScanAt.drewN ?_ _)) (by omega) hm').mono ?_; rintro e w' ⟨rfl,q,rfl⟩)
    | (go_at_call 129; refine (hwh.out _ _ (by repeat (first | exact hS.out | refine ScanAt.alloc ?_ _ | refine ScanAt.drewN ?_ _)) (by first | exact ints_listD [4] _ (by simp) _ | exact ints_list [4] _ (by simp))).mono ?_; rintro e w' ⟨rfl,q',rfl⟩))
   refine post_cell_tmp2 rfl (v := tok0) (x := .int .i64 0) (y := .int .i64 4) rfl (by simp [go_sem,tok0]) rfl rfl rfl ?_
   exact next_done hfin.out rfl (by repeat (first | exact Below.refl _ _ | refine Below.alloc ?_ (by first | exact Nat.le_refl _ | (simp; done) | (simp; omega) | omega) _ | refine below_drewN ?_ _ | refine Below.drew ?_ | assumption))
theorem extract_size {t : ByteArray} {a b : Nat} (h : b ≤ t.size) : (t.extract a b).size = b - a := by
 rw [ByteArray.size_extract]; omega
set_option maxRecDepth 100000 in
set_option maxHeartbeats 1600000 in
theorem next_digit_good (b : Nat) (t : ByteArray) (k E : Nat) (w : World) (h : ScanAt w b t) (hk : k < t.size) (hm : t.size ≤ maxLen) (hc : Lx.isDigit t[k] = true)
  (hE : Hid (Lx.run Lx.isDigit t.data.toList k = E)) (h13 : E - k ≤ 13) (h3 : ((clsAt t E) == 3) = false) (h5 : ((clsAt t E) == 5) = false) (hgood : Hid (∀ hh : E < t.size,Lx.isWord t[E] = false)) :
  Calls Tryz.prog 89 #[.pointer (some ⟨b,0,none⟩),.int .i64 k] w (Gives (nextV k (Lx.nextTok t[k] (t.data.toList.drop (k + 1)))) w) := by
 have hm' := hm
 unfold maxLen at hm
 have hS := hid h
 have hlt := h.lt
 have htx := h.text
 have hcl : clsAt t k = 4 := by rw [clsAt_in hk,cls_digit hc]; rfl
 have hl : k < t.data.toList.length := by simpa using hk
 have hE2 := hid ((Lx.run_step hl hc).trans hE.out)
 have hkE : k < E := by have := Lx.run_ge Lx.isDigit t.data.toList (k + 1); rw [hE2.out] at this; omega
 have hEs : E ≤ t.size := by have := Lx.run_le Lx.isDigit t.data.toList k (by omega); rw [hE.out] at this; simpa using this
 have hwh : Hid (∀ (w' : World) (g : Nat),ScanAt w' b t → IntsAt w' g [4] → Calls Tryz.prog 129 #[.pointer (some ⟨b,0,none⟩),.int .i64 (k : Int),.slice (some ⟨g,0,none⟩) 1 1] w' (Draws (.int .i64 E) w')) := fun w' g h1 h2 => by
  have := while_digit b t k g w' h1 h2 (by omega) hm'
  rwa [hE.out] at this
 have hfin := hid (Lx.next_digit_ok hl hc (by rw [hE2.out]; exact h13) (fun hh => by simp only [hE2.out] at hh ⊢; exact hgood.out (by simpa using hh)))
 have hex : Hid ((t.extract k E).data.toList = (t.data.toList.drop k).take (E - k)) := extract_list t k E
 have hat : Hid (∀ w',Calls Tryz.prog 132 #[.string (t.extract k E)] w' (Gives (.tuple #[.int .i64 (Lx.value ((t.data.toList.drop k).take (E - k)) : Nat),.nilIface]) w')) := fun w' => by
  have := atoi_any (t.extract k E) w' (by
   rw [hex.out,← hE.out,Lx.run_take]
   exact Lx.all_takeWhile _ _) (by rw [extract_size hEs]; omega) (by rw [extract_size hEs]; exact h13)
  rwa [hex.out] at this
 generalize hV : Lx.value ((t.data.toList.drop k).take (E - k)) = V at *
 have hV' := hid hV
 have hlong' : (E : Int) - (k : Int) ≤ 13 := by omega
 clear h hc hV
 go_enter Tryz.func89,Tryz.ntmps89
 go_wp2_with (first
  | (go_at_call 130; refine (at_any b t _ _ (by repeat (first | exact hS.out | refine ScanAt.alloc ?_ _ | refine ScanAt.drewN ?_ _)) (by omega) hm').mono ?_; rintro e w' ⟨rfl,q,rfl⟩)
  | (go_at_call 129; refine (hwh.out _ _ (by repeat (first | exact hS.out | refine ScanAt.alloc ?_ _ | refine ScanAt.drewN ?_ _)) (by first | exact ints_listD [4] _ (by simp) _ | exact ints_list [4] _ (by simp))).mono ?_; rintro e w' ⟨rfl,q',rfl⟩))
 refine (hat.out _).mono ?_
 rintro e w1 ⟨rfl,hb1⟩
 have hz1 := hb1.size
 have hbw : Below w.heap.size w w1 := Below.trans (by repeat (first | exact Below.refl _ _ | refine Below.alloc ?_ (by first | exact Nat.le_refl _ | (simp; done) | (simp; omega) | omega) _ | refine below_drewN ?_ _ | refine Below.drew ?_ | assumption)) (hb1.mono (by simp; omega))
 simp at hz1
 have hsc1 : ScanAt w1 b t := ScanAt.below (by repeat (first | exact hS.out | refine ScanAt.alloc ?_ _ | refine ScanAt.drewN ?_ _)) hb1
 have htx1 := hsc1.text
 clear hsc1
 have hblk : w1.heap[w.heap.size]? = some (.cells #[.int .i64 0,.int .i64 0,.int .i64 0,.string ⟨#[]⟩] 126 (0,0)) := by
  rw [hb1.block w.heap.size (by simp; omega)]
  exact (Below.heap_alloc _ _ _ (by simp)).trans (heap_alloc_new _ _)
 have d0 := cell_of_row w1 w.heap.size 0 _ _ _ hblk
 have d1 := cell_of_row w1 w.heap.size 1 _ _ _ hblk
 have d2 := cell_of_row w1 w.heap.size 2 _ _ _ hblk
 have d3 := cell_of_row w1 w.heap.size 3 _ _ _ hblk
 simp only [List.size_toArray,List.length_cons,List.length_nil,Nat.zero_add,Nat.reduceAdd,Nat.reduceLT,getElem?_pos,List.getElem_toArray,List.getElem_cons_zero,List.getElem_cons_succ] at d0 d1 d2 d3
 have f0 := frozen_of_row w1 w.heap.size 0 _ _ hblk
 have f1 := frozen_of_row w1 w.heap.size 1 _ _ hblk
 have f2 := frozen_of_row w1 w.heap.size 2 _ _ hblk
 have f3 := frozen_of_row w1 w.heap.size 3 _ _ hblk
 clear hblk
 go_wp2
 refine post_cell_tmp2 rfl (v := .agg #[.int .i64 2,.int .i64 k,.int .i64 V,.string (t.extract k E)]) (x := .int .i64 E) (y := .int .i64 0) rfl (by simp [go_sem,d0,d1,d2,d3]) rfl rfl rfl ?_
 refine next_done hfin.out ?_ ?_
 ·rw [hE2.out,hV'.out]
  exact nextV_ok (by rw [extract_bs]) (by simp [Lx.Tk.width]; omega)
 ·exact (((hbw.setCell (Nat.le_refl _) _).setCell (Nat.le_refl _) _).setCell (Nat.le_refl _) _).setCell (Nat.le_refl _) _
theorem next_digit (b : Nat) (t : ByteArray) (k : Nat) (w : World) (h : ScanAt w b t) (hk : k < t.size) (hm : t.size ≤ maxLen) (hc : Lx.isDigit t[k] = true) :
  Calls Tryz.prog 89 #[.pointer (some ⟨b,0,none⟩),.int .i64 k] w (Gives (nextV k (Lx.nextTok t[k] (t.data.toList.drop (k + 1)))) w) := by
 obtain ⟨E,hE⟩ : ∃ E,Lx.run Lx.isDigit t.data.toList k = E := ⟨_,rfl⟩
 have hstop : ∀ hh : E < t.size,Lx.isDigit t[E] = false := fun hh => by
  have := run_stops Lx.isDigit t.data.toList k (by rw [hE]; simpa using hh)
  simp only [hE] at this
  exact this
 by_cases hlong : 13 < E - k
 ·exact next_digit_bad b t k E w h hk hm hc hE (.inl hlong) (.inl hlong)
 ·by_cases hw : ∃ hh : E < t.size,Lx.isWord t[E] = true
  ·obtain ⟨hh,hw⟩ := hw
   refine next_digit_bad b t k E w h hk hm hc hE (.inr ?_) (.inr ⟨hh,hw⟩)
   rw [clsAt_in hh]
   have := cls_word hw (hstop hh)
   omega
  ·have hg : ∀ hh : E < t.size,Lx.isWord t[E] = false := fun hh => Bool.eq_false_iff.2 fun h => hw ⟨hh,h⟩
   have h35 : (clsAt t E == 3) = false ∧ (clsAt t E == 5) = false := by
    unfold clsAt
    split
    ·rename_i hh; exact cls_noword (hg hh)
    ·exact ⟨rfl,rfl⟩
   exact next_digit_good b t k E w h hk hm hc hE (by omega) h35.1 h35.2 hg
theorem cls_quote : cls 34 = 6 := by decide
theorem indexEnd_run (l : List UInt8) (k : Nat) (hk : k ≤ l.length) :
  (Lx.run Lx.inBody l k = l.length ∧ indexEnd (l.drop k) = -1) ∨ (Lx.run Lx.inBody l k < l.length ∧ indexEnd (l.drop k) = ((Lx.run Lx.inBody l k - k : Nat) : Int)) := by
 generalize hn : l.length - k = n
 induction n generalizing k with
 | zero =>
  left
  have : l.drop k = [] := List.drop_eq_nil_of_le (by omega)
  refine ⟨?_,by rw [this]; try rfl⟩
  rw [Lx.run_stop (fun hh => by omega)]
  omega
 | succ n ih =>
  have hlt : k < l.length := by omega
  rw [Lx.drop_cons hlt]
  simp only [indexEnd]
  by_cases hb : Lx.inBody l[k] = true
  ·have hge := Lx.run_ge Lx.inBody l (k + 1)
   rw [if_neg (by simp [hb]),← Lx.run_step hlt hb]
   rcases ih (k + 1) (by omega) (by omega) with ⟨h1,h2⟩ | ⟨h1,h2⟩
   ·left; rw [h2]; exact ⟨h1,rfl⟩
   ·right
    rw [h2,if_neg (by simp <;> omega)]
    exact ⟨h1,by omega⟩
  ·right
   have hb' : Lx.inBody l[k] = false := Bool.eq_false_iff.2 hb
   rw [if_pos hb',Lx.run_stop (fun _ => hb')]
   exact ⟨hlt,by simp⟩
set_option maxRecDepth 100000 in
set_option maxHeartbeats 1600000 in
theorem next_quote (b : Nat) (t : ByteArray) (k : Nat) (w : World) (h : ScanAt w b t) (hk : k < t.size) (hm : t.size ≤ 20000) (hc : t[k] = 34) :
  Calls Tryz.prog 89 #[.pointer (some ⟨b,0,none⟩),.int .i64 k] w (Gives (nextV k (Lx.nextTok t[k] (t.data.toList.drop (k + 1)))) w) := by
 have hm' : t.size ≤ maxLen := by unfold maxLen; omega
 have hS := hid h
 have hlt := h.lt
 have htx := h.text
 have hcl : clsAt t k = 6 := by rw [clsAt_in hk,hc,cls_quote]; rfl
 have hl : k < t.data.toList.length := by simpa using hk
 have hc' := hid hc
 have hex : (t.extract (k + 1) t.size).data.toList = t.data.toList.drop (k + 1) := by rw [extract_list,List.take_of_length_le (by simp)]
 have hxs : (t.extract (k + 1) t.size).size = t.size - (k + 1) := extract_size (Nat.le_refl _)
 rcases indexEnd_run t.data.toList (k + 1) (by omega) with ⟨h1,h2⟩ | ⟨h1,h2⟩
 ·have hin : Hid (∀ w',Calls Tryz.prog 133 #[.string (t.extract (k + 1) t.size),.string ⟨#[34,10]⟩] w' (Gives (.int .i64 (-1)) w')) := fun w' => by
   have := indexAny_any (t.extract (k + 1) t.size) w' (by omega)
   rwa [hex,h2] at this
  have hfin := hid (Lx.next_quote_open hl hc (fun hh => by omega))
  clear h hc h1 h2 hex hxs
  go_enter Tryz.func89,Tryz.ntmps89
  go_wp2_with (first
   | (go_at_call 130; refine (at_any b t _ _ (by repeat (first | exact hS.out | refine ScanAt.alloc ?_ _ | refine ScanAt.drewN ?_ _)) (by omega) hm').mono ?_; rintro e w' ⟨rfl,q,rfl⟩))
  refine (hin.out _).mono ?_
  rintro e w1 ⟨rfl,hb1⟩
  have hz1 := hb1.size
  have hbw : Below w.heap.size w w1 := Below.trans (by repeat (first | exact Below.refl _ _ | refine Below.alloc ?_ (by first | exact Nat.le_refl _ | (simp; done) | (simp; omega) | omega) _ | refine below_drewN ?_ _ | refine Below.drew ?_ | assumption)) (hb1.mono (by simp))
  simp at hz1
  have hsc1 : ScanAt w1 b t := ScanAt.below (by repeat (first | exact hS.out | refine ScanAt.alloc ?_ _ | refine ScanAt.drewN ?_ _)) hb1
  have htx1 := hsc1.text
  clear hsc1
  have hblk : w1.heap[w.heap.size]? = some (.cells #[.int .i64 0,.int .i64 0,.int .i64 0,.string ⟨#[]⟩] 126 (0,0)) := by
   rw [hb1.block w.heap.size (by simp)]
   exact heap_alloc_new _ _
  have d0 := cell_of_row w1 w.heap.size 0 _ _ _ hblk
  have d1 := cell_of_row w1 w.heap.size 1 _ _ _ hblk
  have d2 := cell_of_row w1 w.heap.size 2 _ _ _ hblk
  have d3 := cell_of_row w1 w.heap.size 3 _ _ _ hblk
  simp only [List.size_toArray,List.length_cons,List.length_nil,Nat.zero_add,Nat.reduceAdd,Nat.reduceLT,getElem?_pos,List.getElem_toArray,List.getElem_cons_zero,List.getElem_cons_succ] at d0 d1 d2 d3
  have f0 := frozen_of_row w1 w.heap.size 0 _ _ hblk
  have f1 := frozen_of_row w1 w.heap.size 1 _ _ hblk
  have f2 := frozen_of_row w1 w.heap.size 2 _ _ hblk
  have f3 := frozen_of_row w1 w.heap.size 3 _ _ hblk
  clear hblk
  go_wp2
  refine post_cell_tmp2 rfl (v := tok0) (x := .int .i64 0) (y := .int .i64 6) rfl (by simp [go_sem,tok0,d0,d1,d2,d3]) rfl rfl rfl ?_
  exact next_done hfin.out rfl ((((hbw.setCell (Nat.le_refl _) _).setCell (Nat.le_refl _) _).setCell (Nat.le_refl _) _).setCell (Nat.le_refl _) _)
 ·obtain ⟨m,hm0⟩ : ∃ m,Lx.run Lx.inBody t.data.toList (k + 1) - (k + 1) = m := ⟨_,rfl⟩
  have hge := Lx.run_ge Lx.inBody t.data.toList (k + 1)
  have hR : Lx.run Lx.inBody t.data.toList (k + 1) = k + 1 + m := by omega
  rw [hR] at h1
  have hmk : k + 1 + m < t.size := by simpa using h1
  have hb := run_stops Lx.inBody t.data.toList (k + 1) (by rw [hR]; exact h1)
  simp only [hR] at hb
  have hb' : Lx.inBody t[k + 1 + m] = false := hb
  have hby : t[k + 1 + m] = 34 ∨ t[k + 1 + m] = 10 := by
   simp [Lx.inBody] at hb'
   by_cases hh : t[k + 1 + m] = 34
   ·exact .inl hh
   ·exact .inr (hb' hh)
  have hin : Hid (∀ w',Calls Tryz.prog 133 #[.string (t.extract (k + 1) t.size),.string ⟨#[34,10]⟩] w' (Gives (.int .i64 (m : Int)) w')) := fun w' => by
   have := indexAny_any (t.extract (k + 1) t.size) w' (by omega)
   rw [hex,h2,hm0] at this
   exact this
  have hmx : m < (t.extract (k + 1) t.size).size := by omega
  have hgx : (t.extract (k + 1) t.size)[m] = t[k + 1 + m] := ByteArray.getElem_extract hmx
  rcases hby with hq | hq
  ·have hx1 : (((t.extract (k + 1) t.size)[m].toNat : Int) == 10) = false := u8_ne (d := 10) (by rw [hgx,hq]; decide)
   have hx2 : ((t[k + 1 + m].toNat : Int) == 10) = false := u8_ne (d := 10) (by rw [hq]; decide)
   have hne : t.data.toList[k + 1 + m]'h1 ≠ 10 := by show t[k + 1 + m] ≠ 10; rw [hq]; decide
   have hR' := hid hR
   have hex' := hid hex
   by_cases hlong : 400 < m
   ·have hfin := hid (Lx.next_quote_long hl hc (by rw [hR]; exact h1) (by simp only [hR]; exact hne) (by omega))
    clear h hc h1 h2 hex hgx hb hb' hq hR hne hm0 hge
    go_enter Tryz.func89,Tryz.ntmps89
    go_wp2_with (first
     | (go_at_call 130; refine (at_any b t _ _ (by repeat (first | exact hS.out | refine ScanAt.alloc ?_ _ | refine ScanAt.drewN ?_ _)) (by omega) hm').mono ?_; rintro e w' ⟨rfl,q,rfl⟩))
    refine (hin.out _).mono ?_
    rintro e w1 ⟨rfl,hb1⟩
    have hz1 := hb1.size
    have hbw : Below w.heap.size w w1 := Below.trans (by repeat (first | exact Below.refl _ _ | refine Below.alloc ?_ (by first | exact Nat.le_refl _ | (simp; done) | (simp; omega) | omega) _ | refine below_drewN ?_ _ | refine Below.drew ?_ | assumption)) (hb1.mono (by simp))
    simp at hz1
    have hsc1 : ScanAt w1 b t := ScanAt.below (by repeat (first | exact hS.out | refine ScanAt.alloc ?_ _ | refine ScanAt.drewN ?_ _)) hb1
    have htx1 := hsc1.text
    clear hsc1
    have hblk : w1.heap[w.heap.size]? = some (.cells #[.int .i64 0,.int .i64 0,.int .i64 0,.string ⟨#[]⟩] 126 (0,0)) := by
     rw [hb1.block w.heap.size (by simp)]
     exact heap_alloc_new _ _
    have d0 := cell_of_row w1 w.heap.size 0 _ _ _ hblk
    have d1 := cell_of_row w1 w.heap.size 1 _ _ _ hblk
    have d2 := cell_of_row w1 w.heap.size 2 _ _ _ hblk
    have d3 := cell_of_row w1 w.heap.size 3 _ _ _ hblk
    simp only [List.size_toArray,List.length_cons,List.length_nil,Nat.zero_add,Nat.reduceAdd,Nat.reduceLT,getElem?_pos,List.getElem_toArray,List.getElem_cons_zero,List.getElem_cons_succ] at d0 d1 d2 d3
    have f0 := frozen_of_row w1 w.heap.size 0 _ _ hblk
    have f1 := frozen_of_row w1 w.heap.size 1 _ _ hblk
    have f2 := frozen_of_row w1 w.heap.size 2 _ _ hblk
    have f3 := frozen_of_row w1 w.heap.size 3 _ _ hblk
    clear hblk
    go_wp2
    refine post_cell_tmp2 rfl (v := tok0) (x := .int .i64 0) (y := .int .i64 2) rfl (by simp [go_sem,tok0,d0,d1,d2,d3]) rfl rfl rfl ?_
    exact next_done hfin.out rfl ((((hbw.setCell (Nat.le_refl _) _).setCell (Nat.le_refl _) _).setCell (Nat.le_refl _) _).setCell (Nat.le_refl _) _)
   ·have hfin := hid (Lx.next_quote_ok hl hc (by rw [hR]; exact h1) (by simp only [hR]; exact hne) (by omega))
    clear h hc h1 h2 hex hgx hb hb' hq hR hne hm0 hge
    go_enter Tryz.func89,Tryz.ntmps89
    go_wp2_with (first
     | (go_at_call 130; refine (at_any b t _ _ (by repeat (first | exact hS.out | refine ScanAt.alloc ?_ _ | refine ScanAt.drewN ?_ _)) (by omega) hm').mono ?_; rintro e w' ⟨rfl,q,rfl⟩))
    refine (hin.out _).mono ?_
    rintro e w1 ⟨rfl,hb1⟩
    have hz1 := hb1.size
    have hbw : Below w.heap.size w w1 := Below.trans (by repeat (first | exact Below.refl _ _ | refine Below.alloc ?_ (by first | exact Nat.le_refl _ | (simp; done) | (simp; omega) | omega) _ | refine below_drewN ?_ _ | refine Below.drew ?_ | assumption)) (hb1.mono (by simp))
    simp at hz1
    have hsc1 : ScanAt w1 b t := ScanAt.below (by repeat (first | exact hS.out | refine ScanAt.alloc ?_ _ | refine ScanAt.drewN ?_ _)) hb1
    have htx1 := hsc1.text
    clear hsc1
    have hblk : w1.heap[w.heap.size]? = some (.cells #[.int .i64 0,.int .i64 0,.int .i64 0,.string ⟨#[]⟩] 126 (0,0)) := by
     rw [hb1.block w.heap.size (by simp)]
     exact heap_alloc_new _ _
    have d0 := cell_of_row w1 w.heap.size 0 _ _ _ hblk
    have d1 := cell_of_row w1 w.heap.size 1 _ _ _ hblk
    have d2 := cell_of_row w1 w.heap.size 2 _ _ _ hblk
    have d3 := cell_of_row w1 w.heap.size 3 _ _ _ hblk
    simp only [List.size_toArray,List.length_cons,List.length_nil,Nat.zero_add,Nat.reduceAdd,Nat.reduceLT,getElem?_pos,List.getElem_toArray,List.getElem_cons_zero,List.getElem_cons_succ] at d0 d1 d2 d3
    have f0 := frozen_of_row w1 w.heap.size 0 _ _ hblk
    have f1 := frozen_of_row w1 w.heap.size 1 _ _ hblk
    have f2 := frozen_of_row w1 w.heap.size 2 _ _ hblk
    have f3 := frozen_of_row w1 w.heap.size 3 _ _ hblk
    clear hblk
    go_wp2
    refine post_cell_tmp2 rfl (v := .agg #[.int .i64 3,.int .i64 k,.int .i64 0,.string ((t.extract (k + 1) t.size).extract 0 m)]) (x := .int .i64 ((k : Int) + m + 2)) (y := .int .i64 0) rfl (by simp [go_sem,d0,d1,d2,d3]) rfl rfl rfl ?_
    refine next_done hfin.out ?_ ((((hbw.setCell (Nat.le_refl _) _).setCell (Nat.le_refl _) _).setCell (Nat.le_refl _) _).setCell (Nat.le_refl _) _)
    rw [hR'.out,Nat.add_sub_cancel_left]
    exact nextV_ok (end_ := k + m + 2) (by rw [extract_bs,hex'.out,List.drop_zero,Nat.sub_zero]) (by simp [Lx.Tk.width]; omega)
  ·have hx1 : (((t.extract (k + 1) t.size)[m].toNat : Int) == 10) = true := u8_eq (d := 10) (by rw [hgx,hq])
   have hx2 : ((t[k + 1 + m].toNat : Int) == 10) = true := u8_eq (d := 10) hq
   have hfin := hid (Lx.next_quote_open hl hc (fun hh => by simp only [hR]; exact hq))
   clear h hc h1 h2 hex hgx hb hb' hq hR hm0 hge
   go_enter Tryz.func89,Tryz.ntmps89
   go_wp2_with (first
    | (go_at_call 130; refine (at_any b t _ _ (by repeat (first | exact hS.out | refine ScanAt.alloc ?_ _ | refine ScanAt.drewN ?_ _)) (by omega) hm').mono ?_; rintro e w' ⟨rfl,q,rfl⟩))
   refine (hin.out _).mono ?_
   rintro e w1 ⟨rfl,hb1⟩
   have hz1 := hb1.size
   have hbw : Below w.heap.size w w1 := Below.trans (by repeat (first | exact Below.refl _ _ | refine Below.alloc ?_ (by first | exact Nat.le_refl _ | (simp; done) | (simp; omega) | omega) _ | refine below_drewN ?_ _ | refine Below.drew ?_ | assumption)) (hb1.mono (by simp))
   simp at hz1
   have hsc1 : ScanAt w1 b t := ScanAt.below (by repeat (first | exact hS.out | refine ScanAt.alloc ?_ _ | refine ScanAt.drewN ?_ _)) hb1
   have htx1 := hsc1.text
   clear hsc1
   have hblk : w1.heap[w.heap.size]? = some (.cells #[.int .i64 0,.int .i64 0,.int .i64 0,.string ⟨#[]⟩] 126 (0,0)) := by
    rw [hb1.block w.heap.size (by simp)]
    exact heap_alloc_new _ _
   have d0 := cell_of_row w1 w.heap.size 0 _ _ _ hblk
   have d1 := cell_of_row w1 w.heap.size 1 _ _ _ hblk
   have d2 := cell_of_row w1 w.heap.size 2 _ _ _ hblk
   have d3 := cell_of_row w1 w.heap.size 3 _ _ _ hblk
   simp only [List.size_toArray,List.length_cons,List.length_nil,Nat.zero_add,Nat.reduceAdd,Nat.reduceLT,getElem?_pos,List.getElem_toArray,List.getElem_cons_zero,List.getElem_cons_succ] at d0 d1 d2 d3
   have f0 := frozen_of_row w1 w.heap.size 0 _ _ hblk
   have f1 := frozen_of_row w1 w.heap.size 1 _ _ hblk
   have f2 := frozen_of_row w1 w.heap.size 2 _ _ hblk
   have f3 := frozen_of_row w1 w.heap.size 3 _ _ hblk
   clear hblk
   go_wp2
   refine post_cell_tmp2 rfl (v := tok0) (x := .int .i64 0) (y := .int .i64 6) rfl (by simp [go_sem,tok0,d0,d1,d2,d3]) rfl rfl rfl ?_
   exact next_done hfin.out rfl ((((hbw.setCell (Nat.le_refl _) _).setCell (Nat.le_refl _) _).setCell (Nat.le_refl _) _).setCell (Nat.le_refl _) _)
end Go.Proofs.YtdghfenbfbdijaaGreatDoor
