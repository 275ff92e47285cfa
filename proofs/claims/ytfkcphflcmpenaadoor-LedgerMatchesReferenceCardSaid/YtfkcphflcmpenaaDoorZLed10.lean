/-
  The law file's head: the chapter's examples: it returns true. Conditions: none.
-/
import Derived.Test.YtfkcphflcmpenaaDoorZLed9
import Derived.Test.YtfkcphflcmpenaaDoorZLed8
namespace Go.Proofs.YtfkcphflcmpenaaDoor
open Go.RowKit Go.Lib Go.Maps

/-- a ledger of the call's own -/
def HeadW (w0 w : World) (p : Nat) (S : Lg.S) : Prop := ∃ O, Led w p S O ∧ Below w0.heap.size w0 w ∧ ∀ k, O k → w0.heap.size ≤ k

theorem HeadW.below {w0 w w' : World} {p : Nat} {S : Lg.S} (h : HeadW w0 w p S) (hb : Below w.heap.size w w') : HeadW w0 w' p S := by
  obtain ⟨O, h1, h2, h3⟩ := h
  exact ⟨O, h1.below hb, h2.trans (hb.mono h2.size), h3⟩

def HeadP (w0 : World) (p : Nat) (S : Lg.S) (v : Value) (e : Ending) (w' : World) : Prop := e = .returned v ∧ HeadW w0 w' p S

theorem lpost_head {w0 w : World} {p : Nat} {S' : Lg.S} {O : Nat → Prop} {v : Value} {e : Ending} {w' : World} (h : LPost p O w v S' e w') (h2 : Below w0.heap.size w0 w) (h3 : ∀ k, O k → w0.heap.size ≤ k) : HeadP w0 p S' v e w' := by
  obtain ⟨rfl, O', a1, a2, a3⟩ := h
  refine ⟨rfl, O', a1, h2.trans (a2.below h2.size h3), fun k hk => ?_⟩
  rcases a3 k hk with h | h
  · exact h3 k h
  · exact Nat.le_trans h2.size h

theorem open_head {w0 w : World} {p : Nat} {S S' : Lg.S} {a : ByteArray} {c : Bool} {r : Int} (h : HeadW w0 w p S) (e : Lg.open_ S a c = (r, S')) (ha : a.size ≤ 5000) (hf : S.names.length < 100) :
    Calls Tryd.prog 13 #[.pointer (some ⟨p, 0, none⟩), .string a, .bool c] w (HeadP w0 p S' (.int .i64 r)) := by
  obtain ⟨O, h1, h2, h3⟩ := h
  have := open_any w p S O a c h1 ha hf
  rw [e] at this
  exact this.mono fun e w' hp => lpost_head hp h2 h3

theorem book_head {w0 w : World} {p : Nat} {S S' : Lg.S} {b : Lg.Bk} {a : Option Addr} {n c : Nat} {r : Int} (h : HeadW w0 w p S) (hv : SlOf w (.slice a n c) 2 postC b.posts) (e : Lg.code S b = r) (e2 : Lg.book S b = S') (hi : b.id.size ≤ 5000) (hp : ∀ q ∈ b.posts, q.1.size ≤ 5000) (hf : S.books.length < 1000) :
    Calls Tryd.prog 15 #[.pointer (some ⟨p, 0, none⟩), .agg #[.string b.id, .int .i64 b.at_, .slice a n c]] w (HeadP w0 p S' (.int .i64 r)) := by
  obtain ⟨O, h1, h2, h3⟩ := h
  have := book_any w p S O b (.slice a n c) h1 hv hi hp hf
  rw [e, e2] at this
  exact this.mono fun e w' hp => lpost_head hp h2 h3

/-- what booking ends in -/
def BkgPost (w0 : World) (p : Nat) (S : Lg.S) (b : Lg.Bk) (e : Ending) (w' : World) : Prop :=
  ∃ a c, e = .returned (.agg #[.string b.id, .int .i64 b.at_, .slice a 2 c]) ∧ SlOf w' (.slice a 2 c) 2 postC b.posts ∧ HeadW w0 w' p S

set_option maxRecDepth 100000 in
set_option maxHeartbeats 1000000 in
theorem booking_head {w0 w : World} {p : Nat} {S : Lg.S} (id : ByteArray) (t : Int) (f g : ByteArray) (u m : Int) (h : HeadW w0 w p S) (hu : -1000 ≤ u ∧ u ≤ 1000) (hm : -1000 ≤ m ∧ m ≤ 1000) :
    Calls Tryd.prog 27 #[.string id, .int .i64 t, .string f, .string g, .int .i64 u, .int .i64 m] w (BkgPost w0 p S ⟨id, t, [(f, -u), (g, u + m)]⟩) := by
  have hw1 : IntKind.i64.wrap (-u) = -u := IntWalk.i64_in _ (by omega)
  have hw2 : IntKind.i64.wrap (u + m) = u + m := IntWalk.i64_in _ (by omega)
  have H := hid h
  clear h hu hm
  go_enter Tryd.func27, Tryd.ntmps27
  go_wp2_with fail
  obtain ⟨w1, h1⟩ : ∃ w1, w1 = w.alloc (.cells #[.string id, .int .i64 t, .slice (some ⟨w.heap.size + 1, 0, none⟩) 2 2] 36) := ⟨_, rfl⟩
  obtain ⟨w2, h2⟩ : ∃ w2, w2 = w1.alloc (.cells #[.string f, .int .i64 (-u), .string g, .int .i64 (u + m)] 47) := ⟨_, rfl⟩
  rw [← h1, ← h2]
  have z1 : w1.heap.size = w.heap.size + 1 := by rw [h1, World.size_alloc]
  have b1 : Below w.heap.size w w1 := by rw [h1]; exact (Below.refl _ w).alloc (Nat.le_refl _) _
  have b2 : Below w1.heap.size w1 w2 := by rw [h2]; exact (Below.refl _ w1).alloc (Nat.le_refl _) _
  have s1 : w1.heap[w.heap.size]? = some (.cells #[.string id, .int .i64 t, .slice (some ⟨w.heap.size + 1, 0, none⟩) 2 2] 36 (0, 0)) := by rw [h1]; exact alloc_new w _
  have s2 : w2.heap[w.heap.size]? = some (.cells #[.string id, .int .i64 t, .slice (some ⟨w.heap.size + 1, 0, none⟩) 2 2] 36 (0, 0)) := (b2.block _ (by omega)).trans s1
  have s3 : w2.heap[w.heap.size + 1]? = some (.cells #[.string f, .int .i64 (-u), .string g, .int .i64 (u + m)] 47 (0, 0)) := by rw [h2, ← z1]; exact alloc_new w1 _
  refine bodyPost_ret (v := .agg #[.string id, .int .i64 t, .slice (some ⟨w.heap.size + 1, 0, none⟩) 2 2]) ?_ rfl ?_
  · exact results_cell_row rfl _ _ w.heap.size 36 _ _ _ rfl s2 Tryd.underlying36 rfl (by kernel_rfl)
  · refine ⟨_, _, rfl, ⟨_, 2, rfl, by simp, by unfold maxLen; omega, fun _ => ⟨w.heap.size + 1, 0, rfl, (Array.getElem?_eq_some_iff.1 s3).1, fun i x hi j v hv => ?_⟩⟩, H.out.below (Below.step b1 b2)⟩
    simp only [World.cell?, s3]
    match i, hi with
    | 0, hi =>
      simp at hi; subst hi
      match j, hv with
      | 0, hv => simpa [postC] using hv
      | 1, hv => simpa [postC] using hv
      | j + 2, hv => simp [postC] at hv
    | 1, hi =>
      simp at hi; subst hi
      match j, hv with
      | 0, hv => simpa [postC] using hv
      | 1, hv => simpa [postC] using hv
      | j + 2, hv => simp [postC] at hv
    | i + 2, hi => simp at hi

theorem balance_head {w0 w : World} {p : Nat} {S : Lg.S} {a : ByteArray} {x y : Int} (h : HeadW w0 w p S) (e : Lg.bal S a = x) (e2 : Lg.errOf S a = y) (ha : a.size ≤ 5000) :
    Calls Tryd.prog 17 #[.pointer (some ⟨p, 0, none⟩), .string a] w (HeadP w0 p S (.tuple #[.int .i64 x, .int .i64 y])) := by
  have h' := h
  obtain ⟨O, h1, h2, h3⟩ := h
  have := balance_any w p S O a h1 (by unfold maxLen; omega)
  rw [e, e2] at this
  exact this.mono fun e w' hp => ⟨hp.1, h'.below hp.2⟩
theorem at_head {w0 w : World} {p : Nat} {S : Lg.S} {a : ByteArray} {t x y : Int} (h : HeadW w0 w p S) (e : Lg.balAt S a t = x) (e2 : Lg.errOf S a = y) (ha : a.size ≤ 5000) :
    Calls Tryd.prog 19 #[.pointer (some ⟨p, 0, none⟩), .string a, .int .i64 t] w (HeadP w0 p S (.tuple #[.int .i64 x, .int .i64 y])) := by
  have h' := h
  obtain ⟨O, h1, h2, h3⟩ := h
  have := ledAt_any w p S O a t h1 (by unfold maxLen; omega)
  rw [e, e2] at this
  exact this.mono fun e w' hp => ⟨hp.1, h'.below hp.2⟩
theorem list_head {w0 w : World} {p : Nat} {S : Lg.S} {n : Nat} (h : HeadW w0 w p S) (e : S.books.length = n) :
    Calls Tryd.prog 22 #[.pointer (some ⟨p, 0, none⟩)] w (fun e w' => ∃ a c, e = .returned (.slice a n c) ∧ HeadW w0 w' p S) := by
  have h' := h
  obtain ⟨O, h1, h2, h3⟩ := h
  refine (list_any w p S O h1).mono ?_
  rintro e' w' ⟨v, bs, rfl, hm, ho, _, hb⟩
  obtain ⟨a, c, rfl⟩ := ownsRow_slice ho
  have : bs.length = n := by rw [← e, ← hm, List.length_map]
  exact ⟨a, c, by rw [this], h'.below hb⟩

def nBank : ByteArray := ⟨#[98, 97, 110, 107]⟩
def nBuyer : ByteArray := ⟨#[98, 117, 121, 101, 114]⟩
def nSeller : ByteArray := ⟨#[115, 101, 108, 108, 101, 114]⟩
def bk1 : Lg.Bk := ⟨⟨#[98, 49]⟩, 5, [(nBank, -100), (nBuyer, 100 + 0)]⟩
def bk2 : Lg.Bk := ⟨⟨#[98, 50]⟩, 7, [(nBuyer, -30), (nSeller, 30 + 0)]⟩
def S1 : Lg.S := ⟨[(nBank, true)], []⟩
def S2 : Lg.S := ⟨[(nBank, true), (nBuyer, false)], []⟩
def S3 : Lg.S := ⟨[(nBank, true), (nBuyer, false), (nSeller, false)], []⟩
def S4 : Lg.S := ⟨[(nBank, true), (nBuyer, false), (nSeller, false)], [bk1]⟩
def S5 : Lg.S := ⟨[(nBank, true), (nBuyer, false), (nSeller, false)], [bk1, bk2]⟩

set_option maxRecDepth 100000 in
set_option maxHeartbeats 8000000 in
theorem head_true (w : World) : Calls Tryd.prog 9 #[] w (Gives (.bool true) w) := by
  go_enter Tryd.func9, Tryd.ntmps9
  go_wp2_with fail
  refine (new_any w).mono ?_
  rintro e w1 ⟨p, O, rfl, h1, h2, h3⟩
  have H0 : Hid (HeadW w w1 p Lg.empty) := ⟨O, h1, h2, h3⟩
  clear h1 h2 h3
  go_wp2_with fail
  refine (open_head (a := nBank) (c := true) (r := 0) (S' := S1) H0 (by decide +kernel) (by decide) (by decide)).mono ?_
  rintro e w2 ⟨rfl, H1⟩
  replace H1 := hid H1
  go_wp2_with fail
  refine (open_head (a := nBuyer) (c := false) (r := 0) (S' := S2) H1 (by decide +kernel) (by decide) (by decide)).mono ?_
  rintro e w3 ⟨rfl, H2⟩
  replace H2 := hid H2
  go_wp2_with fail
  refine (open_head (a := nSeller) (c := false) (r := 0) (S' := S3) H2 (by decide +kernel) (by decide) (by decide)).mono ?_
  rintro e w4 ⟨rfl, H3⟩
  replace H3 := hid H3
  go_wp2_with fail
  refine (open_head (a := nBank) (c := false) (r := 9) (S' := S3) H3 (by decide +kernel) (by decide) (by decide)).mono ?_
  rintro e w5 ⟨rfl, H4⟩
  replace H4 := hid H4
  go_wp2_with fail
  refine (booking_head ⟨#[98, 49]⟩ 5 nBank nBuyer 100 0 H4 (by omega) (by omega)).mono ?_
  rintro e w6 ⟨a6, c6, rfl, hs6, H5⟩
  replace H5 := hid H5
  have HS6 := hid hs6
  clear hs6
  go_wp2_with fail
  refine (book_head (b := bk1) (r := 0) (S' := S4) H5 HS6.out (by decide +kernel) (by decide +kernel) (by decide) (by decide +kernel) (by decide)).mono ?_
  rintro e w7 ⟨rfl, H6⟩
  replace H6 := hid H6
  go_wp2_with fail
  refine (booking_head ⟨#[98, 50]⟩ 7 nBuyer nSeller 30 0 H6 (by omega) (by omega)).mono ?_
  rintro e w8 ⟨a8, c8, rfl, hs8, H7⟩
  replace H7 := hid H7
  have HS8 := hid hs8
  clear hs8
  go_wp2_with fail
  refine (book_head (b := bk2) (r := 0) (S' := S5) H7 HS8.out (by decide +kernel) (by decide +kernel) (by decide) (by decide +kernel) (by decide)).mono ?_
  rintro e w9 ⟨rfl, H8⟩
  replace H8 := hid H8
  go_wp2_with fail
  refine (booking_head ⟨#[98, 51]⟩ 6 nBuyer nSeller 1 0 H8 (by omega) (by omega)).mono ?_
  rintro e w10 ⟨a10, c10, rfl, hs10, H9⟩
  replace H9 := hid H9
  have HS10 := hid hs10
  clear hs10
  go_wp2_with fail
  refine (book_head (b := ⟨⟨#[98, 51]⟩, 6, [(nBuyer, -1), (nSeller, 1 + 0)]⟩) (r := 14) (S' := S5) H9 HS10.out (by decide +kernel) (by decide +kernel) (by decide) (by decide +kernel) (by decide)).mono ?_
  rintro e w11 ⟨rfl, H10⟩
  replace H10 := hid H10
  go_wp2_with fail
  refine (booking_head ⟨#[98, 51]⟩ 7 nBuyer nSeller 71 0 H10 (by omega) (by omega)).mono ?_
  rintro e w12 ⟨a12, c12, rfl, hs12, H11⟩
  replace H11 := hid H11
  have HS12 := hid hs12
  clear hs12
  go_wp2_with fail
  refine (book_head (b := ⟨⟨#[98, 51]⟩, 7, [(nBuyer, -71), (nSeller, 71 + 0)]⟩) (r := 21) (S' := S5) H11 HS12.out (by decide +kernel) (by decide +kernel) (by decide) (by decide +kernel) (by decide)).mono ?_
  rintro e w13 ⟨rfl, H12⟩
  replace H12 := hid H12
  go_wp2_with fail
  refine (booking_head ⟨#[98, 51]⟩ 7 nBuyer nSeller 1 1 H12 (by omega) (by omega)).mono ?_
  rintro e w14 ⟨a14, c14, rfl, hs14, H13⟩
  replace H13 := hid H13
  have HS14 := hid hs14
  clear hs14
  go_wp2_with fail
  refine (book_head (b := ⟨⟨#[98, 51]⟩, 7, [(nBuyer, -1), (nSeller, 1 + 1)]⟩) (r := 21) (S' := S5) H13 HS14.out (by decide +kernel) (by decide +kernel) (by decide) (by decide +kernel) (by decide)).mono ?_
  rintro e w15 ⟨rfl, H14⟩
  replace H14 := hid H14
  go_wp2_with fail
  refine (balance_head (a := nBuyer) (x := 70) (y := 0) H14 (by decide +kernel) (by decide +kernel) (by decide)).mono ?_
  rintro e w16 ⟨rfl, H15⟩
  replace H15 := hid H15
  go_wp2_with fail
  refine (at_head (a := nBuyer) (t := 6) (x := 100) (y := 0) H15 (by decide +kernel) (by decide +kernel) (by decide)).mono ?_
  rintro e w17 ⟨rfl, H16⟩
  replace H16 := hid H16
  go_wp2_with fail
  refine (at_head (a := nBuyer) (t := 4) (x := 0) (y := 0) H16 (by decide +kernel) (by decide +kernel) (by decide)).mono ?_
  rintro e w18 ⟨rfl, H17⟩
  replace H17 := hid H17
  go_wp2_with fail
  refine (list_head (n := 2) H17 (by decide)).mono ?_
  rintro e w19 ⟨a19, c19, rfl, H18⟩
  replace H18 := hid H18
  go_wp2_with fail
  go_ret
  obtain ⟨O, h1, h2, h3⟩ := H18.out
  exact ⟨rfl, h2⟩

end Go.Proofs.YtfkcphflcmpenaaDoor
