/-
  The law file's head: fixed examples: it returns true. Conditions: none.
-/
import Derived.Test.YtlojckkccgpabaaDoorZTok
import Derived.Test.YtlojckkccgpabaaDoorZLexF
namespace Go.Proofs.YtlojckkccgpabaaDoor
open Go.RowKit

/-- a call of Lex with these tokens -/
def HeadTok (l : List (Nat × Lx.Tk)) (w : World) (e : Ending) (w' : World) : Prop :=
  ∃ g cap, e = .returned (.tuple #[.slice (some ⟨g, 0, none⟩) l.length cap, .int .i64 0, .int .i64 0]) ∧ l.length ≤ cap ∧ cap ≤ maxLen ∧ TokRow w' g 0 l ∧ Below w.heap.size w w'

/-- a call of Lex with this error -/
def HeadErr (x y : Int) (w : World) (e : Ending) (w' : World) : Prop :=
  ∃ v, e = .returned (.tuple #[v, .int .i64 x, .int .i64 y]) ∧ Below w.heap.size w w'

theorem head_tok {t : ByteArray} {l : List (Nat × Lx.Tk)} (w : World) (h : Lx.lex t.data.toList = (l, 0, 0)) (hn : l ≠ []) (hs : t.size ≤ maxLen) :
    Calls Tryd.prog 12 #[.string t] w (HeadTok l w) := by
  refine (lex_any t w hs).mono ?_
  rintro e w' ⟨v, rfl, ho, hb⟩
  rw [h] at ho ⊢
  obtain ⟨cap, h1, h2, h3⟩ := TokSl.of_owns ho
  rcases h3 with ⟨h3, _⟩ | ⟨g, o, rfl, hr⟩
  · exact absurd h3 hn
  · rcases ho.2 with ⟨hv, _⟩ | ⟨g', cap', cur, hv, _⟩
    · cases hv
    · cases hv
      exact ⟨_, _, rfl, h1, h2, hr, hb⟩

theorem head_err {t : ByteArray} {x y : Int} (w : World) (h : Lx.lex t.data.toList = ([], x, y)) (hs : t.size ≤ maxLen) :
    Calls Tryd.prog 12 #[.string t] w (HeadErr x y w) := by
  refine (lex_any t w hs).mono ?_
  rintro e w' ⟨v, rfl, ho, hb⟩
  rw [h]
  exact ⟨v, rfl, hb⟩

def tokA : List (Nat × Lx.Tk) := [(0, ⟨1, 0, [114, 111, 119]⟩), (4, ⟨1, 0, [97, 49]⟩), (7, ⟨1, 0, [97, 116]⟩), (10, ⟨2, 7, [55]⟩), (11, ⟨4, 0, [62, 61]⟩), (13, ⟨1, 0, [120]⟩)]
def tokB : List (Nat × Lx.Tk) := [(0, ⟨1, 0, [116, 111]⟩), (3, ⟨3, 0, []⟩), (6, ⟨3, 0, [97, 32, 98]⟩), (11, ⟨4, 0, [59]⟩)]

theorem headA (w : World) : Calls Tryd.prog 12 #[.string ⟨#[114, 111, 119, 32, 97, 49, 32, 97, 116, 32, 55, 62, 61, 120, 35, 32, 121]⟩] w (HeadTok tokA w) :=
  head_tok w (by decide +kernel) (by decide) (by decide)
theorem headB (w : World) : Calls Tryd.prog 12 #[.string ⟨#[97, 32, 33, 98]⟩] w (HeadErr 3 2 w) := head_err w (by decide +kernel) (by decide)
theorem headC (w : World) : Calls Tryd.prog 12 #[.string ⟨#[55, 120]⟩] w (HeadErr 4 0 w) := head_err w (by decide +kernel) (by decide)
theorem headD (w : World) : Calls Tryd.prog 12 #[.string ⟨#[49, 50, 51, 52, 53, 54, 55, 56, 57, 48, 49, 50, 51, 52]⟩] w (HeadErr 4 0 w) := head_err w (by decide +kernel) (by decide)
theorem headE (w : World) : Calls Tryd.prog 12 #[.string ⟨#[10, 97, 98, 99, 100, 101, 102, 103, 104, 105, 106, 107, 108, 109, 110, 111, 112, 113, 114, 115, 116, 117, 118, 119, 120, 121]⟩] w (HeadErr 2 1 w) := head_err w (by decide +kernel) (by decide)
theorem headF (w : World) : Calls Tryd.prog 12 #[.string ⟨#[116, 111, 32, 34, 34, 32, 34, 97, 32, 98, 34, 59]⟩] w (HeadTok tokB w) :=
  head_tok w (by decide +kernel) (by decide) (by decide)
theorem headG (w : World) : Calls Tryd.prog 12 #[.string ⟨#[97, 32, 34, 98]⟩] w (HeadErr 6 2 w) := head_err w (by decide +kernel) (by decide)

set_option maxRecDepth 100000 in
set_option maxHeartbeats 1600000 in
theorem head_true (w : World) : Calls Tryd.prog 11 #[] w (Gives (.bool true) w) := by
  go_enter Tryd.func11, Tryd.ntmps11
  go_wp2_with fail
  refine (headA _).mono ?_
  rintro e w1 ⟨ga, ca, rfl, la1, la2, ra, hb1⟩
  go_wp2_with fail
  refine (headB _).mono ?_
  rintro e w2 ⟨vb, rfl, hb2⟩
  go_wp2_with fail
  refine (headC _).mono ?_
  rintro e w3 ⟨vc, rfl, hb3⟩
  go_wp2_with fail
  refine (headD _).mono ?_
  rintro e w4 ⟨vd, rfl, hb4⟩
  go_wp2_with fail
  refine (headE _).mono ?_
  rintro e w5 ⟨ve, rfl, hb5⟩
  go_wp2_with fail
  refine (headF _).mono ?_
  rintro e w6 ⟨gf, cf, rfl, lf1, lf2, rf, hb6⟩
  go_wp2_with fail
  refine (headG _).mono ?_
  rintro e w7 ⟨vg, rfl, hb7⟩
  have R1 := (((((ra.below hb2).below hb3).below hb4).below hb5).below hb6).below hb7
  have R6 := rf.below hb7
  have hg1 := R1.1
  have hg6 := R6.1
  have HB := hid (hb1.trans ((hb2.mono hb1.size).trans ((hb3.mono (Nat.le_trans hb1.size hb2.size)).trans ((hb4.mono (Nat.le_trans hb1.size (Nat.le_trans hb2.size hb3.size))).trans
    ((hb5.mono (Nat.le_trans hb1.size (Nat.le_trans hb2.size (Nat.le_trans hb3.size hb4.size)))).trans ((hb6.mono (Nat.le_trans hb1.size (Nat.le_trans hb2.size (Nat.le_trans hb3.size (Nat.le_trans hb4.size hb5.size))))).trans
      (hb7.mono (Nat.le_trans hb1.size (Nat.le_trans hb2.size (Nat.le_trans hb3.size (Nat.le_trans hb4.size (Nat.le_trans hb5.size hb6.size))))))))))))
  have A1 := R1.2 1 _ rfl
  have A3 := R1.2 3 _ rfl
  have A4 := R1.2 4 _ rfl
  have A5 := R1.2 5 _ rfl
  have F1 := R6.2 1 _ rfl
  have F2 := R6.2 2 _ rfl
  have F3 := R6.2 3 _ rfl
  have a10 : w7.cell? ⟨ga, 4, none⟩ = some (.int .i64 1) := A1.c0
  have a11 : w7.cell? ⟨ga, 5, none⟩ = some (.int .i64 4) := A1.c1
  have a12 : w7.cell? ⟨ga, 6, none⟩ = some (.int .i64 0) := A1.c2
  have a13 : w7.cell? ⟨ga, 7, none⟩ = some (.string ⟨#[97, 49]⟩) := A1.c3
  have a30 : w7.cell? ⟨ga, 12, none⟩ = some (.int .i64 2) := A3.c0
  have a31 : w7.cell? ⟨ga, 13, none⟩ = some (.int .i64 10) := A3.c1
  have a32 : w7.cell? ⟨ga, 14, none⟩ = some (.int .i64 7) := A3.c2
  have a33 : w7.cell? ⟨ga, 15, none⟩ = some (.string ⟨#[55]⟩) := A3.c3
  have a40 : w7.cell? ⟨ga, 16, none⟩ = some (.int .i64 4) := A4.c0
  have a41 : w7.cell? ⟨ga, 17, none⟩ = some (.int .i64 11) := A4.c1
  have a42 : w7.cell? ⟨ga, 18, none⟩ = some (.int .i64 0) := A4.c2
  have a43 : w7.cell? ⟨ga, 19, none⟩ = some (.string ⟨#[62, 61]⟩) := A4.c3
  have a51 : w7.cell? ⟨ga, 21, none⟩ = some (.int .i64 13) := A5.c1
  have f10 : w7.cell? ⟨gf, 4, none⟩ = some (.int .i64 3) := F1.c0
  have f11 : w7.cell? ⟨gf, 5, none⟩ = some (.int .i64 3) := F1.c1
  have f12 : w7.cell? ⟨gf, 6, none⟩ = some (.int .i64 0) := F1.c2
  have f13 : w7.cell? ⟨gf, 7, none⟩ = some (.string ⟨#[]⟩) := F1.c3
  have f20 : w7.cell? ⟨gf, 8, none⟩ = some (.int .i64 3) := F2.c0
  have f21 : w7.cell? ⟨gf, 9, none⟩ = some (.int .i64 6) := F2.c1
  have f22 : w7.cell? ⟨gf, 10, none⟩ = some (.int .i64 0) := F2.c2
  have f23 : w7.cell? ⟨gf, 11, none⟩ = some (.string ⟨#[97, 32, 98]⟩) := F2.c3
  have f31 : w7.cell? ⟨gf, 13, none⟩ = some (.int .i64 11) := F3.c1
  clear A1 A3 A4 A5 F1 F2 F3 R1 R6 ra rf hb1 hb2 hb3 hb4 hb5 hb6 hb7
  have ll1 : tokA.length = 6 := rfl
  have ll2 : tokB.length = 4 := rfl
  rw [ll1] at la1
  rw [ll2] at lf1
  rw [ll1, ll2]
  unfold maxLen at la2 lf2
  go_wp2
  go_ret
  exact ⟨rfl, HB.out⟩

end Go.Proofs.YtlojckkccgpabaaDoor
