/-
  Several texts in one: ZAl1, ZAl2. Conditions: as each law says.
-/
import Derived.Test.YthibphklchalkaaGreatDoorZMRew
import Derived.Test.YthibphklchalkaaGreatDoorZMPlain
import Derived.Test.YthibphklchalkaaGreatDoorZMBase
import Derived.Deep.RegionHeld3
import Derived.IntWalk
namespace Go.Proofs.YthibphklchalkaaGreatDoor
open Go.RowKit Go.Lib Go.Maps

def strC (l : List UInt8) : List Value := [.string (bs l)]
def ruleC (p : Al.R × Value) : List Value := [.int .i64 p.1.index, .int .i64 p.1.cost, p.2, .string (bs p.1.to_)]
def ruleV (p : Al.R × Value) : Value := .agg (ruleC p).toArray

/-- rules in memory -/
def RulesAt (w : World) (fs : List (Al.R × Value)) (v : Value) : Prop := SlOf w v 4 ruleC fs ∧ ∀ p ∈ fs, SlOf w p.2 1 strC p.1.from_

theorem RulesAt.below {w w' : World} {fs : List (Al.R × Value)} {v : Value} (h : RulesAt w fs v) (hb : Below w.heap.size w w') : RulesAt w' fs v := ⟨h.1.below hb, fun p hp => (h.2 p hp).below hb⟩

/-- a row of strings, cell by cell -/
theorem row_cells {w : World} {g o : Nat} {l : List (List UInt8)} (h : RowOf w g o 1 strC l) : ∀ j, j < (l.map bs).length → w.cell? ⟨g, o + j, none⟩ = some (.string ((l.map bs).getD j ByteArray.empty)) := by
  intro j hj
  rw [List.length_map] at hj
  have := h.2 j l[j] (List.getElem?_eq_getElem hj) 0 (.string (bs l[j])) rfl
  rw [Nat.mul_one, Nat.add_zero] at this
  rw [this]
  simp [List.getD, List.getElem?_eq_getElem hj]

theorem bs_inj {a b : List UInt8} (h : bs a = bs b) : a = b := by
  have := congrArg (fun x : ByteArray => x.data.toList) h
  exact this

theorem map_bs_inj : ∀ {a b : List (List UInt8)}, a.map bs = b.map bs → a = b
  | [], [], _ => rfl
  | [], _ :: _, h => by simp at h
  | _ :: _, [], h => by simp at h
  | x :: a, y :: b, h => by
    rw [List.map_cons, List.map_cons, List.cons.injEq] at h
    rw [bs_inj h.1, map_bs_inj h.2]

/-- slices.Equal of a part of one row and another row, not empty -/
theorem equal_part {w : World} {g o k n cap g2 o2 c2 : Nat} {l f : List (List UInt8)} (h : RowOf w g o 1 strC l) (h2 : RowOf w g2 o2 1 strC f) (hk : k + n ≤ l.length) (hn : n = f.length) (hb : n ≤ 1000000) :
    Calls Tryz.prog 30 #[.slice (some ⟨g, o + k, none⟩) n cap, .slice (some ⟨g2, o2, none⟩) n c2] w (Gives (.bool (decide ((l.drop k).take n = f))) w) := by
  have hx := row_cells h
  have hy := row_cells h2
  refine (Tryz.slices_Equal_string g (o + k) n cap g2 o2 n c2 ((l.map bs).drop k) (f.map bs) w (by simp; omega) (by simp; omega) (by omega) (by omega) (fun j hj => ?_) hy).mono ?_
  · rw [List.length_drop] at hj
    rw [Nat.add_assoc, hx (k + j) (by omega)]
    simp [List.getD, List.getElem?_drop]
  · rintro e w' ⟨rfl, q, rfl⟩
    refine ⟨ret_bool (decide_eq_decide.2 ?_), Below.drewQ w q⟩
    rw [List.take_of_length_le (l := f.map bs) (by simp; omega), ← List.map_drop, ← List.map_take]
    exact ⟨fun e => map_bs_inj e, fun e => by rw [e]⟩

set_option maxRecDepth 100000 in
set_option maxHeartbeats 1000000 in
theorem fits_any (letters : List (List UInt8)) (p : Al.R × Value) (at_ : Nat) (lv rv : Value) (w : World) (hl : SlOf w lv 1 strC letters) (hf : SlOf w p.2 1 strC p.1.from_) (hn : p.1.from_ ≠ []) (h1 : letters.length ≤ 1000000) (h2 : p.1.from_.length ≤ 1000000) (h3 : at_ ≤ 1000000) :
    Calls Tryz.prog 36 #[.agg #[lv, rv], ruleV p, .int .i64 at_] w (Gives (.bool (Al.fits letters p.1 at_)) w) := by
  obtain ⟨r, fv⟩ := p
  obtain ⟨a1, c1, rfl, e1, e2, e3⟩ := hl
  simp only at hf hn h2
  obtain ⟨a2, c2, rfl, f1, f2, f3⟩ := hf
  have hpos : 0 < r.from_.length := List.length_pos_iff.2 hn
  unfold ruleV ruleC
  simp only
  by_cases hle : at_ + r.from_.length ≤ letters.length
  · obtain ⟨g, o, rfl, hr⟩ := e3 (by omega)
    obtain ⟨g2, o2, rfl, hr2⟩ := f3 hpos
    have hle' : (at_ : Int) + (r.from_.length : Int) ≤ (letters.length : Int) := by omega
    have hyes := hid (show Al.fits letters r at_ = decide ((letters.drop at_).take r.from_.length = r.from_) by unfold Al.fits; rw [decide_eq_true hle, Bool.true_and])
    have HR := hid (And.intro hr hr2)
    clear e3 f3 hr hr2
    obtain ⟨W2, hW2⟩ : ∃ W2, W2 = (w.alloc (.cells #[.slice (some ⟨g, o, none⟩) letters.length c1, rv] 45)).alloc (.cells #[.int .i64 r.index, .int .i64 r.cost, .slice (some ⟨g2, o2, none⟩) r.from_.length c2, .string (bs r.to_)] 59) := ⟨_, rfl⟩
    have hbW := hid (show Below w.heap.size w W2 by rw [hW2]; exact ((Below.refl _ w).alloc (Nat.le_refl _) _).alloc (by simp) _)
    have z0 : w.heap.size < W2.heap.size := by rw [hW2, World.size_alloc, World.size_alloc]; omega
    have z1 : w.heap.size + 1 < W2.heap.size := by rw [hW2, World.size_alloc, World.size_alloc]; omega
    have HZ := hid (And.intro z0 z1)
    have HC : Hid (W2.cell? ⟨w.heap.size, 0, none⟩ = some (.slice (some ⟨g, o, none⟩) letters.length c1) ∧ W2.cell? ⟨w.heap.size + 1, 2, none⟩ = some (.slice (some ⟨g2, o2, none⟩) r.from_.length c2)) := by
      constructor
      · have h := cells_new (w := w) (n := w.heap.size) (t := 45) (l := [.slice (some ⟨g, o, none⟩) letters.length c1, rv]) rfl 0 _ rfl
        rw [addr_at] at h
        rw [hW2]; refine (World.cell?_alloc_lt _ _ _ ?_).trans h; rw [World.size_alloc]; exact Nat.lt_succ_self _
      · have h := cells_new (w := w.alloc (.cells #[.slice (some ⟨g, o, none⟩) letters.length c1, rv] 45)) (n := w.heap.size + 1) (t := 59) (l := [.int .i64 (r.index : Int), .int .i64 r.cost, .slice (some ⟨g2, o2, none⟩) r.from_.length c2, .string (bs r.to_)]) (by rw [World.size_alloc]) 2 _ rfl
        rw [addr_at] at h
        rw [hW2]; exact h
    have K : Hid (∀ wx, Below W2.heap.size W2 wx → Below W2.heap.size W2 wx ∧ wx.cell? ⟨w.heap.size, 0, none⟩ = some (.slice (some ⟨g, o, none⟩) letters.length c1) ∧ wx.cell? ⟨w.heap.size + 1, 2, none⟩ = some (.slice (some ⟨g2, o2, none⟩) r.from_.length c2)) := fun wx hb =>
      ⟨hb, (hb.cell (p := ⟨w.heap.size, 0, none⟩) HZ.out.1).trans HC.out.1, (hb.cell (p := ⟨w.heap.size + 1, 2, none⟩) HZ.out.2).trans HC.out.2⟩
    have f1' : IntKind.i64.wrap ((at_ : Int) + (r.from_.length : Int)) = (at_ : Int) + (r.from_.length : Int) := IntWalk.i64_in _ (by omega)
    have f2' : ((at_ : Int) + (r.from_.length : Int)).toNat - at_ = r.from_.length := by omega
    have b1' : (0 : Int) ≤ (at_ : Int) + (r.from_.length : Int) ∧ (at_ : Int) + (r.from_.length : Int) ≤ (c1 : Int) := by omega
    have b2' : (at_ : Int) ≤ (at_ : Int) + (r.from_.length : Int) := by omega
    have b3' : ¬ c1 = at_ := by omega
    have EQ : Hid (∀ wx cap, Below W2.heap.size W2 wx → Calls Tryz.prog 30 #[.slice (some ⟨g, o + at_, none⟩) r.from_.length cap, .slice (some ⟨g2, o2, none⟩) r.from_.length c2] wx (Gives (.bool (Al.fits letters r at_)) wx)) := fun wx cap hb => by
      have b := hbW.out.trans (hb.mono hbW.out.size)
      rw [hyes.out]
      exact equal_part (HR.out.1.below b) (HR.out.2.below b) hle rfl h2
    go_enter Tryz.func36, Tryz.ntmps36
    go_wp2_with fail
    rw [← hW2]
    clear hW2 z0 z1
    go_region_held3 (fun wx => Below W2.heap.size W2 wx ∧ wx.cell? ⟨w.heap.size, 0, none⟩ = some (.slice (some ⟨g, o, none⟩) letters.length c1) ∧ wx.cell? ⟨w.heap.size + 1, 2, none⟩ = some (.slice (some ⟨g2, o2, none⟩) r.from_.length c2))
      (first | (exact K.out _ (Below.refl _ _)) | (exact K.out _ (Below.refl _ _).drew) | (go_split_ands; refine K.out _ ?_; first | assumption | (refine Below.step ?_ hbx; assumption) | (refine Below.step ?_ hbx; exact (Below.refl _ _).drew)))
      (first | (go_at_call 30; refine (EQ.out _ _ (by first | assumption | exact (Below.refl _ _).drew)).mono ?_; rintro e wy ⟨rfl, hbx⟩))
    have hbz : Below W2.heap.size W2 wy := by first | assumption | exact Below.step (Below.refl _ _).drew hbx
    have HF := hid (hbW.out.trans (hbz.mono hbW.out.size))
    clear hbz hbx
    go_wp2
    go_ret
    exact ⟨rfl, HF.out⟩
  · have hno := hid (show Al.fits letters r at_ = false by unfold Al.fits; rw [decide_eq_false hle]; rfl)
    have hd : decide ((at_ : Int) + (r.from_.length : Int) ≤ (letters.length : Int)) = false := decide_eq_false (by omega)
    have f1' : IntKind.i64.wrap ((at_ : Int) + (r.from_.length : Int)) = (at_ : Int) + (r.from_.length : Int) := IntWalk.i64_in _ (by omega)
    have hbW := hid (show Below w.heap.size w ((w.alloc (.cells #[.slice a1 letters.length c1, rv] 45)).alloc (.cells #[.int .i64 r.index, .int .i64 r.cost, .slice a2 r.from_.length c2, .string (bs r.to_)] 59)) from
      ((Below.refl _ w).alloc (Nat.le_refl _) _).alloc (by rw [World.size_alloc]; omega) _)
    clear e3 f3 hle
    go_enter Tryz.func36, Tryz.ntmps36
    go_wp2_with fail
    go_quiet (fail)
    go_wp2
    go_ret
    exact ⟨ret_bool hno.out.symm, hbW.out.trans ((Below.drewQ _ _).mono hbW.out.size)⟩

end Go.Proofs.YthibphklchalkaaGreatDoor

namespace Go.Proofs.YthibphklchalkaaGreatDoor
open Go.RowKit Go.Lib Go.Maps

def stC (s : Al.St) : List Value := [.int .i64 s.i, .int .i64 s.j, .string (bs s.ahead), .bool s.right]
def stV (s : Al.St) : Value := .agg (stC s).toArray

/-- both sides in memory -/
structure WordsAt (W : World) (w : Al.Ws) (fl fr : List (Al.R × Value)) (v : List Value) : Prop where
  at_ : ∃ ll lr rl rr, v = [ll, lr, rl, rr] ∧ SlOf W ll 1 strC w.left.letters ∧ RulesAt W fl lr ∧ SlOf W rl 1 strC w.right.letters ∧ RulesAt W fr rr
  left : fl.map Prod.fst = w.left.rules
  right : fr.map Prod.fst = w.right.rules

theorem WordsAt.below {W W' : World} {w : Al.Ws} {fl fr : List (Al.R × Value)} {v : List Value} (h : WordsAt W w fl fr v) (hb : Below W.heap.size W W') : WordsAt W' w fl fr v := by
  obtain ⟨⟨ll, lr, rl, rr, e, a, b, c, d⟩, h1, h2⟩ := h
  exact ⟨⟨ll, lr, rl, rr, e, a.below hb, b.below hb, c.below hb, d.below hb⟩, h1, h2⟩

theorem empty_is (l : List UInt8) : (bs l).toList.isEmpty = l.isEmpty := by rw [ByteArray.toList_eq]; rfl

theorem nat_beq (a b : Nat) : ((a : Int) == (b : Int)) = decide (a = b) := by
  rw [Bool.eq_iff_iff]; simp; omega

set_option maxRecDepth 100000 in
set_option maxHeartbeats 1000000 in
theorem done_any (w : Al.Ws) (s : Al.St) (fl fr : List (Al.R × Value)) (v : List Value) (W : World) (h : WordsAt W w fl fr v) : Calls Tryz.prog 19 #[.agg v.toArray, stV s] W (Gives (.bool (Al.done w s)) W) := by
  obtain ⟨⟨ll, lr, rl, rr, rfl, ⟨a1, c1, rfl, _⟩, _, ⟨a2, c2, rfl, _⟩, _⟩, _, _⟩ := h
  unfold stV stC
  have hE := empty_is s.ahead
  have hbW := hid (show Below W.heap.size W ((W.alloc (.cells #[.slice a1 w.left.letters.length c1, lr, .slice a2 w.right.letters.length c2, rr] 47)).alloc (.cells #[.int .i64 s.i, .int .i64 s.j, .string (bs s.ahead), .bool s.right] 53)) from
      ((Below.refl _ W).alloc (Nat.le_refl _) _).alloc (by rw [World.size_alloc]; omega) _)
  have hdn := hid (show Al.done w s = (decide (s.i = w.left.letters.length) && decide (s.j = w.right.letters.length) && s.ahead.isEmpty) from rfl)
  have h1 := nat_beq s.i w.left.letters.length
  have h2 := nat_beq s.j w.right.letters.length
  cases e1 : decide (s.i = w.left.letters.length) with
  | false =>
    rw [e1] at h1 hdn
    have hdn' := hid (show Al.done w s = false by rw [hdn.out]; rfl)
    clear hdn hE h2 e1
    go_enter Tryz.func19, Tryz.ntmps19
    go_wp2
    go_ret
    exact ⟨ret_bool hdn'.out.symm, hbW.out⟩
  | true =>
    rw [e1] at h1 hdn
    clear e1
    cases e2 : decide (s.j = w.right.letters.length) with
    | false =>
      rw [e2] at h2 hdn
      have hdn' := hid (show Al.done w s = false by rw [hdn.out]; rfl)
      clear hdn hE e2
      go_enter Tryz.func19, Tryz.ntmps19
      go_wp2
      go_ret
      exact ⟨ret_bool hdn'.out.symm, hbW.out⟩
    | true =>
      rw [e2] at h2 hdn
      have hdn' := hid (show Al.done w s = s.ahead.isEmpty by rw [hdn.out]; rfl)
      clear hdn e2
      go_enter Tryz.func19, Tryz.ntmps19
      go_wp2
      go_ret
      refine ⟨ret_bool ?_, hbW.out⟩
      rw [hdn'.out]

set_option maxRecDepth 100000 in
theorem moves_mk (ll lr rl rr : Value) (s : Al.St) (W : World) : Calls Tryz.prog 20 #[.agg #[ll, lr, rl, rr], stV s] W fun e W' =>
    e = .returned (.func (.func 35) #[] #[.pointer (some ⟨W.heap.size + 1, 0, none⟩), .pointer (some ⟨W.heap.size, 0, none⟩)]) ∧ W' = (W.alloc (.cells #[ll, lr, rl, rr] 47)).alloc (.cells (stC s).toArray 53) := by
  unfold stV stC
  go_enter Tryz.func20, Tryz.ntmps20
  go_wp2
  go_ret
  exact ⟨rfl, rfl⟩

/-- where the iterator begins: its captured state and sides -/
structure MovesStart (w : Al.Ws) (fl fr : List (Al.R × Value)) (s : Al.St) (Bs Bw : Nat) (W : World) : Prop where
  st : W.heap[Bs]? = some (.cells (stC s).toArray 53 (0, 0))
  ws : ∃ v, W.heap[Bw]? = some (.cells v.toArray 47 (0, 0)) ∧ WordsAt W w fl fr v

/-- the rules that the iterator still has before it, and what it hands over next -/
def nxMove (w : Al.Ws) (s : Al.St) : List (Al.R × Value) → Option (Array Value × List (Al.R × Value))
  | [] => none
  | p :: l => match Al.move w s p.1 with
    | some (_, s') => some (#[ruleV p, stV s'], l)
    | none => nxMove w s l

end Go.Proofs.YthibphklchalkaaGreatDoor
