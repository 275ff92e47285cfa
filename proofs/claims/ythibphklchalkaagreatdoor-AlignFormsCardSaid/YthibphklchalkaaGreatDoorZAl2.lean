/-
  align: states and both sides in memory; done, moves. Conditions: lengths.
-/
import Derived.Test.YthibphklchalkaaGreatDoorZAl1
namespace Go.Proofs.YthibphklchalkaaGreatDoor
open Go.RowKit Go.Lib Go.Maps

def stC (s : Al.St) : List Value := [.int .i64 s.i, .int .i64 s.j, .string (bs s.ahead), .bool s.right]
def stV (s : Al.St) : Value := .agg (stC s).toArray

/-- both sides in memory -/
structure WordsAt (W : World) (w : Al.Ws) (fl fr : List (Al.R × Value)) (v : List Value) : Prop where
  at_ : ∃ ll lr rl rr, v = [ll, lr, rl, rr] ∧ SlOf W ll 1 strC w.left.letters ∧ RulesAt W fl lr ∧ SlOf W rl 1 strC w.right.letters ∧ RulesAt W fr rr
  left : fl.map Prod.fst = w.left.rules
  right : fr.map Prod.fst = w.right.rules

theorem WordsAt.below {W W' : World} {w : Al.Ws} {fl fr : List (Al.R × Value)} {v : List Value} (h : WordsAt W w fl fr v) (hb : Below W.heap.size W W') : WordsAt W' w fl fr v := by
  obtain ⟨⟨ll, lr, rl, rr, e, a, b, c, d⟩, h1, h2⟩ := h
  exact ⟨⟨ll, lr, rl, rr, e, a.below hb, b.below hb, c.below hb, d.below hb⟩, h1, h2⟩

theorem empty_is (l : List UInt8) : (bs l).toList.isEmpty = l.isEmpty := by rw [ByteArray.toList_eq]; rfl

theorem nat_beq (a b : Nat) : ((a : Int) == (b : Int)) = decide (a = b) := by
  rw [Bool.eq_iff_iff]; simp; omega

set_option maxRecDepth 100000 in
set_option maxHeartbeats 1000000 in
theorem done_any (w : Al.Ws) (s : Al.St) (fl fr : List (Al.R × Value)) (v : List Value) (W : World) (h : WordsAt W w fl fr v) : Calls Tryz.prog 19 #[.agg v.toArray, stV s] W (Gives (.bool (Al.done w s)) W) := by
  obtain ⟨⟨ll, lr, rl, rr, rfl, ⟨a1, c1, rfl, _⟩, _, ⟨a2, c2, rfl, _⟩, _⟩, _, _⟩ := h
  unfold stV stC
  have hE := empty_is s.ahead
  have hbW := hid (show Below W.heap.size W ((W.alloc (.cells #[.slice a1 w.left.letters.length c1, lr, .slice a2 w.right.letters.length c2, rr] 47)).alloc (.cells #[.int .i64 s.i, .int .i64 s.j, .string (bs s.ahead), .bool s.right] 53)) from
      ((Below.refl _ W).alloc (Nat.le_refl _) _).alloc (by rw [World.size_alloc]; omega) _)
  have hdn := hid (show Al.done w s = (decide (s.i = w.left.letters.length) && decide (s.j = w.right.letters.length) && s.ahead.isEmpty) from rfl)
  have h1 := nat_beq s.i w.left.letters.length
  have h2 := nat_beq s.j w.right.letters.length
  cases e1 : decide (s.i = w.left.letters.length) with
  | false =>
    rw [e1] at h1 hdn
    have hdn' := hid (show Al.done w s = false by rw [hdn.out]; rfl)
    clear hdn hE h2 e1
    go_enter Tryz.func19, Tryz.ntmps19
    go_wp2
    go_ret
    exact ⟨ret_bool hdn'.out.symm, hbW.out⟩
  | true =>
    rw [e1] at h1 hdn
    clear e1
    cases e2 : decide (s.j = w.right.letters.length) with
    | false =>
      rw [e2] at h2 hdn
      have hdn' := hid (show Al.done w s = false by rw [hdn.out]; rfl)
      clear hdn hE e2
      go_enter Tryz.func19, Tryz.ntmps19
      go_wp2
      go_ret
      exact ⟨ret_bool hdn'.out.symm, hbW.out⟩
    | true =>
      rw [e2] at h2 hdn
      have hdn' := hid (show Al.done w s = s.ahead.isEmpty by rw [hdn.out]; rfl)
      clear hdn e2
      go_enter Tryz.func19, Tryz.ntmps19
      go_wp2
      go_ret
      refine ⟨ret_bool ?_, hbW.out⟩
      rw [hdn'.out]

set_option maxRecDepth 100000 in
theorem moves_mk (ll lr rl rr : Value) (s : Al.St) (W : World) : Calls Tryz.prog 20 #[.agg #[ll, lr, rl, rr], stV s] W fun e W' =>
    e = .returned (.func (.func 35) #[] #[.pointer (some ⟨W.heap.size + 1, 0, none⟩), .pointer (some ⟨W.heap.size, 0, none⟩)]) ∧ W' = (W.alloc (.cells #[ll, lr, rl, rr] 47)).alloc (.cells (stC s).toArray 53) := by
  unfold stV stC
  go_enter Tryz.func20, Tryz.ntmps20
  go_wp2
  go_ret
  exact ⟨rfl, rfl⟩

/-- where the iterator begins: its captured state and sides -/
structure MovesStart (w : Al.Ws) (fl fr : List (Al.R × Value)) (s : Al.St) (Bs Bw : Nat) (W : World) : Prop where
  st : W.heap[Bs]? = some (.cells (stC s).toArray 53 (0, 0))
  ws : ∃ v, W.heap[Bw]? = some (.cells v.toArray 47 (0, 0)) ∧ WordsAt W w fl fr v

/-- the rules that the iterator still has before it, and what it hands over next -/
def nxMove (w : Al.Ws) (s : Al.St) : List (Al.R × Value) → Option (Array Value × List (Al.R × Value))
  | [] => none
  | p :: l => match Al.move w s p.1 with
    | some (_, s') => some (#[ruleV p, stV s'], l)
    | none => nxMove w s l

end Go.Proofs.YthibphklchalkaaGreatDoor
