/-
  script.letters' iterator, as the range over a function meets it. Conditions: lengths; the library's tables.
-/
import Derived.Test.YtdchjacccmajcaaGreatDoorZScr1
import Derived.Test.YtdchjacccmajcaaGreatDoorZMBase
import Derived.RangeFuncBox
import Derived.RangeFuncLeaves
import Derived.Shelf.Abstract
import Derived.Shelf.RegionOpen
import Derived.OwnWalkIn
import Derived.TacticsInMore
import Derived.LoopNIn
import Derived.LoopIn
namespace Go.Proofs.YtdchjacccmajcaaGreatDoor
open Go.RowKit Go.Lib Go.Shelf

attribute [local go_sem] Oper.semAt_some

/-- what a round must leave as it is -/
structure LetKeep (Bk Bs : Nat) (W W' : World) : Prop where
  size : W.heap.size ≤ W'.heap.size
  k : W'.heap[Bk]? = W.heap[Bk]?
  s : W'.heap[Bs]? = W.heap[Bs]?
  tabs : Tabs W → Tabs W'

/-- the next letter -/
def nxLetter (k : Int) (s : List UInt8) : Option (Array Value × List UInt8) :=
  if Sc.len k s = 0 then none else some (#[.string (bs (s.take (Sc.len k s)))], s.drop (Sc.len k s))

/-- where the iterator begins -/
structure LetStart (k : Int) (Bk Bs : Nat) (s : List UInt8) (W : World) : Prop where
  ck : W.heap[Bk]? = some (.cells #[.int .i64 k] 3 (0, 0))
  cs : W.heap[Bs]? = some (.cells #[.string (bs s)] 9 (0, 0))
  tabs : Tabs W
  len : s.length ≤ 1000000

/-- how many bytes the captured text has -/
def textAt (w : World) (B : Nat) : Nat := match w.cell? ⟨B, 0, none⟩ with | some (.string s) => s.size | _ => 0

theorem cell_blk {w : World} {B : Nat} {v : Value} {t : TypeId} (h : w.heap[B]? = some (.cells #[v] t (0, 0))) : w.cell? ⟨B, 0, none⟩ = some v ∧ w.frozen? ⟨B, 0, none⟩ = false := by
  constructor
  · simp [World.cell?, h]
  · simp [World.frozen?, h]

theorem set_blk {w : World} {B : Nat} {v u : Value} {t : TypeId} (h : w.heap[B]? = some (.cells #[v] t (0, 0))) : (w.setCell ⟨B, 0, none⟩ u).heap[B]? = some (.cells #[u] t (0, 0)) := by
  simp [World.setCell, Array.getElem?_modify, h]

theorem set_grown (w : World) (B : Nat) (u : Value) : w.grownBy (w.setCell ⟨B, 0, none⟩ u) (some B) :=
  ⟨rfl, rfl, rfl, by simp [World.setCell], fun k _ hk => Below.heap_setCell w ⟨B, 0, none⟩ u k (fun e => hk (by rw [e]))⟩

theorem Tabs.grown {w w' : World} {row : Option Nat} (h : Tabs w) (hg : w.grownBy w' row) (hr : ∀ (B : Nat) (v : Value) (o : Nat), row = some B → w.cell? ⟨B, o, none⟩ = some v → (∃ s, v = .string s)) : Tabs w' := by
  have key : ∀ (B o : Nat) v, w.cell? ⟨B, o, none⟩ = some v → (∀ s, v ≠ .string s) → w'.cell? ⟨B, o, none⟩ = some v := fun B o v ha hn => by
    refine (World.cell?_of_block (hg.block B (World.block_lt_of_cell? w _ ha) ?_)).trans ha
    intro e
    obtain ⟨s, hs⟩ := hr B v o e.symm ha
    exact hn s hs
  obtain ⟨⟨R, oR, cap, h1, h2⟩, h3, h4⟩ := h
  have q : ∀ {k : IntKind} {x : Int}, ∀ s, Value.int k x ≠ .string s := fun s => by intro h; cases h
  refine ⟨⟨R, oR, cap, key _ _ _ h1 (fun s => by intro h; cases h), ?_⟩, fun c hc => key _ _ _ (h3 c hc) q, fun i hi => ⟨key _ _ _ (h4 i hi).1 q, key _ _ _ (h4 i hi).2 q⟩⟩
  intro i hi
  obtain ⟨a1, a2, a3, a4, a5⟩ := h2 i hi
  exact ⟨key _ _ _ a1 q, key _ _ _ a2 q, key _ _ _ a3 q, key _ _ _ a4 q, key _ _ _ a5 q⟩

set_option maxRecDepth 100000 in
set_option maxHeartbeats 2000000 in
theorem letters_iter (k : Int) (Bk Bs : Nat) (hne : Bk ≠ Bs) (n : Nat) (hn : 1 ≤ n) :
    IterX Fence.wide n Tryz.prog 79 #[.pointer (some ⟨Bk, 0, none⟩), .pointer (some ⟨Bs, 0, none⟩)] (some Bs) (LetKeep Bk Bs) (nxLetter k) (LetStart k Bk Bs) := by
  intro l J Jx b0 W hJ hJx hY hS h0
  obtain ⟨sk, ss, st, sl⟩ := hS
  refine callsIn_of_wp Tryz.func79 rfl trivial ?_ rfl
  simp only [Tryz.ntmps79, List.size_toArray, List.length_cons, List.length_nil, Nat.reduceAdd, Nat.reduceSub, Array.replicate_succ, Array.replicate_zero, List.push_toArray, List.append_toArray, List.nil_append, List.cons_append]
  have ck : W.cell? ⟨Bk, 0, none⟩ = some (.int .i64 k) := by simp [World.cell?, sk]
  have cs : W.cell? ⟨Bs, 0, none⟩ = some (.string (bs b0)) := by simp [World.cell?, ss]
  have hz0 : (bs b0).size ≤ 1000000 := by rw [bs_len]; exact sl
  gi_wp2_with (refine ⟨trivial, ?_⟩; gi_at_call 80; refine (callsIn_wide.2 (length_any k (bs b0) _ hz0 st)).mono ?_; rintro e w' ⟨rfl, hb1⟩)
  gi_loopw [4] (fun t wr => ∃ b, t = .int .i64 (Sc.len k b) ∧ wr.heap[Bk]? = some (.cells #[.int .i64 k] 3 (0, 0)) ∧ wr.heap[Bs]? = some (.cells #[.string (bs b)] 9 (0, 0)) ∧ Tabs wr ∧ b.length ≤ 1000000 ∧ J b wr) (fun _ wr => textAt wr Bs)
  case atStart =>
    exact ⟨b0, rfl, (hb1.block Bk (Array.getElem?_eq_some_iff.1 sk).1).trans sk, (hb1.block Bs (Array.getElem?_eq_some_iff.1 ss).1).trans ss, st.below hb1, sl, hJ _ _ _ none h0 (Below.grows hb1 none) (fun r e => by cases e)⟩
  case round =>
    obtain ⟨b, rfl, rk, rs, rt, rl, hJr⟩ := hrel
    by_cases hz : Sc.len k b = 0
    · have hnx := hid (show nxLetter k b = none by unfold nxLetter; rw [if_pos hz])
      rw [hz]
      gi_wp2
      refine ⟨fun _ h => (by cases h), ?_⟩
      gi_wp2
      go_end0
      exact ⟨⟨_, rfl⟩, .inl ⟨b, hnx.out, hJr⟩⟩
    · obtain ⟨fn, tmps, assign, body, hy, hR⟩ := hY b _ _ wr (by unfold nxLetter; rw [if_neg hz]) hJr
      have hle := Sc.len_le k b
      have e1 : (bs b).extract 0 (Sc.len k b) = bs (b.take (Sc.len k b)) := by rw [extract_bs]; simp [bs]
      have e2 : (bs b).extract (Sc.len k b) (bs b).size = bs (b.drop (Sc.len k b)) := by rw [extract_bs, bs_len, List.take_of_length_le (by simp [bs])]; rfl
      obtain ⟨ck', _⟩ := cell_blk rk
      obtain ⟨cs', fs'⟩ := cell_blk rs
      obtain ⟨m, hm⟩ : ∃ m, m = Sc.len k b := ⟨_, rfl⟩
      rw [← hm] at hz hy hR hle e1 e2
      rw [← hm]
      have q1 : (0 : Int) < (m : Int) := by omega
      have q2 : (m : Int) ≤ ((bs b).size : Int) := by rw [bs_len]; omega
      have q3 : m ≤ (bs b).size := by rw [bs_len]; omega
      have HM := hid hm
      clear hm
      gi_wp2
      refine hR.mono ?_
      rintro e W3 (⟨rfl, hJ3, hk3⟩ | ⟨rfl, hJx3⟩)
      · have rk3 := hk3.k.trans rk
        have rs3 := hk3.s.trans rs
        have rt3 := hk3.tabs rt
        obtain ⟨ck3, _⟩ := cell_blk rk3
        obtain ⟨cs3, fs3⟩ := cell_blk rs3
        have hg4 := set_grown W3 Bs (.string (bs (b.drop m)))
        have rk4 := (hg4.block Bk (Array.getElem?_eq_some_iff.1 rk3).1 (by intro e; exact hne (by cases e; rfl))).trans rk3
        have rs4 := set_blk (u := .string (bs (b.drop m))) rs3
        have rt4 : Tabs (W3.setCell ⟨Bs, 0, none⟩ (.string (bs (b.drop m)))) := rt3.grown hg4 (fun B v o e hv => by
          cases e
          cases o with
          | zero => exact ⟨_, Option.some.inj (hv.symm.trans cs3)⟩
          | succ o => exfalso; simp [World.cell?, rs3] at hv)
        have hJ4 := hJ _ _ _ _ hJ3 hg4 (fun r e => e)
        have hl4 : (b.drop m).length ≤ 1000000 := by simp; omega
        have hz4 : (bs (b.drop m)).size ≤ 1000000 := by rw [bs_len]; exact hl4
        have HX := hid (length_any k (bs (b.drop m)) _ hz4 rt4)
        have R4 := hid (And.intro rk4 (And.intro rs4 (And.intro rt4 hJ4)))
        clear rk4 rs4 rt4 hJ4
        gi_wp2_with (refine ⟨trivial, ?_⟩; gi_at_call 80; refine (callsIn_wide.2 HX.out).mono ?_; rintro e W5 ⟨rfl, hb5⟩)
        go_roundw
        case rel =>
          obtain ⟨rk4, rs4, rt4, hJ4⟩ := R4.out
          exact ⟨b.drop m, rfl, (hb5.block Bk (Array.getElem?_eq_some_iff.1 rk4).1).trans rk4, (hb5.block Bs (Array.getElem?_eq_some_iff.1 rs4).1).trans rs4, rt4.below hb5, hl4, hJ _ _ _ none hJ4 (Below.grows hb5 none) (fun r e => by cases e)⟩
        case measure =>
          obtain ⟨rk4, rs4, rt4, hJ4⟩ := R4.out
          have t1 : textAt wr Bs = b.length := by unfold textAt; rw [cs']; exact bs_len b
          have t2 : textAt W5 Bs = (b.drop m).length := by
            unfold textAt
            rw [(cell_blk ((hb5.block Bs (Array.getElem?_eq_some_iff.1 rs4).1).trans rs4)).1]
            exact bs_len _
          rw [t1, t2, List.length_drop]; omega
      · gi_wp2
        go_end0
        exact ⟨⟨_, rfl⟩, .inr ⟨_, hJx3⟩⟩

end Go.Proofs.YtdchjacccmajcaaGreatDoor
