/-
  A range over a function whose iterator keeps its state in a block of its own: one law for the statement. NO PROGRAM IN THIS TEXT. Conditions: as the law says.
-/
import Derived.RangeFuncWrites
import Derived.RangeFuncCalls
import Derived.RangeFuncBound
namespace Go.Proofs.YtfkcphflcmpenaaDoor
open Go.RowKit

section
variable {F : Fence} {n : Nat} {P : Program} {β : Type}

/-- a state's word about memory that new blocks, the iterator's own block and the loop's records leave as it is -/
def Stays (B : Nat) (own : Option Nat) (I : β → World → Prop) : Prop :=
  ∀ b A A' row, I b A → A.grownBy A' row → (∀ r, row = some r → own = some r ∨ (B ≤ r ∧ ∃ o : Obj, A.heap[r]? = some o ∧ o.isCells = false)) → I b A'

/-- the same for the iterator's steps alone -/
def Bears (own : Option Nat) (J : β → World → Prop) : Prop := ∀ b A A' row, J b A → A.grownBy A' row → (∀ r, row = some r → own = some r) → J b A'

/-- an iterator: from state b it hands over values and goes on to a next state, or is at its end; 'kp': what a round must leave; 'St': where it may begin -/
def IterX (F : Fence) (n : Nat) (P : Program) (g : Nat) (lb : Array Value) (own : Option Nat) (kp : World → World → Prop) (nx : β → Option (Array Value × β)) (St : β → World → Prop) : Prop :=
  ∀ (l : Nat) (J Jx : β → World → Prop) (b0 : β) (W : World), Bears own J → Bears own Jx →
    (∀ b vals b' W1, nx b = some (vals, b') → J b W1 → YieldAt F (n - 1) P l vals W1 fun e W' => (e = .returned (.bool true) ∧ J b' W' ∧ kp W1 W') ∨ (e = .returned (.bool false) ∧ Jx b' W')) →
    St b0 W → J b0 W →
    CallsIn F n P g (#[.func (.yield l) #[] #[]] ++ lb) W fun e W' => (∃ v, e = .returned v) ∧ ((∃ b, nx b = none ∧ J b W') ∨ (∃ b, Jx b W'))

/-- how a round may end -/
def RoundOut (B : Nat) (kp : World → World → Prop) (I : β → World → Prop) (Ix : Code → β → World → Prop) (b : β) (W : World) : Exit → Act → World → Prop
  | .normal, _, W' => KeepsFrom B W W' ∧ kp W W' ∧ I b W'
  | .ret, _, W' => KeepsFrom B W W' ∧ Ix .ret b W'
  | .exit id, _, W' => KeepsFrom B W W' ∧ Ix (.exit id) b W'
  | .goto t, _, W' => KeepsFrom B W W' ∧ Ix (.goto t) b W'
  | .panic _, _, _ => False
  | .outgrown, _, _ => False

theorem Stays.record {B : Nat} {own : Option Nat} {I : β → World → Prop} (h : Stays B own I) {b : β} {W : World} {l : Nat} {o : Obj} (o' : Obj) (hs : I b W) (hB : B ≤ l) (hl : W.heap[l]? = some o) (ho : o.isCells = false) : I b (W.putObj l o') :=
  h b W _ (some l) hs (grownBy_putObj' W l o') (fun r e => .inr (by cases e; exact ⟨hB, o, hl, ho⟩))
theorem Stays.new {B : Nat} {own : Option Nat} {I : β → World → Prop} (h : Stays B own I) {b : β} {W : World} (o : Obj) (hs : I b W) : I b (W.alloc o) :=
  h b W _ none hs (World.grownBy_alloc W o none) (fun r e => by cases e)

theorem wp_iter {g : Operand} {ps : Array Tmp} {assign body : Code} {Q : Exit → Act → World → Prop} {a : Act} {w : World}
    (hro : F.round = none) (h1 : 1 ≤ n) {gf : Nat} {lb : Array Value} (hg : a.eval g = .func (.func gf) #[] lb) (hFg : F.fn gf) (eg : ∀ args w, (callFunc gf args).run P w = .ok (.enter gf args) w)
    {own : Option Nat} {kp : World → World → Prop} {nx : β → Option (Array Value × β)} {St : β → World → Prop} (hit : IterX F (n - 1) P gf lb own kp nx St) (b0 : β)
    (hown : ∀ r, own = some r → r < w.heap.size) (hst : ∀ W, Below w.heap.size w W → St b0 W) (hps : ∀ b vals b', nx b = some (vals, b') → vals.size = ps.size)
    (hkt : ∀ {A B C : World}, kp A B → kp B C → kp A C) (hkb : ∀ (W : World) (l : Nat) (o o' : Obj), w.heap.size ≤ l → W.heap[l]? = some o → o.isCells = false → kp W (W.putObj l o'))
    (I : β → World → Prop) (Ix : Code → β → World → Prop) (hI : Stays w.heap.size own I) (hIx : ∀ c, Stays w.heap.size own (Ix c)) (h0 : I b0 w)
    (hround : ∀ (l : Nat) (b : β) (vals : Array Value) (b' : β) (W : World), w.heap.size < l → (∃ o : Obj, W.heap[l]? = some o ∧ o.isCells = false) → nx b = some (vals, b') → I b W →
      assign.wpIn (F.inRound l) (n - 1 - 1) P (Exit.then (fun a₁ W2 => KeepsFrom w.heap.size W W2 ∧ kp W W2 ∧ ∀ W3, W2.grownBy W3 (some l) → body.wpIn (F.inRound l) (n - 1 - 1) P (RoundOut w.heap.size kp I Ix b' W3) a₁ W3) (fun _ _ _ => False))
        { tmps := (ps.zip vals).foldl (fun t (p, v) => t.setIfInBounds p v) a.tmps, defers := [] } W)
    (hdone : ∀ (D : Nat) (b : β) (W : World), w.heap.size ≤ D → nx b = none → I b W → W.heap[D]? = some (.deferred (some [])) → Q .normal { a with defers := { target := .collected D, args := #[] } :: a.defers } W)
    (hstop : ∀ (D : Nat) (c : Code) (b : β) (W : World), w.heap.size ≤ D → Ix c b W → W.heap[D]? = some (.deferred (some [])) → c.wpIn F n P Q { a with defers := { target := .collected D, args := #[] } :: a.defers } W) :
    (Code.rangeFunc g ps assign body).wpIn F n P Q a w := by
  refine wpIn_rangeFunc ?_
  intro fn hfn
  rw [hro]
  obtain ⟨rec, hrec⟩ : ∃ rec : LoopState → Option Code → Loop, rec = fun st pe => { state := st, pending := pe, fn, tmps := a.tmps, params := ps, assign, body, defers := w.heap.size } := ⟨_, rfl⟩
  obtain ⟨W1, hW1⟩ : ∃ W1, (w.alloc (.deferred (some []))).alloc (.loop (rec .ready none)) = W1 := ⟨_, rfl⟩
  have hL1 : W1.heap[w.heap.size + 1]? = some (.loop (rec .ready none)) := by
    rw [← hW1]; have := World.alloc_heap_new (w.alloc (.deferred (some []))) (.loop (rec .ready none)); rwa [World.size_alloc] at this
  have hK1 : W1.heap[w.heap.size]? = some (.deferred (some [])) := by
    rw [← hW1]; exact (Below.heap_alloc _ _ _ (by simp)).trans (World.alloc_heap_new w _)
  have hI1 : I b0 W1 := by rw [← hW1]; exact hI.new _ (hI.new _ h0)
  have hb1 : Below w.heap.size w W1 := by
    rw [← hW1]; exact ((Below.refl _ w).alloc (Nat.le_refl _) _).alloc (by simp) _
  refine ⟨w.heap.size + 1, [{ target := .collected w.heap.size, args := #[] }], W1, { target := .fn (.func gf) lb, args := #[.func (.yield (w.heap.size + 1)) #[] #[]] }, W1, gf,
    #[.func (.yield (w.heap.size + 1)) #[] #[]] ++ lb, W1, ?_, ?_, ?_, ?_, fun _ => h1, ?_⟩
  · rw [← hW1, hrec]; exact run_enterLoop_outer _ _ _ _ _
  · simp only [resolve, hg]
    simp [go_sem]
  · intro f' hf'; simp [Target.leads] at hf'; subst hf'; exact hFg
  · simp [invoke, go_sem, eg]
  · have hfar : ∀ {A A' : World} {row : Option Nat} {k : Nat} {o : Obj}, A.grownBy A' row → (∀ r, row = some r → own = some r) → w.heap.size ≤ k → A.heap[k]? = some o → A'.heap[k]? = some o := fun hg' hr hk ho =>
      (hg'.block _ (Array.getElem?_eq_some_iff.1 ho).1 (fun e => by have := hown _ (hr _ e.symm); omega)).trans ho
    refine (hit (w.heap.size + 1)
      (fun b W => I b W ∧ W.heap[w.heap.size + 1]? = some (.loop (rec .ready none)) ∧ W.heap[w.heap.size]? = some (.deferred (some [])))
      (fun b W => ∃ c, Ix c b W ∧ W.heap[w.heap.size + 1]? = some (.loop (rec .done (some c))) ∧ W.heap[w.heap.size]? = some (.deferred (some [])))
      b0 W1
      (fun b A A' row hs hg' hr => ⟨hI b A A' row hs.1 hg' (fun r e => .inl (hr r e)), hfar hg' hr (by omega) hs.2.1, hfar hg' hr (by omega) hs.2.2⟩)
      (fun b A A' row hs hg' hr => by
        obtain ⟨c, hc, hl, hk⟩ := hs
        exact ⟨c, hIx c b A A' row hc hg' (fun r e => .inl (hr r e)), hfar hg' hr (by omega) hl, hfar hg' hr (by omega) hk⟩)
      ?_ (hst W1 hb1) ⟨hI1, hL1, hK1⟩).mono ?_
    · rintro b vals b' W hnx ⟨hi, hl, hk⟩
      have hlt : w.heap.size + 1 < W.heap.size := (Array.getElem?_eq_some_iff.1 hl).1
      have hy := run_yield (P := P) (args := vals) hl (by rw [hrec]; exact hps b vals b' hnx)
      rw [hrec] at hy
      refine ⟨fn, _, assign, body, hy, roundIn_of_wpIn hfn (wpIn_mono (hround _ b vals b' W (by omega) ⟨_, hl, rfl⟩ hnx hi) ?_)⟩
      rintro e a1 W2 hp
      cases e with
      | normal =>
        obtain ⟨kf1, kp1, hbody⟩ := hp
        have hl2 : W2.heap[w.heap.size + 1]? = some (.loop (rec .ready none)) := kf1.same _ _ (by omega) hl rfl
        have hk2 : W2.heap[w.heap.size]? = some (.deferred (some [])) := kf1.same _ _ (Nat.le_refl _) hk rfl
        have hlt2 : w.heap.size + 1 < W2.heap.size := (Array.getElem?_eq_some_iff.1 hl2).1
        refine ⟨_, run_beginRound hl2 (by rw [hrec]), wpIn_mono (hbody _ (grownBy_putObj' _ _ _)) ?_⟩
        have hl3 : (W2.putObj (w.heap.size + 1) (.loop { rec .ready none with state := .busy })).heap[w.heap.size + 1]? = some (.loop { rec .ready none with state := .busy }) := World.putObj_heap_same hlt2
        have hk3 : (W2.putObj (w.heap.size + 1) (.loop { rec .ready none with state := .busy })).heap[w.heap.size]? = some (.deferred (some [])) := (World.putObj_heap_other (by omega)).trans hk2
        have kp2 : kp W2 (W2.putObj (w.heap.size + 1) (.loop { rec .ready none with state := .busy })) := hkb _ _ _ _ (by omega) hl2 rfl
        have fin : ∀ (jump : Option Code) (W4 : World), KeepsFrom w.heap.size (W2.putObj (w.heap.size + 1) (.loop { rec .ready none with state := .busy })) W4 →
            (Instr.endRound (w.heap.size + 1) jump).run P W4 = .ok (.bool jump.isNone) (W4.putObj (w.heap.size + 1) (.loop (rec (if jump.isNone then .ready else .done) jump))) ∧
            W4.heap[w.heap.size + 1]? = some (.loop { rec .ready none with state := .busy }) ∧
            (W4.putObj (w.heap.size + 1) (.loop (rec (if jump.isNone then .ready else .done) jump))).heap[w.heap.size + 1]? = some (.loop (rec (if jump.isNone then .ready else .done) jump)) ∧
            (W4.putObj (w.heap.size + 1) (.loop (rec (if jump.isNone then .ready else .done) jump))).heap[w.heap.size]? = some (.deferred (some [])) := fun jump W4 kf => by
          have hl4 := kf.same _ _ (by omega) hl3 rfl
          have := run_endRound (P := P) jump hl4
          rw [hrec] at this ⊢
          exact ⟨this, by rw [hrec] at hl4; exact hl4, World.putObj_heap_same (Array.getElem?_eq_some_iff.1 hl4).1, (World.putObj_heap_other (by omega)).trans (kf.same _ _ (Nat.le_refl _) hk3 rfl)⟩
        rintro e a3 W4 hp
        cases e with
        | normal =>
          obtain ⟨kf, kp3, hi4⟩ := hp
          obtain ⟨hr, hl4, hl5, hk5⟩ := fin none W4 kf
          exact ⟨_, _, hr, .inl ⟨rfl, ⟨hI.record _ hi4 (by omega) hl4 rfl, hl5, hk5⟩, hkt (hkt (hkt kp1 kp2) kp3) (hkb _ _ _ _ (by omega) hl4 rfl)⟩⟩
        | ret =>
          obtain ⟨kf, hi4⟩ := hp
          obtain ⟨hr, hl4, hl5, hk5⟩ := fin (some .ret) W4 kf
          exact ⟨_, _, hr, .inr ⟨rfl, .ret, (hIx _).record _ hi4 (by omega) hl4 rfl, hl5, hk5⟩⟩
        | exit id =>
          obtain ⟨kf, hi4⟩ := hp
          obtain ⟨hr, hl4, hl5, hk5⟩ := fin (some (.exit id)) W4 kf
          exact ⟨_, _, hr, .inr ⟨rfl, .exit id, (hIx _).record _ hi4 (by omega) hl4 rfl, hl5, hk5⟩⟩
        | goto t =>
          obtain ⟨kf, hi4⟩ := hp
          obtain ⟨hr, hl4, hl5, hk5⟩ := fin (some (.goto t)) W4 kf
          exact ⟨_, _, hr, .inr ⟨rfl, .goto t, (hIx _).record _ hi4 (by omega) hl4 rfl, hl5, hk5⟩⟩
        | panic ch => exact hp.elim
        | outgrown => exact hp.elim
      | ret => exact hp.elim
      | exit id => exact hp.elim
      | goto t => exact hp.elim
      | panic ch => exact hp.elim
      | outgrown => exact hp.elim
    · rintro e W2 ⟨⟨v, rfl⟩, (⟨b, hS, hi, hl, hk⟩ | ⟨b, c, hi, hl, hk⟩)⟩
      · exact ⟨none, _, by have := run_endLoop (P := P) hl (by rw [hrec]; simp); rw [hrec] at this; exact this, hdone _ b _ (Nat.le_refl _) hS (hI.record _ hi (by omega) hl rfl) ((World.putObj_heap_other (by omega)).trans hk)⟩
      · exact ⟨some c, _, by have := run_endLoop (P := P) hl (by rw [hrec]; simp); rw [hrec] at this; exact this, hstop _ c b _ (Nat.le_refl _) ((hIx c).record _ hi (by omega) hl rfl) ((World.putObj_heap_other (by omega)).trans hk)⟩

end
end Go.Proofs.YtfkcphflcmpenaaDoor
