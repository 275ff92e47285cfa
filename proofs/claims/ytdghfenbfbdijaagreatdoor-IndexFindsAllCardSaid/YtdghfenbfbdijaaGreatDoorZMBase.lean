/-
 Several texts in one: ZBase, ZBase2, ZBase3, ZRange, ZRound, ZHeld, ZMap, ZSlice, ZBut, ZMarks, ZAppIn, ZOpen, ZMapMore, ZMapKeys, ZBlk, ZTch, ZStillAt, ZStillT, ZTwoWay, ZFlatAt. Conditions: as each law says.
-/
import Derived.KernelRfl
import Derived.Test.YtdghfenbfbdijaaGreatDoorRows
import Derived.WalkKit
import Derived.WalkSpells
import Derived.WalkLawsBesides
import Derived.Deep.QuietTactic
import Derived.BigQuiet
import Derived.RangeFuncWrites
import Derived.RangeFuncCalls
import Derived.RangeFuncBound
import Derived.TacticsIn
import Derived.OrdersIn
import Derived.OrdersHeld
import Derived.Deep.RegionHeld
import Derived.Maps.Own
import Derived.Maps.OwnOps
import Derived.Maps.OwnSet
import Derived.RangeFuncLeaves
import Derived.OwnWalkIn
import Derived.Deep.AppendLies
import Derived.Deep.Slices
import Derived.Deep.Fields
import Derived.ChangeSame
import Derived.Carry
import Derived.ChangeMaps5
import Derived.Maps.RangeWalk
import Derived.Sort.KeysCollected
import Derived.Laws.OwnMore
namespace Go.Proofs.YtdghfenbfbdijaaGreatDoor
theorem tk1 {α : Type} {xs : List α} {i : Nat} (h : i < xs.toArray.size) : xs.toArray[i] = xs[i]'(by simpa using h) := rfl
theorem tk2 {α : Type} (a : α) (l : List α) (i : Nat) (h : i + 1 < (a :: l).length) : getElem (a :: l) (i + 1) h = getElem l i (Nat.lt_of_succ_lt_succ h) := rfl
theorem tk3 {α : Type} (a : α) (l : List α) (h : 0 < (a :: l).length) : getElem (a :: l) 0 h = a := rfl
theorem tk4 {α : Type} (l : List α) (i : Nat) (a : α) : l.toArray.setIfInBounds i a = (l.set i a).toArray := List.setIfInBounds_toArray l i a
theorem tk5 {α : Type} {x : α} {xs : List α} {a : α} : (x :: xs).set 0 a = a :: xs := rfl
theorem tk6 {α : Type} {x : α} {xs : List α} {n : Nat} {a : α} : (x :: xs).set (n + 1) a = x :: xs.set n a := rfl
open Go.RowKit
theorem exq.{u} {α : Sort u} (a : α) : ∃ x, x = a := ⟨a, rfl⟩
theorem bnew {A B : World} {o : Obj} (h : B = A.alloc o) : Below A.heap.size A B := by rw [h]; exact (Below.refl _ _).alloc (Nat.le_refl _) _
def Same (v : Value) (w : World) (e : Ending) (w' : World) : Prop := e = .returned v ∧ w' = w
def Gives (v : Value) (w : World) (e : Ending) (w' : World) : Prop := e = .returned v ∧ Below w.heap.size w w'
theorem hid {p : Prop} (h : p) : Hid p := h
theorem ret_bool {a b : Bool} (h : a = b) : Ending.returned (.bool a) = .returned (.bool b) := by rw [h]
theorem ret_nat {k : IntKind} {a b : Nat} (h : a = b) : Ending.returned (.int k (a : Int)) = .returned (.int k (b : Int)) := by rw [h]
theorem u8_beq (c d : UInt8) : ((c.toNat : Int) == (d.toNat : Int)) = (c == d) := by
 rw [Bool.eq_iff_iff]
 simp [← UInt8.toNat_inj]
 omega
theorem u8_ne {c d : UInt8} (h : c ≠ d) : ((c.toNat : Int) == (d.toNat : Int)) = false := by
 rw [u8_beq]; simpa using h
theorem u8_eq {c d : UInt8} (h : c = d) : ((c.toNat : Int) == (d.toNat : Int)) = true := by
 rw [u8_beq]; simpa using h
theorem post_cell_tmp {P : Program} {fn : Func} {R : Ending → World → Prop} {a : Act} {w : World} {p u : Tmp} {ty : TypeId} (h : fn.results = #[.cell p ty,.tmp u])
  {v x : Value} {ad : Addr} (hp : a.tmps.getD p undef = .pointer (some ad)) (hl : (loadVar ty ad).run P w = .ok v w) (hu : a.tmps.getD u undef = x) (hd : a.defers = [])
  (hR : R (.returned (.tuple #[v,x])) w) : bodyPost P fn R .ret a w := by
 refine bodyPost_ret (v := .tuple #[v,x]) ?_ hd hR
 rw [results_cell_tmp h,hp,hu]
 have e : (asAddr (.pointer (some ad))).run P w = .ok ad w := rfl
 rw [e]
 simp only [Result.andThen]
 rw [hl]
def bs (l : List UInt8) : ByteArray := ⟨l.toArray⟩
theorem bs_ext {a : ByteArray} {l : List UInt8} (h : a.data.toList = l) : a = bs l := by
 subst h; rfl
theorem bs_list (l : List UInt8) : (bs l).data.toList = l := rfl
theorem extract_list (t : ByteArray) (a b : Nat) : (t.extract a b).data.toList = (t.data.toList.drop a).take (b - a) := by
 simp [ByteArray.data_extract,Array.toList_extract,List.extract_eq_take_drop]
theorem extract_bs (t : ByteArray) (a b : Nat) : t.extract a b = bs ((t.data.toList.drop a).take (b - a)) := bs_ext (extract_list t a b)
@[go_sem] theorem setCell_drewN (w : World) (n : Nat) (a : Addr) (v : Value) : (w.drewN n).setCell a v = (w.setCell a v).drewN n := rfl
@[go_sem] theorem alloc_drewN (w : World) (n : Nat) (o : Obj) : (w.drewN n).alloc o = (w.alloc o).drewN n := rfl
end Go.Proofs.YtdghfenbfbdijaaGreatDoor
namespace Go.Proofs.YtdghfenbfbdijaaGreatDoor
open Go.RowKit
theorem Below.grows {w w' : World} (h : Below w.heap.size w w') (row : Option Nat) : w.grownBy w' row :=
 ⟨h.os,h.tape,h.output,h.size,fun k hk _ => h.block k hk⟩
theorem ownsRow_below {w w' : World} {base : Nat} {e : TypeId} {size : Nat} {v : Value} {n : Nat} {xs : List Value} (h : w.ownsRow base e size v n xs) (hb : Below w.heap.size w w') : w'.ownsRow base e size v n xs :=
 h.kept (Below.grows hb none) (by cases hv : v.ownBlock <;> simp)
theorem ownsRow_base {w : World} {base base' : Nat} {e : TypeId} {size : Nat} {v : Value} {n : Nat} {xs : List Value} (h : w.ownsRow base e size v n xs) (hb : base' ≤ base) : w.ownsRow base' e size v n xs := by
 refine ⟨h.1,?_⟩
 rcases h.2 with h2 | ⟨g,cap,cur,hv,hg,r⟩
 ·exact .inl h2
 ·exact .inr ⟨g,cap,cur,hv,Nat.le_trans hb hg,r⟩
theorem ownsRow_slice {w : World} {base : Nat} {e : TypeId} {size : Nat} {v : Value} {n : Nat} {xs : List Value} (h : w.ownsRow base e size v n xs) : ∃ a cap,v = .slice a n cap := by
 rcases h.2 with ⟨rfl,rfl⟩ | ⟨g,cap,cur,rfl,_⟩
 ·exact ⟨none,0,rfl⟩
 ·exact ⟨_,_,rfl⟩
theorem Below.appended {B : Nat} {a w w' : World} {v : Value} {e : TypeId} {size n : Nat} {xs : List Value} (h : Below B a w) (hg : w.grownBy w' v.ownBlock) (hB : B ≤ w.heap.size) (ho : w.ownsRow B e size v n xs) : Below B a w' :=
 h.grown hg hB (fun k hk => (ho.lt k hk).1)
theorem cells_new {w : World} {n : Nat} {t : TypeId} {l : List Value} (h : n = w.heap.size) : ∀ j u,l[j]? = some u → (w.alloc (.cells l.toArray t)).cell? ((⟨n,0,none⟩ : Addr).add j) = some u := by
 intro j u hu
 have hadd : (⟨n,0,none⟩ : Addr).add j = ⟨n,j,none⟩ := by unfold Addr.add; split <;> simp_all
 rw [hadd,World.cell?_alloc_at _ _ _ _ h]
 simpa using hu
theorem frozen_of_row (w : World) (g j : Nat) (cs : Array Value) (t : TypeId) (hg : w.heap[g]? = some (.cells cs t (0,0))) : w.frozen? ⟨g,j,none⟩ = false := by
 simp [World.frozen?,hg]
theorem ownsRow_lt {w : World} {base : Nat} {e : TypeId} {size : Nat} {v : Value} {n : Nat} {xs : List Value} (h : w.ownsRow base e size v n xs) {k : Nat} (hk : w.heap.size ≤ k) : some k ≠ v.ownBlock :=
 fun he => by have := (h.lt k he.symm).2; omega
end Go.Proofs.YtdghfenbfbdijaaGreatDoor
namespace Go.Proofs.YtdghfenbfbdijaaGreatDoor
open Go.RowKit
theorem Below.step {w w1 w2 : World} (h1 : Below w.heap.size w w1) (h2 : Below w1.heap.size w1 w2) : Below w.heap.size w w2 := h1.trans (h2.mono h1.size)
theorem Below.drewQ (w : World) (q : Nat) : Below w.heap.size w (w.drewN q) := by
 induction q with
 | zero => exact Below.refl _ w
 | succ q ih => exact ih.drew
end Go.Proofs.YtdghfenbfbdijaaGreatDoor
namespace Go.Proofs.YtdghfenbfbdijaaGreatDoor
open Go.RowKit
section
variable {F : Fence} {n : Nat} {P : Program} {β : Type}
def Stays (B : Nat) (own : Option Nat) (I : β → World → Prop) : Prop :=
 ∀ b A A' row,I b A → A.grownBy A' row → (∀ r,row = some r → own = some r ∨ (B ≤ r ∧ ∃ o : Obj,A.heap[r]? = some o ∧ o.isCells = false)) → I b A'
def Bears (own : Option Nat) (J : β → World → Prop) : Prop := ∀ b A A' row,J b A → A.grownBy A' row → (∀ r,row = some r → own = some r) → J b A'
def IterX (F : Fence) (n : Nat) (P : Program) (g : Nat) (lb : Array Value) (own : Option Nat) (kp : World → World → Prop) (nx : β → Option (Array Value × β)) (St : β → World → Prop) : Prop :=
 ∀ (l : Nat) (J Jx : β → World → Prop) (b0 : β) (W : World),Bears own J → Bears own Jx →
  (∀ b vals b' W1,nx b = some (vals,b') → J b W1 → YieldAt F (n - 1) P l vals W1 fun e W' => (e = .returned (.bool true) ∧ J b' W' ∧ kp W1 W') ∨ (e = .returned (.bool false) ∧ Jx b' W')) →
  St b0 W → J b0 W →
  CallsIn F n P g (#[.func (.yield l) #[] #[]] ++ lb) W fun e W' => (∃ v,e = .returned v) ∧ ((∃ b,nx b = none ∧ J b W') ∨ (∃ b,Jx b W'))
def RoundOut (B : Nat) (kp : World → World → Prop) (I : β → World → Prop) (Ix : Code → β → World → Prop) (b : β) (W : World) : Exit → Act → World → Prop
 | .normal,_,W' => KeepsFrom B W W' ∧ kp W W' ∧ I b W'
 | .ret,_,W' => KeepsFrom B W W' ∧ Ix .ret b W'
 | .exit id,_,W' => KeepsFrom B W W' ∧ Ix (.exit id) b W'
 | .goto t,_,W' => KeepsFrom B W W' ∧ Ix (.goto t) b W'
 | .panic _,_,_ => False
 | .outgrown,_,_ => False
theorem Stays.record {B : Nat} {own : Option Nat} {I : β → World → Prop} (h : Stays B own I) {b : β} {W : World} {l : Nat} {o : Obj} (o' : Obj) (hs : I b W) (hB : B ≤ l) (hl : W.heap[l]? = some o) (ho : o.isCells = false) : I b (W.putObj l o') :=
 h b W _ (some l) hs (grownBy_putObj' W l o') (fun r e => .inr (by cases e; exact ⟨hB,o,hl,ho⟩))
theorem Stays.new {B : Nat} {own : Option Nat} {I : β → World → Prop} (h : Stays B own I) {b : β} {W : World} (o : Obj) (hs : I b W) : I b (W.alloc o) :=
 h b W _ none hs (World.grownBy_alloc W o none) (fun r e => by cases e)
theorem wp_iter {g : Operand} {ps : Array Tmp} {assign body : Code} {Q : Exit → Act → World → Prop} {a : Act} {w : World}
  (hro : F.round = none) (h1 : 1 ≤ n) {gf : Nat} {lb : Array Value} (hg : a.eval g = .func (.func gf) #[] lb) (hFg : F.fn gf) (eg : ∀ args w,(callFunc gf args).run P w = .ok (.enter gf args) w)
  {own : Option Nat} {kp : World → World → Prop} {nx : β → Option (Array Value × β)} {St : β → World → Prop} (hit : IterX F (n - 1) P gf lb own kp nx St) (b0 : β)
  (hown : ∀ r,own = some r → r < w.heap.size) (hst : ∀ W,Below w.heap.size w W → St b0 W) (hps : ∀ b vals b',nx b = some (vals,b') → vals.size = ps.size)
  (hkt : ∀ {A B C : World},kp A B → kp B C → kp A C) (hkb : ∀ (W : World) (l : Nat) (o o' : Obj),w.heap.size ≤ l → W.heap[l]? = some o → o.isCells = false → kp W (W.putObj l o'))
  (I : β → World → Prop) (Ix : Code → β → World → Prop) (hI : Stays w.heap.size own I) (hIx : ∀ c,Stays w.heap.size own (Ix c)) (h0 : I b0 w)
  (hround : ∀ (l : Nat) (b : β) (vals : Array Value) (b' : β) (W : World),w.heap.size < l → (∃ o : Obj,W.heap[l]? = some o ∧ o.isCells = false) → nx b = some (vals,b') → I b W →
   assign.wpIn (F.inRound l) (n - 1 - 1) P (Exit.then (fun a₁ W2 => KeepsFrom w.heap.size W W2 ∧ kp W W2 ∧ ∀ W3,W2.grownBy W3 (some l) → body.wpIn (F.inRound l) (n - 1 - 1) P (RoundOut w.heap.size kp I Ix b' W3) a₁ W3) (fun _ _ _ => False))
    { tmps := (ps.zip vals).foldl (fun t (p,v) => t.setIfInBounds p v) a.tmps,defers := [] } W)
  (hdone : ∀ (D : Nat) (b : β) (W : World),w.heap.size ≤ D → nx b = none → I b W → W.heap[D]? = some (.deferred (some [])) → Q .normal { a with defers := { target := .collected D,args := #[] } :: a.defers } W)
  (hstop : ∀ (D : Nat) (c : Code) (b : β) (W : World),w.heap.size ≤ D → Ix c b W → W.heap[D]? = some (.deferred (some [])) → c.wpIn F n P Q { a with defers := { target := .collected D,args := #[] } :: a.defers } W) :
  (Code.rangeFunc g ps assign body).wpIn F n P Q a w := by
 refine wpIn_rangeFunc ?_
 intro fn hfn
 rw [hro]
 obtain ⟨rec,hrec⟩ : ∃ rec : LoopState → Option Code → Loop,rec = fun st pe => { state := st,pending := pe,fn,tmps := a.tmps,params := ps,assign,body,defers := w.heap.size } := ⟨_,rfl⟩
 obtain ⟨W1,hW1⟩ : ∃ W1,(w.alloc (.deferred (some []))).alloc (.loop (rec .ready none)) = W1 := ⟨_,rfl⟩
 have hL1 : W1.heap[w.heap.size + 1]? = some (.loop (rec .ready none)) := by
  rw [← hW1]; have := World.alloc_heap_new (w.alloc (.deferred (some []))) (.loop (rec .ready none)); rwa [World.size_alloc] at this
 have hK1 : W1.heap[w.heap.size]? = some (.deferred (some [])) := by
  rw [← hW1]; exact (Below.heap_alloc _ _ _ (by simp)).trans (World.alloc_heap_new w _)
 have hI1 : I b0 W1 := by rw [← hW1]; exact hI.new _ (hI.new _ h0)
 have hb1 : Below w.heap.size w W1 := by
  rw [← hW1]; exact ((Below.refl _ w).alloc (Nat.le_refl _) _).alloc (by simp) _
 refine ⟨w.heap.size + 1,[{ target := .collected w.heap.size,args := #[] }],W1,{ target := .fn (.func gf) lb,args := #[.func (.yield (w.heap.size + 1)) #[] #[]] },W1,gf,
  #[.func (.yield (w.heap.size + 1)) #[] #[]] ++ lb,W1,?_,?_,?_,?_,fun _ => h1,?_⟩
 ·rw [← hW1,hrec]; exact run_enterLoop_outer _ _ _ _ _
 ·simp only [resolve,hg]
  simp [go_sem]
 ·intro f' hf'; simp [Target.leads] at hf'; subst hf'; exact hFg
 ·simp [invoke,go_sem,eg]
 ·have hfar : ∀ {A A' : World} {row : Option Nat} {k : Nat} {o : Obj},A.grownBy A' row → (∀ r,row = some r → own = some r) → w.heap.size ≤ k → A.heap[k]? = some o → A'.heap[k]? = some o := fun hg' hr hk ho =>
   (hg'.block _ (Array.getElem?_eq_some_iff.1 ho).1 (fun e => by have := hown _ (hr _ e.symm); omega)).trans ho
  refine (hit (w.heap.size + 1)
   (fun b W => I b W ∧ W.heap[w.heap.size + 1]? = some (.loop (rec .ready none)) ∧ W.heap[w.heap.size]? = some (.deferred (some [])))
   (fun b W => ∃ c,Ix c b W ∧ W.heap[w.heap.size + 1]? = some (.loop (rec .done (some c))) ∧ W.heap[w.heap.size]? = some (.deferred (some [])))
   b0 W1
   (fun b A A' row hs hg' hr => ⟨hI b A A' row hs.1 hg' (fun r e => .inl (hr r e)),hfar hg' hr (by omega) hs.2.1,hfar hg' hr (by omega) hs.2.2⟩)
   (fun b A A' row hs hg' hr => by
    obtain ⟨c,hc,hl,hk⟩ := hs
    exact ⟨c,hIx c b A A' row hc hg' (fun r e => .inl (hr r e)),hfar hg' hr (by omega) hl,hfar hg' hr (by omega) hk⟩)
   ?_ (hst W1 hb1) ⟨hI1,hL1,hK1⟩).mono ?_
  ·rintro b vals b' W hnx ⟨hi,hl,hk⟩
   have hlt : w.heap.size + 1 < W.heap.size := (Array.getElem?_eq_some_iff.1 hl).1
   have hy := run_yield (P := P) (args := vals) hl (by rw [hrec]; exact hps b vals b' hnx)
   rw [hrec] at hy
   refine ⟨fn,_,assign,body,hy,roundIn_of_wpIn hfn (wpIn_mono (hround _ b vals b' W (by omega) ⟨_,hl,rfl⟩ hnx hi) ?_)⟩
   rintro e a1 W2 hp
   cases e with
   | normal =>
    obtain ⟨kf1,kp1,hbody⟩ := hp
    have hl2 : W2.heap[w.heap.size + 1]? = some (.loop (rec .ready none)) := kf1.same _ _ (by omega) hl rfl
    have hk2 : W2.heap[w.heap.size]? = some (.deferred (some [])) := kf1.same _ _ (Nat.le_refl _) hk rfl
    have hlt2 : w.heap.size + 1 < W2.heap.size := (Array.getElem?_eq_some_iff.1 hl2).1
    refine ⟨_,run_beginRound hl2 (by rw [hrec]),wpIn_mono (hbody _ (grownBy_putObj' _ _ _)) ?_⟩
    have hl3 : (W2.putObj (w.heap.size + 1) (.loop { rec .ready none with state := .busy })).heap[w.heap.size + 1]? = some (.loop { rec .ready none with state := .busy }) := World.putObj_heap_same hlt2
    have hk3 : (W2.putObj (w.heap.size + 1) (.loop { rec .ready none with state := .busy })).heap[w.heap.size]? = some (.deferred (some [])) := (World.putObj_heap_other (by omega)).trans hk2
    have kp2 : kp W2 (W2.putObj (w.heap.size + 1) (.loop { rec .ready none with state := .busy })) := hkb _ _ _ _ (by omega) hl2 rfl
    have fin : ∀ (jump : Option Code) (W4 : World),KeepsFrom w.heap.size (W2.putObj (w.heap.size + 1) (.loop { rec .ready none with state := .busy })) W4 →
      (Instr.endRound (w.heap.size + 1) jump).run P W4 = .ok (.bool jump.isNone) (W4.putObj (w.heap.size + 1) (.loop (rec (if jump.isNone then .ready else .done) jump))) ∧
      W4.heap[w.heap.size + 1]? = some (.loop { rec .ready none with state := .busy }) ∧
      (W4.putObj (w.heap.size + 1) (.loop (rec (if jump.isNone then .ready else .done) jump))).heap[w.heap.size + 1]? = some (.loop (rec (if jump.isNone then .ready else .done) jump)) ∧
      (W4.putObj (w.heap.size + 1) (.loop (rec (if jump.isNone then .ready else .done) jump))).heap[w.heap.size]? = some (.deferred (some [])) := fun jump W4 kf => by
     have hl4 := kf.same _ _ (by omega) hl3 rfl
     have := run_endRound (P := P) jump hl4
     rw [hrec] at this ⊢
     exact ⟨this,by rw [hrec] at hl4; exact hl4,World.putObj_heap_same (Array.getElem?_eq_some_iff.1 hl4).1,(World.putObj_heap_other (by omega)).trans (kf.same _ _ (Nat.le_refl _) hk3 rfl)⟩
    rintro e a3 W4 hp
    cases e with
    | normal =>
     obtain ⟨kf,kp3,hi4⟩ := hp
     obtain ⟨hr,hl4,hl5,hk5⟩ := fin none W4 kf
     exact ⟨_,_,hr,.inl ⟨rfl,⟨hI.record _ hi4 (by omega) hl4 rfl,hl5,hk5⟩,hkt (hkt (hkt kp1 kp2) kp3) (hkb _ _ _ _ (by omega) hl4 rfl)⟩⟩
    | ret =>
     obtain ⟨kf,hi4⟩ := hp
     obtain ⟨hr,hl4,hl5,hk5⟩ := fin (some .ret) W4 kf
     exact ⟨_,_,hr,.inr ⟨rfl,.ret,(hIx _).record _ hi4 (by omega) hl4 rfl,hl5,hk5⟩⟩
    | exit id =>
     obtain ⟨kf,hi4⟩ := hp
     obtain ⟨hr,hl4,hl5,hk5⟩ := fin (some (.exit id)) W4 kf
     exact ⟨_,_,hr,.inr ⟨rfl,.exit id,(hIx _).record _ hi4 (by omega) hl4 rfl,hl5,hk5⟩⟩
    | goto t =>
     obtain ⟨kf,hi4⟩ := hp
     obtain ⟨hr,hl4,hl5,hk5⟩ := fin (some (.goto t)) W4 kf
     exact ⟨_,_,hr,.inr ⟨rfl,.goto t,(hIx _).record _ hi4 (by omega) hl4 rfl,hl5,hk5⟩⟩
    | panic ch => exact hp.elim
    | outgrown => exact hp.elim
   | ret => exact hp.elim
   | exit id => exact hp.elim
   | goto t => exact hp.elim
   | panic ch => exact hp.elim
   | outgrown => exact hp.elim
  ·rintro e W2 ⟨⟨v,rfl⟩,(⟨b,hS,hi,hl,hk⟩ | ⟨b,c,hi,hl,hk⟩)⟩
   ·exact ⟨none,_,by have := run_endLoop (P := P) hl (by rw [hrec]; simp); rw [hrec] at this; exact this,hdone _ b _ (Nat.le_refl _) hS (hI.record _ hi (by omega) hl rfl) ((World.putObj_heap_other (by omega)).trans hk)⟩
   ·exact ⟨some c,_,by have := run_endLoop (P := P) hl (by rw [hrec]; simp); rw [hrec] at this; exact this,hstop _ c b _ (Nat.le_refl _) ((hIx c).record _ hi (by omega) hl rfl) ((World.putObj_heap_other (by omega)).trans hk)⟩
end
end Go.Proofs.YtdghfenbfbdijaaGreatDoor
namespace Go.Proofs.YtdghfenbfbdijaaGreatDoor
open Go.RowKit
section
variable {P : Program} {ops : Array Oper} {Q : Exit → Act → World → Prop} {md : Region.Mode} {S : World → Prop} {l n : Nat}
theorem op_round {o : Oper} {a : Act} {w : World} {K : Act → World → Prop} (hd : ∀ c,o.op ≠ .defer c) (h : Oper.wp P o a w K Q) : Oper.wpIn (Fence.wide.inRound l) n P o a w K Q := by
 unfold Oper.wpIn
 unfold Oper.wp at h
 refine ⟨fun _ _ => trivial,?_⟩
 rw [show (Fence.wide.inRound l).round = some l from rfl,Oper.semAt_some l _ _ hd]
 generalize (execOp a.eval o).run P w = r at h ⊢
 cases r with
 | ok x w' =>
  cases x <;> simp only [Oper.upon,Oper.uponIn] at h ⊢
  case value => exact h
  case skip => exact h
  case defer => exact h
  case enter f args => exact ⟨fun hh => (by cases hh),CallsIn.inRound l (callsIn_wide.2 h)⟩
  case row =>
   refine ⟨fun hh => (by cases hh),fun c cs _ => ?_⟩
   obtain ⟨v,w2,r,s⟩ := h c cs
   exact ⟨v,w2,r,stepsIn_wide.2 s⟩
 | halt x w' =>
  cases x <;> simp only [Oper.upon,Oper.uponIn] at h ⊢
  case panic => exact h
theorem any_round (hd : ∀ (i : Nat) (o : Oper),ops[i]? = some o → ∀ c,o.op ≠ .defer c) (hq : ¬ LetsOut Q) : ∀ (fuel : Nat) (listed : Array Bool) (a : Act) (w : World),
  wpAny P md ops Q fuel listed a w → wpAnyIn (Fence.wide.inRound l) n P md ops Q fuel listed a w
 | 0,_,_,_,h => h
 | fuel + 1,listed,a,w,h => by
  refine ⟨h.1,fun i hi => ?_⟩
  have h2 := h.2 i hi
  unfold wpOp at h2
  unfold wpOpIn
  cases ho : ops[i]? with
  | none => rw [ho] at h2; exact any_round hd hq fuel _ _ _ h2
  | some o =>
   rw [ho] at h2
   simp only at h2 ⊢
   split at h2
   ·rename_i hw
    rw [if_pos hw]
    rcases h2 with h2 | ⟨_,h2⟩
    ·exact op_round (hd i o ho) (Oper.wp_mono (fun a w => any_round hd hq fuel _ a w) h2)
    ·exact absurd h2 hq
   ·rename_i hw
    rw [if_neg hw]
    exact ⟨fun _ _ => trivial,any_round hd hq fuel _ _ _ h2⟩
def noDefer (ops : Array Oper) : Bool := ops.all fun o => match o.op with | .defer _ => false | _ => true
theorem noDefer_spec (h : noDefer ops = true) : ∀ (i : Nat) (o : Oper),ops[i]? = some o → ∀ c,o.op ≠ .defer c := by
 intro i o ho c hc
 unfold noDefer at h
 rw [Array.all_eq_true] at h
 obtain ⟨hi,he⟩ := Array.getElem?_eq_some_iff.1 ho
 have := h i hi
 rw [he,hc] at this
 cases this
end
end Go.Proofs.YtdghfenbfbdijaaGreatDoor
namespace Go.Proofs.YtdghfenbfbdijaaGreatDoor
open Go.RowKit
section
variable {P : Program} {ops : Array Oper} {Q : Exit → Act → World → Prop} {md : Region.Mode} {S : Array Bool → World → Prop} {l n : Nat}
def Closed (md : Region.Mode) (ops : Array Oper) (listed : Array Bool) : Prop :=
 ∀ (j : Nat) (oj : Oper),ops[j]? = some oj → listed.getD j false = true → ∀ e ∈ oj.after,Region.binds md e = true → listed.getD e.on false = true
def wpAnyS (P : Program) (md : Region.Mode) (ops : Array Oper) (Q : Exit → Act → World → Prop) (S : Array Bool → World → Prop) : Nat → Array Bool → Act → World → Prop
 | 0,listed,a,w => Region.ready md ops listed = [] ∧ Q .normal a w
 | fuel + 1,listed,a,w =>
  (Region.ready md ops listed = [] → Q .normal a w) ∧
  ∀ i ∈ Region.ready md ops listed,wpOp P ops Q i (fun a' w' => S (listed.setIfInBounds i true) w' ∧ wpAnyS P md ops Q S fuel (listed.setIfInBounds i true) a' w') a w
theorem any_of_S : ∀ (fuel : Nat) (listed : Array Bool) (a : Act) (w : World),wpAnyS P md ops Q S fuel listed a w → wpAny P md ops Q fuel listed a w
 | 0,_,_,_,h => h
 | fuel + 1,_,_,_,h => ⟨h.1,fun i hi => wpOp_mono (fun a' w' h' => any_of_S fuel _ a' w' h'.2) (h.2 i hi)⟩
theorem closed_none (k : Nat) : Closed md ops (Array.replicate k false) := by
 intro j oj _ h
 rw [Array.getD_eq_getD_getElem?,Array.getElem?_replicate] at h
 split at h <;> simp at h
theorem closed_step {listed : Array Bool} {j : Nat} (hc : Closed md ops listed) (hj : j ∈ Region.ready md ops listed) : Closed md ops (listed.setIfInBounds j true) := by
 have up : ∀ k,listed.getD k false = true → (listed.setIfInBounds j true).getD k false = true := by
  intro k hk
  rw [Array.getD_eq_getD_getElem?] at hk ⊢
  rw [Array.getElem?_setIfInBounds]
  split
  ·split
   ·rfl
   ·rename_i h1 h2; subst h1; rw [Array.getElem?_eq_none (by omega)] at hk; cases hk
  ·exact hk
 intro k ok hk hlk e he hb
 by_cases hkj : k = j
 ·subst hkj
  obtain ⟨_,oj,hoj,hall⟩ := mem_ready.1 hj
  rw [hk] at hoj; cases hoj
  exact up _ (hall e he hb)
 ·refine up _ (hc k ok hk ?_ e he hb)
  rw [Array.getD_eq_getD_getElem?] at hlk ⊢
  rw [Array.getElem?_setIfInBounds,if_neg (Ne.symm hkj)] at hlk
  exact hlk
def AtS (md : Region.Mode) (ops : Array Oper) (S : Array Bool → World → Prop) (i : Nat) (w : World) : Prop := ∃ listed,Closed md ops listed ∧ listed.getD i true = false ∧ S listed w
theorem wpAnyS_first {i : Nat} {oi : Oper} {v : Value} (hi : ops[i]? = some oi) (hsel : ∀ (j : Nat) (o : Oper) cs b,ops[j]? = some o → o.op ≠ .select cs b)
  (hQ : ∀ c a w,Q (.panic c) (a.put oi.dst v) w → Q (.panic c) a w) (hSi : ∀ listed w,S (listed.setIfInBounds i true) w ↔ S listed w) :
  ∀ (fuel : Nat) (listed : Array Bool) (a : Act) (w : World),Closed md ops listed →
   (∀ j oj,ops[j]? = some oj → j ≠ i → listed.getD j true = false → (∀ e ∈ oj.after,Region.binds md e = true → e.on ≠ i) → oi.apart ops oj = true) →
   i ∈ Region.ready md ops listed → YieldsIf P ops (AtS md ops S i) oi v a → S listed w →
   wpAnyS P md ops Q S fuel (listed.setIfInBounds i true) (a.put oi.dst v) w → wpAnyS P md ops Q S (fuel + 1) listed a w := by
 intro fuel
 induction fuel with
 | zero =>
  intro listed a w hc _ hr hy hS H
  refine ⟨fun h => (by rw [h] at hr; cases hr),fun j hj => ?_⟩
  by_cases hji : j = i
  ·subst hji; exact hy.wpOp hi ⟨listed,hc,(mem_ready.1 hr).1,hS⟩ ⟨(hSi _ _).2 hS,H⟩
  ·have := ready_mono hj hji
   rw [H.1] at this
   cases this
 | succ fuel ih =>
  intro listed a w hc hfree hr hy hS H
  refine ⟨fun h => (by rw [h] at hr; cases hr),fun j hj => ?_⟩
  by_cases hji : j = i
  ·subst hji; exact hy.wpOp hi ⟨listed,hc,(mem_ready.1 hr).1,hS⟩ ⟨(hSi _ _).2 hS,H⟩
  ·have h1 := H.2 j (ready_mono hj hji)
   obtain ⟨hjun,oj,hoj,hall⟩ := mem_ready.1 hj
   have hnot : ∀ e ∈ oj.after,Region.binds md e = true → e.on ≠ i := fun e he hb heq => by
    have h1 := hall e he hb
    have h0 := (mem_ready.1 hr).1
    rw [heq] at h1
    rcases Nat.lt_or_ge i listed.size with h' | h'
    ·simp [h'] at h0 h1; rw [h0] at h1; cases h1
    ·simp [Array.getElem?_eq_none h'] at h1
   have h2 := wpOp_putIf hoj (hfree j oj hoj hji hjun hnot) (fun cs b => hsel i oi cs b hi) (fun cs b => hsel j oj cs b hoj) hQ hy h1
   have hfree' : ∀ k ok,ops[k]? = some ok → k ≠ i → (listed.setIfInBounds j true).getD k true = false →
     (∀ e ∈ ok.after,Region.binds md e = true → e.on ≠ i) → oi.apart ops ok = true := fun k ok hk hki hun hno => by
    refine hfree k ok hk hki ?_ hno
    by_cases hjk : j = k
    ·subst hjk; exact hjun
    ·rw [getD_set_ne true hjk] at hun; exact hun
   refine wpOp_mono (fun a' w' h3 => ?_) h2
   have e : S (listed.setIfInBounds j true) w' := (hSi _ _).1 (by rw [Array.setIfInBounds_comm _ _ hji]; exact h3.2.1)
   refine ⟨e,ih (listed.setIfInBounds j true) a' w' (closed_step hc hj) hfree' (ready_mono hr (Ne.symm hji)) h3.1 e ?_⟩
   rw [Array.setIfInBounds_comm _ _ hji]
   exact h3.2.2
theorem wpAnyS_take {i : Nat} {oi : Oper} {v : Value} {fuel : Nat} {listed : Array Bool} {a : Act} {w : World} (hi : ops[i]? = some oi)
  (hs : Region.noSelect ops = true) (hf : Region.free md ops listed i = true) (hr : (Region.ready md ops listed).contains i = true)
  (hQ : ∀ c a w,Q (.panic c) (a.put oi.dst v) w → Q (.panic c) a w) (hSi : ∀ listed w,S (listed.setIfInBounds i true) w ↔ S listed w) (hc : Closed md ops listed)
  (hw : Region.wanted oi (yielded ops a.tmps) = true) (hy : ∀ w,AtS md ops S i w → (execOp a.eval oi).run P w = .ok (.value v) w) (hS : S listed w)
  (h : Closed md ops (listed.setIfInBounds i true) → S (listed.setIfInBounds i true) w → wpAnyS P md ops Q S fuel (listed.setIfInBounds i true) (a.put oi.dst v) w) : wpAnyS P md ops Q S (fuel + 1) listed a w :=
 wpAnyS_first hi (Region.noSelect_spec hs) hQ hSi fuel listed a w hc (Region.free_spec hi hf) (by simpa using hr) (.inl ⟨hw,hy⟩) hS (h (closed_step hc (by simpa using hr)) ((hSi _ _).2 hS))
theorem tkI {i : Nat} {oi : Oper} {v : Value} {fuel : Nat} {listed : Array Bool} {a : Act} {w : World} (hi : ops[i]? = some oi) (hc : Closed md ops listed) (hy : ∀ w, AtS md ops S i w → (execOp a.eval oi).run P w = .ok (.value v) w) (hS : S listed w)
  (h : Closed md ops (listed.setIfInBounds i true) → S (listed.setIfInBounds i true) w → wpAnyS P md ops Q S fuel (listed.setIfInBounds i true) (a.put oi.dst v) w) (hs : Region.noSelect ops = true := by kernel_rfl) (hf : Region.free md ops listed i = true := by kernel_rfl)
  (hr : (Region.ready md ops listed).contains i = true := by kernel_rfl) (hQ : ∀ c a w, Q (.panic c) (a.put oi.dst v) w → Q (.panic c) a w := by exact fun _ _ _ h => h) (hSi : ∀ listed w, S (listed.setIfInBounds i true) w ↔ S listed w := by exact fun _ _ => Iff.rfl)
  (hw : Region.wanted oi (yielded ops a.tmps) = true := by first | rfl | simp [Region.wanted]) : wpAnyS P md ops Q S (fuel + 1) listed a w := wpAnyS_take hi hs hf hr hQ hSi hc hw hy hS h
theorem wpAnyS_one {fuel : Nat} {listed : Array Bool} {a : Act} {w : World} {i : Nat} {o : Oper} (ho : ops[i]? = some o) (hr : Region.ready md ops listed = [i]) (hw : Region.wanted o (yielded ops a.tmps) = true)
  (hc : Closed md ops listed)
  (h : ∀ K' : Act → World → Prop,Shut (∀ a w,S (listed.setIfInBounds i true) w → (Closed md ops (listed.setIfInBounds i true) → wpAnyS P md ops Q S fuel (listed.setIfInBounds i true) a w) → K' a w) → Oper.wp P o a w K' Q) : wpAnyS P md ops Q S (fuel + 1) listed a w := by
 refine ⟨fun h0 => (by rw [hr] at h0; cases h0),fun j hj => ?_⟩
 rw [hr] at hj
 obtain rfl : j = i := by simpa using hj
 refine wpOp_step ho (fun K' hK => ?_)
 rw [if_pos hw]
 exact h K' (fun a w hS hW => hK a w ⟨hS,hW (closed_step hc (by rw [hr]; simp))⟩)
theorem onI {fuel : Nat} {listed : Array Bool} {a : Act} {w : World} {i : Nat} {o : Oper} (ho : ops[i]? = some o) (hc : Closed md ops listed)
  (h : ∀ K' : Act → World → Prop, Shut (∀ a w, S (listed.setIfInBounds i true) w → (Closed md ops (listed.setIfInBounds i true) → wpAnyS P md ops Q S fuel (listed.setIfInBounds i true) a w) → K' a w) → Oper.wp P o a w K' Q) (hr : Region.ready md ops listed = [i] := by kernel_rfl)
  (hw : Region.wanted o (yielded ops a.tmps) = true := by rfl) : wpAnyS P md ops Q S (fuel + 1) listed a w := wpAnyS_one ho hr hw hc h
theorem wpAnyS_law {fuel : Nat} {listed : Array Bool} {a : Act} {w : World} {i : Nat} {o : Oper} (ho : ops[i]? = some o) (hr : Region.ready md ops listed = [i]) (hc : Closed md ops listed)
  (h : ∀ K' : Act → World → Prop,Shut (∀ a w,S (listed.setIfInBounds i true) w → (Closed md ops (listed.setIfInBounds i true) → wpAnyS P md ops Q S fuel (listed.setIfInBounds i true) a w) → K' a w) → if Region.wanted o (yielded ops a.tmps) = true then Oper.wp P o a w K' Q else K' (a.put o.dst undef) w) :
  wpAnyS P md ops Q S (fuel + 1) listed a w := by
 refine ⟨fun h0 => (by rw [hr] at h0; cases h0),fun j hj => ?_⟩
 rw [hr] at hj
 obtain rfl : j = i := by simpa using hj
 exact wpOp_step ho (fun K' hK => h K' (fun a w hS hW => hK a w ⟨hS,hW (closed_step hc (by rw [hr]; simp))⟩))
theorem wpAnyS_done {listed : Array Bool} {a : Act} {w : World} (hr : Region.ready md ops listed = []) (h : Q .normal a w) : ∀ fuel,wpAnyS P md ops Q S fuel listed a w
 | 0 => ⟨hr,h⟩
 | _ + 1 => ⟨fun _ => h,by rw [hr]; simp⟩
theorem round_heldS {id : Nat} {a : Act} {w : World} (hm : P.follows .mixedOrders = true) (hd : noDefer ops = true) (hq : ¬ LetsOut Q)
  (h : Closed .any ops (Array.replicate ops.size false) → wpAnyS P .any ops Q S ops.size (Array.replicate ops.size false) a w.drew) : (Code.region id ops true).wpIn (Fence.wide.inRound l) n P Q a w :=
 wpIn_region_any hm (any_round (noDefer_spec hd) hq _ _ _ _ (any_of_S _ _ _ _ (h (closed_none _))))
theorem wp_heldS {id : Nat} {a : Act} {w : World} (hm : P.follows .mixedOrders = true)
  (h : Closed .any ops (Array.replicate ops.size false) → wpAnyS P .any ops Q S ops.size (Array.replicate ops.size false) a w.drew) : (Code.region id ops true).wp P Q a w :=
 wp_region_any hm (any_of_S _ _ _ _ (h (closed_none _)))
def needs (md : Region.Mode) (ops : Array Oper) (j i : Nat) : Bool := ((ops[j]?).map fun o => o.after.any fun e => Region.binds md e && e.on == i).getD false
theorem closed_needs {listed : Array Bool} {j i : Nat} (hc : Closed md ops listed) (h : needs md ops j i = true) (hj : listed.getD j false = true) : listed.getD i false = true := by
 unfold needs at h
 cases ho : ops[j]? with
 | none => rw [ho] at h; cases h
 | some o =>
  rw [ho] at h
  simp only [Option.map_some,Option.getD_some,Array.any_eq_true,Bool.and_eq_true,beq_iff_eq] at h
  obtain ⟨k,hk,hb,hon⟩ := h
  have := hc j o ho hj o.after[k] (Array.getElem_mem hk) hb
  rwa [hon] at this
theorem unlisted {listed : Array Bool} {i : Nat} (h : listed.getD i true = false) : listed.getD i false = false := by
 rw [Array.getD_eq_getD_getElem?] at h ⊢
 cases hl : listed[i]? with
 | none => rw [hl] at h; cases h
 | some b => rw [hl] at h; exact h
theorem flag_set (listed : Array Bool) {i k : Nat} (h : i ≠ k) : (listed.setIfInBounds i true).getD k false = listed.getD k false := by
 rw [Array.getD_eq_getD_getElem?,Array.getD_eq_getD_getElem?,Array.getElem?_setIfInBounds_ne h]
def TwoS (i j : Nat) (p q : World → Prop) (listed : Array Bool) (w : World) : Prop := (listed.getD i false = true ∨ p w) ∧ (listed.getD j false = true ∨ q w)
theorem TwoS.set_ {i j k : Nat} {p q : World → Prop} (h1 : k ≠ i) (h2 : k ≠ j) (listed : Array Bool) (w : World) : TwoS i j p q (listed.setIfInBounds k true) w ↔ TwoS i j p q listed w := by
 unfold TwoS; rw [flag_set _ h1,flag_set _ h2]
theorem AtS.left {i j k : Nat} {p q : World → Prop} {w : World} (h : AtS md ops (TwoS i j p q) k w) (hn : needs md ops i k = true) : p w := by
 obtain ⟨listed,hc,hu,h1,_⟩ := h
 rcases h1 with h1 | h1
 ·have := closed_needs hc hn h1
  rw [unlisted hu] at this; cases this
 ·exact h1
theorem AtS.right {i j k : Nat} {p q : World → Prop} {w : World} (h : AtS md ops (TwoS i j p q) k w) (hn : needs md ops j k = true) : q w := by
 obtain ⟨listed,hc,hu,_,h1⟩ := h
 rcases h1 with h1 | h1
 ·have := closed_needs hc hn h1
  rw [unlisted hu] at this; cases this
 ·exact h1
end
end Go.Proofs.YtdghfenbfbdijaaGreatDoor
namespace Go.Proofs.YtdghfenbfbdijaaGreatDoor
open Go.RowKit Go.Maps
def readV (v : Value) : Option (DataW Value × List MemPlace) := some (.held v,[])
def lookD (D : DataW Value) (kl : Lit) : Option Value := match D.atKey kl .nil with | .held v => some v | _ => none
def MapF (w : World) (P : Program) (k : TypeId) (b n : Nat) (f : Value → Option Value) : Prop :=
 ∃ D : DataW Value,w.ownsMap P k readV b n D ∧ ∀ x kl,keyOf P k x = some kl → f x = lookD D kl
section
variable {w : World} {P : Program} {k : TypeId} {b n : Nat} {f : Value → Option Value}
theorem MapF.made (w : World) (P : Program) (k : TypeId) : MapF (w.alloc (.map #[] 0)) P k w.heap.size 0 (fun _ => none) :=
 ⟨.map [],World.ownsMap_made _ _ _ _,fun _ _ _ => rfl⟩
theorem MapF.kept {w' : World} {row : Option Nat} (h : MapF w P k b n f) (hg : w.grownBy w' row) (hne : some b ≠ row) : MapF w' P k b n f := by
 obtain ⟨D,h1,h2⟩ := h
 exact ⟨D,h1.kept hg hne,h2⟩
theorem MapF.lt (h : MapF w P k b n f) : b < w.heap.size := by
 obtain ⟨D,h1,_⟩ := h
 exact h1.lt
theorem MapF.below {w' : World} (h : MapF w P k b n f) (hb : Below w.heap.size w w') : MapF w' P k b n f := h.kept (Below.grows hb none) (by simp)
theorem MapF.mono {n' : Nat} (h : MapF w P k b n f) (hn : n ≤ n') : MapF w P k b n' f := by
 obtain ⟨D,h1,h2⟩ := h
 exact ⟨D,h1.mono hn,h2⟩
theorem MapF.congr {f' : Value → Option Value} (h : MapF w P k b n f) (hf : ∀ x kl,keyOf P k x = some kl → f' x = f x) : MapF w P k b n f' := by
 obtain ⟨D,h1,h2⟩ := h
 exact ⟨D,h1,fun x kl hk => (hf x kl hk).trans (h2 x kl hk)⟩
theorem read_held {D : DataW Value} {kl : Lit} {z v : Value} {ps : List MemPlace} (hD : IsMap D) (h : readV v = some (D.atKey kl (.held z),ps)) : v = (lookD D kl).getD z := by
 obtain ⟨es,rfl⟩ := hD
 unfold readV at h
 simp only [Option.some.injEq,Prod.mk.injEq] at h
 obtain ⟨h1,_⟩ := h
 unfold lookD
 unfold DataW.atKey at h1 ⊢
 simp only at h1 ⊢
 cases hf : es.find? (fun p => p.1.sameKey kl) with
 | none => rw [hf] at h1; simp only at h1 ⊢; cases h1; rfl
 | some p =>
  rw [hf] at h1
  simp only at h1 ⊢
  rw [← h1]
  rfl
theorem MapF.get {t e : TypeId} (h : MapF w P k b n f) (K : Keyed P k) (ht : P.underlying t = some (.map k e)) {z : Value} (hz : (zeroValue e).run P w = .ok z w) {x : Value} {kl : Lit} (hk : keyOf P k x = some kl) :
  (Instr.lookup t (.map (some b)) x false).run P w = .ok ((f x).getD z) w := by
 obtain ⟨D,h1,h2⟩ := h
 obtain ⟨v,ps,hr,hv⟩ := h1.lookup K ht hz (zd := .held z) (zp := []) rfl hk
 rw [hr,h2 x kl hk,read_held h1.isMap hv]
theorem has_look {D : DataW Value} {kl : Lit} {v : Value} {ps : List MemPlace} {z : Value} (hD : IsMap D) (hv : readV v = some (D.atKey kl (.held z),ps)) : Maps.has D kl = (lookD D kl).isSome := by
 obtain ⟨es,rfl⟩ := hD
 unfold readV at hv
 simp only [Option.some.injEq,Prod.mk.injEq] at hv
 obtain ⟨h1,_⟩ := hv
 unfold lookD Maps.has
 unfold DataW.atKey at h1 ⊢
 simp only at h1 ⊢
 cases hf : es.find? (fun p => p.1.sameKey kl) with
 | none =>
  have : es.any (fun p => p.1.sameKey kl) = false := by
   rw [Bool.eq_false_iff]; intro h
   rw [List.any_eq_true] at h
   obtain ⟨p,hp,hs⟩ := h
   exact absurd hs (by simpa using List.find?_eq_none.1 hf p hp)
  rw [this]; rfl
 | some p =>
  rw [hf] at h1
  simp only at h1 ⊢
  have : es.any (fun p => p.1.sameKey kl) = true := by
   rw [List.any_eq_true]
   have h5 := List.find?_some hf
   exact ⟨p,List.mem_of_find?_eq_some hf,h5⟩
  rw [this,← h1]; rfl
theorem MapF.getOk {t e : TypeId} (h : MapF w P k b n f) (K : Keyed P k) (ht : P.underlying t = some (.map k e)) {z : Value} (hz : (zeroValue e).run P w = .ok z w) {x : Value} {kl : Lit} (hk : keyOf P k x = some kl) :
  (Instr.lookup t (.map (some b)) x true).run P w = .ok (.tuple #[(f x).getD z,.bool (f x).isSome]) w := by
 obtain ⟨D,h1,h2⟩ := h
 obtain ⟨v,ps,hr,hv⟩ := h1.look_ok K ht hz (zd := .held z) (zp := []) rfl hk
 rw [hr,h2 x kl hk,← read_held h1.isMap hv,has_look h1.isMap hv]
theorem MapF.put {t e : TypeId} (h : MapF w P k b n f) (K : Keyed P k) (ht : P.underlying t = some (.map k e)) (hn : n < maxLen) {x v : Value} {kl : Lit} (hk : keyOf P k x = some kl) {f' : Value → Option Value} (h1 : f' x = some v) (h2 : ∀ y,y ≠ x → f' y = f y) :
  ∃ w',(Instr.mapUpdate t (.map (some b)) x v).run P w = .ok () w' ∧ MapF w' P k b (n + 1) f' ∧ w.grownBy w' (some b) := by
 obtain ⟨D,g1,g2⟩ := h
 obtain ⟨w',hr,ho,hg⟩ := g1.update K ht hn hk (d := .held v) (ps := []) rfl
 refine ⟨w',hr,⟨_,ho,fun y ky hy => ?_⟩,hg⟩
 by_cases hyx : y = x
 ·subst hyx
  rw [hk] at hy; cases hy
  rw [h1]
  unfold lookD
  rw [atKey_put_same g1.isMap (K.key hk)]
 ·have hne : ky ≠ kl := fun e => by subst e; exact hyx (K.inj hy hk)
  rw [h2 y hyx,g2 y ky hy]
  unfold lookD
  rw [atKey_put_other hne]
theorem MapF.le (_h : MapF w P k b n f) : True := trivial
variable {ops : Array Oper} {rest : List Oper} {o : Oper} {a : Act} {Q : Exit → Act → World → Prop}
theorem wpList_put (w : World) (hg : o.guard = none) (m x v : Operand) (t e : TypeId) (hop : o.op = Op.mapUpdate t m x v) (K : Keyed P k) (ht : P.underlying t = some (.map k e))
  (hm : a.eval m = .map (some b)) (h : MapF w P k b n f) (hn : n < maxLen) (key val : Value) (kl : Lit) (hx : a.eval x = key) (hv : a.eval v = val) (hk : keyOf P k key = some kl)
  (f' : Value → Option Value) (h1 : f' key = some val) (h2 : ∀ y,y ≠ key → f' y = f y)
  (hK : ∀ w',MapF w' P k b (n + 1) f' → w.grownBy w' (some b) → wpList P ops Q rest (a.put o.dst undef) w') : wpList P ops Q (o :: rest) a w := by
 refine wpList_plain hg fun K' hK' => ?_
 obtain ⟨w',hr,r1,r2⟩ := h.put K ht hn hk h1 h2
 unfold Oper.wp
 simp [execOp,hop,hm,hx,hv,hr,Result.andThen]
 exact hK' _ _ (hK w' r1 r2)
end
end Go.Proofs.YtdghfenbfbdijaaGreatDoor
namespace Go.Proofs.YtdghfenbfbdijaaGreatDoor
open Go.RowKit
section
variable {α : Type} {w w' : World} {g o sz : Nat} {cells : α → List Value} {l : List α} {v : Value}
def RowOf (w : World) (g o sz : Nat) (cells : α → List Value) (l : List α) : Prop :=
 g < w.heap.size ∧ ∀ (i : Nat) (x : α),l[i]? = some x → ∀ (j : Nat) (v : Value),(cells x)[j]? = some v → w.cell? ⟨g,o + i * sz + j,none⟩ = some v
def SlOf (w : World) (v : Value) (sz : Nat) (cells : α → List Value) (l : List α) : Prop :=
 ∃ a cap,v = .slice a l.length cap ∧ l.length ≤ cap ∧ cap ≤ maxLen ∧ (0 < l.length → ∃ g o,a = some ⟨g,o,none⟩ ∧ RowOf w g o sz cells l)
theorem RowOf.below (h : RowOf w g o sz cells l) (hb : Below w.heap.size w w') : RowOf w' g o sz cells l :=
 ⟨Nat.lt_of_lt_of_le h.1 hb.size,fun i x hx j v hv => (hb.cell (p := ⟨g,o + i * sz + j,none⟩) h.1).trans (h.2 i x hx j v hv)⟩
theorem SlOf.below (h : SlOf w v sz cells l) (hb : Below w.heap.size w w') : SlOf w' v sz cells l := by
 obtain ⟨a,cap,h1,h2,h3,h4⟩ := h
 refine ⟨a,cap,h1,h2,h3,fun hl => ?_⟩
 obtain ⟨g,o,ha,hr⟩ := h4 hl
 exact ⟨g,o,ha,hr.below hb⟩
theorem SlOf.nil (w : World) (sz : Nat) (cells : α → List Value) : SlOf w (.slice none 0 0) sz cells [] := ⟨none,0,rfl,by simp,by unfold maxLen; omega,fun h => by simp at h⟩
theorem SlOf.own {B : Nat} {e : TypeId} (h : w.ownsRow B e sz v l.length (l.flatMap cells)) (hc : ∀ x ∈ l,(cells x).length = sz) : SlOf w v sz cells l := by
 rcases h.2 with ⟨rfl,hz⟩ | ⟨g,cap,cur,rfl,hg,hh,hn,hcap,hs,ht⟩
 ·exact ⟨none,0,by rw [hz],by omega,by unfold maxLen; omega,fun hl => by omega⟩
 ·refine ⟨_,cap,rfl,hn,hcap,fun _ => ⟨g,0,rfl,(Array.getElem?_eq_some_iff.1 hh).1,fun i x hx j u hu => ?_⟩⟩
  have hfl : ∀ (l : List α) (i : Nat) (x : α),(∀ x ∈ l,(cells x).length = sz) → l[i]? = some x → ∀ j u,(cells x)[j]? = some u → (l.flatMap cells)[i * sz + j]? = some u := by
   intro l
   induction l with
   | nil => intro i x _ hx; simp at hx
   | cons y l ih =>
    intro i x hc hx j u hu
    rw [List.flatMap_cons]
    cases i with
    | zero =>
     simp at hx; subst hx
     have hj := (List.getElem?_eq_some_iff.1 hu).1
     rw [Nat.zero_mul,Nat.zero_add,List.getElem?_append_left hj]; exact hu
    | succ i =>
     have hy := hc y List.mem_cons_self
     rw [List.getElem?_append_right (by rw [hy,Nat.succ_mul]; omega),hy,show (i + 1) * sz + j - sz = i * sz + j by rw [Nat.succ_mul]; omega]
     exact ih i x (fun z hz => hc z (List.mem_cons_of_mem _ hz)) (by simpa using hx) j u hu
  have h2 := hfl l i x hc hx j u hu
  have hlt := (List.getElem?_eq_some_iff.1 h2).1
  have hlen : i * sz + j < (l.flatMap cells).length := hlt
  rw [Nat.zero_add]
  have := h.cells (g := g) rfl (i * sz + j) u h2
  simpa [Addr.add] using (by
   have hadd : (⟨g,0,none⟩ : Addr).add (i * sz + j) = ⟨g,i * sz + j,none⟩ := by unfold Addr.add; split <;> simp_all
   rw [hadd] at this; exact this)
end
end Go.Proofs.YtdghfenbfbdijaaGreatDoor
namespace Go.Proofs.YtdghfenbfbdijaaGreatDoor
open Go.RowKit
structure But (n m : Nat) (w w' : World) : Prop where
 os : w'.os = w.os
 tape : w'.tape = w.tape
 output : w'.output = w.output
 size : w.heap.size ≤ w'.heap.size
 block : ∀ k,k < n → k ≠ m → w'.heap[k]? = w.heap[k]?
section
variable {n m : Nat} {w w1 w' : World}
theorem But.of_below (h : Below n w w') (m : Nat) : But n m w w' := ⟨h.os,h.tape,h.output,h.size,fun k hk _ => h.block k hk⟩
theorem But.of_grown {row : Option Nat} (h : w.grownBy w' row) (hr : ∀ r,row = some r → r = m) : But w.heap.size m w w' :=
 ⟨h.os,h.tape,h.output,h.size,fun k hk hne => h.block k hk (fun e => hne (hr k e.symm))⟩
theorem But.refl (n m : Nat) (w : World) : But n m w w := ⟨rfl,rfl,rfl,Nat.le_refl _,fun _ _ _ => rfl⟩
theorem But.trans (h : But n m w w1) (g : But n m w1 w') : But n m w w' :=
 ⟨g.os.trans h.os,g.tape.trans h.tape,g.output.trans h.output,Nat.le_trans h.size g.size,fun k hk hne => (g.block k hk hne).trans (h.block k hk hne)⟩
theorem But.mono {n' : Nat} (h : But n m w w') (hn : n' ≤ n) : But n' m w w' := ⟨h.os,h.tape,h.output,h.size,fun k hk hne => h.block k (Nat.lt_of_lt_of_le hk hn) hne⟩
theorem But.below (h : But n m w w') {n' : Nat} (hn : n' ≤ n) (hm : n' ≤ m) : Below n' w w' := ⟨h.os,h.tape,h.output,h.size,fun k hk => h.block k (Nat.lt_of_lt_of_le hk hn) (by omega)⟩
theorem But.step (h : But w.heap.size m w w1) (g : But w1.heap.size m w1 w') : But w.heap.size m w w' := h.trans (g.mono h.size)
theorem But.cell (h : But n m w w') {p : Addr} (hp : p.block < n) (hne : p.block ≠ m) : w'.cell? p = w.cell? p := World.cell?_of_block (h.block p.block hp hne)
theorem But.cells (h : But w.heap.size m w w') {q : Nat} {o om : Obj} (hm : w.heap[m]? = some om) (hmc : om.isCells = false) (hq : w.heap[q]? = some o) (hc : o.isCells = true) : w'.heap[q]? = some o :=
 (h.block q (Array.getElem?_eq_some_iff.1 hq).1 (fun e => by subst e; rw [hm] at hq; cases hq; rw [hmc] at hc; cases hc)).trans hq
theorem cell_isCells {w : World} {p : Addr} {v : Value} (h : w.cell? p = some v) : ∃ o,w.heap[p.block]? = some o ∧ o.isCells = true := by
 unfold World.cell? at h
 cases ho : w.heap[p.block]? with
 | none => rw [ho] at h; cases h
 | some o =>
  rw [ho] at h
  refine ⟨o,rfl,?_⟩
  cases o with
  | cells a b c => rfl
  | _ => cases h
variable {α : Type} {g o sz : Nat} {cells : α → List Value} {l : List α} {v : Value}
theorem RowOf.but (h : RowOf w g o sz cells l) (hb : But w.heap.size m w w') {om : Obj} (hm : w.heap[m]? = some om) (hmc : om.isCells = false) : RowOf w' g o sz cells l := by
 refine ⟨Nat.lt_of_lt_of_le h.1 hb.size,fun i x hx j v hv => ?_⟩
 have hc := h.2 i x hx j v hv
 obtain ⟨ob,ho,hcc⟩ := cell_isCells hc
 exact (World.cell?_of_block ((hb.cells hm hmc ho hcc).trans ho.symm)).trans hc
theorem SlOf.but (h : SlOf w v sz cells l) (hb : But w.heap.size m w w') {om : Obj} (hm : w.heap[m]? = some om) (hmc : om.isCells = false) : SlOf w' v sz cells l := by
 obtain ⟨a,cap,h1,h2,h3,h4⟩ := h
 refine ⟨a,cap,h1,h2,h3,fun hl => ?_⟩
 obtain ⟨g,o,ha,hr⟩ := h4 hl
 exact ⟨g,o,ha,hr.but hb hm hmc⟩
end
theorem nodup_le {β : Type} [DecidableEq β] : ∀ {a b : List β},a.Nodup → (∀ x ∈ a,x ∈ b) → a.length ≤ b.length
 | [],_,_,_ => Nat.zero_le _
 | x :: a,b,hn,hs => by
  rw [List.nodup_cons] at hn
  have hx := hs x List.mem_cons_self
  have := nodup_le (a := a) (b := b.erase x) hn.2 (fun y hy => by
   have hyb := hs y (List.mem_cons_of_mem _ hy)
   exact (List.mem_erase_of_ne (fun e => hn.1 (by rw [← e]; exact hy))).2 hyb)
  rw [List.length_erase_of_mem hx] at this
  have hp := List.length_pos_of_mem hx
  simp only [List.length_cons]
  omega
end Go.Proofs.YtdghfenbfbdijaaGreatDoor
namespace Go.Proofs.YtdghfenbfbdijaaGreatDoor
open Go.RowKit
def mark (D : Nat) : Deferred := { target := .collected D,args := #[] }
structure ButThese (Ds : List Nat) (W W' : World) : Prop where
 os : W'.os = W.os
 tape : W'.tape = W.tape
 output : W'.output = W.output
 size : W'.heap.size = W.heap.size
 block : ∀ q,q ∉ Ds → W'.heap[q]? = W.heap[q]?
theorem ButThese.refl (W : World) : ButThese [] W W := ⟨rfl,rfl,rfl,rfl,fun _ _ => rfl⟩
theorem ButThese.below {Ds : List Nat} {W W' : World} {n : Nat} (h : ButThese Ds W W') (hn : ∀ D ∈ Ds,n ≤ D) : Below n W W' :=
 ⟨h.os,h.tape,h.output,Nat.le_of_eq h.size.symm,fun k hk => h.block k (fun hm => by have := hn k hm; omega)⟩
theorem ButThese.cell {Ds : List Nat} {W W' : World} (h : ButThese Ds W W') {p : Addr} (hp : p.block ∉ Ds) : W'.cell? p = W.cell? p := World.cell?_of_block (h.block _ hp)
theorem leaves_marks {F : Fence} {n : Nat} {P : Program} {fn : Func} {tmps : Array Value} {R : Ending → World → Prop} : ∀ (Ds : List Nat) (W : World),Ds.Nodup → (∀ D ∈ Ds,W.heap[D]? = some (.deferred (some []))) →
  (∀ W',ButThese Ds W W' → ∃ v,(results fn tmps).run P W' = .ok v W' ∧ R (.returned v) W') → LeavesInM F n P fn tmps R (Ds.map mark) .returning W
 | [],W,_,_,h => by
  obtain ⟨v,h1,h2⟩ := h W (ButThese.refl W)
  exact ⟨v,h1,h2⟩
 | D :: Ds,W,hn,hd,h => by
  rw [List.nodup_cons] at hn
  have hD := hd D List.mem_cons_self
  refine ⟨by simp,.inl ⟨D,_,rfl,run_takeDeferred hD,?_⟩⟩
  have hs : (W.putObj D (.deferred none)).heap.size = W.heap.size := by simp [World.putObj]
  refine leaves_marks Ds _ hn.2 (fun E hE => ?_) (fun W' hW' => h W' ?_)
  ·rw [World.putObj_heap_other (fun e => hn.1 (by rw [← e]; exact hE))]
   exact hd E (List.mem_cons_of_mem _ hE)
  ·refine ⟨hW'.os,hW'.tape,hW'.output,hW'.size.trans hs,fun q hq => ?_⟩
   rw [List.mem_cons,not_or] at hq
   rw [hW'.block q hq.2,World.putObj_heap_other hq.1]
end Go.Proofs.YtdghfenbfbdijaaGreatDoor
namespace Go.Proofs.YtdghfenbfbdijaaGreatDoor
open Go.RowKit
theorem wpListIn_append_lies {F : Fence} {n : Nat} {P : Program} (w : World) {ops : Array Oper} {rest : List Oper} {o : Oper} {a : Act} {Q : Exit → Act → World → Prop}
  (hg : o.guard = none) (s x : Operand) (t : TypeId) (hop : o.op = Op.call { callee := Callee.builtin Builtin.append,args := #[s,x],argTypes := #[t,t] })
  (base : Nat) (e : TypeId) (i : TypeInfo) (z : Value) (size bytes : Nat) (h1 : P.underlying t = some (.slice e)) (h2 : P.info? e = some i) (h3 : i.zero = some z) (h4 : i.size = size) (h5 : i.bytes = bytes) (h6 : z.cells.size = size) (h7 : 0 < size)
  (v : Value) (k : Nat) (xs : List Value) (hs : a.eval s = v) (hown : w.ownsRow base e size v k xs) (ad : Addr) (m c : Nat) (news : List Value) (hx : a.eval x = .slice (some ad) m c) (hn : news.length = m * size)
  (hc : ∀ j u,news[j]? = some u → w.cell? (ad.add j) = some u) (h1c : ∀ u ∈ news,u.oneCell' = true) (hm : 0 < m) (b1 : k + m ≤ maxLen) (b2 : (k + m) * bytes ≤ 140737488355328) (b3 : base ≤ w.heap.size)
  (hK : ∀ g cap w',w'.ownsRow base e size (.slice (some ⟨g,0,none⟩) (k + m) cap) (k + m) (xs ++ news) → w.grownBy w' v.ownBlock → (v.ownBlock = some g ∨ g = w.heap.size) → wpListIn F n P ops Q rest (a.put o.dst (.slice (some ⟨g,0,none⟩) (k + m) cap)) w') :
  wpListIn F n P ops Q (o :: rest) a w := by
 refine wpListIn_plain hg fun K hK' => ?_
 obtain ⟨g,cap,w',hrun,r1,r2,r3,_⟩ := run_append_lies (P := P) w t o.type base e i z size bytes h1 h2 h3 h4 h5 h6 h7 v k xs hown ad m c news hn hc h1c hm b1 b2 b3 w.heap.size rfl
 unfold Oper.wpIn
 refine ⟨?_,?_⟩
 ·simp [Oper.about,hop,resolve,Target.leads,Sem.run_pure]
 ·rw [Oper.semAt_plain F _ _ (by rw [hop]; intro c hc'; cases hc')]
  simp [execOp,hop,resolve,invoke,builtin,hs,hx,hrun,Result.andThen]
  exact hK' _ _ (hK g cap w' r1 r2 r3)
end Go.Proofs.YtdghfenbfbdijaaGreatDoor
namespace Go.Proofs.YtdghfenbfbdijaaGreatDoor
open Go.RowKit Go.ChangeShapes Go.WideShapes Go.Deep
section
variable {H : Type} {enc : TypeId × Value → H} {P : Program} {w : World} {base : Nat} {spare : Nat → Bool} {held : Bool}
theorem struct_fields {t : TypeId} {fs : Array Field} {n : Nat} {r : List Value} {y : DataW H × List MemPlace} (hs : P.underlying t = some (.struct fs)) (hone : oneCellFields P fs = true) (hC : P.cellsOf t = fs.size)
  (h : DataW.trod enc P w base spare held n t r = some y) : r.length = fs.size ∧ ∀ (j : Nat) (f : Field),fs[j]? = some f → ∃ u z m,r[j]? = some u ∧ DataW.trod enc P w base spare held m f.type [u] = some z := by
 obtain ⟨xs,m,_,_,hl,hxl,hf⟩ := DataW.trod_struct hs h
 rw [hC] at hl
 refine ⟨hl,fun j f hj => ?_⟩
 obtain ⟨ho,hk⟩ := hone_of hone j f hj
 have hjl : j < fs.size := (Array.getElem?_eq_some_iff.1 hj).1
 have h1 := hf j f hj
 rw [ho,hk] at h1
 have e : (r.drop j).take 1 = [r[j]'(by omega)] := by rw [List.drop_eq_getElem_cons (by omega)]; rfl
 rw [e] at h1
 exact ⟨_,_,m,List.getElem?_eq_getElem (by omega),h1.trans (List.getElem?_eq_getElem (by omega))⟩
theorem open_structV {rr : Reach} {b0 : Nat} {t : TypeId} {fs : Array Field} {v : Value} {d : DataW H} {p : List MemPlace} (hs : P.underlying t = some (.struct fs)) (hone : oneCellFields P fs = true) (hC : P.cellsOf t = fs.size)
  (hv : Value.okWide P w rr b0 t v) (h : DataW.Trod enc P w base spare held t v d p) :
  ∃ r : List Value,v = .agg r.toArray ∧ r.length = fs.size ∧ ∀ (j : Nat) (f : Field),fs[j]? = some f → ∃ u z m,r[j]? = some u ∧ DataW.trod enc P w base spare held m f.type [u] = some z := by
 obtain ⟨cs,rfl,hsz⟩ := okWide_struct hs hv
 obtain ⟨fuel,hf⟩ := h
 obtain ⟨l⟩ := cs
 have := struct_fields hs hone hC hf
 exact ⟨l,rfl,this.1,this.2⟩
theorem add_at (g o k : Nat) : (⟨g,o,none⟩ : Addr).add k = ⟨g,o + k,none⟩ := by
 unfold Addr.add; split
 ·rename_i h; subst h; rfl
 ·rfl
theorem open_rows {α : Type} {cells : α → List Value} {Good : α → Prop} {sz : Nat} {t e : TypeId} {u : Value} {fuel : Nat} {x : DataW H × List MemPlace} (ht : P.underlying t = some (.slice e)) (hC : P.cellsOf e = sz) (hpos : 0 < sz)
  (hsz : ∀ x,(cells x).length = sz) (hrow : ∀ (r : List Value) (n : Nat) (y : DataW H × List MemPlace),DataW.trod enc P w base spare held n e r = some y → ∃ x,r = cells x ∧ Good x)
  (h : DataW.trod enc P w base spare held fuel t [u] = some x) : ∃ l : List α,SlOf w u sz cells l ∧ ∀ x ∈ l,Good x := by
 rcases open_slice ht h with ⟨h0,_⟩ | ⟨a,len,cap,m,n,D,Pl,hcs,_,hl,hm,hmm,_,hi⟩
 ·obtain rfl : u = .slice none 0 0 := by simpa using h0
  exact ⟨[],SlOf.nil _ _ _,fun x hx => by cases hx⟩
 ·obtain rfl : u = .slice (some a) len cap := by simpa using hcs
  have hml : len ≤ m := by rw [hmm]; split <;> omega
  have each : ∀ i : Fin len,∃ x,(∀ j v,(cells x)[j]? = some v → w.cell? ((a.add (i.1 * sz)).add j) = some v) ∧ Good x := fun i => by
   obtain ⟨cs',hc,ht'⟩ := hi i.1 (by have := i.2; omega)
   obtain ⟨x,rfl,hg⟩ := hrow _ _ _ ht'
   rw [hC] at hc
   obtain ⟨_,hcl,hat⟩ := World.cells?_some hc
   exact ⟨x,fun j v hv => (hat j (by have := (List.getElem?_eq_some_iff.1 hv).1; omega)).trans hv,hg⟩
  refine ⟨List.ofFn fun i => (each i).choose,⟨_,cap,by rw [List.length_ofFn],by rw [List.length_ofFn]; exact hl,hm,fun hpl => ?_⟩,fun x hx => ?_⟩
  ·rw [List.length_ofFn] at hpl
   obtain ⟨g,o,spot⟩ := a
   have h1 := (each ⟨0,hpl⟩).choose_spec.1 0 ((cells (each ⟨0,hpl⟩).choose)[0]'(by rw [hsz]; exact hpos)) (List.getElem?_eq_getElem _)
   have hspot : spot = none := by
    have := World.cell?_spot h1
    simpa [Addr.add] using this
   subst hspot
   refine ⟨g,o,rfl,(by have hb := World.block_lt_of_cell? w _ h1; simp only [add_at] at hb; exact hb),fun i x hx j v hv => ?_⟩
   rw [List.getElem?_ofFn] at hx
   split at hx
   ·rename_i hil
    cases hx
    have := (each ⟨i,hil⟩).choose_spec.1 j v hv
    rw [add_at,add_at] at this
    exact this
   ·cases hx
  ·rw [List.mem_ofFn] at hx
   obtain ⟨i,rfl⟩ := hx
   exact (each i).choose_spec.2
end
end Go.Proofs.YtdghfenbfbdijaaGreatDoor
namespace Go.Proofs.YtdghfenbfbdijaaGreatDoor
open Go.RowKit Go.Maps
section
variable {w : World} {P : Program} {k : TypeId} {b n : Nat} {f : Value → Option Value}
def MapR (w : World) (P : Program) (k : TypeId) (b r n : Nat) (f : Value → Option Value) (lf : Value → Bool) (cnt : Nat) : Prop :=
 ∃ D left,World.ranges (H := Value) w P k readV b r n D left cnt ∧ (∀ x kl,keyOf P k x = some kl → f x = lookD D kl) ∧ ∀ x kl,keyOf P k x = some kl → lf x = left kl
variable {r cnt : Nat} {lf : Value → Bool}
theorem MapR.mapF (h : MapR w P k b r n f lf cnt) : MapF w P k b n f := by
 obtain ⟨D,left,h1,h2,_⟩ := h
 exact ⟨D,h1.owns,h2⟩
theorem MapR.kept {w' : World} {row : Option Nat} (h : MapR w P k b r n f lf cnt) (hg : w.grownBy w' row) (hb : some b ≠ row) (hr : some r ≠ row) : MapR w' P k b r n f lf cnt := by
 obtain ⟨D,left,h1,h2,h3⟩ := h
 exact ⟨D,left,h1.kept hg hb hr,h2,h3⟩
theorem MapR.lt (h : MapR w P k b r n f lf cnt) : r < w.heap.size := by
 obtain ⟨D,left,h1,_,_⟩ := h
 exact h1.lt
theorem MapR.ne (h : MapR w P k b r n f lf cnt) : r ≠ b := by
 obtain ⟨D,left,h1,_,_⟩ := h
 exact h1.ne
theorem MapF.tight {D : DataW Value} (h : w.ownsMap P k readV b n D) : w.ownsMap P k readV b (Maps.size D) D := by
 obtain ⟨es,clock,hb,F,_,rfl⟩ := h
 exact ⟨es,clock,hb,F,by simp [Maps.size,length_sorted],rfl⟩
variable {ops : Array Oper} {rest : List Oper} {o : Oper} {a : Act} {Q : Exit → Act → World → Prop}
end
end Go.Proofs.YtdghfenbfbdijaaGreatDoor
namespace Go.Proofs.YtdghfenbfbdijaaGreatDoor
open Go.RowKit Go.Maps
section
variable {w : World} {P : Program} {k : TypeId} {b n : Nat} {f : Value → Option Value}
theorem keyOf_bs (hk : P.underlying k = some .string) {x : List UInt8} (hx : x.length ≤ maxLen) : keyOf P k (.string (bs x)) = some (.string x) := by
 simp [keyOf,hk,mapKey,bs,ByteArray.size,hx]
theorem MapF.keys {t e : TypeId} (h : MapF w P k b n f) (K : Keyed P k) (hk : P.underlying k = some .string) (ht : P.underlying t = some (.map k e)) {z : Value} (hz : (zeroValue e).run P w = .ok z w) :
  ∃ D : DataW Value,w.ownsMap P k readV b n D ∧ (∀ x kl,keyOf P k x = some kl → f x = lookD D kl) ∧ (strKeys D).Nodup ∧ (strKeys D).length = Maps.size D ∧ (∀ x ∈ strKeys D,x.length ≤ maxLen) ∧
   ∀ x : List UInt8,x.length ≤ maxLen → (x ∈ strKeys D ↔ (f (.string (bs x))).isSome = true) := by
 obtain ⟨D,h1,h2⟩ := h
 refine ⟨D,h1,h2,?_,?_,strKeys_le h1 hk,fun x hx => ?_⟩
 ·obtain ⟨es,hD,hpw,_⟩ := h1.entries K
  obtain ⟨es',hD',hko⟩ := h1.keysOf
  obtain rfl : es = es' := by rw [hD] at hD'; simpa using hD'
  subst hD
  show (es.map fun p => strOf p.1).Nodup
  refine List.pairwise_map.2 (hpw.imp_of_mem fun {p q} hp' hq' hne e => hne ?_)
  obtain ⟨v,hv⟩ := hko p hp'
  obtain ⟨u,hu⟩ := hko q hq'
  obtain ⟨x,_,hx,_⟩ := Maps.keyOf_str hk hv
  obtain ⟨y,_,hy,_⟩ := Maps.keyOf_str hk hu
  rw [hx,hy] at e ⊢
  exact congrArg _ e
 ·obtain ⟨es,rfl⟩ := h1.isMap
  simp [strKeys,Maps.size]
 ·have hkx := keyOf_bs (P := P) hk hx
  obtain ⟨v,ps,hr,hv⟩ := h1.look_ok K ht hz (zd := .held z) (zp := []) rfl hkx
  rw [h2 _ _ hkx,← has_look h1.isMap hv]
  obtain ⟨es,hD,hko⟩ := h1.keysOf
  subst hD
  rw [Maps.has_eq,List.any_eq_true]
  show x ∈ es.map (fun p => strOf p.1) ↔ _
  rw [List.mem_map]
  constructor
  ·rintro ⟨p,hp,rfl⟩
   obtain ⟨u,hu⟩ := hko p hp
   obtain ⟨y,_,hy,_⟩ := Maps.keyOf_str hk hu
   exact ⟨p,hp,by rw [hy]; simp [Lit.sameKey,strOf]⟩
  ·rintro ⟨p,hp,hs⟩
   obtain ⟨u,hu⟩ := hko p hp
   obtain ⟨y,_,hy,_⟩ := Maps.keyOf_str hk hu
   rw [hy] at hs
   exact ⟨p,hp,by rw [hy]; simpa [Lit.sameKey,strOf] using hs⟩
variable {ops : Array Oper} {rest : List Oper} {o : Oper} {a : Act} {Q : Exit → Act → World → Prop}
end
theorem row_blk {w : World} {base : Nat} {e : TypeId} {size : Nat} {v : Value} {n : Nat} {xs : List Value} (h : w.ownsRow base e size v n xs) {g : Nat} (hg : v.ownBlock = some g) : base ≤ g ∧ ∃ cs,w.heap[g]? = some (.cells cs e (0,0)) := by
 rcases h.2 with ⟨rfl,_⟩ | ⟨g',cap,cur,rfl,hb,hh,_⟩
 ·cases hg
 ·obtain rfl : g' = g := by simpa [Value.ownBlock] using hg
  exact ⟨hb,_,hh⟩
/-! ### a block of slices, each a row of the call's own -/
structure Grid {α : Type} (w : World) (B : Nat) (e : TypeId) (sz : Nat) (cells : α → List Value) (vs : List Value) (tss : List (List α)) : Prop where
 len : vs.length = tss.length
 own : ∀ (j : Nat) (v : Value) (ts : List α),vs[j]? = some v → tss[j]? = some ts → w.ownsRow B e sz v ts.length (ts.flatMap cells)
 apart : ∀ (j j' : Nat) (v v' : Value) (g : Nat),vs[j]? = some v → vs[j']? = some v' → v.ownBlock = some g → v'.ownBlock = some g → j = j'
section
variable {α : Type} {w w' : World} {B : Nat} {e : TypeId} {sz : Nat} {cells : α → List Value} {vs : List Value} {tss : List (List α)}
theorem Grid.start (w : World) (B : Nat) (e : TypeId) (sz n : Nat) (cells : α → List Value) : Grid w B e sz cells (List.replicate n (.slice none 0 0)) (List.replicate n []) := by
 refine ⟨by simp,fun j v ts hv ht => ?_,fun j j' v v' g hv _ hg _ => ?_⟩
 ·rw [List.getElem?_replicate] at hv ht
  split at hv
  ·rename_i h
   rw [if_pos h] at ht
   cases hv; cases ht
   exact World.ownsRow_nil _ _ _ _
  ·cases hv
 ·rw [List.getElem?_replicate] at hv
  split at hv
  ·cases hv; cases hg
  ·cases hv
theorem Grid.kept {row : Option Nat} (h : Grid w B e sz cells vs tss) (hg : w.grownBy w' row) (hr : ∀ r,row = some r → ∀ cs,w.heap[r]? ≠ some (.cells cs e (0,0))) : Grid w' B e sz cells vs tss := by
 refine ⟨h.len,fun j v ts hv ht => ?_,h.apart⟩
 have ho := h.own j v ts hv ht
 refine ho.kept hg ?_
 cases hb : v.ownBlock with
 | none => exact .inl rfl
 | some g =>
  refine .inr fun e2 => ?_
  obtain ⟨_,cs,h3⟩ := row_blk ho hb
  exact hr g e2.symm cs h3
theorem Grid.below (h : Grid w B e sz cells vs tss) (hb : Below w.heap.size w w') : Grid w' B e sz cells vs tss := h.kept (Below.grows hb none) (fun r e => by cases e)
theorem Grid.append {X w8 : World} {i : Nat} {v v' : Value} {ts : List α} {s : α} (h : Grid w B e sz cells vs tss) (hv : vs[i]? = some v) (ht : tss[i]? = some ts) (hX : Below w.heap.size w X) (hg : X.grownBy w8 v.ownBlock) (ho : w8.ownsRow B e sz v' (ts ++ [s]).length ((ts ++ [s]).flatMap cells))
  (hnew : v'.ownBlock = v.ownBlock ∨ v'.ownBlock = some X.heap.size) : Grid w8 B e sz cells (vs.set i v') (tss.set i (ts ++ [s])) := by
 have hi := (List.getElem?_eq_some_iff.1 hv).1
 have hi2 := (List.getElem?_eq_some_iff.1 ht).1
 have hXg := h.below hX
 refine ⟨by rw [List.length_set,List.length_set]; exact h.len,fun j u us hu hus => ?_,fun j j' u u' g hu hu' hg1 hg2 => ?_⟩
 ·by_cases hj : i = j
  ·subst hj
   rw [List.getElem?_set_self hi] at hu
   rw [List.getElem?_set_self hi2] at hus
   cases hu; cases hus
   exact ho
  ·rw [List.getElem?_set_ne hj] at hu hus
   refine (hXg.own j u us hu hus).kept hg ?_
   cases hb : u.ownBlock with
   | none => exact .inl rfl
   | some g => exact .inr fun e2 => hj (h.apart i j v u g hv hu e2.symm hb)
 ·by_cases hj : i = j
  ·by_cases hj' : i = j'
   ·omega
   ·subst hj
    rw [List.getElem?_set_self hi] at hu
    rw [List.getElem?_set_ne hj'] at hu'
    cases hu
    obtain ⟨us,hus⟩ : ∃ us,tss[j']? = some us := ⟨_,List.getElem?_eq_getElem (by rw [← h.len]; exact (List.getElem?_eq_some_iff.1 hu').1)⟩
    rcases hnew with e1 | e1
    ·exact h.apart i j' v u' g hv hu' (by rw [← e1]; exact hg1) hg2
    ·rw [e1] at hg1
     have := ((hXg.own j' u' us hu' hus).lt g hg2).2
     cases hg1
     omega
  ·rw [List.getElem?_set_ne hj] at hu
   by_cases hj' : i = j'
   ·subst hj'
    rw [List.getElem?_set_self hi] at hu'
    cases hu'
    obtain ⟨us,hus⟩ : ∃ us,tss[j]? = some us := ⟨_,List.getElem?_eq_getElem (by rw [← h.len]; exact (List.getElem?_eq_some_iff.1 hu).1)⟩
    rcases hnew with e1 | e1
    ·exact h.apart j i u v g hu hv hg1 (by rw [← e1]; exact hg2)
    ·rw [e1] at hg2
     have := ((hXg.own j u us hu hus).lt g hg1).2
     cases hg2
     omega
   ·rw [List.getElem?_set_ne hj'] at hu'
    exact h.apart j j' u u' g hu hu' hg1 hg2
end
end Go.Proofs.YtdghfenbfbdijaaGreatDoor
namespace Go.Proofs.YtdghfenbfbdijaaGreatDoor
open Go.RowKit Go.Maps
def Blk (w : World) (b : Nat) (e : TypeId) (vs : List Value) : Prop := w.heap[b]? = some (.cells vs.toArray e (0,0))
section
variable {w w' : World} {b : Nat} {e : TypeId} {vs : List Value}
theorem Blk.lt (h : Blk w b e vs) : b < w.heap.size := (Array.getElem?_eq_some_iff.1 h).1
theorem Blk.cell (h : Blk w b e vs) {j : Nat} {v : Value} (hj : vs[j]? = some v) : w.cell? ⟨b,j,none⟩ = some v := by
 unfold Blk at h
 simp [World.cell?,h,hj]
theorem Blk.frozen (h : Blk w b e vs) (j : Nat) : w.frozen? ⟨b,j,none⟩ = false := by
 unfold Blk at h
 simp [World.frozen?,h]
theorem Blk.set (h : Blk w b e vs) (j : Nat) (u : Value) : Blk (w.setCell ⟨b,j,none⟩ u) b e (vs.set j u) := by
 unfold Blk at h ⊢
 simp [World.setCell,Array.getElem?_modify,h]
theorem Blk.kept {row : Option Nat} (h : Blk w b e vs) (hg : w.grownBy w' row) (hr : row ≠ some b) : Blk w' b e vs := (hg.block b h.lt (fun e => hr e.symm)).trans h
theorem Blk.below (h : Blk w b e vs) (hb : Below w.heap.size w w') : Blk w' b e vs := (hb.block b h.lt).trans h
theorem Blk.other {q j : Nat} (h : Blk w b e vs) (hq : b ≠ q) (u : Value) : Blk (w.setCell ⟨q,j,none⟩ u) b e vs := (Below.heap_setCell w ⟨q,j,none⟩ u b hq).trans h
theorem Blk.new (w : World) (e : TypeId) (vs : List Value) : Blk (w.alloc (.cells vs.toArray e)) w.heap.size e vs := by unfold Blk World.alloc; simp
theorem Blk.rep (w : World) (e : TypeId) (n : Nat) (v : Value) : Blk (w.alloc (.cells (Array.replicate n v) e)) w.heap.size e (List.replicate n v) := by
 rw [← List.toArray_replicate]
 exact Blk.new w e _
theorem grown_set (w : World) (q j : Nat) (u : Value) : w.grownBy (w.setCell ⟨q,j,none⟩ u) (some q) :=
 ⟨rfl,rfl,rfl,by simp [World.setCell],fun k _ hk => Below.heap_setCell w ⟨q,j,none⟩ u k (fun e => hk (by rw [e]))⟩
end
theorem make_one {P : Program} (t e : TypeId) (i : TypeInfo) (z : Value) (ht : P.underlying t = some (.slice e)) (hi : P.info? e = some i) (hz : i.zero = some z) (hs : i.size = 1) (hc : z.cells = #[z]) (n : Nat) (hb : i.bytes * n ≤ 281474976710656) (h63 : n ≤ maxLen) (w : World) :
  (Instr.makeSlice t (.int .i64 (n : Int)) (.int .i64 (n : Int))).run P w = .ok (.slice (some ⟨w.heap.size,0,none⟩) n n) (w.alloc (.cells (Array.replicate n z) e)) := by
 have h1 : (n : Int) ≤ 9223372036854775807 := by unfold maxLen at h63; omega
 have h2 : (i.bytes : Int) * (n : Int) ≤ 281474976710656 := by
  have h : ((i.bytes * n : Nat) : Int) ≤ 281474976710656 := by omega
  rwa [Int.natCast_mul] at h
 have hr := run_make (P := P) w t e i z ht hi hz .i64 .i64 n n (by omega) (Int.le_refl _) h2 h1
 simp only [Int.toNat_natCast] at hr
 rw [hr,hs,Nat.mul_one,hc]
 have : madeCells #[z] n = Array.replicate n z := by
  apply Array.toList_inj.1
  rw [toList_madeCells_one,Array.toList_replicate]
 rw [this]
def numF (E : List UInt8 → Option Int) : Value → Option Value
 | .string s => (E s.data.toList).map fun c => .int .i64 c
 | _ => none
end Go.Proofs.YtdghfenbfbdijaaGreatDoor
namespace Go.Proofs.YtdghfenbfbdijaaGreatDoor
open Go.RowKit Go.Maps
theorem alloc_new (w : World) (o : Obj) : (w.alloc o).heap[w.heap.size]? = some o := heap_alloc_new w o
structure Tch (O : Nat → Prop) (w w' : World) : Prop where
 os : w'.os = w.os
 tape : w'.tape = w.tape
 output : w'.output = w.output
 size : w.heap.size ≤ w'.heap.size
 block : ∀ k,k < w.heap.size → ¬ O k → w'.heap[k]? = w.heap[k]?
section
variable {O O' : Nat → Prop} {w w1 w' : World}
theorem Tch.of_below (h : Below w.heap.size w w') (O : Nat → Prop) : Tch O w w' := ⟨h.os,h.tape,h.output,h.size,fun k hk _ => h.block k hk⟩
theorem Tch.refl (O : Nat → Prop) (w : World) : Tch O w w := ⟨rfl,rfl,rfl,Nat.le_refl _,fun _ _ _ => rfl⟩
theorem Tch.trans (h : Tch O w w1) (g : Tch O' w1 w') (ho : ∀ k,O' k → k < w.heap.size → O k) : Tch O w w' :=
 ⟨g.os.trans h.os,g.tape.trans h.tape,g.output.trans h.output,Nat.le_trans h.size g.size,fun k hk hn => (g.block k (Nat.lt_of_lt_of_le hk h.size) (fun e => hn (ho k e hk))).trans (h.block k hk hn)⟩
theorem Tch.mono (h : Tch O w w') (ho : ∀ k,O k → O' k) : Tch O' w w' := ⟨h.os,h.tape,h.output,h.size,fun k hk hn => h.block k hk (fun e => hn (ho k e))⟩
theorem Tch.below {n : Nat} (h : Tch O w w') (hn : n ≤ w.heap.size) (ho : ∀ k,O k → n ≤ k) : Below n w w' := ⟨h.os,h.tape,h.output,h.size,fun k hk => h.block k (by omega) (fun e => by have := ho k e; omega)⟩
theorem Tch.of_grown {row : Option Nat} (h : w.grownBy w' row) (hr : ∀ r,row = some r → O r) : Tch O w w' :=
 ⟨h.os,h.tape,h.output,h.size,fun k hk hn => h.block k hk (fun e => hn (hr k e.symm))⟩
theorem Tch.grown {row : Option Nat} (h : Tch O w w1) (hg : w1.grownBy w' row) (hr : ∀ r,row = some r → O r ∨ w.heap.size ≤ r) : Tch O w w' :=
 ⟨hg.os.trans h.os,hg.tape.trans h.tape,hg.output.trans h.output,Nat.le_trans h.size hg.size,fun k hk hn => (hg.block k (Nat.lt_of_lt_of_le hk h.size) (fun e => by
  rcases hr k e.symm with h1 | h1
  ·exact hn h1
  ·omega)).trans (h.block k hk hn)⟩
theorem Tch.step (h : Tch O w w1) (g : Below w1.heap.size w1 w') : Tch O w w' :=
 ⟨g.os.trans h.os,g.tape.trans h.tape,g.output.trans h.output,Nat.le_trans h.size g.size,fun k hk hn => (g.block k (Nat.lt_of_lt_of_le hk h.size)).trans (h.block k hk hn)⟩
theorem Tch.setCell (h : Tch O w w1) {a : Addr} (ha : O a.block ∨ w.heap.size ≤ a.block) (v : Value) : Tch O w (w1.setCell a v) :=
 ⟨h.os,h.tape,h.output,by rw [World.setCell]; simp; exact h.size,fun k hk hn => (Below.heap_setCell _ _ _ _ (fun e => by
  rcases ha with h1 | h1
  ·exact hn (by rw [e]; exact h1)
  ·omega)).trans (h.block k hk hn)⟩
theorem Tch.alloc (h : Tch O w w1) (o : Obj) : Tch O w (w1.alloc o) := h.step ((Below.refl _ w1).alloc (Nat.le_refl _) _)
theorem MapF.tch {P : Program} {k : TypeId} {b n : Nat} {f : Value → Option Value} (h : MapF w P k b n f) (ht : Tch O w w') (hb : ¬ O b) : MapF w' P k b n f := by
 obtain ⟨D,⟨es,clock,h1,r⟩,h2⟩ := h
 exact ⟨D,⟨es,clock,(ht.block b (Array.getElem?_eq_some_iff.1 h1).1 hb).trans h1,r⟩,h2⟩
end
section
variable {α : Type} {w w' : World} {v : Value} {sz : Nat} {cells : α → List Value} {l : List α} {Q Q' O : Nat → Prop}
def SlIn (w : World) (v : Value) (Q : Nat → Prop) (sz : Nat) (cells : α → List Value) (l : List α) : Prop :=
 ∃ a cap,v = .slice a l.length cap ∧ l.length ≤ cap ∧ cap ≤ maxLen ∧ (0 < l.length → ∃ g o,a = some ⟨g,o,none⟩ ∧ Q g ∧ RowOf w g o sz cells l)
theorem RowOf.tch {g o : Nat} (h : RowOf w g o sz cells l) (ht : Tch O w w') (hg : ¬ O g) : RowOf w' g o sz cells l :=
 ⟨Nat.lt_of_lt_of_le h.1 ht.size,fun i x hx j v hv => (World.cell?_of_block (a := ⟨g,o + i * sz + j,none⟩) (ht.block g h.1 hg)).trans (h.2 i x hx j v hv)⟩
theorem SlIn.slOf (h : SlIn w v Q sz cells l) : SlOf w v sz cells l := by
 obtain ⟨a,cap,h1,h2,h3,h4⟩ := h
 refine ⟨a,cap,h1,h2,h3,fun hl => ?_⟩
 obtain ⟨g,o,h5,_,h6⟩ := h4 hl
 exact ⟨g,o,h5,h6⟩
theorem SlOf.slIn (h : SlOf w v sz cells l) : SlIn w v (fun k => k < w.heap.size) sz cells l := by
 obtain ⟨a,cap,h1,h2,h3,h4⟩ := h
 refine ⟨a,cap,h1,h2,h3,fun hl => ?_⟩
 obtain ⟨g,o,h5,h6⟩ := h4 hl
 exact ⟨g,o,h5,h6.1,h6⟩
theorem SlIn.tch (h : SlIn w v Q sz cells l) (ht : Tch O w w') (ho : ∀ k,Q k → ¬ O k) : SlIn w' v Q sz cells l := by
 obtain ⟨a,cap,h1,h2,h3,h4⟩ := h
 refine ⟨a,cap,h1,h2,h3,fun hl => ?_⟩
 obtain ⟨g,o,h5,hq,h6⟩ := h4 hl
 exact ⟨g,o,h5,hq,h6.tch ht (ho g hq)⟩
theorem SlIn.below (h : SlIn w v Q sz cells l) (hb : Below w.heap.size w w') : SlIn w' v Q sz cells l := h.tch (Tch.of_below hb (fun _ => False)) (fun _ _ e => e)
theorem SlIn.mono (h : SlIn w v Q sz cells l) (hq : ∀ k,Q k → k < w.heap.size → Q' k) : SlIn w v Q' sz cells l := by
 obtain ⟨a,cap,h1,h2,h3,h4⟩ := h
 refine ⟨a,cap,h1,h2,h3,fun hl => ?_⟩
 obtain ⟨g,o,h5,h7,h6⟩ := h4 hl
 exact ⟨g,o,h5,hq g h7 h6.1,h6⟩
theorem SlIn.nil (w : World) (Q : Nat → Prop) (sz : Nat) (cells : α → List Value) : SlIn w (.slice none 0 0) Q sz cells [] := ⟨none,0,rfl,by simp,by unfold maxLen; omega,fun h => by simp at h⟩
theorem SlIn.own {B : Nat} {e : TypeId} (h : w.ownsRow B e sz v l.length (l.flatMap cells)) (hc : ∀ x ∈ l,(cells x).length = sz) : SlIn w v (fun k => v.ownBlock = some k) sz cells l := by
 obtain ⟨a,cap,h1,h2,h3,h4⟩ := SlOf.own h hc
 refine ⟨a,cap,h1,h2,h3,fun hl => ?_⟩
 obtain ⟨g,o,h5,h6⟩ := h4 hl
 exact ⟨g,o,h5,by rw [h1,h5]; rfl,h6⟩
theorem SlIn.slice (h : SlIn w v Q sz cells l) : ∃ a cap,v = .slice a l.length cap := by
 obtain ⟨a,cap,h1,_⟩ := h
 exact ⟨a,cap,h1⟩
end
end Go.Proofs.YtdghfenbfbdijaaGreatDoor
namespace Go.Proofs.YtdghfenbfbdijaaGreatDoor
open Go.RowKit
def StillAt (A : World) (_ : Array Bool) (X : World) : Prop := Below A.heap.size A X
theorem AtS.still {md : Region.Mode} {ops : Array Oper} {A X : World} {i : Nat} (h : AtS md ops (StillAt A) i X) : Below A.heap.size A X := by
 obtain ⟨_,_,_,h⟩ := h
 exact h
end Go.Proofs.YtdghfenbfbdijaaGreatDoor
namespace Go.Proofs.YtdghfenbfbdijaaGreatDoor
open Go.RowKit
def StillT (O : Nat → Prop) (A : World) (_ : Array Bool) (X : World) : Prop := Tch O A X
theorem AtS.stillT {md : Region.Mode} {ops : Array Oper} {O : Nat → Prop} {A X : World} {i : Nat} (h : AtS md ops (StillT O A) i X) : Tch O A X := by
 obtain ⟨_,_,_,h⟩ := h
 exact h
end Go.Proofs.YtdghfenbfbdijaaGreatDoor
namespace Go.Proofs.YtdghfenbfbdijaaGreatDoor
open Go.RowKit
theorem wpAnyS_two {P : Program} {ops : Array Oper} {Q : Exit → Act → World → Prop} {md : Region.Mode} {S : Array Bool → World → Prop} {fuel : Nat} {listed : Array Bool} {a : Act} {w : World} {i k : Nat} {oi ok : Oper}
  (hi : ops[i]? = some oi) (hk : ops[k]? = some ok) (hr : Region.ready md ops listed = [i,k]) (hwi : Region.wanted oi (yielded ops a.tmps) = true) (hwk : Region.wanted ok (yielded ops a.tmps) = true) (hc : Closed md ops listed)
  (h1 : ∀ K' : Act → World → Prop,Shut (∀ a w,S (listed.setIfInBounds i true) w → (Closed md ops (listed.setIfInBounds i true) → wpAnyS P md ops Q S fuel (listed.setIfInBounds i true) a w) → K' a w) → Oper.wp P oi a w K' Q)
  (h2 : ∀ K' : Act → World → Prop,Shut (∀ a w,S (listed.setIfInBounds k true) w → (Closed md ops (listed.setIfInBounds k true) → wpAnyS P md ops Q S fuel (listed.setIfInBounds k true) a w) → K' a w) → Oper.wp P ok a w K' Q) :
  wpAnyS P md ops Q S (fuel + 1) listed a w := by
 refine ⟨fun h0 => (by rw [hr] at h0; cases h0),fun j hj => ?_⟩
 have hj' := hj
 rw [hr] at hj'
 have hcases : j = i ∨ j = k := by simpa using hj'
 rcases hcases with rfl | rfl
 ·refine wpOp_step hi (fun K' hK => ?_)
  rw [if_pos hwi]
  exact h1 K' (fun a w hS hW => hK a w ⟨hS,hW (closed_step hc hj)⟩)
 ·refine wpOp_step hk (fun K' hK => ?_)
  rw [if_pos hwk]
  exact h2 K' (fun a w hS hW => hK a w ⟨hS,hW (closed_step hc hj)⟩)
def waits (md : Region.Mode) (ops : Array Oper) : Nat → Nat → Nat → Bool
 | 0,j,i => needs md ops j i
 | n + 1,j,i => needs md ops j i || (List.range ops.size).any fun a => needs md ops j a && waits md ops n a i
theorem closed_waits {md : Region.Mode} {ops : Array Oper} {listed : Array Bool} (hc : Closed md ops listed) : ∀ (n : Nat) {j i : Nat},waits md ops n j i = true → listed.getD j false = true → listed.getD i false = true
 | 0,_,_,h,hj => closed_needs hc h hj
 | n + 1,j,i,h,hj => by
  unfold waits at h
  rw [Bool.or_eq_true,List.any_eq_true] at h
  rcases h with h | ⟨a,-,h⟩
  ·exact closed_needs hc h hj
  ·rw [Bool.and_eq_true] at h
   exact closed_waits hc n h.2 (closed_needs hc h.1 hj)
theorem AtS.leftN {md : Region.Mode} {ops : Array Oper} {n i j k : Nat} {p q : World → Prop} {w : World} (h : AtS md ops (TwoS i j p q) k w) (hn : waits md ops n i k = true) : p w := by
 obtain ⟨listed,hc,hu,h1,_⟩ := h
 rcases h1 with h1 | h1
 ·have := closed_waits hc n hn h1
  rw [unlisted hu] at this; cases this
 ·exact h1
end Go.Proofs.YtdghfenbfbdijaaGreatDoor
namespace Go.Proofs.YtdghfenbfbdijaaGreatDoor
open Go.RowKit
theorem flat_at {α : Type} {cells : α → List Value} {sz : Nat} : ∀ (l : List α) (i : Nat) (x : α),(∀ x ∈ l,(cells x).length = sz) → l[i]? = some x → ∀ j u,(cells x)[j]? = some u → (l.flatMap cells)[i * sz + j]? = some u
 | [],i,x,_,hx => by simp at hx
 | y :: l,0,x,hc,hx => by
  intro j u hu
  simp at hx; subst hx
  rw [List.flatMap_cons,Nat.zero_mul,Nat.zero_add,List.getElem?_append_left (List.getElem?_eq_some_iff.1 hu).1]; exact hu
 | y :: l,i + 1,x,hc,hx => by
  intro j u hu
  have hy := hc y List.mem_cons_self
  rw [List.flatMap_cons,List.getElem?_append_right (by rw [hy,Nat.succ_mul]; omega),hy,show (i + 1) * sz + j - sz = i * sz + j by rw [Nat.succ_mul]; omega]
  exact flat_at l i x (fun z hz => hc z (List.mem_cons_of_mem _ hz)) (by simpa using hx) j u hu
theorem SlOf.block {α : Type} {w : World} {g sz n : Nat} {cells : α → List Value} {l : List α} {cs : Array Value} {ty : TypeId} (h : w.heap[g]? = some (.cells cs ty (0,0))) (hcs : cs.toList = l.flatMap cells) (hc : ∀ x ∈ l,(cells x).length = sz) (hn : n = l.length) (hm : n ≤ maxLen) :
  SlOf w (.slice (some ⟨g,0,none⟩) n n) sz cells l := by
 subst hn
 refine ⟨_,_,rfl,Nat.le_refl _,hm,fun _ => ⟨g,0,rfl,(Array.getElem?_eq_some_iff.1 h).1,fun i x hx j v hv => ?_⟩⟩
 have := flat_at l i x hc hx j v hv
 rw [← hcs] at this
 simp only [World.cell?,h,Nat.zero_add]
 simpa using this
theorem Blk.cf10 {w : World} {b : Nat} {e : TypeId} {x0 x1 x2 x3 x4 x5 x6 x7 x8 x9 : Value} {r : List Value} (h : Blk w b e (x0 :: x1 :: x2 :: x3 :: x4 :: x5 :: x6 :: x7 :: x8 :: x9 :: r)) : w.cell? ⟨b, 0, none⟩ = some x0 ∧ w.cell? ⟨b, 1, none⟩ = some x1 ∧ w.cell? ⟨b, 2, none⟩ = some x2 ∧ w.cell? ⟨b, 3, none⟩ = some x3 ∧ w.cell? ⟨b, 4, none⟩ = some x4 ∧ w.cell? ⟨b, 5, none⟩ = some x5 ∧ w.cell? ⟨b, 6, none⟩ = some x6 ∧ w.cell? ⟨b, 7, none⟩ = some x7 ∧ w.cell? ⟨b, 8, none⟩ = some x8 ∧ w.cell? ⟨b, 9, none⟩ = some x9 ∧ w.frozen? ⟨b, 0, none⟩ = false ∧ w.frozen? ⟨b, 1, none⟩ = false ∧ w.frozen? ⟨b, 2, none⟩ = false ∧ w.frozen? ⟨b, 3, none⟩ = false ∧ w.frozen? ⟨b, 4, none⟩ = false ∧ w.frozen? ⟨b, 5, none⟩ = false ∧ w.frozen? ⟨b, 6, none⟩ = false ∧ w.frozen? ⟨b, 7, none⟩ = false ∧ w.frozen? ⟨b, 8, none⟩ = false ∧ w.frozen? ⟨b, 9, none⟩ = false ∧ b < w.heap.size := ⟨h.cell (j := 0) rfl, h.cell (j := 1) rfl, h.cell (j := 2) rfl, h.cell (j := 3) rfl, h.cell (j := 4) rfl, h.cell (j := 5) rfl, h.cell (j := 6) rfl, h.cell (j := 7) rfl, h.cell (j := 8) rfl, h.cell (j := 9) rfl, h.frozen 0, h.frozen 1, h.frozen 2, h.frozen 3, h.frozen 4, h.frozen 5, h.frozen 6, h.frozen 7, h.frozen 8, h.frozen 9, h.lt⟩
theorem Blk.cf2 {w : World} {b : Nat} {e : TypeId} {x0 x1 : Value} {r : List Value} (h : Blk w b e (x0 :: x1 :: r)) : w.cell? ⟨b, 0, none⟩ = some x0 ∧ w.cell? ⟨b, 1, none⟩ = some x1 ∧ w.frozen? ⟨b, 0, none⟩ = false ∧ w.frozen? ⟨b, 1, none⟩ = false ∧ b < w.heap.size := ⟨h.cell (j := 0) rfl, h.cell (j := 1) rfl, h.frozen 0, h.frozen 1, h.lt⟩
theorem Blk.cf3 {w : World} {b : Nat} {e : TypeId} {x0 x1 x2 : Value} {r : List Value} (h : Blk w b e (x0 :: x1 :: x2 :: r)) : w.cell? ⟨b, 0, none⟩ = some x0 ∧ w.cell? ⟨b, 1, none⟩ = some x1 ∧ w.cell? ⟨b, 2, none⟩ = some x2 ∧ w.frozen? ⟨b, 0, none⟩ = false ∧ w.frozen? ⟨b, 1, none⟩ = false ∧ w.frozen? ⟨b, 2, none⟩ = false ∧ b < w.heap.size := ⟨h.cell (j := 0) rfl, h.cell (j := 1) rfl, h.cell (j := 2) rfl, h.frozen 0, h.frozen 1, h.frozen 2, h.lt⟩
theorem Blk.cf4 {w : World} {b : Nat} {e : TypeId} {x0 x1 x2 x3 : Value} {r : List Value} (h : Blk w b e (x0 :: x1 :: x2 :: x3 :: r)) : w.cell? ⟨b, 0, none⟩ = some x0 ∧ w.cell? ⟨b, 1, none⟩ = some x1 ∧ w.cell? ⟨b, 2, none⟩ = some x2 ∧ w.cell? ⟨b, 3, none⟩ = some x3 ∧ w.frozen? ⟨b, 0, none⟩ = false ∧ w.frozen? ⟨b, 1, none⟩ = false ∧ w.frozen? ⟨b, 2, none⟩ = false ∧ w.frozen? ⟨b, 3, none⟩ = false ∧ b < w.heap.size := ⟨h.cell (j := 0) rfl, h.cell (j := 1) rfl, h.cell (j := 2) rfl, h.cell (j := 3) rfl, h.frozen 0, h.frozen 1, h.frozen 2, h.frozen 3, h.lt⟩
theorem Blk.cl10 {w : World} {b : Nat} {e : TypeId} {x0 x1 x2 x3 x4 x5 x6 x7 x8 x9 : Value} {r : List Value} (h : Blk w b e (x0 :: x1 :: x2 :: x3 :: x4 :: x5 :: x6 :: x7 :: x8 :: x9 :: r)) : w.cell? ⟨b, 0, none⟩ = some x0 ∧ w.cell? ⟨b, 1, none⟩ = some x1 ∧ w.cell? ⟨b, 2, none⟩ = some x2 ∧ w.cell? ⟨b, 3, none⟩ = some x3 ∧ w.cell? ⟨b, 4, none⟩ = some x4 ∧ w.cell? ⟨b, 5, none⟩ = some x5 ∧ w.cell? ⟨b, 6, none⟩ = some x6 ∧ w.cell? ⟨b, 7, none⟩ = some x7 ∧ w.cell? ⟨b, 8, none⟩ = some x8 ∧ w.cell? ⟨b, 9, none⟩ = some x9 ∧ b < w.heap.size := ⟨h.cell (j := 0) rfl, h.cell (j := 1) rfl, h.cell (j := 2) rfl, h.cell (j := 3) rfl, h.cell (j := 4) rfl, h.cell (j := 5) rfl, h.cell (j := 6) rfl, h.cell (j := 7) rfl, h.cell (j := 8) rfl, h.cell (j := 9) rfl, h.lt⟩
theorem Blk.cl2 {w : World} {b : Nat} {e : TypeId} {x0 x1 : Value} {r : List Value} (h : Blk w b e (x0 :: x1 :: r)) : w.cell? ⟨b, 0, none⟩ = some x0 ∧ w.cell? ⟨b, 1, none⟩ = some x1 ∧ b < w.heap.size := ⟨h.cell (j := 0) rfl, h.cell (j := 1) rfl, h.lt⟩
theorem Blk.cl3 {w : World} {b : Nat} {e : TypeId} {x0 x1 x2 : Value} {r : List Value} (h : Blk w b e (x0 :: x1 :: x2 :: r)) : w.cell? ⟨b, 0, none⟩ = some x0 ∧ w.cell? ⟨b, 1, none⟩ = some x1 ∧ w.cell? ⟨b, 2, none⟩ = some x2 ∧ b < w.heap.size := ⟨h.cell (j := 0) rfl, h.cell (j := 1) rfl, h.cell (j := 2) rfl, h.lt⟩
theorem Blk.cl4 {w : World} {b : Nat} {e : TypeId} {x0 x1 x2 x3 : Value} {r : List Value} (h : Blk w b e (x0 :: x1 :: x2 :: x3 :: r)) : w.cell? ⟨b, 0, none⟩ = some x0 ∧ w.cell? ⟨b, 1, none⟩ = some x1 ∧ w.cell? ⟨b, 2, none⟩ = some x2 ∧ w.cell? ⟨b, 3, none⟩ = some x3 ∧ b < w.heap.size := ⟨h.cell (j := 0) rfl, h.cell (j := 1) rfl, h.cell (j := 2) rfl, h.cell (j := 3) rfl, h.lt⟩
theorem Blk.cl6 {w : World} {b : Nat} {e : TypeId} {x0 x1 x2 x3 x4 x5 : Value} {r : List Value} (h : Blk w b e (x0 :: x1 :: x2 :: x3 :: x4 :: x5 :: r)) : w.cell? ⟨b, 0, none⟩ = some x0 ∧ w.cell? ⟨b, 1, none⟩ = some x1 ∧ w.cell? ⟨b, 2, none⟩ = some x2 ∧ w.cell? ⟨b, 3, none⟩ = some x3 ∧ w.cell? ⟨b, 4, none⟩ = some x4 ∧ w.cell? ⟨b, 5, none⟩ = some x5 ∧ b < w.heap.size := ⟨h.cell (j := 0) rfl, h.cell (j := 1) rfl, h.cell (j := 2) rfl, h.cell (j := 3) rfl, h.cell (j := 4) rfl, h.cell (j := 5) rfl, h.lt⟩
end Go.Proofs.YtdghfenbfbdijaaGreatDoor
