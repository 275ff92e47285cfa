/-
 Several texts in one: ZAl1, ZAl2, ZAl3, ZAlKey, ZAlFit, ZAl4, ZAl5, ZAl6, ZAl7, ZAlFew. Conditions: as each law says.
-/
import Derived.Test.YtdghfenbfbdijaaGreatDoorZMRew
import Derived.Test.YtdghfenbfbdijaaGreatDoorZMPlain
import Derived.Test.YtdghfenbfbdijaaGreatDoorZMBase
import Derived.Deep.RegionHeld3
import Derived.IntWalk
import Derived.RangeFuncBox
import Derived.RangeFuncLeaves
import Derived.Shelf.Abstract
import Derived.Shelf.RegionOpen
import Derived.OwnWalkIn
import Derived.TacticsInMore
import Derived.LoopNIn
import Derived.LoopIn
import Derived.Sort.CutIn
import Derived.Deep.Cut
import Derived.Test.YtdghfenbfbdijaaGreatDoorZMScr
namespace Go.Proofs.YtdghfenbfbdijaaGreatDoor
open Go.RowKit Go.Lib Go.Maps
def strC (l : List UInt8) : List Value := [.string (bs l)]
def ruleC (p : Al.R × Value) : List Value := [.int .i64 p.1.index,.int .i64 p.1.cost,p.2,.string (bs p.1.to_)]
def ruleV (p : Al.R × Value) : Value := .agg (ruleC p).toArray
def RulesAt (w : World) (fs : List (Al.R × Value)) (v : Value) : Prop := SlOf w v 4 ruleC fs ∧ ∀ p ∈ fs,SlOf w p.2 1 strC p.1.from_
theorem RulesAt.below {w w' : World} {fs : List (Al.R × Value)} {v : Value} (h : RulesAt w fs v) (hb : Below w.heap.size w w') : RulesAt w' fs v := ⟨h.1.below hb,fun p hp => (h.2 p hp).below hb⟩
theorem row_cells {w : World} {g o : Nat} {l : List (List UInt8)} (h : RowOf w g o 1 strC l) : ∀ j,j < (l.map bs).length → w.cell? ⟨g,o + j,none⟩ = some (.string ((l.map bs).getD j ByteArray.empty)) := by
 intro j hj
 rw [List.length_map] at hj
 have := h.2 j l[j] (List.getElem?_eq_getElem hj) 0 (.string (bs l[j])) rfl
 rw [Nat.mul_one,Nat.add_zero] at this
 rw [this]
 simp [List.getD,List.getElem?_eq_getElem hj]
theorem bs_inj {a b : List UInt8} (h : bs a = bs b) : a = b := by
 have := congrArg (fun x : ByteArray => x.data.toList) h
 exact this
theorem map_bs_inj : ∀ {a b : List (List UInt8)},a.map bs = b.map bs → a = b
 | [],[],_ => rfl
 | [],_ :: _,h => by simp at h
 | _ :: _,[],h => by simp at h
 | x :: a,y :: b,h => by
  rw [List.map_cons,List.map_cons,List.cons.injEq] at h
  rw [bs_inj h.1,map_bs_inj h.2]
theorem equal_part {w : World} {g o k n cap g2 o2 c2 : Nat} {l f : List (List UInt8)} (h : RowOf w g o 1 strC l) (h2 : RowOf w g2 o2 1 strC f) (hk : k + n ≤ l.length) (hn : n = f.length) (hb : n ≤ 1000000) :
  Calls Tryz.prog 148 #[.slice (some ⟨g,o + k,none⟩) n cap,.slice (some ⟨g2,o2,none⟩) n c2] w (Gives (.bool (decide ((l.drop k).take n = f))) w) := by
 have hx := row_cells h
 have hy := row_cells h2
 refine (Tryz.slices_Equal_string g (o + k) n cap g2 o2 n c2 ((l.map bs).drop k) (f.map bs) w (by simp; omega) (by simp; omega) (by omega) (by omega) (fun j hj => ?_) hy).mono ?_
 ·rw [List.length_drop] at hj
  rw [Nat.add_assoc,hx (k + j) (by omega)]
  simp [List.getD,List.getElem?_drop]
 ·rintro e w' ⟨rfl,q,rfl⟩
  refine ⟨ret_bool (decide_eq_decide.2 ?_),Below.drewQ w q⟩
  rw [List.take_of_length_le (l := f.map bs) (by simp; omega),← List.map_drop,← List.map_take]
  exact ⟨fun e => map_bs_inj e,fun e => by rw [e]⟩
set_option maxRecDepth 100000 in
set_option maxHeartbeats 1000000 in
theorem fits_any (letters : List (List UInt8)) (p : Al.R × Value) (at_ : Nat) (lv rv : Value) (w : World) (hl : SlOf w lv 1 strC letters) (hf : SlOf w p.2 1 strC p.1.from_) (hn : p.1.from_ ≠ []) (h1 : letters.length ≤ 1000000) (h2 : p.1.from_.length ≤ 1000000) (h3 : at_ ≤ 1000000) :
  Calls Tryz.prog 152 #[.agg #[lv,rv],ruleV p,.int .i64 at_] w (Gives (.bool (Al.fits letters p.1 at_)) w) := by
 obtain ⟨r,fv⟩ := p
 obtain ⟨a1,c1,rfl,e1,e2,e3⟩ := hl
 simp only at hf hn h2
 obtain ⟨a2,c2,rfl,f1,f2,f3⟩ := hf
 have hpos : 0 < r.from_.length := List.length_pos_iff.2 hn
 unfold ruleV ruleC
 simp only
 by_cases hle : at_ + r.from_.length ≤ letters.length
 ·obtain ⟨g,o,rfl,hr⟩ := e3 (by omega)
  obtain ⟨g2,o2,rfl,hr2⟩ := f3 hpos
  have hle' : (at_ : Int) + (r.from_.length : Int) ≤ (letters.length : Int) := by omega
  have hyes := hid (show Al.fits letters r at_ = decide ((letters.drop at_).take r.from_.length = r.from_) by unfold Al.fits; rw [decide_eq_true hle,Bool.true_and])
  have HR := hid (And.intro hr hr2)
  clear e3 f3 hr hr2
  obtain ⟨W2,hW2⟩ := exq ((w.alloc (.cells #[.slice (some ⟨g,o,none⟩) letters.length c1,rv] 199)).alloc (.cells #[.int .i64 r.index,.int .i64 r.cost,.slice (some ⟨g2,o2,none⟩) r.from_.length c2,.string (bs r.to_)] 213))
  have hbW := hid (show Below w.heap.size w W2 by rw [hW2]; exact ((Below.refl _ w).alloc (Nat.le_refl _) _).alloc (by simp) _)
  have z0 : w.heap.size < W2.heap.size := by rw [hW2,World.size_alloc,World.size_alloc]; omega
  have z1 : w.heap.size + 1 < W2.heap.size := by rw [hW2,World.size_alloc,World.size_alloc]; omega
  have HZ := hid (And.intro z0 z1)
  have HC : Hid (W2.cell? ⟨w.heap.size,0,none⟩ = some (.slice (some ⟨g,o,none⟩) letters.length c1) ∧ W2.cell? ⟨w.heap.size + 1,2,none⟩ = some (.slice (some ⟨g2,o2,none⟩) r.from_.length c2)) := by
   constructor
   ·have h := cells_new (w := w) (n := w.heap.size) (t := 199) (l := [.slice (some ⟨g,o,none⟩) letters.length c1,rv]) rfl 0 _ rfl
    rw [addr_at] at h
    rw [hW2]; refine (World.cell?_alloc_lt _ _ _ ?_).trans h; rw [World.size_alloc]; exact Nat.lt_succ_self _
   ·have h := cells_new (w := w.alloc (.cells #[.slice (some ⟨g,o,none⟩) letters.length c1,rv] 199)) (n := w.heap.size + 1) (t := 213) (l := [.int .i64 (r.index : Int),.int .i64 r.cost,.slice (some ⟨g2,o2,none⟩) r.from_.length c2,.string (bs r.to_)]) (by rw [World.size_alloc]) 2 _ rfl
    rw [addr_at] at h
    rw [hW2]; exact h
  have K : Hid (∀ wx,Below W2.heap.size W2 wx → Below W2.heap.size W2 wx ∧ wx.cell? ⟨w.heap.size,0,none⟩ = some (.slice (some ⟨g,o,none⟩) letters.length c1) ∧ wx.cell? ⟨w.heap.size + 1,2,none⟩ = some (.slice (some ⟨g2,o2,none⟩) r.from_.length c2)) := fun wx hb =>
   ⟨hb,(hb.cell (p := ⟨w.heap.size,0,none⟩) HZ.out.1).trans HC.out.1,(hb.cell (p := ⟨w.heap.size + 1,2,none⟩) HZ.out.2).trans HC.out.2⟩
  have f1' : IntKind.i64.wrap ((at_ : Int) + (r.from_.length : Int)) = (at_ : Int) + (r.from_.length : Int) := IntWalk.i64_in _ (by omega)
  have f2' : ((at_ : Int) + (r.from_.length : Int)).toNat - at_ = r.from_.length := by omega
  have b1' : (0 : Int) ≤ (at_ : Int) + (r.from_.length : Int) ∧ (at_ : Int) + (r.from_.length : Int) ≤ (c1 : Int) := by omega
  have b2' : (at_ : Int) ≤ (at_ : Int) + (r.from_.length : Int) := by omega
  have b3' : ¬ c1 = at_ := by omega
  have EQ : Hid (∀ wx cap,Below W2.heap.size W2 wx → Calls Tryz.prog 148 #[.slice (some ⟨g,o + at_,none⟩) r.from_.length cap,.slice (some ⟨g2,o2,none⟩) r.from_.length c2] wx (Gives (.bool (Al.fits letters r at_)) wx)) := fun wx cap hb => by
   have b := hbW.out.trans (hb.mono hbW.out.size)
   rw [hyes.out]
   exact equal_part (HR.out.1.below b) (HR.out.2.below b) hle rfl h2
  go_enter Tryz.func152,Tryz.ntmps152
  go_wp2_with fail
  rw [← hW2]
  clear hW2 z0 z1
  go_region_held3 (fun wx => Below W2.heap.size W2 wx ∧ wx.cell? ⟨w.heap.size,0,none⟩ = some (.slice (some ⟨g,o,none⟩) letters.length c1) ∧ wx.cell? ⟨w.heap.size + 1,2,none⟩ = some (.slice (some ⟨g2,o2,none⟩) r.from_.length c2))
   (first | (exact K.out _ (Below.refl _ _)) | (exact K.out _ (Below.refl _ _).drew) | (go_split_ands; refine K.out _ ?_; first | assumption | (refine Below.step ?_ hbx; assumption) | (refine Below.step ?_ hbx; exact (Below.refl _ _).drew)))
   (first | (go_at_call 148; refine (EQ.out _ _ (by first | assumption | exact (Below.refl _ _).drew)).mono ?_; rintro e wy ⟨rfl,hbx⟩))
  have hbz : Below W2.heap.size W2 wy := by first | assumption | exact Below.step (Below.refl _ _).drew hbx
  have HF := hid (hbW.out.trans (hbz.mono hbW.out.size))
  clear hbz hbx
  go_wp2
  go_ret
  exact ⟨rfl,HF.out⟩
 ·have hno := hid (show Al.fits letters r at_ = false by unfold Al.fits; rw [decide_eq_false hle]; rfl)
  have hd : decide ((at_ : Int) + (r.from_.length : Int) ≤ (letters.length : Int)) = false := decide_eq_false (by omega)
  have f1' : IntKind.i64.wrap ((at_ : Int) + (r.from_.length : Int)) = (at_ : Int) + (r.from_.length : Int) := IntWalk.i64_in _ (by omega)
  have hbW := hid (show Below w.heap.size w ((w.alloc (.cells #[.slice a1 letters.length c1,rv] 199)).alloc (.cells #[.int .i64 r.index,.int .i64 r.cost,.slice a2 r.from_.length c2,.string (bs r.to_)] 213)) from
   ((Below.refl _ w).alloc (Nat.le_refl _) _).alloc (by rw [World.size_alloc]; omega) _)
  clear e3 f3 hle
  go_enter Tryz.func152,Tryz.ntmps152
  go_wp2_with fail
  go_quiet (fail)
  go_wp2
  go_ret
  exact ⟨ret_bool hno.out.symm,hbW.out.trans ((Below.drewQ _ _).mono hbW.out.size)⟩
def stC (s : Al.St) : List Value := [.int .i64 s.i,.int .i64 s.j,.string (bs s.ahead),.bool s.right]
def stV (s : Al.St) : Value := .agg (stC s).toArray
structure WordsAt (W : World) (w : Al.Ws) (fl fr : List (Al.R × Value)) (v : List Value) : Prop where
 at_ : ∃ ll lr rl rr,v = [ll,lr,rl,rr] ∧ SlOf W ll 1 strC w.left.letters ∧ RulesAt W fl lr ∧ SlOf W rl 1 strC w.right.letters ∧ RulesAt W fr rr
 left : fl.map Prod.fst = w.left.rules
 right : fr.map Prod.fst = w.right.rules
theorem WordsAt.below {W W' : World} {w : Al.Ws} {fl fr : List (Al.R × Value)} {v : List Value} (h : WordsAt W w fl fr v) (hb : Below W.heap.size W W') : WordsAt W' w fl fr v := by
 obtain ⟨⟨ll,lr,rl,rr,e,a,b,c,d⟩,h1,h2⟩ := h
 exact ⟨⟨ll,lr,rl,rr,e,a.below hb,b.below hb,c.below hb,d.below hb⟩,h1,h2⟩
theorem empty_is (l : List UInt8) : (bs l).toList.isEmpty = l.isEmpty := by rw [ByteArray.toList_eq]; rfl
theorem nat_beq (a b : Nat) : ((a : Int) == (b : Int)) = decide (a = b) := by
 rw [Bool.eq_iff_iff]; simp; omega
set_option maxRecDepth 100000 in
set_option maxHeartbeats 1000000 in
theorem done_any (w : Al.Ws) (s : Al.St) (fl fr : List (Al.R × Value)) (v : List Value) (W : World) (h : WordsAt W w fl fr v) : Calls Tryz.prog 111 #[.agg v.toArray,stV s] W (Gives (.bool (Al.done w s)) W) := by
 obtain ⟨⟨ll,lr,rl,rr,rfl,⟨a1,c1,rfl,_⟩,_,⟨a2,c2,rfl,_⟩,_⟩,_,_⟩ := h
 unfold stV stC
 have hE := empty_is s.ahead
 have hbW := hid (show Below W.heap.size W ((W.alloc (.cells #[.slice a1 w.left.letters.length c1,lr,.slice a2 w.right.letters.length c2,rr] 201)).alloc (.cells #[.int .i64 s.i,.int .i64 s.j,.string (bs s.ahead),.bool s.right] 207)) from
   ((Below.refl _ W).alloc (Nat.le_refl _) _).alloc (by rw [World.size_alloc]; omega) _)
 have hdn := hid (show Al.done w s = (decide (s.i = w.left.letters.length) && decide (s.j = w.right.letters.length) && s.ahead.isEmpty) from rfl)
 have h1 := nat_beq s.i w.left.letters.length
 have h2 := nat_beq s.j w.right.letters.length
 cases e1 : decide (s.i = w.left.letters.length) with
 | false =>
  rw [e1] at h1 hdn
  have hdn' := hid (show Al.done w s = false by rw [hdn.out]; rfl)
  clear hdn hE h2 e1
  go_enter Tryz.func111,Tryz.ntmps111
  go_wp2
  go_ret
  exact ⟨ret_bool hdn'.out.symm,hbW.out⟩
 | true =>
  rw [e1] at h1 hdn
  clear e1
  cases e2 : decide (s.j = w.right.letters.length) with
  | false =>
   rw [e2] at h2 hdn
   have hdn' := hid (show Al.done w s = false by rw [hdn.out]; rfl)
   clear hdn hE e2
   go_enter Tryz.func111,Tryz.ntmps111
   go_wp2
   go_ret
   exact ⟨ret_bool hdn'.out.symm,hbW.out⟩
  | true =>
   rw [e2] at h2 hdn
   have hdn' := hid (show Al.done w s = s.ahead.isEmpty by rw [hdn.out]; rfl)
   clear hdn e2
   go_enter Tryz.func111,Tryz.ntmps111
   go_wp2
   go_ret
   refine ⟨ret_bool ?_,hbW.out⟩
   rw [hdn'.out]
set_option maxRecDepth 100000 in
theorem moves_mk (ll lr rl rr : Value) (s : Al.St) (W : World) : Calls Tryz.prog 112 #[.agg #[ll,lr,rl,rr],stV s] W fun e W' =>
  e = .returned (.func (.func 151) #[] #[.pointer (some ⟨W.heap.size + 1,0,none⟩),.pointer (some ⟨W.heap.size,0,none⟩)]) ∧ W' = (W.alloc (.cells #[ll,lr,rl,rr] 201)).alloc (.cells (stC s).toArray 207) := by
 unfold stV stC
 go_enter Tryz.func112,Tryz.ntmps112
 go_wp2
 go_ret
 exact ⟨rfl,rfl⟩
structure MovesStart (w : Al.Ws) (fl fr : List (Al.R × Value)) (s : Al.St) (Bs Bw : Nat) (W : World) : Prop where
 st : W.heap[Bs]? = some (.cells (stC s).toArray 207 (0,0))
 ws : ∃ v,W.heap[Bw]? = some (.cells v.toArray 201 (0,0)) ∧ WordsAt W w fl fr v
def nxMove (w : Al.Ws) (s : Al.St) : List (Al.R × Value) → Option (Array Value × List (Al.R × Value))
 | [] => none
 | p :: l => match Al.move w s p.1 with
  | some (_,s') => some (#[ruleV p,stV s'],l)
  | none => nxMove w s l
attribute [local go_sem] Oper.semAt_some
structure MovesKeep (B : Nat) (w : Al.Ws) (fl fr : List (Al.R × Value)) (v : List Value) (W W' : World) : Prop where
 size : W.heap.size ≤ W'.heap.size
 cells : ∀ (q : Nat) (o : Obj),B ≤ q → W.heap[q]? = some o → o.isCells = true → W'.heap[q]? = some o
 words : WordsAt W w fl fr v → WordsAt W' w fl fr v
theorem set_two {W : World} {b : Nat} {x y u z : Value} {t : TypeId} (h : W.heap[b]? = some (.cells #[x,y] t (0,0))) : ((W.setCell ⟨b,0,none⟩ u).setCell ⟨b,1,none⟩ z).drew.heap[b]? = some (.cells #[u,z] t (0,0)) := by
 show ((W.setCell ⟨b,0,none⟩ u).setCell ⟨b,1,none⟩ z).heap[b]? = _
 simp [World.setCell,Array.getElem?_modify,h]
def theRules (w : Al.Ws) (s : Al.St) (fl fr : List (Al.R × Value)) : List (Al.R × Value) := if Al.byLeft w s then fl else fr
structure MvW (B b : Nat) (w : Al.Ws) (s : Al.St) (fl fr : List (Al.R × Value)) (v : List Value) (x y : Value) (wr : World) : Prop where
 st : wr.heap[B + 1]? = some (.cells (stC s).toArray 207 (0,0))
 one : wr.heap[b]? = some (.cells #[x,y] 199 (0,0))
 words : WordsAt wr w fl fr v
section
variable {B b : Nat} {w : Al.Ws} {s : Al.St} {fl fr : List (Al.R × Value)} {v : List Value} {x y : Value} {wr wr' : World}
theorem MvW.below (h : MvW B b w s fl fr v x y wr) (hb : Below wr.heap.size wr wr') : MvW B b w s fl fr v x y wr' :=
 ⟨(hb.block _ (Array.getElem?_eq_some_iff.1 h.st).1).trans h.st,(hb.block _ (Array.getElem?_eq_some_iff.1 h.one).1).trans h.one,h.words.below hb⟩
theorem MvW.keep (h : MvW B b w s fl fr v x y wr) (hb : MovesKeep B w fl fr v wr wr') (hBb : B < b) : MvW B b w s fl fr v x y wr' :=
 ⟨hb.cells _ _ (by omega) h.st rfl,hb.cells _ _ (by omega) h.one rfl,hb.words h.words⟩
theorem MvW.cell (h : MvW B b w s fl fr v x y wr) (j : Nat) (u : Value) (hu : (stC s)[j]? = some u) : wr.cell? ⟨B + 1,j,none⟩ = some u := by
 simp [World.cell?,h.st,hu]
theorem MvW.cellOne (h : MvW B b w s fl fr v x y wr) (j : Nat) (u : Value) (hu : [x,y][j]? = some u) : wr.cell? ⟨b,j,none⟩ = some u := by
 simp only [World.cell?,h.one]; simpa using hu
end
theorem theRules_map {w : Al.Ws} {s : Al.St} {fl fr : List (Al.R × Value)} (h1 : fl.map Prod.fst = w.left.rules) (h2 : fr.map Prod.fst = w.right.rules) : (theRules w s fl fr).map Prod.fst = (Al.one w s).rules := by
 unfold theRules Al.one; split
 ·exact h1
 ·exact h2
theorem one_mem {w : Al.Ws} {s : Al.St} {r : Al.R} (h : r ∈ (Al.one w s).rules) : r ∈ w.left.rules ++ w.right.rules := by
 unfold Al.one at h
 rw [List.mem_append]
 split at h
 ·exact .inl h
 ·exact .inr h
theorem nxMove_cons (w : Al.Ws) (s : Al.St) (F : List (Al.R × Value)) (k : Nat) (p : Al.R × Value) (h : F[k]? = some p) :
  nxMove w s (F.drop k) = match Al.move w s p.1 with
   | some (_,s') => some (#[ruleV p,stV s'],F.drop (k + 1))
   | none => nxMove w s (F.drop (k + 1)) := by
 obtain ⟨hk,he⟩ := List.getElem?_eq_some_iff.1 h
 rw [List.drop_eq_getElem_cons hk,he]
 rfl
set_option maxRecDepth 100000 in
set_option maxHeartbeats 2000000 in
theorem moves_iter (w : Al.Ws) (s : Al.St) (fl fr : List (Al.R × Value)) (v : List Value) (B : Nat) (n : Nat) (hn : 1 ≤ n) :
  IterX Fence.wide n Tryz.prog 151 #[.pointer (some ⟨B + 1,0,none⟩),.pointer (some ⟨B,0,none⟩)] none (MovesKeep B w fl fr v) (nxMove w s)
   (fun b W => b = theRules w s fl fr ∧ W.heap[B + 1]? = some (.cells (stC s).toArray 207 (0,0)) ∧ W.heap[B]? = some (.cells v.toArray 201 (0,0)) ∧ WordsAt W w fl fr v ∧ w.Good ∧ w.left.letters.length ≤ 1000 ∧ w.right.letters.length ≤ 1000 ∧ s.i ≤ 1000 ∧ s.j ≤ 1000 ∧ ∀ r ∈ w.left.rules ++ w.right.rules,r.from_.length ≤ 12 ∧ r.to_.length ≤ 1000) := by
 intro l J Jx b0 W hJ hJx hY hS h0
 obtain ⟨rfl,hst,hws,hwa,hgood,hl1,hl2,hi1,hj1,hfew⟩ := hS
 refine callsIn_of_wp Tryz.func151 rfl trivial ?_ rfl
 simp only [Tryz.ntmps151,List.size_toArray,List.length_cons,List.length_nil,Nat.reduceAdd,Nat.reduceSub,Array.replicate_succ,Array.replicate_zero,List.push_toArray,List.append_toArray,List.nil_append,List.cons_append]
 have hcell : ∀ j u,(stC s)[j]? = some u → W.cell? ⟨B + 1,j,none⟩ = some u := fun j u hu => by
  simp [World.cell?,hst,hu]
 have HW := hid hwa
 have HW0 := HW
 have H0 := hid h0
 obtain ⟨⟨ll,lr,rl,rr,hv,⟨al,cl,rfl,-,-,-⟩,⟨⟨al2,cl2,rfl,-,-,-⟩,-⟩,⟨ar,cr,rfl,-,-,-⟩,⟨⟨ar2,cr2,rfl,-,-,-⟩,-⟩⟩,hfl,hfr⟩ := hwa
 have hcelw : ∀ j u,v[j]? = some u → W.cell? ⟨B,j,none⟩ = some u := fun j u hu => by
  simp [World.cell?,hws,hu]
 rw [hv] at hcelw
 have hsz : B + 1 < W.heap.size := (Array.getElem?_eq_some_iff.1 hst).1
 have hsz0 : B < W.heap.size := by omega
 have hsz1 : ¬ B = W.heap.size := by omega
 have hsz2 : ¬ B + 1 = W.heap.size := by omega
 have c0 := hcell 0 _ rfl
 have c1 := hcell 1 _ rfl
 have c2 := hcell 2 _ rfl
 have c3 := hcell 3 _ rfl
 have d0 := hcelw 0 _ rfl
 have d1 := hcelw 1 _ rfl
 have d2 := hcelw 2 _ rfl
 have d3 := hcelw 3 _ rfl
 clear hcell hcelw
 have HS := hid (And.intro hst hws)
 have HV := hid hv
 clear hv
 clear hst hws
 have HF := hid (And.intro hfl hfr)
 clear hfl hfr
 gi_upto_region 0 with (fail)
 gi_cut [4] from 14 (fun v wx => v = .bool (Al.byLeft w s) ∧ wx = W)
 case first =>
  refine wpIn_wide.2 ?_
  have hE := empty_is s.ahead
  have HL := hid (show Al.byLeft w s = (s.right || (s.ahead.isEmpty && decide (s.i < w.left.letters.length))) from rfl)
  have hI : ((s.i : Int) < (w.left.letters.length : Int)) = (s.i < w.left.letters.length) := by simp
  cases hr : s.right with
  | true =>
   rw [hr] at c3
   have hno := hid (show Al.byLeft w s = true by rw [HL.out,hr]; rfl)
   clear hE hI hr
   go_wp2
   go_meet
   case rel => exact ⟨by rw [hno.out],rfl⟩
  | false =>
   rw [hr] at c3
   cases he : s.ahead.isEmpty with
   | false =>
    rw [he] at hE
    have hno := hid (show Al.byLeft w s = false by rw [HL.out,hr,he]; rfl)
    clear hI hr he
    go_wp2
    go_meet
    case rel => exact ⟨by rw [hno.out],rfl⟩
   | true =>
    rw [he] at hE
    have hno := hid (show Al.byLeft w s = decide (s.i < w.left.letters.length) by rw [HL.out,hr,he]; rfl)
    clear hr he
    go_wp2
    go_meet
    case rel =>
     refine ⟨?_,rfl⟩
     rw [hno.out]
 case rest =>
 obtain ⟨rfl,hwc⟩ := hcut
 rw [hwc]
 clear hwc wc
 gi_upto_region 1 with (fail)
 gi_cut [5,6] from 14 (fun v5 v6 wx => v5 = .pointer (some ⟨W.heap.size,0,none⟩) ∧ v6 = .int .i64 s.j ∧ Below W.heap.size W wx ∧ wx.heap[W.heap.size]? = some (.cells #[.slice ar w.right.letters.length cr,.slice ar2 fr.length cr2] 199 (0,0)))
 case first =>
  refine wpIn_wide.2 ?_
  go_region
  go_wp2
  go_meet
  case rel => exact ⟨rfl,rfl,((Below.refl _ W).alloc (Nat.le_refl _) _).drew,World.alloc_heap_new W _⟩
 case rest =>
 obtain ⟨rfl,rfl,hb1,hk1⟩ := hcut
 have e0 := (hb1.cell (p := ⟨B + 1,0,none⟩) hsz).trans c0
 have e1 := (hb1.cell (p := ⟨B + 1,1,none⟩) hsz).trans c1
 have e2 := (hb1.cell (p := ⟨B + 1,2,none⟩) hsz).trans c2
 have e3 := (hb1.cell (p := ⟨B + 1,3,none⟩) hsz).trans c3
 have g0 := (hb1.cell (p := ⟨B,0,none⟩) hsz0).trans d0
 have g1 := (hb1.cell (p := ⟨B,1,none⟩) hsz0).trans d1
 have g2 := (hb1.cell (p := ⟨B,2,none⟩) hsz0).trans d2
 have g3 := (hb1.cell (p := ⟨B,3,none⟩) hsz0).trans d3
 have hz := hb1.size
 have hn1 := (Array.getElem?_eq_some_iff.1 hk1).1
 have m0 : wc.cell? ⟨W.heap.size,0,none⟩ = some (.slice ar w.right.letters.length cr) := by simp [World.cell?,hk1]
 have m1 : wc.cell? ⟨W.heap.size,1,none⟩ = some (.slice ar2 fr.length cr2) := by simp [World.cell?,hk1]
 have m2 : wc.frozen? ⟨W.heap.size,0,none⟩ = false := by simp [World.frozen?,hk1]
 have m3 : wc.frozen? ⟨W.heap.size,1,none⟩ = false := by simp [World.frozen?,hk1]
 have hk1' := hid hk1
 have hb1' := hid hb1
 clear c0 c1 c2 c3 d0 d1 d2 d3 hk1 hb1 h0 HW
 obtain ⟨b,hb⟩ := exq (W.heap.size)
 rw [← hb] at m0 m1 m2 m3 hz hn1 hk1' hsz hsz0 hsz1 hsz2 ⊢
 have hB := hid hb
 clear hb
 rename World => W1
 gi_step
 gi_step
 gi_cut [4,6] from 14 (fun v4 v6 wx => v4 = .bool (Al.byLeft w s) ∧ v6 = .int .i64 (Al.at_ w s) ∧ Below W.heap.size W wx ∧ ∃ a1 c1 a2 c2,wx.heap[b]? = some (.cells #[.slice a1 (Al.one w s).letters.length c1,.slice a2 (theRules w s fl fr).length c2] 199 (0,0)) ∧ ∀ W',WordsAt W' w fl fr v → SlOf W' (.slice a1 (Al.one w s).letters.length c1) 1 strC (Al.one w s).letters ∧ RulesAt W' (theRules w s fl fr) (.slice a2 (theRules w s fl fr).length c2))
 case first =>
  refine wpIn_wide.2 ?_
  cases hbl : Al.byLeft w s with
  | true =>
   have HB := hid hbl
   clear hbl
   go_wp2_with fail
   go_region
   go_wp2
   go_meet
   case rel =>
    have hb2 := hb1'.out.setCell (p := ⟨b,0,none⟩) (by rw [hB.out]; exact Nat.le_refl _) (.slice al w.left.letters.length cl)
    have hb3 := (hb2.setCell (p := ⟨b,1,none⟩) (by rw [hB.out]; exact Nat.le_refl _) (.slice al2 fl.length cl2)).drew
    unfold Al.one theRules Al.at_
    rw [HB.out]
    refine ⟨rfl,rfl,hb3,al,cl,al2,cl2,?_,fun W' hwa => ?_⟩
    ·exact set_two hk1'.out
    ·obtain ⟨⟨ll',lr',rl',rr',e,q1,q2,_,_⟩,_,_⟩ := hwa
     rw [HV.out] at e
     simp only [List.cons.injEq,and_true] at e
     obtain ⟨rfl,rfl,rfl,rfl⟩ := e
     exact ⟨q1,q2⟩
  | false =>
   have HB := hid hbl
   clear hbl
   go_wp2
   go_meet
   case rel =>
    unfold Al.one theRules Al.at_
    rw [HB.out]
    refine ⟨rfl,rfl,hb1'.out,ar,cr,ar2,cr2,hk1'.out,fun W' hwa => ?_⟩
    obtain ⟨⟨ll',lr',rl',rr',e,_,_,q1,q2⟩,_,_⟩ := hwa
    rw [HV.out] at e
    simp only [List.cons.injEq,and_true] at e
    obtain ⟨rfl,rfl,rfl,rfl⟩ := e
    exact ⟨q1,q2⟩
 case rest =>
 obtain ⟨rfl,rfl,hb2,a1,k1,a2,k2,hk2,hsl⟩ := hcut
 rename World => W2
 clear e0 e1 e2 e3 g0 g1 g2 g3 m0 m1 m2 m3 hk1' hb1' hn1 hz W1
 have hj2 := hid (hJ _ _ _ none H0.out (Below.grows hb2 none) (fun r e => by cases e))
 have hw2 := hid (HW0.out.below hb2)
 have hs2 := hid ((hb2.block (B + 1) (by rw [← hB.out]; exact hsz)).trans HS.out.1)
 have hbz := hb2.size
 rw [← hB.out] at hbz
 clear hb2 HS H0 HW0 HV
 clear al cl al2 cl2 ar cr ar2 cr2
 obtain ⟨L,hL⟩ := exq ((Al.one w s).letters)
 obtain ⟨F,hF⟩ := exq (theRules w s fl fr)
 rw [← hL,← hF] at hk2 hsl
 rw [← hF] at hj2
 have HL := hid hL
 have HFF := hid hF
 clear hL hF
 have m1 : W2.cell? ⟨b,1,none⟩ = some (.slice a2 F.length k2) := by simp [World.cell?,hk2]
 have hk2' := hid hk2
 have hsl' := hid hsl
 clear hk2 hsl
 have hmv := hid (MvW.mk (B := B) (b := b) hs2.out hk2'.out hw2.out)
 clear hs2 hw2 hk2'
 gi_wp2_with fail
 gi_loopw [42] (fun i wr => ∃ (k : Nat) (bb : List (Al.R × Value)),k ≤ F.length ∧ i = .int .i64 k ∧ nxMove w s bb = nxMove w s (F.drop k) ∧ J bb wr ∧ MvW B b w s fl fr v (.slice a1 L.length k1) (.slice a2 F.length k2) wr) (fun i _ => F.length - (intOf i).toNat)
 case atStart => exact ⟨0,F,Nat.zero_le _,rfl,rfl,hj2.out,hmv.out⟩
 case round =>
  obtain ⟨k,bb,hk,rfl,hnx,hJb,hm⟩ := hrel
  by_cases hlt : k < F.length
  ·obtain ⟨hsL,hsR,hsf⟩ := hsl'.out wr hm.words
   obtain ⟨a2',k2',e',f1,f2,f3⟩ := hsR
   obtain ⟨g,o,rfl,hr⟩ := f3 (by omega)
   cases e'
   obtain ⟨⟨r,fv⟩,hp⟩ : ∃ p,F[k]? = some p := ⟨_,List.getElem?_eq_getElem hlt⟩
   have hfv := hsf _ (List.mem_of_getElem? hp)
   simp only at hfv
   have HFV := hid hfv
   have HSL := hid hsL
   obtain ⟨af,cf,rfl,q1,q2,q3⟩ := hfv
   have hFl : F.length ≤ 9223372036854775807 := by unfold maxLen at f2; omega
   clear q1 q2 q3 f1 f2 f3 hsL hsf
   have hcel := hr.2 k _ hp
   have c0 := hcel 0 _ rfl
   have c1 := hcel 1 _ rfl
   have c2 := hcel 2 _ rfl
   have c3 := hcel 3 _ rfl
   rw [Nat.add_zero] at c0
   have hg := hr.1
   have x0 := hm.cellOne 0 _ rfl
   have x1 := hm.cellOne 1 _ rfl
   have hbw := (Array.getElem?_eq_some_iff.1 hm.one).1
   have hk0 : (0 : Int) ≤ (k : Int) := by omega
   have hk1 : (k : Int) < (F.length : Int) := by omega
   have HM := hid hm
   have HJ := hid hJb
   have HNX := hid (hnx.trans (nxMove_cons w s F k _ hp))
   have HP := hid hp
   clear hcel hr hm hJb hnx hp
   have hmem : r ∈ (Al.one w s).rules := by
    rw [← theRules_map HF.out.1 HF.out.2,← HFF.out]
    exact List.mem_map_of_mem (f := Prod.fst) (List.mem_of_getElem? HP.out)
   have hne := hid ((hgood.one s).some_ r hmem)
   have hfw := hfew r (one_mem hmem)
   have hLl : L.length ≤ 1000 := by rw [HL.out]; unfold Al.one; split <;> assumption
   have hatl : Al.at_ w s ≤ 1000 := by unfold Al.at_; split <;> assumption
   clear hmem
   obtain ⟨A1,hA1⟩ := exq (wr.alloc (.cells #[.int .i64 r.index,.int .i64 r.cost,.slice af r.from_.length cf,.string (bs r.to_)] 213))
   have hbA := bnew hA1
   have hkA : A1.heap[wr.heap.size]? = some (.cells #[.int .i64 r.index,.int .i64 r.cost,.slice af r.from_.length cf,.string (bs r.to_)] 213 (0,0)) := by rw [hA1]; exact World.alloc_heap_new wr _
   have hfit := fits_any L (r,.slice af r.from_.length cf) (Al.at_ w s) (.slice a1 L.length k1) (.slice (some ⟨g,o,none⟩) F.length k2) A1 (HSL.out.below hbA) (HFV.out.below hbA) hne.out (by omega) (by simp only; omega) (by omega)
   have HFIT := hid hfit
   have HA := hid (And.intro hbA hkA)
   clear hfit hbA hkA
   gi_wp2_with fail
   rw [← hA1]
   refine ⟨trivial,?_⟩
   have HA1 := hid hA1
   clear hA1
   cases hfb : Al.fits L r (Al.at_ w s) with
   | false =>
    have hno := hid (show Al.move w s r = none by unfold Al.move; rw [← HL.out,hfb]; rfl)
    rw [show Al.fits L (r,Value.slice af r.from_.length cf).1 (Al.at_ w s) = false from hfb] at HFIT
    clear hfb
    refine (callsIn_wide.2 HFIT.out).mono ?_
    rintro e A2 ⟨rfl,hb2⟩
    have hbAA := hid (Below.step HA.out.1 hb2)
    clear hb2
    gi_wp2_with fail
    go_roundw
    case rel =>
     refine ⟨k + 1,bb,by omega,by go_num,?_,hJ _ _ _ none HJ.out (Below.grows hbAA.out none) (fun r e => by cases e),HM.out.below hbAA.out⟩
     rw [HNX.out]
     simp only [hno.out]
    case measure => simp [intOf]; omega
   | true =>
    rw [show Al.fits L (r,Value.slice af r.from_.length cf).1 (Al.at_ w s) = true from hfb] at HFIT
    have HFB := hid hfb
    clear hfb
    refine (callsIn_wide.2 HFIT.out).mono ?_
    rintro e A2 ⟨rfl,hb2⟩
    have hk2 := hid ((hb2.block _ (Array.getElem?_eq_some_iff.1 HA.out.2).1).trans HA.out.2)
    have hbAA := hid (Below.step HA.out.1 hb2)
    have hm2 := HM.out.below hbAA.out
    have e0 := hm2.cell 0 _ rfl
    have e1 := hm2.cell 1 _ rfl
    have hrs : wr.heap.size < A2.heap.size := (Array.getElem?_eq_some_iff.1 hk2.out).1
    have p2 : A2.cell? ⟨wr.heap.size,2,none⟩ = some (.slice af r.from_.length cf) := by simp [World.cell?,hk2.out]
    clear hb2 x0 x1 c0 c1 c2 c3
    gi_upto_region 8 with (fail)
    gi_cut [9] from 51 (fun v9 wx => v9 = .pointer (some ⟨A2.heap.size,0,none⟩) ∧ wx = A2.alloc (.cells #[.int .i64 s.i,.int .i64 s.j,.string ⟨#[]⟩,.bool false] 207))
    case first =>
     gi_wp2
     gi_meet
     case rel => exact ⟨rfl,rfl⟩
    case rest =>
    obtain ⟨rfl,hwc⟩ := hcut
    rename World => A3
    have hb3 := bnew hwc
    have hk3 : A3.heap[A2.heap.size]? = some (.cells #[.int .i64 s.i,.int .i64 s.j,.string ⟨#[]⟩,.bool false] 207 (0,0)) := by rw [hwc]; exact World.alloc_heap_new A2 _
    have p2' := (hb3.cell (p := ⟨wr.heap.size,2,none⟩) hrs).trans p2
    have hB3 := hid (And.intro hb3 hk3)
    have n0 : A3.cell? ⟨A2.heap.size,0,none⟩ = some (.int .i64 s.i) := by simp [World.cell?,hk3]
    have n1 : A3.cell? ⟨A2.heap.size,1,none⟩ = some (.int .i64 s.j) := by simp [World.cell?,hk3]
    have n2 : A3.frozen? ⟨A2.heap.size,0,none⟩ = false := by simp [World.frozen?,hk3]
    have n3 : A3.frozen? ⟨A2.heap.size,1,none⟩ = false := by simp [World.frozen?,hk3]
    have w1' : IntKind.i64.wrap ((s.i : Int) + (r.from_.length : Int)) = (s.i : Int) + (r.from_.length : Int) := IntWalk.i64_in _ (by omega)
    have w2' : IntKind.i64.wrap ((s.j : Int) + (r.from_.length : Int)) = (s.j : Int) + (r.from_.length : Int) := IntWalk.i64_in _ (by omega)
    clear hb3 hk3 hwc p2
    gi_step
    gi_step
    gi_cut [4,9] from 51 (fun v4 v9 wx => v4 = .bool (Al.byLeft w s) ∧ v9 = .pointer (some ⟨A2.heap.size,0,none⟩) ∧ Below A2.heap.size A2 wx ∧ wx.heap[A2.heap.size]? = some (.cells #[.int .i64 ((if Al.byLeft w s then s.i + r.from_.length else s.i : Nat) : Int),.int .i64 ((if Al.byLeft w s then s.j else s.j + r.from_.length : Nat) : Int),.string ⟨#[]⟩,.bool false] 207 (0,0)))
    case first =>
     refine wpIn_wide.2 ?_
     cases hbl : Al.byLeft w s with
     | true =>
      go_wp2
      go_meet
      case rel =>
       refine ⟨by rw [hbl],rfl,hB3.out.1.setCell (p := ⟨A2.heap.size,0,none⟩) (Nat.le_refl _) _,?_⟩
       simp [World.setCell,Array.getElem?_modify,hB3.out.2,hbl]
     | false =>
      go_wp2
      go_meet
      case rel =>
       refine ⟨by rw [hbl],rfl,hB3.out.1.setCell (p := ⟨A2.heap.size,1,none⟩) (Nat.le_refl _) _,?_⟩
       simp [World.setCell,Array.getElem?_modify,hB3.out.2,hbl]
    case rest =>
    obtain ⟨rfl,rfl,hb4,hk4⟩ := hcut
    rename World => A4
    clear n0 n1 n2 n3 p2'
    have HB4 := hid (And.intro hb4 hk4)
    have hmx := HM.out.below (Below.step hbAA.out hb4)
    have e2' := hmx.cell 2 _ rfl
    have e3' := hmx.cell 3 _ rfl
    have hmx' := hid hmx
    have hk2x := (hb4.block _ hrs).trans hk2.out
    have p3' : A4.cell? ⟨wr.heap.size,3,none⟩ = some (.string (bs r.to_)) := by simp [World.cell?,hk2x]
    have hrs4 : wr.heap.size < A4.heap.size := Nat.lt_of_lt_of_le hrs hb4.size
    obtain ⟨i',hi'⟩ : ∃ i',i' = (if Al.byLeft w s then s.i + r.from_.length else s.i) := ⟨_,rfl⟩
    obtain ⟨j',hj'⟩ : ∃ j',j' = (if Al.byLeft w s then s.j else s.j + r.from_.length) := ⟨_,rfl⟩
    rw [← hi',← hj'] at HB4
    have HIJ := hid (And.intro hi' hj')
    have hAn : A2.heap.size < A4.heap.size := (Array.getElem?_eq_some_iff.1 hk4).1
    clear hb4 hk4 hmx hk2x e0 e1 hm2 hi' hj'
    have hmv2 := hid (show Al.move w s r = (Al.nextOf (Al.byLeft w s) s r).map (fun n => (r,n)) by
     unfold Al.move; rw [← HL.out,if_pos HFB.out])
    have CP := hid (Tryz.strings_CutPrefix (bs s.ahead) (bs r.to_) A4)
    have CP2 := hid (Tryz.strings_CutPrefix (bs r.to_) (bs s.ahead) A4)
    rw [bs_list,bs_list] at CP CP2
    have HX := hid HB4.out
    have z0 : A4.cell? ⟨A2.heap.size,2,none⟩ = some (.string ⟨#[]⟩) := by simp [World.cell?,HB4.out.2]
    have z1 : A4.cell? ⟨A2.heap.size,3,none⟩ = some (.bool false) := by simp [World.cell?,HB4.out.2]
    have z2 : A4.frozen? ⟨A2.heap.size,2,none⟩ = false := by simp [World.frozen?,HB4.out.2]
    have z3 : A4.frozen? ⟨A2.heap.size,3,none⟩ = false := by simp [World.frozen?,HB4.out.2]
    gi_step
    gi_step
    gi_cut [9] from 51 (fun v9 wx => v9 = .pointer (some ⟨A2.heap.size,0,none⟩) ∧ ∃ s',Al.move w s r = some (r,s') ∧ Below A2.heap.size A2 wx ∧ wx.heap[A2.heap.size]? = some (.cells (stC s').toArray 207 (0,0)))
    case first =>
     cases hp1 : r.to_.isPrefixOf s.ahead with
     | true =>
      obtain ⟨q,hq⟩ := exq (s.ahead.drop r.to_.length)
      have hE := empty_is q
      have hs' := hid (show Al.move w s r = some (r,⟨i',j',q,s.right && !q.isEmpty⟩) by
       rw [hmv2.out]; unfold Al.nextOf; simp only; rw [if_pos hp1,← HIJ.out.1,← HIJ.out.2,← hq]; rfl)
      rw [show Lib.hasPrefix s.ahead r.to_ = true from hp1,show Lib.trimPrefix s.ahead r.to_ = q by unfold Lib.trimPrefix; rw [if_pos (show Lib.hasPrefix s.ahead r.to_ = true from hp1),hq]] at CP
      rw [show (⟨q.toArray⟩ : ByteArray) = bs q from rfl] at CP
      clear hp1 hq
      cases hsr : s.right with
      | false =>
       rw [hsr] at e3'
       have hs2 := hid (show Al.move w s r = some (r,⟨i',j',q,false⟩) by rw [hs'.out,hsr]; rfl)
       clear hsr
       gi_wp2_with fail
       refine ⟨trivial,(callsIn_wide.2 CP.out).mono ?_⟩
       rintro e w' ⟨rfl,rfl⟩
       gi_wp2
       gi_meet
       case rel =>
        refine ⟨rfl,_,hs2.out,(HX.out.1.setCell (p := ⟨A2.heap.size,2,none⟩) (Nat.le_refl _) _).setCell (p := ⟨A2.heap.size,3,none⟩) (Nat.le_refl _) _,?_⟩
        simp [World.setCell,Array.getElem?_modify,HX.out.2,stC]
      | true =>
       rw [hsr] at e3'
       cases hqe : q.isEmpty with
       | false =>
        rw [hqe] at hE
        have hs2 := hid (show Al.move w s r = some (r,⟨i',j',q,true⟩) by rw [hs'.out,hsr,hqe]; rfl)
        clear hsr hqe
        gi_wp2_with fail
        refine ⟨trivial,(callsIn_wide.2 CP.out).mono ?_⟩
        rintro e w' ⟨rfl,rfl⟩
        gi_wp2
        gi_meet
        case rel =>
         refine ⟨rfl,_,hs2.out,(HX.out.1.setCell (p := ⟨A2.heap.size,2,none⟩) (Nat.le_refl _) _).setCell (p := ⟨A2.heap.size,3,none⟩) (Nat.le_refl _) _,?_⟩
         simp [World.setCell,Array.getElem?_modify,HX.out.2,stC]
       | true =>
        rw [hqe] at hE
        have hs2 := hid (show Al.move w s r = some (r,⟨i',j',q,false⟩) by rw [hs'.out,hsr,hqe]; rfl)
        clear hsr hqe
        gi_wp2_with fail
        refine ⟨trivial,(callsIn_wide.2 CP.out).mono ?_⟩
        rintro e w' ⟨rfl,rfl⟩
        gi_wp2
        gi_meet
        case rel =>
         refine ⟨rfl,_,hs2.out,(HX.out.1.setCell (p := ⟨A2.heap.size,2,none⟩) (Nat.le_refl _) _).setCell (p := ⟨A2.heap.size,3,none⟩) (Nat.le_refl _) _,?_⟩
         simp [World.setCell,Array.getElem?_modify,HX.out.2,stC]
     | false =>
      rw [show Lib.hasPrefix s.ahead r.to_ = false from hp1] at CP
      cases hp2 : s.ahead.isPrefixOf r.to_ with
      | true =>
       obtain ⟨q,hq⟩ := exq (r.to_.drop s.ahead.length)
       have hs' := hid (show Al.move w s r = some (r,⟨i',j',q,!Al.byLeft w s⟩) by
        rw [hmv2.out]; unfold Al.nextOf; simp only; rw [if_neg (by rw [hp1]; simp),if_pos hp2,← HIJ.out.1,← HIJ.out.2,← hq]; rfl)
       rw [show Lib.hasPrefix r.to_ s.ahead = true from hp2,show Lib.trimPrefix r.to_ s.ahead = q by unfold Lib.trimPrefix; rw [if_pos (show Lib.hasPrefix r.to_ s.ahead = true from hp2),hq]] at CP2
       rw [show (⟨q.toArray⟩ : ByteArray) = bs q from rfl] at CP2
       clear hp1 hp2 hq
       gi_wp2_with fail
       refine ⟨trivial,(callsIn_wide.2 CP.out).mono ?_⟩
       rintro e w' ⟨rfl,rfl⟩
       gi_wp2_with fail
       refine ⟨trivial,(callsIn_wide.2 CP2.out).mono ?_⟩
       rintro e w'' ⟨rfl,rfl⟩
       gi_wp2
       gi_meet
       case rel =>
        refine ⟨rfl,_,hs'.out,(HX.out.1.setCell (p := ⟨A2.heap.size,2,none⟩) (Nat.le_refl _) _).setCell (p := ⟨A2.heap.size,3,none⟩) (Nat.le_refl _) _,?_⟩
        simp [World.setCell,Array.getElem?_modify,HX.out.2,stC]
      | false =>
       have hno := hid (show Al.move w s r = none by
        rw [hmv2.out]; unfold Al.nextOf; simp only; rw [if_neg (by rw [hp1]; simp),if_neg (by rw [hp2]; simp)]; rfl)
       rw [show Lib.hasPrefix r.to_ s.ahead = false from hp2] at CP2
       clear hp1 hp2
       have hbAA4 := hid (Below.step hbAA.out HX.out.1)
       gi_wp2_with fail
       refine ⟨trivial,(callsIn_wide.2 CP.out).mono ?_⟩
       rintro e w' ⟨rfl,rfl⟩
       gi_wp2_with fail
       refine ⟨trivial,(callsIn_wide.2 CP2.out).mono ?_⟩
       rintro e w'' ⟨rfl,rfl⟩
       gi_wp2_with fail
       go_roundw
       case rel =>
        refine ⟨k + 1,bb,by omega,by go_num,?_,hJ _ _ _ none HJ.out (Below.grows hbAA4.out none) (fun r e => by cases e),HM.out.below hbAA4.out⟩
        rw [HNX.out]
        simp only [hno.out]
       case measure => simp [intOf]; omega
    case rest =>
    obtain ⟨rfl,s',hmove,hb5,hk5⟩ := hcut
    rename World => A5
    clear e2' e3' p3' z0 z1 z2 z3
    have hb5' := hid (Below.step hbAA.out hb5)
    have hk2y := (hb5.block _ hrs).trans hk2.out
    have t0 : A5.cell? ⟨wr.heap.size,0,none⟩ = some (.int .i64 r.index) := by simp [World.cell?,hk2y]
    have t1 : A5.cell? ⟨wr.heap.size,1,none⟩ = some (.int .i64 r.cost) := by simp [World.cell?,hk2y]
    have t2 : A5.cell? ⟨wr.heap.size,2,none⟩ = some (.slice af r.from_.length cf) := by simp [World.cell?,hk2y]
    have t3 : A5.cell? ⟨wr.heap.size,3,none⟩ = some (.string (bs r.to_)) := by simp [World.cell?,hk2y]
    have u0 : A5.cell? ⟨A2.heap.size,0,none⟩ = some (.int .i64 s'.i) := by simp [World.cell?,hk5,stC]
    have u1 : A5.cell? ⟨A2.heap.size,1,none⟩ = some (.int .i64 s'.j) := by simp [World.cell?,hk5,stC]
    have u2 : A5.cell? ⟨A2.heap.size,2,none⟩ = some (.string (bs s'.ahead)) := by simp [World.cell?,hk5,stC]
    have u3 : A5.cell? ⟨A2.heap.size,3,none⟩ = some (.bool s'.right) := by simp [World.cell?,hk5,stC]
    have HNX2 := hid (HNX.out.trans (by rw [hmove]))
    have hJ5 := hJ _ _ _ none HJ.out (Below.grows hb5'.out none) (fun r e => by cases e)
    obtain ⟨fn,tmps,assign,body,hy,hR⟩ := hY bb _ _ A5 HNX2.out hJ5
    clear hk2y hb5 hk5 hJ5
    unfold ruleV ruleC stV stC at hy
    have HMM := hid (HM.out.below hb5'.out)
    gi_wp2_with fail
    refine hR.mono ?_
    rintro e W3 (⟨rfl,hJ3,hk3⟩ | ⟨rfl,hJx3⟩)
    ·gi_wp2_with fail
     go_roundw
     case rel => exact ⟨k + 1,F.drop (k + 1),by omega,by go_num,rfl,hJ3,HMM.out.keep hk3 hsz0⟩
     case measure => simp [intOf]; omega
    ·gi_wp2
     refine bodyPost_ret (results_none rfl _ _ _) rfl ?_
     exact ⟨⟨_,rfl⟩,.inr ⟨_,hJx3⟩⟩
  ·have hke : k = F.length := by omega
   have hnx' := hid (hnx.trans (show nxMove w s (F.drop k) = none by rw [hke,List.drop_length]; rfl))
   gi_wp2_with fail
   go_end0
   exact ⟨⟨_,rfl⟩,.inl ⟨bb,hnx'.out,hJb⟩⟩
end Go.Proofs.YtdghfenbfbdijaaGreatDoor
namespace Go.Proofs.YtdghfenbfbdijaaGreatDoor
open Go.RowKit Go.Maps
theorem st_keyed : Keyed Tryz.prog 207 :=
 Keyed.of_law (deep_law_laid laid_out (m := 9) (by decide) (of_decide_eq_true (by kernel_rfl)) (by kernel_rfl) (by kernel_rfl))
theorem wf_small (n : Nat) (h : n ≤ 1000000) : (Lit.int .i64 (n : Int)).wf = true := by
 have h1 : IntKind.i64.min = -9223372036854775808 := by decide
 have h2 : IntKind.i64.max = 9223372036854775807 := by decide
 show (decide (IntKind.i64.min ≤ (n : Int)) && decide ((n : Int) ≤ IntKind.i64.max)) = true
 rw [h1,h2,decide_eq_true (by omega),decide_eq_true (by omega)]; rfl
theorem st_some (s : Al.St) (h1 : s.i ≤ 1000) (h2 : s.j ≤ 1000) (h3 : s.ahead.length ≤ 1000) : ∃ kl,keyOf Tryz.prog 207 (stV s) = some kl := by
 have hd : ∃ d,Tryz.prog.types.size + 1 = d + 2 := ⟨Tryz.prog.types.size - 1,by have : 1 ≤ Tryz.prog.types.size := of_decide_eq_true (by kernel_rfl); omega⟩
 obtain ⟨d,hd⟩ := hd
 have hk : Tryz.prog.keyType 207 = true := by kernel_rfl
 have hc : Tryz.prog.cellsOf 207 = 4 := by kernel_rfl
 have hc3 : Tryz.prog.cellsOf 3 = 1 := by kernel_rfl
 have hc9 : Tryz.prog.cellsOf 9 = 1 := by kernel_rfl
 have hc4 : Tryz.prog.cellsOf 4 = 1 := by kernel_rfl
 have w1 : (Lit.int .i64 (s.i : Int)).wf = true := wf_small s.i (by omega)
 have w2 : (Lit.int .i64 (s.j : Int)).wf = true := wf_small s.j (by omega)
 have w3 : (bs s.ahead).size ≤ maxLen := by rw [bs_len]; unfold maxLen; omega
 unfold keyOf stV stC
 rw [Tryz.underlying207]
 simp only [hk,Value.formed,Tryz.underlying207,hc,Value.cells]
 rw [hd]
 simp [Program.keyLits,Tryz.underlying207,hc,hc3,hc9,hc4,Tryz.underlying3,Tryz.underlying9,Tryz.underlying4,w1,w2,w3]
theorem st_eq {s s' : Al.St} : stV s = stV s' ↔ s = s' := by
 constructor
 ·intro h
  obtain ⟨i,j,a,r⟩ := s
  obtain ⟨i',j',a',r'⟩ := s'
  simp [stV,stC,bs] at h
  obtain ⟨h1,h2,h3,h4⟩ := h
  simp only [Al.St.mk.injEq]
  exact ⟨by omega,by omega,h3,h4⟩
 ·intro h; rw [h]
theorem zero_int (w : World) : (zeroValue 3).run Tryz.prog w = .ok (.int .i64 0) w := by kernel_rfl
open Classical in
noncomputable def costsF (w : Al.Ws) (K : List Al.St) (x : Value) : Option Value := if h : ∃ s ∈ K,stV s = x then some (.int .i64 (Al.cost w h.choose)) else none
theorem costsF_in {w : Al.Ws} {K : List Al.St} {s : Al.St} (h : s ∈ K) : costsF w K (stV s) = some (.int .i64 (Al.cost w s)) := by
 have hex : ∃ s' ∈ K,stV s' = stV s := ⟨s,h,rfl⟩
 unfold costsF
 rw [dif_pos hex]
 have := hex.choose_spec.2
 rw [st_eq.1 this]
theorem costsF_out {w : Al.Ws} {K : List Al.St} {s : Al.St} (h : s ∉ K) : costsF w K (stV s) = none := by
 unfold costsF
 rw [dif_neg]
 rintro ⟨s',h1,h2⟩
 exact h (by rw [← st_eq.1 h2]; exact h1)
theorem costsF_cons {w : Al.Ws} {K : List Al.St} {s : Al.St} : costsF w (s :: K) (stV s) = some (.int .i64 (Al.cost w s)) ∧ ∀ y,y ≠ stV s → costsF w (s :: K) y = costsF w K y := by
 refine ⟨costsF_in List.mem_cons_self,fun y hy => ?_⟩
 by_cases h : ∃ s' ∈ K,stV s' = y
 ·obtain ⟨s',h1,rfl⟩ := h
  rw [costsF_in h1,costsF_in (List.mem_cons_of_mem _ h1)]
 ·unfold costsF
  rw [dif_neg h,dif_neg]
  rintro ⟨s',h1,h2⟩
  rcases List.mem_cons.1 h1 with rfl | h1
  ·exact hy h2.symm
  ·exact h ⟨s',h1,h2⟩
end Go.Proofs.YtdghfenbfbdijaaGreatDoor
namespace Al
def aheads (w : Ws) : List (List UInt8) := [] :: (w.left.rules ++ w.right.rules).flatMap (fun r => (List.range (r.to_.length + 1)).map (fun n => r.to_.drop n))
theorem mem_aheads {w : Ws} {a : List UInt8} : a ∈ aheads w ↔ a = [] ∨ ∃ r ∈ w.left.rules ++ w.right.rules,∃ n,a = r.to_.drop n := by
 unfold aheads
 rw [List.mem_cons,List.mem_flatMap]
 constructor
 ·rintro (h | ⟨r,hr,h⟩)
  ·exact .inl h
  ·rw [List.mem_map] at h
   obtain ⟨n,_,rfl⟩ := h
   exact .inr ⟨r,hr,n,rfl⟩
 ·rintro (h | ⟨r,hr,n,rfl⟩)
  ·exact .inl h
  ·by_cases hn : n ≤ r.to_.length
   ·exact .inr ⟨r,hr,List.mem_map.2 ⟨n,List.mem_range.2 (by omega),rfl⟩⟩
   ·exact .inl (List.drop_eq_nil_of_le (by omega))
theorem aheads_drop {w : Ws} {a : List UInt8} (n : Nat) (h : a ∈ aheads w) : a.drop n ∈ aheads w := by
 rw [mem_aheads] at h ⊢
 rcases h with rfl | ⟨r,hr,m,rfl⟩
 ·exact .inl (by simp)
 ·exact .inr ⟨r,hr,m + n,by rw [List.drop_drop]⟩
def Ok (w : Ws) (s : St) : Prop := Within w s ∧ s.ahead ∈ aheads w
theorem ok_zero {w : Ws} : Ok w zero := ⟨within_zero,by rw [mem_aheads]; exact .inl rfl⟩
theorem one_rules {w : Ws} {s : St} {r : R} (h : r ∈ (one w s).rules) : r ∈ w.left.rules ++ w.right.rules := by
 unfold one at h
 rw [List.mem_append]
 split at h
 ·exact .inl h
 ·exact .inr h
theorem ok_step {w : Ws} (hw : w.Good) {s s' : St} {r : R} (h : (r,s') ∈ moves w s) (hs : Ok w s) : Ok w s' := by
 refine ⟨(move_step hw h hs.1).1,?_⟩
 obtain ⟨h1,_,h3⟩ := mem_moves.1 h
 unfold nextOf at h3
 simp only at h3
 split at h3
 ·cases h3; exact aheads_drop _ hs.2
 ·split at h3
  ·cases h3
   rw [mem_aheads]
   exact .inr ⟨r,one_rules h1,_,rfl⟩
  ·cases h3
def states (w : Ws) : List St :=
 (List.range (w.left.letters.length + 1)).flatMap fun i => (List.range (w.right.letters.length + 1)).flatMap fun j => (aheads w).flatMap fun a => [⟨i,j,a,true⟩,⟨i,j,a,false⟩]
theorem mem_states {w : Ws} {s : St} (h : Ok w s) : s ∈ states w := by
 obtain ⟨⟨h1,h2,_⟩,h3⟩ := h
 obtain ⟨i,j,a,r⟩ := s
 unfold states
 simp only [List.mem_flatMap,List.mem_range]
 refine ⟨i,by simp only at h1; omega,j,by simp only at h2; omega,a,h3,?_⟩
 cases r <;> simp
theorem flat_le {α β : Type} (f : α → List β) (c : Nat) : ∀ (l : List α),(∀ x ∈ l,(f x).length ≤ c) → (l.flatMap f).length ≤ l.length * c
 | [],_ => by simp
 | x :: l,h => by
  rw [List.flatMap_cons,List.length_append,List.length_cons,Nat.succ_mul]
  have := h x List.mem_cons_self
  have := flat_le f c l (fun y hy => h y (List.mem_cons_of_mem _ hy))
  omega
theorem states_few {w : Ws} (h1 : w.left.letters.length ≤ 12) (h2 : w.right.letters.length ≤ 12) (h3 : (w.left.rules ++ w.right.rules).length ≤ 200) (h4 : ∀ r ∈ w.left.rules ++ w.right.rules,r.to_.length ≤ 1000) :
  (states w).length ≤ 100000000 := by
 have ha : (aheads w).length ≤ 200201 := by
  unfold aheads
  rw [List.length_cons]
  have := flat_le (fun r : R => (List.range (r.to_.length + 1)).map (fun n => r.to_.drop n)) 1001 (w.left.rules ++ w.right.rules) (fun r hr => by
   have := h4 r hr
   simp only [List.length_map,List.length_range]; omega)
  have h5 : (w.left.rules ++ w.right.rules).length * 1001 ≤ 200 * 1001 := Nat.mul_le_mul_right _ h3
  omega
 have e1 : ∀ i j : Nat,((aheads w).flatMap fun a => [(⟨i,j,a,true⟩ : St),⟨i,j,a,false⟩]).length ≤ 400402 := fun i j => by
  have := flat_le (fun a => [(⟨i,j,a,true⟩ : St),⟨i,j,a,false⟩]) 2 (aheads w) (fun _ _ => by simp)
  omega
 have e2 : ∀ i : Nat,((List.range (w.right.letters.length + 1)).flatMap fun j => (aheads w).flatMap fun a => [(⟨i,j,a,true⟩ : St),⟨i,j,a,false⟩]).length ≤ 13 * 400402 := fun i => by
  have := flat_le (fun j => (aheads w).flatMap fun a => [(⟨i,j,a,true⟩ : St),⟨i,j,a,false⟩]) 400402 (List.range (w.right.letters.length + 1)) (fun j _ => e1 i j)
  rw [List.length_range] at this
  exact Nat.le_trans this (Nat.mul_le_mul_right _ (by omega))
 have := flat_le (fun i => (List.range (w.right.letters.length + 1)).flatMap fun j => (aheads w).flatMap fun a => [(⟨i,j,a,true⟩ : St),⟨i,j,a,false⟩]) (13 * 400402) (List.range (w.left.letters.length + 1)) (fun i _ => e2 i)
 rw [List.length_range] at this
 have h5 : (w.left.letters.length + 1) * (13 * 400402) ≤ 13 * (13 * 400402) := Nat.mul_le_mul_right _ (by omega)
 unfold states
 omega
structure Closed (w : Ws) (K : List St) : Prop where
 ok : ∀ s ∈ K,Ok w s
 on : ∀ s ∈ K,∀ p ∈ moves w s,p.2 ∈ K
 once : K.Nodup
theorem Closed.few {w : Ws} {K : List St} (h : Closed w K) (h1 : w.left.letters.length ≤ 12) (h2 : w.right.letters.length ≤ 12) (h3 : (w.left.rules ++ w.right.rules).length ≤ 200) (h4 : ∀ r ∈ w.left.rules ++ w.right.rules,r.to_.length ≤ 1000) :
  K.length ≤ 100000000 :=
 Nat.le_trans (Go.Proofs.YtdghfenbfbdijaaGreatDoor.nodup_le h.once (fun x hx => mem_states (h.ok x hx))) (states_few h1 h2 h3 h4)
theorem aheads_len {w : Ws} (h4 : ∀ r ∈ w.left.rules ++ w.right.rules,r.to_.length ≤ 1000) {a : List UInt8} (h : a ∈ aheads w) : a.length ≤ 1000 := by
 rcases mem_aheads.1 h with rfl | ⟨r,hr,n,rfl⟩
 ·simp
 ·have := h4 r hr
  rw [List.length_drop]; omega
end Al
namespace Go.Proofs.YtdghfenbfbdijaaGreatDoor
open Go.RowKit
def mvs (w : Al.Ws) (s : Al.St) (b : List (Al.R × Value)) : List (Al.R × Al.St) := b.filterMap fun p => Al.move w s p.1
theorem mvs_all {w : Al.Ws} {s : Al.St} {b : List (Al.R × Value)} (h : b.map Prod.fst = (Al.one w s).rules) : mvs w s b = Al.moves w s := by
 unfold mvs Al.moves
 rw [← h,List.filterMap_map]
 rfl
theorem nx_none {w : Al.Ws} {s : Al.St} : ∀ {b : List (Al.R × Value)},nxMove w s b = none → mvs w s b = []
 | [],_ => rfl
 | p :: b,h => by
  unfold nxMove at h
  unfold mvs
  rw [List.filterMap_cons]
  cases hm : Al.move w s p.1 with
  | none => rw [hm] at h; exact nx_none h
  | some q => rw [hm] at h; cases h
theorem nx_some {w : Al.Ws} {s : Al.St} : ∀ {b b' : List (Al.R × Value)} {vals : Array Value},nxMove w s b = some (vals,b') →
  ∃ p s',p ∈ b ∧ vals = #[ruleV p,stV s'] ∧ mvs w s b = (p.1,s') :: mvs w s b' ∧ ∀ q ∈ b',q ∈ b
 | [],_,_,h => by cases h
 | p :: b,b',vals,h => by
  unfold nxMove at h
  cases hm : Al.move w s p.1 with
  | none =>
   rw [hm] at h
   obtain ⟨q,s',h1,h2,h3,h4⟩ := nx_some h
   refine ⟨q,s',List.mem_cons_of_mem _ h1,h2,?_,fun x hx => List.mem_cons_of_mem _ (h4 x hx)⟩
   unfold mvs at h3 ⊢
   rw [List.filterMap_cons,hm]
   exact h3
  | some q =>
   rw [hm] at h
   obtain ⟨r,s'⟩ := q
   simp only [Option.some.injEq,Prod.mk.injEq] at h
   obtain ⟨rfl,rfl⟩ := h
   have hr : r = p.1 := by
    unfold Al.move at hm
    split at hm
    ·cases hn : Al.nextOf (Al.byLeft w s) s p.1 with
     | none => rw [hn] at hm; cases hm
     | some n => rw [hn] at hm; cases hm; rfl
    ·cases hm
   refine ⟨p,s',List.mem_cons_self,rfl,?_,fun x hx => List.mem_cons_of_mem _ hx⟩
   unfold mvs
   rw [List.filterMap_cons,hm,hr]
end Go.Proofs.YtdghfenbfbdijaaGreatDoor
namespace Go.Proofs.YtdghfenbfbdijaaGreatDoor
open Go.RowKit Go.Lib Go.Maps
attribute [local go_sem] Oper.semAt_some
structure Few (w : Al.Ws) : Prop where
 good : w.Good
 small : w.Small
 rules : (w.left.rules ++ w.right.rules).length ≤ 200
 sizes : ∀ r ∈ w.left.rules ++ w.right.rules,r.from_.length ≤ 12 ∧ r.to_.length ≤ 1000
structure CostW (w : Al.Ws) (fl fr : List (Al.R × Value)) (v : List Value) (Bk Bw Bf m : Nat) (K : List Al.St) (W : World) : Prop where
 k : W.heap[Bk]? = some (.cells #[.map (some m)] 204 (0,0))
 w_ : W.heap[Bw]? = some (.cells v.toArray 201 (0,0))
 f : W.heap[Bf]? = some (.cells #[.func (.func 150) #[] #[.pointer (some ⟨Bk,0,none⟩),.pointer (some ⟨Bw,0,none⟩),.pointer (some ⟨Bf,0,none⟩)]] 250 (0,0))
 words : WordsAt W w fl fr v
 map : MapF W Tryz.prog 207 m K.length (costsF w K)
 closed : Al.Closed w K
theorem MapF.no_cells {W : World} {P : Program} {k : TypeId} {b n : Nat} {f : Value → Option Value} (h : MapF W P k b n f) : ∃ o : Obj,W.heap[b]? = some o ∧ o.isCells = false := by
 obtain ⟨D,⟨es,clock,hb,_⟩,_⟩ := h
 exact ⟨_,hb,rfl⟩
theorem WordsAt.but {W W' : World} {w : Al.Ws} {fl fr : List (Al.R × Value)} {v : List Value} {m : Nat} (h : WordsAt W w fl fr v) (hb : But W.heap.size m W W') {om : Obj} (hm : W.heap[m]? = some om) (hmc : om.isCells = false) : WordsAt W' w fl fr v := by
 obtain ⟨⟨ll,lr,rl,rr,e,a,b,c,d⟩,h1,h2⟩ := h
 exact ⟨⟨ll,lr,rl,rr,e,a.but hb hm hmc,⟨b.1.but hb hm hmc,fun p hp => (b.2 p hp).but hb hm hmc⟩,c.but hb hm hmc,⟨d.1.but hb hm hmc,fun p hp => (d.2 p hp).but hb hm hmc⟩⟩,h1,h2⟩
section
variable {w : Al.Ws} {fl fr : List (Al.R × Value)} {v : List Value} {Bk Bw Bf m : Nat} {K K' : List Al.St} {W W' : World}
theorem CostW.but (h : CostW w fl fr v Bk Bw Bf m K W) (hb : But W.heap.size m W W') (hm : MapF W' Tryz.prog 207 m K'.length (costsF w K')) (hc : Al.Closed w K') : CostW w fl fr v Bk Bw Bf m K' W' := by
 obtain ⟨om,h1,h2⟩ := h.map.no_cells
 exact ⟨hb.cells h1 h2 h.k rfl,hb.cells h1 h2 h.w_ rfl,hb.cells h1 h2 h.f rfl,h.words.but hb h1 h2,hm,hc⟩
theorem CostW.below (h : CostW w fl fr v Bk Bw Bf m K W) (hb : Below W.heap.size W W') : CostW w fl fr v Bk Bw Bf m K W' :=
 h.but (But.of_below hb m) (h.map.below hb) h.closed
end
section
variable {w : Al.Ws} {fl fr : List (Al.R × Value)} {v : List Value} {Bk Bw Bf m : Nat} {K : List Al.St} {W W' : World}
theorem grown_but {W W' : World} {row : Option Nat} {r : Nat} (hg : W.grownBy W' row) (hr : ∀ q,row = some q → q = r) : But W.heap.size r W W' := But.of_grown hg hr
theorem CostW.record {row : Option Nat} (h : CostW w fl fr v Bk Bw Bf m K W) (hg : W.grownBy W' row) (hr : ∀ r,row = some r → r ≠ m ∧ ∃ o : Obj,W.heap[r]? = some o ∧ o.isCells = false) : CostW w fl fr v Bk Bw Bf m K W' := by
 cases row with
 | none => exact h.below ⟨hg.os,hg.tape,hg.output,hg.size,fun k hk => hg.block k hk (by simp)⟩
 | some r =>
  obtain ⟨hne,o,ho,hc⟩ := hr r rfl
  have hb := grown_but (r := r) hg (fun q e => by cases e; rfl)
  exact ⟨hb.cells ho hc h.k rfl,hb.cells ho hc h.w_ rfl,hb.cells ho hc h.f rfl,h.words.but hb ho hc,h.map.kept hg (fun e => hne (by cases e; rfl)),h.closed⟩
end
structure WalkI (w : Al.Ws) (fl fr : List (Al.R × Value)) (v : List Value) (Bk Bw Bf m : Nat) (K : List Al.St) (s : Al.St) (W : World) (b : List (Al.R × Value)) (A : World) : Prop where
 ex : ∃ (K' : List Al.St) (h : Int),CostW w fl fr v Bk Bw Bf m K' A ∧ A.heap[W.heap.size + 1]? = some (.cells #[.int .i64 h] 3 (0,0)) ∧ Al.least w (mvs w s b) h = Al.cost w s ∧ 0 ≤ h ∧ h ≤ Al.endless ∧
  (∀ p ∈ Al.moves w s,p ∈ mvs w s b ∨ p.2 ∈ K') ∧ (∀ x ∈ K,x ∈ K') ∧ (∀ x ∈ K',x ∈ K ∨ Al.meas w x < Al.meas w s)
 st : A.heap[W.heap.size]? = some (.cells (stC s).toArray 207 (0,0))
 all : ∀ p ∈ mvs w s b,p ∈ Al.moves w s
 sub : ∀ p ∈ b,p ∈ theRules w s fl fr
 but : But W.heap.size m W A
theorem walkI_stays (w : Al.Ws) (fl fr : List (Al.R × Value)) (v : List Value) (Bk Bw Bf m : Nat) (K : List Al.St) (s : Al.St) (W : World) (hm : m < W.heap.size) (B : Nat) (hB : W.heap.size + 2 ≤ B) :
  Stays B none (WalkI w fl fr v Bk Bw Bf m K s W) := by
 rintro b A A' row ⟨⟨K',h,c1,c2,c3⟩,c4,c5,c7,c6⟩ hg hr
 have hr' : ∀ r,row = some r → B ≤ r ∧ ∃ o : Obj,A.heap[r]? = some o ∧ o.isCells = false := fun r e => by
  rcases hr r e with h | h
  ·cases h
  ·exact h
 have far : ∀ q o,q < B → A.heap[q]? = some o → A'.heap[q]? = some o := fun q o hq ho =>
  (hg.block q (Array.getElem?_eq_some_iff.1 ho).1 (fun e => by have := (hr' q e.symm).1; omega)).trans ho
 refine ⟨⟨K',h,c1.record hg (fun r e => ⟨by have := (hr' r e).1; omega,(hr' r e).2⟩),far _ _ (by omega) c2,c3⟩,far _ _ (by omega) c4,c5,c7,?_⟩
 refine c6.trans ⟨hg.os,hg.tape,hg.output,hg.size,fun k hk hne => hg.block k (Nat.lt_of_lt_of_le hk c6.size) (fun e => by have := (hr' k e.symm).1; omega)⟩
theorem WordsAt.mem {W : World} {w : Al.Ws} {fl fr : List (Al.R × Value)} {v : List Value} {s : Al.St} (h : WordsAt W w fl fr v) {p : Al.R × Value} (hp : p ∈ theRules w s fl fr) : SlOf W p.2 1 strC p.1.from_ := by
 obtain ⟨⟨ll,lr,rl,rr,e,a,b,c,d⟩,h1,h2⟩ := h
 unfold theRules at hp
 split at hp
 ·exact b.2 p hp
 ·exact d.2 p hp
def WalkPost (w : Al.Ws) (fl fr : List (Al.R × Value)) (v : List Value) (Bk Bw Bf m : Nat) (K : List Al.St) (s : Al.St) (W : World) (e : Ending) (W' : World) : Prop :=
 e = .returned (.int .i64 (Al.cost w s)) ∧ But W.heap.size m W W' ∧ ∃ K',CostW w fl fr v Bk Bw Bf m K' W' ∧ s ∈ K' ∧ (∀ x ∈ K,x ∈ K') ∧ ∀ x ∈ K',x ∈ K ∨ Al.meas w x ≤ Al.meas w s
theorem MovesKeep.trans {B : Nat} {w : Al.Ws} {fl fr : List (Al.R × Value)} {v : List Value} {W1 W2 W3 : World} (h : MovesKeep B w fl fr v W1 W2) (g : MovesKeep B w fl fr v W2 W3) : MovesKeep B w fl fr v W1 W3 :=
 ⟨Nat.le_trans h.size g.size,fun q o h1 h2 h3 => g.cells q o h1 (h.cells q o h1 h2 h3) h3,fun h1 => g.words (h.words h1)⟩
theorem movesKeep_record (B : Nat) (w : Al.Ws) (fl fr : List (Al.R × Value)) (v : List Value) (W : World) (l : Nat) (o o' : Obj) (hl : W.heap[l]? = some o) (ho : o.isCells = false) : MovesKeep B w fl fr v W (W.putObj l o') := by
 have hb := grown_but (r := l) (grownBy_putObj' W l o') (fun q e => by cases e; rfl)
 exact ⟨hb.size,fun q ob _ h2 h3 => hb.cells hl ho h2 h3,fun h => h.but hb hl ho⟩
set_option maxRecDepth 100000 in
set_option maxHeartbeats 2000000 in
theorem walk_any (w : Al.Ws) (hf : Few w) (fl fr : List (Al.R × Value)) (v : List Value) (Bk Bw Bf m : Nat) : ∀ (n : Nat) (s : Al.St) (K : List Al.St) (W : World),Al.meas w s < n → Al.Ok w s → CostW w fl fr v Bk Bw Bf m K W →
  Calls Tryz.prog 150 #[stV s,.pointer (some ⟨Bk,0,none⟩),.pointer (some ⟨Bw,0,none⟩),.pointer (some ⟨Bf,0,none⟩)] W (WalkPost w fl fr v Bk Bw Bf m K s W) := by
 intro n
 induction n with
 | zero => intro s K W h; omega
 | succ n ih =>
 intro s K W hn hok hC
 obtain ⟨kl,hkl⟩ := st_some s (by have := hok.1.1; have := hf.small.left; omega) (by have := hok.1.2.1; have := hf.small.right; omega) (Al.aheads_len (fun r hr => (hf.sizes r hr).2) hok.2)
 have hIH := hid ih
 clear ih
 obtain ⟨W1,hW1⟩ := exq (W.alloc (.cells (stC s).toArray 207))
 have hb1 := bnew hW1
 have hC1 := hC.below hb1
 have hs1 : W1.heap[W.heap.size]? = some (.cells (stC s).toArray 207 (0,0)) := by rw [hW1]; exact World.alloc_heap_new W _
 have hn1 : W.heap.size < W1.heap.size := (Array.getElem?_eq_some_iff.1 hs1).1
 have x0 := (cell_blk hC.k).1
 have x0' := (Array.getElem?_eq_some_iff.1 hC.k).1
 have hget := hC1.map.getOk st_keyed Tryz.underlying204 (zero_int W1) hkl
 by_cases hin : s ∈ K
 ·rw [costsF_in hin] at hget
  unfold stV stC at hget ⊢
  unfold stC at hW1
  rw [hW1] at hget
  have HC := hid (And.intro hb1 hC1)
  clear hC1 hb1 hs1 hC hkl
  go_enter Tryz.func150,Tryz.ntmps150
  go_wp2_with fail
  go_ret
  rw [← hW1]
  exact ⟨rfl,But.of_below HC.out.1 m,K,HC.out.2,hin,fun x hx => hx,fun x hx => .inl hx⟩
 ·rw [costsF_out hin] at hget
  unfold stV stC at hget ⊢
  have HW1 := hid hW1
  unfold stC at hW1
  rw [hW1] at hget
  have y' := (Array.getElem?_eq_some_iff.1 hC.w_).1
  have hcelw : ∀ j u,v[j]? = some u → W.cell? ⟨Bw,j,none⟩ = some u := fun j u hu => by simp [World.cell?,hC.w_,hu]
  obtain ⟨⟨ll,lr,rl,rr,hv,-⟩,-,-⟩ := hC.words
  rw [hv] at hcelw
  have y0 := hcelw 0 _ rfl
  have y1 := hcelw 1 _ rfl
  have y2 := hcelw 2 _ rfl
  have y3 := hcelw 3 _ rfl
  obtain ⟨W2,hW2⟩ := exq ((W.alloc (.cells #[.int .i64 s.i,.int .i64 s.j,.string (bs s.ahead),.bool s.right] 207)).alloc (.cells #[.int .i64 1099511627776] 3))
  have hb2 : Below W1.heap.size W1 W2 := by rw [hW2,hW1]; exact (Below.refl _ _).alloc (Nat.le_refl _) _
  have hC2 := hid (hC1.below hb2)
  have hs2 := hid ((hb2.block _ hn1).trans hs1)
  have hh2 : W2.heap[W.heap.size + 1]? = some (.cells #[.int .i64 1099511627776] 3 (0,0)) := by
   rw [hW2]
   have := World.alloc_heap_new (W.alloc (.cells #[.int .i64 s.i,.int .i64 s.j,.string (bs s.ahead),.bool s.right] 207)) (.cells #[.int .i64 1099511627776] 3)
   rwa [World.size_alloc] at this
  have hh2' := hid hh2
  have HB2 := hid (Below.step hb1 hb2)
  have HC := hid (And.intro hb1 hC1)
  have HC0 := hid hC
  have HKL := hid hkl
  have HV := hid hv
  have HD := done_any w s fl fr v W2 hC2.out.words
  unfold stV stC at HD
  rw [hv] at HD
  have HD' := hid HD
  clear hC1 hb1 hs1 hC hkl hcelw hv hb2 hh2 HD
  refine (callsIn_wide (n := 9)).1 ?_
  refine callsIn_of_wp_marks Tryz.func150 rfl trivial ?_ rfl
  simp only [Tryz.ntmps150,List.size_toArray,List.length_cons,List.length_nil,Nat.reduceAdd,Nat.reduceSub,Array.replicate_succ,Array.replicate_zero,List.push_toArray,List.append_toArray,List.nil_append,List.cons_append]
  refine wpIn_wide.2 ?_
  go_upto_region 4 with (fail)
  go_cut [8] from 11 (fun v8 wx => v8 = .pointer (some ⟨W.heap.size + 1,0,none⟩) ∧ wx = W2)
  case first =>
   go_wp2
   go_meet
   case rel => exact ⟨by simp,by rw [hW2]⟩
  case rest =>
  obtain ⟨rfl,hwc⟩ := hcut
  rw [hwc]
  clear hwc wc
  have z0 := (HB2.out.cell (p := ⟨Bw,0,none⟩) y').trans y0
  have z1 := (HB2.out.cell (p := ⟨Bw,1,none⟩) y').trans y1
  have z2 := (HB2.out.cell (p := ⟨Bw,2,none⟩) y').trans y2
  have z3 := (HB2.out.cell (p := ⟨Bw,3,none⟩) y').trans y3
  have q0 : W2.cell? ⟨W.heap.size,0,none⟩ = some (.int .i64 s.i) := by simp [World.cell?,hs2.out,stC]
  have q1 : W2.cell? ⟨W.heap.size,1,none⟩ = some (.int .i64 s.j) := by simp [World.cell?,hs2.out,stC]
  have q2 : W2.cell? ⟨W.heap.size,2,none⟩ = some (.string (bs s.ahead)) := by simp [World.cell?,hs2.out,stC]
  have q3 : W2.cell? ⟨W.heap.size,3,none⟩ = some (.bool s.right) := by simp [World.cell?,hs2.out,stC]
  clear hget hW2 x0 y0 y1 y2 y3 hW1
  go_step
  go_step
  go_cut [8] from 11 (fun v8 wx => v8 = .pointer (some ⟨W.heap.size + 1,0,none⟩) ∧ Below W.heap.size W wx ∧ CostW w fl fr v Bk Bw Bf m K wx ∧ wx.heap[W.heap.size]? = some (.cells (stC s).toArray 207 (0,0)) ∧ wx.heap[W.heap.size + 1]? = some (.cells #[.int .i64 (Al.start w s)] 3 (0,0)))
  case first =>
   cases hd : Al.done w s with
   | true =>
    have HST := hid (show Al.start w s = 0 by unfold Al.start; rw [hd]; rfl)
    rw [hd] at HD'
    clear hd
    go_wp2_with fail
    refine (HD'.out).mono ?_
    rintro e W3 ⟨rfl,hb3⟩
    have hh3 := (hb3.block _ (Array.getElem?_eq_some_iff.1 hh2'.out).1).trans hh2'.out
    have HH3 := hid hh3
    obtain ⟨k0,k1⟩ := cell_blk hh3
    have hs3 := hid ((hb3.block _ (Array.getElem?_eq_some_iff.1 hs2.out).1).trans hs2.out)
    have HB3 := hid (Below.step HB2.out hb3)
    have hC3 := hid (hC2.out.below hb3)
    clear hb3 hh3
    go_wp2
    go_meet
    case rel =>
     have hg := set_grown W3 (W.heap.size + 1) (.int .i64 0)
     refine ⟨rfl,HB3.out.setCell (p := ⟨W.heap.size + 1,0,none⟩) (by simp) _,?_,?_,?_⟩
     ·exact HC0.out.below (HB3.out.setCell (p := ⟨W.heap.size + 1,0,none⟩) (by simp) _)
     ·exact (Below.heap_setCell W3 ⟨W.heap.size + 1,0,none⟩ _ W.heap.size (by simp)).trans hs3.out
     ·rw [HST.out]; exact set_blk HH3.out
   | false =>
    have HST := hid (show Al.start w s = 1099511627776 by unfold Al.start; rw [hd]; rfl)
    rw [hd] at HD'
    clear hd
    go_wp2_with fail
    refine (HD'.out).mono ?_
    rintro e W3 ⟨rfl,hb3⟩
    have hh3 := hid ((hb3.block _ (Array.getElem?_eq_some_iff.1 hh2'.out).1).trans hh2'.out)
    have hs3 := hid ((hb3.block _ (Array.getElem?_eq_some_iff.1 hs2.out).1).trans hs2.out)
    have HB3 := hid (Below.step HB2.out hb3)
    have hC3 := hid (hC2.out.below hb3)
    clear hb3
    go_wp2
    go_meet
    case rel =>
     exact ⟨rfl,HB3.out,hC3.out,hs3.out,by rw [HST.out]; exact hh3.out⟩
  case rest =>
  obtain ⟨rfl,HB3,hC3,hs3,hh3⟩ := hcut
  rename World => W3
  clear z0 z1 z2 z3 q0 q1 q2 q3 hC2 hs2 hh2' HB2 HC HW1 HD' W1 W2 hn1
  have hcelw : ∀ j u,v[j]? = some u → W3.cell? ⟨Bw,j,none⟩ = some u := fun j u hu => by simp [World.cell?,hC3.w_,hu]
  rw [HV.out] at hcelw
  have z0 := hcelw 0 _ rfl
  have z1 := hcelw 1 _ rfl
  have z2 := hcelw 2 _ rfl
  have z3 := hcelw 3 _ rfl
  have q0 : W3.cell? ⟨W.heap.size,0,none⟩ = some (.int .i64 s.i) := by simp [World.cell?,hs3,stC]
  have q1 : W3.cell? ⟨W.heap.size,1,none⟩ = some (.int .i64 s.j) := by simp [World.cell?,hs3,stC]
  have q2 : W3.cell? ⟨W.heap.size,2,none⟩ = some (.string (bs s.ahead)) := by simp [World.cell?,hs3,stC]
  have q3 : W3.cell? ⟨W.heap.size,3,none⟩ = some (.bool s.right) := by simp [World.cell?,hs3,stC]
  have HS3 := hid (And.intro HB3 (And.intro hC3 (And.intro hs3 hh3)))
  have HMK := hid (moves_mk ll lr rl rr s W3)
  unfold stV stC at HMK
  clear hcelw HB3 hC3 hs3 hh3
  go_wp2_with fail
  refine (HMK.out).mono ?_
  rintro e W4 ⟨rfl,hW4⟩
  have hB : W4.heap.size = W3.heap.size + 2 := by rw [hW4]; simp
  have hb4 : Below W3.heap.size W3 W4 := by rw [hW4]; exact ((Below.refl _ W3).alloc (Nat.le_refl _) _).alloc (by simp) _
  have hw4 : W4.heap[W3.heap.size]? = some (.cells v.toArray 201 (0,0)) := by
   rw [hW4,HV.out]
   exact (Below.heap_alloc _ _ _ (by simp)).trans (World.alloc_heap_new W3 _)
  have hs4 : W4.heap[W3.heap.size + 1]? = some (.cells (stC s).toArray 207 (0,0)) := by
   rw [hW4]
   have := World.alloc_heap_new (W3.alloc (.cells #[ll,lr,rl,rr] 201)) (.cells (stC s).toArray 207)
   rw [World.size_alloc] at this
   exact this
  obtain ⟨b3,c3,s3,h3⟩ := HS3.out
  have C4 := hid (And.intro (b3.trans (hb4.mono b3.size)) (And.intro (c3.below hb4) (And.intro ((hb4.block _ (Array.getElem?_eq_some_iff.1 s3).1).trans s3) ((hb4.block _ (Array.getElem?_eq_some_iff.1 h3).1).trans h3))))
  have hW34 := (Array.getElem?_eq_some_iff.1 h3).1
  clear b3 c3 s3 h3 z0 z1 z2 z3 q0 q1 q2 q3 HS3 hW4 hb4
  go_wp2_with fail
  have hm := HC0.out.map.lt
  have hrules : (theRules w s fl fr).map Prod.fst = (Al.one w s).rules := theRules_map C4.out.2.1.words.left C4.out.2.1.words.right
  have hmvs := mvs_all hrules
  refine (wpIn_wide (n := 9)).1 (wp_iter (own := none) rfl (by omega) (gf := 151) (lb := #[.pointer (some ⟨W3.heap.size + 1,0,none⟩),.pointer (some ⟨W3.heap.size,0,none⟩)]) rfl trivial (enters_of Tryz.func151 (by kernel_rfl) rfl)
   (moves_iter w s fl fr v W3.heap.size 8 (by omega)) (theRules w s fl fr) (fun r e => by cases e)
   (fun A hA => ?st) (fun b vals b' h => ?ps) (fun h1 h2 => h1.trans h2) (fun A l o o' _ hl ho => movesKeep_record _ _ _ _ _ A l o o' hl ho)
   (WalkI w fl fr v Bk Bw Bf m K s W) (fun _ _ _ => False) ?hI ?hIx ?h0 ?hround ?hdone ?hstop)
  case st =>
   exact ⟨rfl,(hA.block _ (Array.getElem?_eq_some_iff.1 hs4).1).trans hs4,(hA.block _ (Array.getElem?_eq_some_iff.1 hw4).1).trans hw4,C4.out.2.1.words.below hA,hf.good,
    by have := hf.small.left; omega,by have := hf.small.right; omega,by have := hf.small.left; have := hok.1.1; omega,by have := hf.small.right; have := hok.1.2.1; omega,hf.sizes⟩
  case ps =>
   obtain ⟨p,s',_,rfl,_⟩ := nx_some h
   rfl
  case hI => exact walkI_stays w fl fr v Bk Bw Bf m K s W hm _ (by omega)
  case hIx => intro c b A A' row h; exact h.elim
  case h0 =>
   refine ⟨⟨K,Al.start w s,C4.out.2.1,C4.out.2.2.2,by rw [hmvs]; exact (Al.cost_eq hf.good hok.1).symm,?_,?_,fun p hp => .inl (by rw [hmvs]; exact hp),fun x hx => hx,fun x hx => .inl hx⟩,C4.out.2.2.1,fun p hp => by rw [hmvs] at hp; exact hp,fun p hp => hp,But.of_below C4.out.1 m⟩
   ·unfold Al.start Al.endless; split <;> omega
   ·unfold Al.start Al.endless; split <;> omega
  case hstop => intro D c b A hD hx; exact hx.elim
  case hdone =>
   rw [hB]
   intro D b A hD hnx hi hK
   obtain ⟨⟨K',h,C3,hh3,hleast,hge,hle,hdone,hKK,hKm⟩,hst3,hall3,hsub3,hbut3⟩ := hi
   have hmv0 := nx_none hnx
   rw [hmv0] at hleast hdone
   have hhc : h = Al.cost w s := hleast
   subst hhc
   have hclosed : Al.Closed w (s :: K') := by
    refine ⟨fun x hx => ?_,fun x hx p hp => ?_,?_⟩
    ·rcases List.mem_cons.1 hx with rfl | hx
     ·exact hok
     ·exact C3.closed.ok x hx
    ·rcases List.mem_cons.1 hx with rfl | hx
     ·rcases hdone p hp with h1 | h1
      ·simp at h1
      ·exact List.mem_cons_of_mem _ h1
     ·exact List.mem_cons_of_mem _ (C3.closed.on x hx p hp)
    ·refine List.nodup_cons.2 ⟨fun hx => ?_,C3.closed.once⟩
     rcases hKm s hx with h1 | h1
     ·exact hin h1
     ·omega
   have hlen := hclosed.few hf.small.left hf.small.right hf.rules (fun r hr => (hf.sizes r hr).2)
   rw [List.length_cons] at hlen
   have x0 := (cell_blk C3.k).1
   obtain ⟨g0,g1⟩ := cell_blk hh3
   have q0 : A.cell? ⟨W.heap.size,0,none⟩ = some (.int .i64 s.i) := by simp [World.cell?,hst3,stC]
   have q1 : A.cell? ⟨W.heap.size,1,none⟩ = some (.int .i64 s.j) := by simp [World.cell?,hst3,stC]
   have q2 : A.cell? ⟨W.heap.size,2,none⟩ = some (.string (bs s.ahead)) := by simp [World.cell?,hst3,stC]
   have q3 : A.cell? ⟨W.heap.size,3,none⟩ = some (.bool s.right) := by simp [World.cell?,hst3,stC]
   have H3 := hid (And.intro C3 (And.intro hh3 (And.intro hbut3 (And.intro hclosed hK))))
   have hmap := C3.map
   have HK1 := hid hKK
   have HK2 := hid hKm
   clear C3 hh3 hst3 hleast hdone hKK hKm hall3 hsub3 hbut3 hclosed hK hnx hmv0
   unfold stV stC at HKL
   have hlt := hid (Array.getElem?_eq_some_iff.1 H3.out.2.1).1
   have hkeep : Hid (∀ X : World,A.grownBy X (some m) → X.cell? ⟨W.heap.size + 1,0,none⟩ = some (.int .i64 (Al.cost w s))) := fun X hg => by
    refine (World.cell?_of_block (a := ⟨W.heap.size + 1,0,none⟩) (hg.block (W.heap.size + 1) hlt.out ?_)).trans g0
    intro e
    have := Option.some.inj e
    omega
   go_wp2_with (at_mapUpdate; refine wpList_put _ rfl _ _ _ 204 3 rfl st_keyed Tryz.underlying204 rfl hmap (by unfold maxLen; omega) _ _ kl rfl rfl HKL.out (costsF w (s :: K')) costsF_cons.1 costsF_cons.2 ?_; intro A5 hM5 hg5; have g5 := hkeep.out _ hg5)
   obtain ⟨C3,hh3,hbut3,hclosed,hK⟩ := H3.out
   have hK5 := (hg5.block D (Array.getElem?_eq_some_iff.1 hK).1 (by intro e; have := Option.some.inj e; omega)).trans hK
   refine ⟨by simp,.inl ⟨_,_,rfl,run_takeDeferred hK5,_,results_tmp rfl _ _ _,?_⟩⟩
   have hbW : But W.heap.size m W A5 := hbut3.trans ((grown_but (r := m) hg5 (fun q e => by cases e; rfl)).mono hbut3.size)
   have hrec := grownBy_putObj' A5 D (.deferred none)
   have hbR : But W.heap.size m W (A5.putObj D (.deferred none)) := hbW.trans ⟨hrec.os,hrec.tape,hrec.output,hrec.size,fun k hk hne => hrec.block k (Nat.lt_of_lt_of_le hk hbW.size) (fun e => by have := Option.some.inj e; omega)⟩
   have hmR := hM5.kept hrec (fun e => by have := Option.some.inj e; omega)
   refine ⟨rfl,hbR,s :: K',HC0.out.but hbR hmR hclosed,List.mem_cons_self,fun x hx => List.mem_cons_of_mem _ (HK1.out x hx),fun x hx => ?_⟩
   rcases List.mem_cons.1 hx with rfl | hx
   ·exact .inr (Nat.le_refl _)
   ·rcases HK2.out x hx with h1 | h1
    ·exact .inl h1
    ·exact .inr (Nat.le_of_lt h1)
  case hround =>
   intro l b vals b' A hl hlo hnx hi
   obtain ⟨⟨r,fv⟩,s',hpb,rfl,hmv,hsub⟩ := nx_some hnx
   have hfv := (hi.ex.choose_spec.choose_spec.1).words.mem (hi.sub _ hpb)
   simp only at hfv
   obtain ⟨af,cf,rfl,-,-,-⟩ := hfv
   have HNX := hid hnx
   have HMV := hid hmv
   have HSUB := hid hsub
   have HI := hid hi
   have HLO := hid hlo
   unfold ruleV ruleC stV stC
   clear hnx hmv hsub hi hpb hlo
   gi_wp2_with fail
   obtain ⟨A2,hA2⟩ := exq ((A.alloc (.cells #[.int .i64 r.index,.int .i64 r.cost,.slice af r.from_.length cf,.string (bs r.to_)] 213)).alloc (.cells #[.int .i64 s'.i,.int .i64 s'.j,.string (bs s'.ahead),.bool s'.right] 207))
   rw [← hA2]
   have hbA : Below A.heap.size A A2 := by rw [hA2]; exact ((Below.refl _ A).alloc (Nat.le_refl _) _).alloc (by simp) _
   have hr2 : A2.heap[A.heap.size]? = some (.cells #[.int .i64 r.index,.int .i64 r.cost,.slice af r.from_.length cf,.string (bs r.to_)] 213 (0,0)) := by
    rw [hA2]; exact (Below.heap_alloc _ _ _ (by simp)).trans (World.alloc_heap_new A _)
   have hn2 : A2.heap[A.heap.size + 1]? = some (.cells #[.int .i64 s'.i,.int .i64 s'.j,.string (bs s'.ahead),.bool s'.right] 207 (0,0)) := by
    rw [hA2]
    have := World.alloc_heap_new (A.alloc (.cells #[.int .i64 r.index,.int .i64 r.cost,.slice af r.from_.length cf,.string (bs r.to_)] 213)) (.cells #[.int .i64 s'.i,.int .i64 s'.j,.string (bs s'.ahead),.bool s'.right] 207)
    rwa [World.size_alloc] at this
   clear hA2
   refine ⟨⟨hbA.size,fun q o hq ho hn => (hbA.block q (Array.getElem?_eq_some_iff.1 ho).1).trans ho⟩,⟨hbA.size,fun q o _ h _ => (hbA.block q (Array.getElem?_eq_some_iff.1 h).1).trans h,fun h => h.below hbA⟩,fun A3 hg3 => ?_⟩
   obtain ⟨ol,hol,hoc⟩ := HLO.out
   have hol2 := (hbA.block l (Array.getElem?_eq_some_iff.1 hol).1).trans hol
   have hI2 := walkI_stays w fl fr v Bk Bw Bf m K s W hm W4.heap.size (by omega) b A A2 none HI.out (Below.grows hbA none) (fun r e => by cases e)
   have hI3 := walkI_stays w fl fr v Bk Bw Bf m K s W hm W4.heap.size (by omega) b A2 A3 (some l) hI2 hg3 (fun r e => by cases e; exact .inr ⟨by omega,_,hol2,hoc⟩)
   have hbut := grown_but (r := l) hg3 (fun q e => by cases e; rfl)
   have hr3 := hbut.cells hol2 hoc hr2 rfl
   have hn3 := hbut.cells hol2 hoc hn2 rfl
   clear hI2 hbut hr2 hn2 hol2
   obtain ⟨⟨K',h,C3,hh3,hleast,hge,hle,hdone,hKK,hKm⟩,hst3,hall3,hsub3,hbut3⟩ := hI3
   have p0 := (cell_blk hh3).1
   have pf := (cell_blk C3.f).1
   have pc : A3.cell? ⟨A.heap.size,1,none⟩ = some (.int .i64 r.cost) := by simp [World.cell?,hr3]
   have n0 : A3.cell? ⟨A.heap.size + 1,0,none⟩ = some (.int .i64 s'.i) := by simp [World.cell?,hn3]
   have n1 : A3.cell? ⟨A.heap.size + 1,1,none⟩ = some (.int .i64 s'.j) := by simp [World.cell?,hn3]
   have n2 : A3.cell? ⟨A.heap.size + 1,2,none⟩ = some (.string (bs s'.ahead)) := by simp [World.cell?,hn3]
   have n3 : A3.cell? ⟨A.heap.size + 1,3,none⟩ = some (.bool s'.right) := by simp [World.cell?,hn3]
   have hmem : (r,s') ∈ Al.moves w s := hall3 _ (by rw [HMV.out]; exact List.mem_cons_self)
   obtain ⟨hok',hme,-⟩ := Al.move_step hf.good hmem hok.1
   have hCall := hid (hIH.out s' K' A3.drew (by omega) (Al.ok_step hf.good hmem hok) (C3.below (Below.refl _ A3).drew))
   have HH := hid (And.intro C3 (And.intro hh3 (And.intro hst3 (And.intro hr3 hn3))))
   clear C3 hh3 hst3 hr3 hn3
   gi_wp2_with fail
   refine round_heldS (S := TwoS 8 8 (fun X => X.cell? ⟨W.heap.size + 1,0,none⟩ = some (.int .i64 h) ∧ X.cell? ⟨A.heap.size,1,none⟩ = some (.int .i64 r.cost) ∧ X.cell? ⟨Bf,0,none⟩ = some (.func (.func 150) #[] #[.pointer (some ⟨Bk,0,none⟩),.pointer (some ⟨Bw,0,none⟩),.pointer (some ⟨Bf,0,none⟩)]))
    (fun X => X.cell? ⟨A.heap.size + 1,0,none⟩ = some (.int .i64 s'.i) ∧ X.cell? ⟨A.heap.size + 1,1,none⟩ = some (.int .i64 s'.j) ∧ X.cell? ⟨A.heap.size + 1,2,none⟩ = some (.string (bs s'.ahead)) ∧ X.cell? ⟨A.heap.size + 1,3,none⟩ = some (.bool s'.right))) (by kernel_rfl) (by kernel_rfl) (fun ⟨_,_,h⟩ => h) ?_
   simp only [List.size_toArray,List.length_cons,List.length_nil,Nat.reduceAdd]
   intro hc
   have S0 : TwoS 8 8 (fun X => X.cell? ⟨W.heap.size + 1,0,none⟩ = some (.int .i64 h) ∧ X.cell? ⟨A.heap.size,1,none⟩ = some (.int .i64 r.cost) ∧ X.cell? ⟨Bf,0,none⟩ = some (.func (.func 150) #[] #[.pointer (some ⟨Bk,0,none⟩),.pointer (some ⟨Bw,0,none⟩),.pointer (some ⟨Bf,0,none⟩)]))
    (fun X => X.cell? ⟨A.heap.size + 1,0,none⟩ = some (.int .i64 s'.i) ∧ X.cell? ⟨A.heap.size + 1,1,none⟩ = some (.int .i64 s'.j) ∧ X.cell? ⟨A.heap.size + 1,2,none⟩ = some (.string (bs s'.ahead)) ∧ X.cell? ⟨A.heap.size + 1,3,none⟩ = some (.bool s'.right)) (Array.replicate 9 false) A3.drew := ⟨.inr ⟨p0,pc,pf⟩,.inr ⟨n0,n1,n2,n3⟩⟩
   refine wpAnyS_take (i := 0) (v := .int .i64 h) rfl (by kernel_rfl) (by kernel_rfl) (by kernel_rfl) (fun _ _ _ h => h) (fun _ _ => TwoS.set_ (by decide) (by decide) _ _) hc (by rfl) (fun wx hx => ?_) S0 (fun hc S0 => ?_)
   ·obtain ⟨g,-,-⟩ := hx.left (by kernel_rfl)
    go_simp
   simp only [Act.put,List.setIfInBounds_toArray]
   refine wpAnyS_take (i := 1) (v := .pointer (some ⟨A.heap.size,1,none⟩)) rfl (by kernel_rfl) (by kernel_rfl) (by kernel_rfl) (fun _ _ _ h => h) (fun _ _ => TwoS.set_ (by decide) (by decide) _ _) hc (by rfl) (fun wx hx => ?_) S0 (fun hc S0 => ?_)
   ·go_simp
   simp only [Act.put]
   refine wpAnyS_take (i := 2) (v := .int .i64 r.cost) rfl (by kernel_rfl) (by kernel_rfl) (by kernel_rfl) (fun _ _ _ h => h) (fun _ _ => TwoS.set_ (by decide) (by decide) _ _) hc (by rfl) (fun wx hx => ?_) S0 (fun hc S0 => ?_)
   ·obtain ⟨-,g,-⟩ := hx.left (by kernel_rfl)
    go_simp
   simp only [Act.put]
   refine wpAnyS_take (i := 3) (v := .func (.func 150) #[] #[.pointer (some ⟨Bk,0,none⟩),.pointer (some ⟨Bw,0,none⟩),.pointer (some ⟨Bf,0,none⟩)]) rfl (by kernel_rfl) (by kernel_rfl) (by kernel_rfl) (fun _ _ _ h => h) (fun _ _ => TwoS.set_ (by decide) (by decide) _ _) hc (by rfl) (fun wx hx => ?_) S0 (fun hc S0 => ?_)
   ·obtain ⟨-,-,g⟩ := hx.left (by kernel_rfl)
    go_simp
   simp only [Act.put]
   refine wpAnyS_take (i := 4) (v := .agg #[.int .i64 s'.i,.int .i64 s'.j,.string (bs s'.ahead),.bool s'.right]) rfl (by kernel_rfl) (by kernel_rfl) (by kernel_rfl) (fun _ _ _ h => h) (fun _ _ => TwoS.set_ (by decide) (by decide) _ _) hc (by rfl) (fun wx hx => ?_) S0 (fun hc S0 => ?_)
   ·obtain ⟨g0,g1,g2,g3⟩ := hx.right (by kernel_rfl)
    go_simp
   simp only [Act.put]
   refine onI (i := 5) rfl hc (fun Kx hK => ?_)
   go_simp
   obtain ⟨om,hom,homc⟩ := HH.out.1.map.no_cells
   unfold stV stC at hCall
   refine (hCall.out).mono ?_
   rintro e A5 ⟨rfl,hbut5,K2,C5,hin2,hsub2,hmeas2⟩
   obtain ⟨C3,hh3,hst3,hr3,hn3⟩ := HH.out
   have hh5 := hbut5.cells hom homc hh3 rfl
   have hst5 := hbut5.cells hom homc hst3 rfl
   have hr5 := hbut5.cells hom homc hr3 rfl
   have hn5 := hbut5.cells hom homc hn3 rfl
   obtain ⟨g0,g1⟩ := cell_blk hh5
   have hrc := hf.good.one s |>.cost r (Al.mem_moves.1 hmem).1
   have hc0 := Al.cost_nonneg hf.good _ s' (Nat.le_refl _) hok'
   have hc1 := Al.cost_le hf.good hok'
   have hwrap : IntKind.i64.wrap (r.cost + Al.cost w s') = r.cost + Al.cost w s' := IntWalk.i64_in _ (by unfold Al.endless at hc1; omega)
   have S5 := hid (And.intro (And.intro g0 (And.intro (show A5.cell? ⟨A.heap.size,1,none⟩ = some (.int .i64 r.cost) by simp [World.cell?,hr5]) (cell_blk C5.f).1))
    (And.intro (show A5.cell? ⟨A.heap.size + 1,0,none⟩ = some (.int .i64 s'.i) by simp [World.cell?,hn5]) (And.intro (show A5.cell? ⟨A.heap.size + 1,1,none⟩ = some (.int .i64 s'.j) by simp [World.cell?,hn5]) (And.intro (show A5.cell? ⟨A.heap.size + 1,2,none⟩ = some (.string (bs s'.ahead)) by simp [World.cell?,hn5]) (show A5.cell? ⟨A.heap.size + 1,3,none⟩ = some (.bool s'.right) by simp [World.cell?,hn5])))))
   refine hK.out _ _ ⟨.inr S5.out.1,.inr S5.out.2⟩ (fun hc => ?_)
   clear hK Kx
   have F5 := hid (And.intro hbut5 (And.intro C5 (And.intro hst5 hh5)))
   clear hbut5 C5 hst5 hr5 hn5 hr3 hn3 C3 hh3 hst3
   refine onI (i := 6) rfl hc (fun Kx hK => ?_)
   go_simp
   refine hK.out _ _ ⟨.inr S5.out.1,.inr S5.out.2⟩ (fun hc => ?_)
   clear hK Kx
   refine onI (i := 7) rfl hc (fun Kx hK => ?_)
   go_simp
   refine hK.out _ _ ⟨.inr S5.out.1,.inr S5.out.2⟩ (fun hc => ?_)
   clear hK Kx
   refine onI (i := 8) rfl hc (fun Kx hK => ?_)
   go_simp
   refine hK.out _ _ ⟨.inl rfl,.inl rfl⟩ (fun hc => ?_)
   clear hK Kx
   refine wpAnyS_done (by kernel_rfl) ?_ _
   obtain ⟨h',hh'⟩ : ∃ h',h' = min h (r.cost + Al.cost w s') := ⟨_,rfl⟩
   rw [← hh']
   obtain ⟨A6,hA6⟩ := exq (A5.setCell ⟨W.heap.size + 1,0,none⟩ (.int .i64 h'))
   rw [← hA6]
   have HA6 := hid hA6
   have HH' := hid hh'
   clear hA6 hh' g0 g1 p0 pf pc n0 n1 n2 n3 S5 S0 hc
   gi_wp2
   obtain ⟨hbut5,C5,hst5,hh5⟩ := F5.out
   obtain ⟨C3,hh3,hst3,-,-⟩ := HH.out
   have hset : ∀ q,q ≠ W.heap.size + 1 → A6.heap[q]? = A5.heap[q]? := fun q h1 => by
    rw [HA6.out]; exact Below.heap_setCell A5 ⟨W.heap.size + 1,0,none⟩ _ q h1
   have hsz6 : A6.heap.size = A5.heap.size := by rw [HA6.out]; simp [World.setCell]
   have hb56 : Below W.heap.size A5 A6 := by rw [HA6.out]; exact (Below.refl _ A5).setCell (p := ⟨W.heap.size + 1,0,none⟩) (by simp) _
   have hW3 : W.heap.size ≤ A3.heap.size := hbut3.size
   have hd3 : But W.heap.size m A3 A3.drew := But.of_below ((Below.refl _ A3).drew.mono hW3) m
   have hbutW : But W.heap.size m W A6 := ((hbut3.trans hd3).trans (hbut5.mono hW3)).trans (But.of_below hb56 m)
   have hm6 : MapF A6 Tryz.prog 207 m K2.length (costsF w K2) := by
    rw [HA6.out]; exact C5.map.kept (set_grown A5 (W.heap.size + 1) _) (by intro e; cases e; omega)
   have C6 := HC0.out.but hbutW hm6 C5.closed
   have hsz35 : A3.heap.size ≤ A5.heap.size := hbut5.size
   refine ⟨⟨by omega,fun q o hq ho hn => ?_⟩,⟨by omega,fun q o hq ho hn => ?_,fun _ => C6.words⟩,⟨⟨K2,h',C6,?_,?_,?_,?_,?_,fun x hx => hsub2 x (hKK x hx),fun x hx => ?_⟩,?_,fun p hp => hall3 p (by rw [HMV.out]; exact List.mem_cons_of_mem _ hp),fun p hp => hsub3 p (HSUB.out p hp),hbutW⟩⟩
   ·rw [hset q (by omega)]
    exact (hbut5.block q (Array.getElem?_eq_some_iff.1 ho).1 (by omega)).trans ho
   ·rw [hset q (by omega)]
    exact hbut5.cells hom homc ho hn
   ·rw [HA6.out]; exact set_blk hh5
   ·rw [← hleast,HMV.out,HH'.out]; rfl
   ·rw [HH'.out]; omega
   ·rw [HH'.out]; omega
   ·intro p hp
    rcases hdone p hp with h1 | h1
    ·rw [HMV.out,List.mem_cons] at h1
     rcases h1 with rfl | h1
     ·exact .inr hin2
     ·exact .inl h1
    ·exact .inr (hsub2 _ h1)
   ·rcases hmeas2 x hx with h1 | h1
    ·exact hKm x h1
    ·exact .inr (by omega)
   ·rw [hset _ (by omega)]; exact hst5
end Go.Proofs.YtdghfenbfbdijaaGreatDoor
namespace Go.Proofs.YtdghfenbfbdijaaGreatDoor
open Go.RowKit Go.Lib Go.Maps
section
variable (P : Program) (w : World) (a : Addr) (m : Mode)
theorem run_store_fn (f : Fn) (x y : Array Value) : (store a (.func f x y) m).run P w = stored P w a (.func f x y) m := run_store P w a _ m rfl
end
def CostsPost (w : Al.Ws) (W : World) (e : Ending) (W' : World) : Prop :=
 ∃ m K',e = .returned (.map (some m)) ∧ Below W.heap.size W W' ∧ MapF W' Tryz.prog 207 m K'.length (costsF w K') ∧ Al.Closed w K' ∧ Al.zero ∈ K'
attribute [local go_sem] run_store_fn in
set_option maxRecDepth 100000 in
set_option maxHeartbeats 2000000 in
theorem costs_any (w : Al.Ws) (hf : Few w) (fl fr : List (Al.R × Value)) (v : List Value) (W : World) (h : WordsAt W w fl fr v) : Calls Tryz.prog 110 #[.agg v.toArray] W (CostsPost w W) := by
 obtain ⟨⟨ll,lr,rl,rr,rfl,-⟩,-,-⟩ := id h
 have hmm := @run_makeMap Tryz.prog
 have H := hid h
 clear h
 go_enter Tryz.func110,Tryz.ntmps110
 go_wp2_with fail
 obtain ⟨Wa,hWa⟩ := exq (W.alloc (.cells #[ll,lr,rl,rr] 201))
 obtain ⟨Wb,hWb⟩ := exq (Wa.alloc (.map #[] 0))
 obtain ⟨Wc,hWc⟩ := exq (Wb.alloc (.cells #[.map (some (W.heap.size + 1))] 204))
 obtain ⟨Wd,hWd⟩ := exq (Wc.alloc (.cells #[.func (.func 150) #[] #[.pointer (some ⟨W.heap.size + 1 + 1,0,none⟩),.pointer (some ⟨W.heap.size,0,none⟩),.pointer (some ⟨W.heap.size + 1 + 1 + 1,0,none⟩)]] 250))
 rw [← hWa,← hWb,← hWc,← hWd]
 have za : Wa.heap.size = W.heap.size + 1 := by rw [hWa,World.size_alloc]
 have zb : Wb.heap.size = W.heap.size + 1 + 1 := by rw [hWb,World.size_alloc,za]
 have zc : Wc.heap.size = W.heap.size + 1 + 1 + 1 := by rw [hWc,World.size_alloc,zb]
 have zd : Wd.heap.size = W.heap.size + 1 + 1 + 1 + 1 := by rw [hWd,World.size_alloc,zc]
 have ba := bnew hWa
 have bb := bnew hWb
 have bc := bnew hWc
 have bd := bnew hWd
 have ha : Wd.heap[W.heap.size]? = some (.cells #[ll,lr,rl,rr] 201 (0,0)) := by
  rw [bd.block _ (by omega),bc.block _ (by omega),bb.block _ (by omega),hWa]; exact World.alloc_heap_new W _
 have hc : Wd.heap[W.heap.size + 1 + 1]? = some (.cells #[.map (some (W.heap.size + 1))] 204 (0,0)) := by
  rw [bd.block _ (by omega),hWc,← zb]; exact World.alloc_heap_new Wb _
 have hd : Wd.heap[W.heap.size + 1 + 1 + 1]? = some (.cells #[.func (.func 150) #[] #[.pointer (some ⟨W.heap.size + 1 + 1,0,none⟩),.pointer (some ⟨W.heap.size,0,none⟩),.pointer (some ⟨W.heap.size + 1 + 1 + 1,0,none⟩)]] 250 (0,0)) := by
  rw [hWd,← zc]; exact World.alloc_heap_new Wc _
 have hm : MapF Wd Tryz.prog 207 (W.heap.size + 1) 0 (costsF w []) := by
  have := MapF.made Wa Tryz.prog 207
  rw [← hWb,za] at this
  exact ((this.below bc).below bd).congr (fun x kl _ => by unfold costsF; rw [dif_neg]; rintro ⟨s,hs,_⟩; cases hs)
 have bW : Below W.heap.size W Wd := ((ba.trans (bb.mono (by omega))).trans (bc.mono (by omega))).trans (bd.mono (by omega))
 have C : CostW w fl fr [ll,lr,rl,rr] (W.heap.size + 1 + 1) W.heap.size (W.heap.size + 1 + 1 + 1) (W.heap.size + 1) [] Wd :=
  ⟨hc,ha,hd,H.out.below bW,hm,⟨(fun x hx => absurd hx List.not_mem_nil),(fun x hx => absurd hx List.not_mem_nil),List.nodup_nil⟩⟩
 have HW := hid (walk_any w hf fl fr [ll,lr,rl,rr] _ _ _ _ (Al.meas w Al.zero + 1) Al.zero [] Wd (Nat.lt_succ_self _) Al.ok_zero C)
 have BW := hid bW
 have ZD := hid zd
 clear hWa hWb hWc hWd za zb zc zd ba bb bc bd ha hc hd hm bW C hmm
 refine (HW.out).mono ?_
 rintro e We ⟨rfl,hbut,K',C',hin,-,-⟩
 have hbe : Below W.heap.size Wd We := hbut.below (by rw [ZD.out]; omega) (by omega)
 have x0 := (cell_blk C'.k).1
 have R := hid (And.intro (BW.out.trans hbe) (And.intro C' hin))
 clear hbut C' hin hbe HW
 go_wp2
 go_ret
 exact ⟨_,K',rfl,R.out.1,R.out.2.1.map,R.out.2.1.closed,R.out.2.2⟩
end Go.Proofs.YtdghfenbfbdijaaGreatDoor
namespace Al
theorem rulesFrom_append (k : Int) : ∀ (a b : List Rw.Rule) (i : Nat),rulesFrom k i (a ++ b) = rulesFrom k i a ++ rulesFrom k (i + a.length) b
 | [],b,i => by simp [rulesFrom]
 | r :: a,b,i => by
  have ih := rulesFrom_append k a b (i + 1)
  rw [show i + 1 + a.length = i + (r :: a).length by simp; omega] at ih
  rw [List.cons_append]
  simp only [rulesFrom]
  split
  ·split
   ·rw [ih]; rfl
   ·rw [ih]
  ·rw [ih]
theorem rulesFrom_take (k : Int) {l : List Rw.Rule} {n : Nat} {r : Rw.Rule} (h : l[n]? = some r) : rulesFrom k 0 (l.take (n + 1)) = rulesFrom k 0 (l.take n) ++ rulesFrom k n [r] := by
 obtain ⟨hn,he⟩ := List.getElem?_eq_some_iff.1 h
 rw [List.take_succ_eq_append_getElem hn,he,rulesFrom_append]
 rw [List.length_take,Nat.zero_add,Nat.min_eq_left (Nat.le_of_lt hn)]
end Al
namespace Go.Proofs.YtdghfenbfbdijaaGreatDoor
open Go.RowKit Go.Lib Go.Maps
def SidePost (t : Rw.Table) (k : Int) (word : List UInt8) (W : World) (e : Ending) (W' : World) : Prop :=
 Below W.heap.size W W' ∧ match Al.side t.rules k word with
  | none => e = .returned (.tuple #[.agg #[.slice none 0 0,.slice none 0 0],.bool false])
  | some S => ∃ lv rv fs,e = .returned (.tuple #[.agg #[lv,rv],.bool true]) ∧ SlOf W' lv 1 strC S.letters ∧ RulesAt W' fs rv ∧ fs.map Prod.fst = S.rules
theorem set_grown_at (w : World) (B o : Nat) (u : Value) : w.grownBy (w.setCell ⟨B,o,none⟩ u) (some B) :=
 ⟨rfl,rfl,rfl,by simp [World.setCell],fun k _ hk => Below.heap_setCell w ⟨B,o,none⟩ u k (fun e => hk (by rw [e]))⟩
theorem kept_at {w w' : World} {B q : Nat} {e : TypeId} {z : Nat} {v : Value} {m : Nat} {xs : List Value} (h : w.ownsRow B e z v m xs) (hg : w.grownBy w' (some q)) (hq : q < B) : w'.ownsRow B e z v m xs := by
 refine h.kept hg ?_
 cases hv : v.ownBlock with
 | none => exact .inl rfl
 | some k =>
  refine .inr (fun e => ?_)
  have := (own_cells h hv).1
  have := Option.some.inj e
  omega
theorem kept_type {w w' : World} {B B2 : Nat} {e e2 : TypeId} {z z2 : Nat} {v v2 : Value} {m m2 : Nat} {xs xs2 : List Value} (h : w.ownsRow B e z v m xs) (h2 : w.ownsRow B2 e2 z2 v2 m2 xs2) (hg : w.grownBy w' v2.ownBlock) (hne : e ≠ e2) : w'.ownsRow B e z v m xs := by
 refine h.kept hg ?_
 cases hv : v.ownBlock with
 | none => exact .inl rfl
 | some k =>
  refine .inr (fun e => ?_)
  obtain ⟨_,cs,h3⟩ := own_cells h hv
  obtain ⟨_,cs',h4⟩ := own_cells h2 e.symm
  rw [h3] at h4
  cases h4
  exact hne rfl
theorem flat_str (l : List (List UInt8)) : l.flatMap strC = l.map fun x => .string (bs x) := by
 induction l with
 | nil => rfl
 | cons x l ih => rw [List.flatMap_cons,ih]; rfl
theorem info_rule : (Tryz.prog.info? 213).map (fun i => (i.zero,i.size,i.bytes)) = some (some (.agg #[.int .i64 0,.int .i64 0,.slice none 0 0,.string ⟨#[]⟩]),4,56) := by kernel_rfl
set_option maxRecDepth 100000 in
set_option maxHeartbeats 4000000 in
theorem sideOf_any (t : Rw.Table) (tv : Value) (k : Int) (word : ByteArray) (W : World) (ht : TableAt W t tv) (hT : Tabs W) (hw : word.size ≤ 1000000) : Calls Tryz.prog 149 #[tv,.int .i64 k,.string word] W (SidePost t k word.data.toList W) := by
 obtain ⟨⟨vr,vd,ve,rfl,sr,⟨ad,cd,rfl,-⟩,⟨ae,ce,rfl,-⟩⟩,fr,-,-,hl1,-,-⟩ := ht
 obtain ⟨a,cap,rfl,h1,h2,h3⟩ := sr
 have hR := hid h3
 have hF := hid fr
 have hTT := hid hT
 clear h3 fr hT
 obtain ⟨W1,hW1⟩ := exq ((W.alloc (.cells #[.slice a t.rules.length cap,.slice ad t.drops.length cd,.slice ae t.ends.length ce,.int .i64 t.drop,.int .i64 t.order,.int .i64 t.initial] 25)).alloc (.cells #[.slice none 0 0,.slice none 0 0] 199))
 have hb1 : Below W.heap.size W W1 := by rw [hW1]; exact ((Below.refl _ W).alloc (Nat.le_refl _) _).alloc (by simp) _
 have z1 : W1.heap.size = W.heap.size + 2 := by rw [hW1]; simp
 have hr1 : W1.heap[W.heap.size + 1]? = some (.cells #[.slice none 0 0,.slice none 0 0] 199 (0,0)) := by
  rw [hW1]
  have := World.alloc_heap_new (W.alloc (.cells #[.slice a t.rules.length cap,.slice ad t.drops.length cd,.slice ae t.ends.length ce,.int .i64 t.drop,.int .i64 t.order,.int .i64 t.initial] 25)) (.cells #[.slice none 0 0,.slice none 0 0] 199)
  rwa [World.size_alloc] at this
 have hta1 := hid (show W1.heap[W.heap.size]? = some (.cells #[.slice a t.rules.length cap,.slice ad t.drops.length cd,.slice ae t.ends.length ce,.int .i64 t.drop,.int .i64 t.order,.int .i64 t.initial] 25 (0,0)) by
  rw [hW1]; exact (Below.heap_alloc _ _ _ (by simp)).trans (World.alloc_heap_new W _))
 have hTT1 := hid (hTT.out.below hb1)
 have HFO := hid (fold_any k word W1 hw hTT1.out)
 cases hl : Sc.lets k word.data.toList with
 | none =>
  have hno := hid (show Al.side t.rules k word.data.toList = none by unfold Al.side; rw [hl])
  have HL := hid hl
  clear hl
  go_enter Tryz.func149,Tryz.ntmps149
  go_wp2_with fail
  rw [← hW1]
  refine (HFO.out).mono ?_
  rintro e W2 ⟨he,hb2⟩
  rw [HL.out] at he
  subst he
  have hr2 := (hb2.block _ (by omega)).trans hr1
  have B2 := hid (hb1.trans (hb2.mono hb1.size))
  have x0 : W2.cell? ⟨W.heap.size + 1,0,none⟩ = some (.slice none 0 0) := by simp [World.cell?,hr2]
  have x1 : W2.cell? ⟨W.heap.size + 1,1,none⟩ = some (.slice none 0 0) := by simp [World.cell?,hr2]
  have x2 : W2.frozen? ⟨W.heap.size + 1,0,none⟩ = false := by simp [World.frozen?,hr2]
  have x3 : W2.frozen? ⟨W.heap.size + 1,1,none⟩ = false := by simp [World.frozen?,hr2]
  have HR2 := hid hr2
  clear hb2 hr2 hr1 hb1 hW1
  go_wp2
  refine post_cell_tmp (v := .agg #[.slice none 0 0,.slice none 0 0]) rfl rfl ?_ rfl rfl ?_
  ·go_simp
  ·unfold SidePost
   rw [hno.out]
   exact ⟨(B2.out.setCell (p := ⟨W.heap.size + 1,0,none⟩) (by simp) _).setCell (p := ⟨W.heap.size + 1,1,none⟩) (by simp) _,rfl⟩
 | some ls =>
  have HL := hid hl
  have hfs : (bs (Sc.fold word.data.toList)).size ≤ 1000000 := by rw [bs_len]; unfold Sc.fold; rw [List.length_map]; simpa using hw
  clear hl
  go_enter Tryz.func149,Tryz.ntmps149
  go_wp2_with fail
  rw [← hW1]
  refine (HFO.out).mono ?_
  rintro e W2 ⟨he,hb2⟩
  rw [HL.out] at he
  subst he
  have hr2 := hid ((hb2.block _ (by omega)).trans hr1)
  have B2 := hid (hb1.trans (hb2.mono hb1.size))
  have HLE := hid (letters_any k (bs (Sc.fold word.data.toList)) W2 hfs (hTT1.out.below hb2))
  have hta2 := hid ((hb2.block W.heap.size (by omega)).trans hta1.out)
  clear hb2 hr1 hb1 hW1
  go_wp2_with fail
  refine (HLE.out).mono ?_
  rintro e W3 h3
  unfold LettersPost at h3
  rw [bs_list] at h3
  cases hl2 : Sc.lets k (Sc.fold word.data.toList) with
  | none =>
   rw [hl2] at h3
   obtain ⟨rfl,hb3⟩ := h3
   have hno := hid (show Al.side t.rules k word.data.toList = none by unfold Al.side; rw [HL.out,hl2])
   have hr3 := (hb3.block _ (Array.getElem?_eq_some_iff.1 hr2.out).1).trans hr2.out
   have B3 := hid (B2.out.trans (hb3.mono B2.out.size))
   have x0 : W3.cell? ⟨W.heap.size + 1,0,none⟩ = some (.slice none 0 0) := by simp [World.cell?,hr3]
   have x1 : W3.cell? ⟨W.heap.size + 1,1,none⟩ = some (.slice none 0 0) := by simp [World.cell?,hr3]
   have x2 : W3.frozen? ⟨W.heap.size + 1,0,none⟩ = false := by simp [World.frozen?,hr3]
   have x3 : W3.frozen? ⟨W.heap.size + 1,1,none⟩ = false := by simp [World.frozen?,hr3]
   clear hb3 hr3 hl2
   go_wp2
   refine post_cell_tmp (v := .agg #[.slice none 0 0,.slice none 0 0]) rfl rfl ?_ rfl rfl ?_
   ·go_simp
   ·unfold SidePost
    rw [hno.out]
    exact ⟨(B3.out.setCell (p := ⟨W.heap.size + 1,0,none⟩) (by simp) _).setCell (p := ⟨W.heap.size + 1,1,none⟩) (by simp) _,rfl⟩
  | some l =>
   rw [hl2] at h3
   obtain ⟨lv,rfl,hown,hb3⟩ := h3
   have hta3 := (hb3.block _ (Array.getElem?_eq_some_iff.1 hta2.out).1).trans hta2.out
   have hr3 := hid ((hb3.block _ (Array.getElem?_eq_some_iff.1 hr2.out).1).trans hr2.out)
   have B3 := hid (B2.out.trans (hb3.mono B2.out.size))
   have B23 := hid hb3
   have hst3 := (Array.getElem?_eq_some_iff.1 hta3).1
   have y0 : W3.cell? ⟨W.heap.size,0,none⟩ = some (.slice a t.rules.length cap) := by simp [World.cell?,hta3]
   have HTA := hid hta3
   obtain ⟨a3,c3,rfl⟩ := ownsRow_slice hown
   have HOWN := hid hown
   have HL2 := hid hl2
   clear hb3 hta3 hl2 hown
   go_wp2_with fail
   obtain ⟨W4,hW4⟩ := exq (W3.alloc (.cells #[.slice a3 l.length c3,.slice none 0 0] 199))
   have hb4 := bnew hW4
   have hs4 : W4.heap[W3.heap.size]? = some (.cells #[.slice a3 l.length c3,.slice none 0 0] 199 (0,0)) := by rw [hW4]; exact World.alloc_heap_new W3 _
   have H4 := hid (And.intro hb4 hs4)
   clear hb4 hs4
   go_loopw [39] (fun i wr => ∃ (n : Nat) (fs : List (Al.R × Value)) (rv : Value),n ≤ t.rules.length ∧ i = .int .i64 n ∧ fs.map Prod.fst = Al.rulesFrom k 0 (t.rules.take n) ∧ fs.length ≤ n ∧
    wr.heap[W3.heap.size]? = some (.cells #[.slice a3 l.length c3,rv] 199 (0,0)) ∧ wr.ownsRow (W3.heap.size + 1) 213 4 rv fs.length (fs.flatMap ruleC) ∧
    (∀ p ∈ fs,wr.ownsRow (W3.heap.size + 1) 9 1 p.2 p.1.from_.length (p.1.from_.map fun x => .string (bs x))) ∧ Below W3.heap.size W3 wr) (fun i _ => t.rules.length - (intOf i).toNat)
   case atStart =>
    rw [← hW4]
    exact ⟨0,[],.slice none 0 0,Nat.zero_le _,rfl,by simp [Al.rulesFrom],by simp,H4.out.2,World.ownsRow_nil _ _ _ _,by simp,H4.out.1⟩
   case round =>
    obtain ⟨n,fs,rv,hn,rfl,hfs,hfl,hs,hrow,hall,hbr⟩ := hrel
    have hbW := B3.out.trans (hbr.mono B3.out.size)
    by_cases hlt : n < t.rules.length
    ·obtain ⟨g,o,rfl,hr⟩ := hR.out (by omega)
     obtain ⟨d,hd⟩ : ∃ d,t.rules[n]? = some d := ⟨_,List.getElem?_eq_getElem hlt⟩
     have hc := (hr.below hbW).2 n d hd
     have c0 := hc 0 _ rfl
     have c1 := hc 1 _ rfl
     have c2 := hc 2 _ rfl
     have c3' := hc 3 _ rfl
     rw [Nat.add_zero] at c0
     have hg := (hr.below hbW).1
     have hn0 : (0 : Int) ≤ (n : Int) := by omega
     have hn1 : (n : Int) < (t.rules.length : Int) := by omega
     have hstep := hid (Al.rulesFrom_take k hd)
     have HD := hid hd
     have HREL := hid (And.intro hfs (And.intro hs (And.intro hrow (And.intro hall hbr))))
     clear hc hr hd hfs hs hrow hall hbr
     by_cases hsc : d.script = k
     ·subst hsc
      have hne : ((d.script : Int) != d.script) = false := by simp
      have hfd := hF.out d (List.mem_of_getElem? HD.out)
      have hwl : (bs d.from_).size ≤ 1000000 := by rw [bs_len]; have := hfd.2.1; omega
      obtain ⟨A1,hA1⟩ := exq (wr.alloc (.cells #[.int .i64 d.script,.string (bs d.from_),.string (bs d.to_),.int .i64 d.cost] 71))
      have hbA := bnew hA1
      have hkA : A1.heap[wr.heap.size]? = some (.cells #[.int .i64 d.script,.string (bs d.from_),.string (bs d.to_),.int .i64 d.cost] 71 (0,0)) := by rw [hA1]; exact World.alloc_heap_new wr _
      have HLE2 := hid (letters_any d.script (bs d.from_) A1 hwl (hTT.out.below (hbW.trans (hbA.mono hbW.size))))
      have HBA := hid (And.intro hbA hkA)
      clear hbA hkA
      go_wp2_with fail
      rw [← hA1]
      have HA1 := hid hA1
      clear hA1
      refine (HLE2.out).mono ?_
      rintro e A2 h2
      unfold LettersPost at h2
      rw [bs_list] at h2
      cases hl3 : Sc.lets d.script d.from_ with
      | none =>
       rw [hl3] at h2
       obtain ⟨rfl,hb2⟩ := h2
       have hnil := hid (show Al.rulesFrom d.script n [d] = [] by simp [Al.rulesFrom,hl3])
       have HB2 := hid (Below.step HBA.out.1 hb2)
       clear hb2 hl3
       go_wp2_with fail
       go_roundw
       case rel =>
        obtain ⟨q1,q2,q3,q4,q5⟩ := HREL.out
        exact ⟨n + 1,fs,rv,by omega,by go_num,by rw [hstep.out,hnil.out,List.append_nil]; exact q1,by omega,(HB2.out.block _ (Array.getElem?_eq_some_iff.1 q2).1).trans q2,ownsRow_below q3 HB2.out,fun p hp => ownsRow_below (q4 p hp) HB2.out,q5.trans (HB2.out.mono q5.size)⟩
       case measure => simp [intOf]; omega
      | some f =>
       rw [hl3] at h2
       obtain ⟨fv,rfl,hown2,hb2⟩ := h2
       obtain ⟨i0,hi,hz0,hz1,hz2⟩ := info_parts info_rule
       have hb2w := Below.step HBA.out.1 hb2
       have HB2 := hid hb2w
       have hkA2 := (hb2.block _ (Array.getElem?_eq_some_iff.1 HBA.out.2).1).trans HBA.out.2
       obtain ⟨q1,q2,q3,q4,q5⟩ := HREL.out
       have hs2 := (hb2w.block _ (Array.getElem?_eq_some_iff.1 q2).1).trans q2
       have hrow2 := ownsRow_below q3 hb2w
       have e0 : A2.cell? ⟨wr.heap.size,2,none⟩ = some (.string (bs d.to_)) := by simp [World.cell?,hkA2]
       have e1 : A2.cell? ⟨wr.heap.size,3,none⟩ = some (.int .i64 d.cost) := by simp [World.cell?,hkA2]
       have s1 : A2.cell? ⟨W3.heap.size,1,none⟩ = some rv := by simp [World.cell?,hs2]
       have s2 : A2.frozen? ⟨W3.heap.size,1,none⟩ = false := by simp [World.frozen?,hs2]
       obtain ⟨ar,cr,rfl⟩ := ownsRow_slice hrow2
       obtain ⟨af,cf,rfl⟩ := ownsRow_slice hown2
       clear hb2 hb2w hkA2
       have hsA : W3.heap.size < A2.heap.size := (Array.getElem?_eq_some_iff.1 hs2).1
       go_wp2_with (at_builtin; refine wpList_append_own _ rfl _ _ 197 rfl (W3.heap.size + 1) 213 i0 (.agg #[.int .i64 0,.int .i64 0,.slice none 0 0,.string ⟨#[]⟩]) 4 56 Tryz.underlying197 hi hz0 hz1 hz2 rfl (by decide) _ _ _ rfl (hrow2.alloc _) ⟨A2.heap.size,0,none⟩ 1 1 [.int .i64 n,.int .i64 d.cost,.slice af f.length cf,.string (bs d.to_)] rfl rfl ?c1 ?c2 ?c3 ?c4 ?c5 ?_)
       case c1 => exact cells_new rfl
       case c2 => intro x hx; simp at hx; rcases hx with rfl | rfl | rfl | rfl <;> rfl
       case c3 => unfold maxLen; omega
       case c4 => omega
       case c5 => simp; omega
       intro v' w5 hown5 hgrow5 _
       obtain ⟨a5,c5,rfl⟩ := ownsRow_slice hown5
       have hne5 : ∀ q,q < W3.heap.size + 1 → some q ≠ (Value.slice ar fs.length cr).ownBlock := fun q hq e => by
        have := (own_cells hrow2 e.symm).1; omega
       have hs5 := (hgrow5.block W3.heap.size (by rw [World.size_alloc]; omega) (hne5 _ (by omega))).trans ((Below.heap_alloc A2 _ _ hsA).trans hs2)
       have s1' : w5.cell? ⟨W3.heap.size,1,none⟩ = some (.slice ar fs.length cr) := by simp [World.cell?,hs5]
       have s2' : w5.frozen? ⟨W3.heap.size,1,none⟩ = false := by simp [World.frozen?,hs5]
       have hB5 : Below (W3.heap.size + 1) A2 w5 := Below.appended ((Below.refl _ A2).alloc (by omega) _) hgrow5 (by rw [World.size_alloc]; omega) (hrow2.alloc _)
       have HF := hid (And.intro hown5 (And.intro hs5 (And.intro hB5 (And.intro hown2 hgrow5))))
       have Q4 := hid q4
       have Q5 := hid q5
       have Q1 := hid q1
       have HR2 := hid hrow2
       clear hown5 hs5 hB5 hown2 hgrow5 q4 q5 q1 hrow2 hs2 q2 q3 s1 s2 hi hz0 hz1 hz2
       go_wp2_with fail
       go_roundw
       case rel =>
        obtain ⟨o5,b5,B5,of,g5⟩ := HF.out
        have hmr := hid (show Al.rulesFrom d.script n [d] = [⟨n,d.cost,f,d.to_⟩] by simp [Al.rulesFrom,hl3])
        have hgs := set_grown_at w5 W3.heap.size 1 (.slice a5 (fs.length + 1) c5)
        have hA2 : W3.heap.size + 1 ≤ wr.heap.size := by have := HR2.out; have := (Array.getElem?_eq_some_iff.1 (HREL.out.2.1)).1; omega
        refine ⟨n + 1,fs ++ [(⟨n,d.cost,f,d.to_⟩,.slice af f.length cf)],.slice a5 (fs.length + 1) c5,by omega,by go_num,?_,by simp; omega,?_,?_,?_,?_⟩
        ·rw [hstep.out,hmr.out,List.map_append,Q1.out]; rfl
        ·simp [World.setCell,Array.getElem?_modify,b5]
        ·rw [List.length_append,List.flatMap_append]
         exact kept_at o5 hgs (by omega)
        ·intro p hp
         refine kept_at ?_ hgs (by omega)
         have str : ∀ {v : Value} {m : Nat} {xs : List Value},A2.ownsRow (W3.heap.size + 1) 9 1 v m xs → w5.ownsRow (W3.heap.size + 1) 9 1 v m xs := fun ho =>
          kept_type (ho.alloc _) (HR2.out.alloc _) g5 (by decide)
         rcases List.mem_append.1 hp with hp | hp
         ·exact str (ownsRow_below (Q4.out p hp) HB2.out)
         ·rw [List.mem_singleton] at hp
          subst hp
          exact str (ownsRow_base of (by have := HBA.out.1.size; omega))
        ·exact ((Q5.out.trans (HB2.out.mono Q5.out.size)).trans (B5.mono (by omega))).setCell (p := ⟨W3.heap.size,1,none⟩) (by simp) _
       case measure => simp [intOf]; omega
     ·have hne : ((d.script : Int) != k) = true := by simpa using hsc
      have hnil := hid (show Al.rulesFrom k n [d] = [] by simp [Al.rulesFrom,hsc])
      have hbA : Below wr.heap.size wr (wr.alloc (.cells #[.int .i64 d.script,.string (bs d.from_),.string (bs d.to_),.int .i64 d.cost] 71)) := (Below.refl _ wr).alloc (Nat.le_refl _) _
      have HBA := hid hbA
      clear hbA hsc
      go_wp2_with fail
      go_roundw
      case rel =>
       obtain ⟨q1,q2,q3,q4,q5⟩ := HREL.out
       exact ⟨n + 1,fs,rv,by omega,by go_num,by rw [hstep.out,hnil.out,List.append_nil]; exact q1,by omega,(HBA.out.block _ (Array.getElem?_eq_some_iff.1 q2).1).trans q2,ownsRow_below q3 HBA.out,fun p hp => ownsRow_below (q4 p hp) HBA.out,q5.trans (HBA.out.mono q5.size)⟩
      case measure => simp [intOf]; omega
    ·have hne : n = t.rules.length := by omega
     subst hne
     have hfs' := hid (hfs.trans (by rw [List.take_length]))
     obtain ⟨ar,cr,rfl⟩ := ownsRow_slice hrow
     have x0 : wr.cell? ⟨W3.heap.size,0,none⟩ = some (.slice a3 l.length c3) := by simp [World.cell?,hs]
     have x1 : wr.cell? ⟨W3.heap.size,1,none⟩ = some (.slice ar fs.length cr) := by simp [World.cell?,hs]
     have hr := (hbr.block _ (Array.getElem?_eq_some_iff.1 hr3.out).1).trans hr3.out
     have r0 : wr.cell? ⟨W.heap.size + 1,0,none⟩ = some (.slice none 0 0) := by simp [World.cell?,hr]
     have r1 : wr.cell? ⟨W.heap.size + 1,1,none⟩ = some (.slice none 0 0) := by simp [World.cell?,hr]
     have r2 : wr.frozen? ⟨W.heap.size + 1,0,none⟩ = false := by simp [World.frozen?,hr]
     have r3 : wr.frozen? ⟨W.heap.size + 1,1,none⟩ = false := by simp [World.frozen?,hr]
     have hWlt := (Array.getElem?_eq_some_iff.1 hr2.out).1
     have R := hid (And.intro hrow (And.intro hall (And.intro hbr hbW)))
     have HR := hid hr
     clear hfs hs hrow hall hbr hr hbW
     go_wp2_with fail
     refine post_cell_tmp (v := .agg #[.slice a3 l.length c3,.slice ar fs.length cr]) rfl rfl ?_ rfl rfl ?_
     ·go_simp
     ·obtain ⟨hrow,hall,hbr,hbW⟩ := R.out
      have ho : wr.ownsRow (W2.heap.size) 9 1 (.slice a3 l.length c3) l.length (l.flatMap strC) := by
       rw [flat_str]; exact ownsRow_below HOWN.out hbr
      have g1 := set_grown_at wr (W.heap.size + 1) 0 (.slice a3 l.length c3)
      have g2 := set_grown_at (wr.setCell ⟨W.heap.size + 1,0,none⟩ (.slice a3 l.length c3)) (W.heap.size + 1) 1 (.slice ar fs.length cr)
      have k2 : ∀ {B : Nat} {e : TypeId} {z : Nat} {v : Value} {m : Nat} {xs : List Value},W.heap.size + 1 < B → wr.ownsRow B e z v m xs → ((wr.setCell ⟨W.heap.size + 1,0,none⟩ (.slice a3 l.length c3)).setCell ⟨W.heap.size + 1,1,none⟩ (.slice ar fs.length cr)).ownsRow B e z v m xs :=
       fun hB h => kept_at (kept_at h g1 hB) g2 hB
      unfold SidePost
      refine ⟨(hbW.setCell (p := ⟨W.heap.size + 1,0,none⟩) (by simp) _).setCell (p := ⟨W.heap.size + 1,1,none⟩) (by simp) _,?_⟩
      rw [show Al.side t.rules k word.data.toList = some ⟨l,Al.rulesFrom k 0 t.rules⟩ by unfold Al.side; rw [HL.out]; simp only; rw [HL2.out]]
      refine ⟨_,_,fs,rfl,SlOf.own (k2 hWlt ho) (fun x _ => rfl),⟨SlOf.own (k2 (by omega) hrow) (fun x _ => rfl),fun p hp => ?_⟩,hfs'.out⟩
      have := hall p hp
      rw [← flat_str] at this
      exact SlOf.own (k2 (by omega) this) (fun x _ => rfl)
end Go.Proofs.YtdghfenbfbdijaaGreatDoor
namespace Al
def openB (t : Rw.Table) (a : Int) (x : List UInt8) (b : Int) (y : List UInt8) : Bool := (side t.rules a x).isSome && (side t.rules b y).isSome && Rw.valid t
end Al
namespace Go.Proofs.YtdghfenbfbdijaaGreatDoor
open Go.RowKit Go.Lib Go.Maps
theorem SidePost.uni {t : Rw.Table} {k : Int} {word : List UInt8} {W W' : World} {e : Ending} (h : SidePost t k word W e W') :
  Below W.heap.size W W' ∧ ∃ a1 n1 c1 a2 n2 c2,e = .returned (.tuple #[.agg #[.slice a1 n1 c1,.slice a2 n2 c2],.bool (Al.side t.rules k word).isSome]) ∧
   ∀ S,Al.side t.rules k word = some S → SlOf W' (.slice a1 n1 c1) 1 strC S.letters ∧ ∃ fs,RulesAt W' fs (.slice a2 n2 c2) ∧ fs.map Prod.fst = S.rules := by
 obtain ⟨hb,h⟩ := h
 refine ⟨hb,?_⟩
 cases hs : Al.side t.rules k word with
 | none =>
  rw [hs] at h
  exact ⟨none,0,0,none,0,0,h,fun S e => by cases e⟩
 | some S =>
  rw [hs] at h
  obtain ⟨lv,rv,fs,rfl,h1,h2,h3⟩ := h
  have h1' := h1
  have h2' := h2
  obtain ⟨a,c,rfl,-⟩ := h1'
  obtain ⟨⟨a2,c2,rfl,-⟩,-⟩ := h2'
  exact ⟨_,_,_,_,_,_,rfl,fun S' e => by cases e; exact ⟨h1,fs,h2,h3⟩⟩
def OpenPost (t : Rw.Table) (a : Int) (x : List UInt8) (b : Int) (y : List UInt8) (W : World) (e : Ending) (W' : World) : Prop :=
 Below W.heap.size W W' ∧ ∃ a1 n1 c1 a2 n2 c2 a3 n3 c3 a4 n4 c4,e = .returned (.tuple #[.agg #[.slice a1 n1 c1,.slice a2 n2 c2,.slice a3 n3 c3,.slice a4 n4 c4],.bool (Al.openB t a x b y)]) ∧
  ∀ S1 S2,Al.side t.rules a x = some S1 → Al.side t.rules b y = some S2 → ∃ fl fr,WordsAt W' ⟨S1,S2⟩ fl fr [.slice a1 n1 c1,.slice a2 n2 c2,.slice a3 n3 c3,.slice a4 n4 c4]
theorem rulesFrom_from (k : Int) : ∀ (l : List Rw.Rule) (i : Nat),∀ r ∈ Al.rulesFrom k i l,r.from_ ≠ []
 | [],_,r,h => by simp [Al.rulesFrom] at h
 | x :: l,i,r,h => by
  unfold Al.rulesFrom at h
  split at h
  ·split at h
   ·rename_i f hf
    rcases List.mem_cons.1 h with rfl | h
    ·exact (Sc.lets_len hf).1
    ·exact rulesFrom_from k l _ r h
   ·exact rulesFrom_from k l _ r h
  ·exact rulesFrom_from k l _ r h
theorem side_rules {t : List Rw.Rule} {k : Int} {x : List UInt8} {S : Al.Side} (h : Al.side t k x = some S) : S.rules = Al.rulesFrom k 0 t ∧ Sc.lets k (Sc.fold x) = some S.letters := by
 unfold Al.side at h
 split at h
 ·cases h
 ·split at h
  ·cases h
  ·rename_i l hl; cases h; exact ⟨rfl,hl⟩
section
variable {α : Type} {w : World} {v : Value} {sz : Nat} {cells : α → List Value} {l : List α}
theorem SlOf.set_other (h : SlOf w v sz cells l) {q j : Nat} {x : Value} (u : Value) (hx : w.cell? ⟨q,j,none⟩ = some x) (hne : ∀ y ∈ l,x ∉ cells y) : SlOf (w.setCell ⟨q,j,none⟩ u) v sz cells l := by
 obtain ⟨a,cap,h1,h2,h3,h4⟩ := h
 refine ⟨a,cap,h1,h2,h3,fun hl => ?_⟩
 obtain ⟨g,o,ha,hg,hr⟩ := h4 hl
 refine ⟨g,o,ha,by simpa [World.setCell] using hg,fun i y hy k z hz => ?_⟩
 have hc := hr i y hy k z hz
 rw [World.cell?_setCell_other]
 ·exact hc
 ·intro e
  rw [← e,hx] at hc
  cases hc
  exact hne y (List.mem_of_getElem? hy) (List.mem_of_getElem? hz)
end
theorem WordsAt.set_nil {W : World} {w : Al.Ws} {fl fr : List (Al.R × Value)} {v : List Value} (h : WordsAt W w fl fr v) {q j : Nat} (u : Value) (hx : W.cell? ⟨q,j,none⟩ = some (.slice none 0 0))
  (hl : ∀ r ∈ w.left.rules,r.from_ ≠ []) (hr : ∀ r ∈ w.right.rules,r.from_ ≠ []) : WordsAt (W.setCell ⟨q,j,none⟩ u) w fl fr v := by
 obtain ⟨⟨ll,lr,rl,rr,e,a,b,c,d⟩,h1,h2⟩ := h
 have str : ∀ y : List UInt8,Value.slice none 0 0 ∉ strC y := fun y h => by simp [strC] at h
 have key : ∀ (fs : List (Al.R × Value)),(∀ p ∈ fs,SlOf W p.2 1 strC p.1.from_) → (∀ p ∈ fs,p.1.from_ ≠ []) → ∀ p ∈ fs,Value.slice none 0 0 ∉ ruleC p := fun fs hs hn p hp hm => by
  obtain ⟨a,cap,hv,_⟩ := hs p hp
  unfold ruleC at hm
  rw [hv] at hm
  simp at hm
  exact hn p hp (List.length_eq_zero_iff.1 hm.2.1.symm)
 have n1 : ∀ p ∈ fl,p.1.from_ ≠ [] := fun p hp => hl _ (by rw [← h1]; exact List.mem_map_of_mem hp)
 have n2 : ∀ p ∈ fr,p.1.from_ ≠ [] := fun p hp => hr _ (by rw [← h2]; exact List.mem_map_of_mem hp)
 exact ⟨⟨ll,lr,rl,rr,e,a.set_other u hx (fun y _ => str y),⟨b.1.set_other u hx (key fl b.2 n1),fun p hp => (b.2 p hp).set_other u hx (fun y _ => str y)⟩,
  c.set_other u hx (fun y _ => str y),⟨d.1.set_other u hx (key fr d.2 n2),fun p hp => (d.2 p hp).set_other u hx (fun y _ => str y)⟩⟩,h1,h2⟩
theorem open_end {t : Rw.Table} {a b : Int} {x y : List UInt8} {W W5 wz wf : World} {a1 a2 a3 a4 : Option Addr} {n1 c1 n2 c2 n3 c3 n4 c4 : Nat} (hbW5 : Below W.heap.size W W5)
  (hr5 : W5.heap[W.heap.size + 1]? = some (.cells #[.slice none 0 0,.slice none 0 0,.slice none 0 0,.slice none 0 0] 201 (0,0)))
  (hWA : ∀ S1 S2,Al.side t.rules a x = some S1 → Al.side t.rules b y = some S2 → ∃ fl fr,WordsAt W5 ⟨S1,S2⟩ fl fr [.slice a1 n1 c1,.slice a2 n2 c2,.slice a3 n3 c3,.slice a4 n4 c4])
  (hz : Below W5.heap.size W5 wz) {ok : Bool} (hok : ok = Al.openB t a x b y)
  (hf : wf = (((wz.setCell ⟨W.heap.size + 1,0,none⟩ (.slice a1 n1 c1)).setCell ⟨W.heap.size + 1,1,none⟩ (.slice a2 n2 c2)).setCell ⟨W.heap.size + 1,2,none⟩ (.slice a3 n3 c3)).setCell ⟨W.heap.size + 1,3,none⟩ (.slice a4 n4 c4)) :
  OpenPost t a x b y W (.returned (.tuple #[.agg #[.slice a1 n1 c1,.slice a2 n2 c2,.slice a3 n3 c3,.slice a4 n4 c4],.bool ok])) wf := by
 subst hok hf
 have hr := (hz.block _ (Array.getElem?_eq_some_iff.1 hr5).1).trans hr5
 refine ⟨((((hbW5.trans (hz.mono hbW5.size)).setCell (p := ⟨W.heap.size + 1,0,none⟩) (by simp) _).setCell (p := ⟨W.heap.size + 1,1,none⟩) (by simp) _).setCell (p := ⟨W.heap.size + 1,2,none⟩) (by simp) _).setCell (p := ⟨W.heap.size + 1,3,none⟩) (by simp) _,
  _,_,_,_,_,_,_,_,_,_,_,_,rfl,fun S1 S2 h1 h2 => ?_⟩
 obtain ⟨fl,fr,hw⟩ := hWA S1 S2 h1 h2
 have l1 : ∀ r ∈ (⟨S1,S2⟩ : Al.Ws).left.rules,r.from_ ≠ [] := by rw [(side_rules h1).1]; exact rulesFrom_from a _ _
 have l2 : ∀ r ∈ (⟨S1,S2⟩ : Al.Ws).right.rules,r.from_ ≠ [] := by rw [(side_rules h2).1]; exact rulesFrom_from b _ _
 have hw := hw.below hz
 refine ⟨fl,fr,(((hw.set_nil _ ?_ l1 l2).set_nil _ ?_ l1 l2).set_nil _ ?_ l1 l2).set_nil _ ?_ l1 l2⟩
 ·simp [World.cell?,hr]
 ·simp [World.cell?,World.setCell,Array.getElem?_modify,hr]
 ·simp [World.cell?,World.setCell,Array.getElem?_modify,hr]
 ·simp [World.cell?,World.setCell,Array.getElem?_modify,hr]
set_option maxRecDepth 100000 in
set_option maxHeartbeats 4000000 in
theorem open_any (t : Rw.Table) (tv : Value) (a b : Int) (x y : ByteArray) (W : World) (ht : TableAt W t tv) (hT : Tabs W) (hx : x.size ≤ 1000000) (hy : y.size ≤ 1000000) :
  Calls Tryz.prog 109 #[tv,.int .i64 a,.string x,.int .i64 b,.string y] W (OpenPost t a x.data.toList b y.data.toList W) := by
 have HT := hid ht
 have HTT := hid hT
 obtain ⟨⟨vr,vd,ve,rfl,⟨ar,cr,rfl,-⟩,⟨ad,cd,rfl,-⟩,⟨ae,ce,rfl,-⟩⟩,-,-,-,-,-,-⟩ := ht
 clear hT
 obtain ⟨W1,hW1⟩ := exq ((W.alloc (.cells #[.slice ar t.rules.length cr,.slice ad t.drops.length cd,.slice ae t.ends.length ce,.int .i64 t.drop,.int .i64 t.order,.int .i64 t.initial] 25)).alloc (.cells #[.slice none 0 0,.slice none 0 0,.slice none 0 0,.slice none 0 0] 201))
 have hb1 : Below W.heap.size W W1 := by rw [hW1]; exact ((Below.refl _ W).alloc (Nat.le_refl _) _).alloc (by simp) _
 have hr1 : W1.heap[W.heap.size + 1]? = some (.cells #[.slice none 0 0,.slice none 0 0,.slice none 0 0,.slice none 0 0] 201 (0,0)) := by
  rw [hW1]
  have := World.alloc_heap_new (W.alloc (.cells #[.slice ar t.rules.length cr,.slice ad t.drops.length cd,.slice ae t.ends.length ce,.int .i64 t.drop,.int .i64 t.order,.int .i64 t.initial] 25)) (.cells #[.slice none 0 0,.slice none 0 0,.slice none 0 0,.slice none 0 0] 201)
  rwa [World.size_alloc] at this
 have ht1 : W1.heap[W.heap.size]? = some (.cells #[.slice ar t.rules.length cr,.slice ad t.drops.length cd,.slice ae t.ends.length ce,.int .i64 t.drop,.int .i64 t.order,.int .i64 t.initial] 25 (0,0)) := by
  rw [hW1]; exact (Below.heap_alloc _ _ _ (by simp)).trans (World.alloc_heap_new W _)
 have HS1 := hid (sideOf_any t _ a x W1 (HT.out.below hb1) (HTT.out.below hb1) hx)
 have H1 := hid (And.intro hb1 (And.intro hr1 ht1))
 clear hb1 hr1 ht1
 go_enter Tryz.func109,Tryz.ntmps109
 go_wp2_with fail
 rw [← hW1]
 clear hW1
 refine (HS1.out).mono ?_
 rintro e W2 h2
 obtain ⟨hb2,a1,n1,c1,a2,n2,c2,rfl,hS1⟩ := h2.uni
 obtain ⟨hb1,hr1,ht1⟩ := H1.out
 obtain ⟨W3,hW3⟩ := exq (W2.alloc (.cells #[.slice a1 n1 c1,.slice a2 n2 c2] 199))
 have hb3 := bnew hW3
 have hs3 : W3.heap[W2.heap.size]? = some (.cells #[.slice a1 n1 c1,.slice a2 n2 c2] 199 (0,0)) := by rw [hW3]; exact World.alloc_heap_new W2 _
 have b13 := Below.step hb2 hb3
 have hr3 := (b13.block _ (Array.getElem?_eq_some_iff.1 hr1).1).trans hr1
 have ht3 := (b13.block _ (Array.getElem?_eq_some_iff.1 ht1).1).trans ht1
 have hbW3 := hb1.trans (b13.mono hb1.size)
 have ht2 := (hb2.block _ (Array.getElem?_eq_some_iff.1 ht1).1).trans ht1
 have t0 : W2.cell? ⟨W.heap.size,0,none⟩ = some (.slice ar t.rules.length cr) := by simp [World.cell?,ht2]
 have t1 : W2.cell? ⟨W.heap.size,1,none⟩ = some (.slice ad t.drops.length cd) := by simp [World.cell?,ht2]
 have t2 : W2.cell? ⟨W.heap.size,2,none⟩ = some (.slice ae t.ends.length ce) := by simp [World.cell?,ht2]
 have t3 : W2.cell? ⟨W.heap.size,3,none⟩ = some (.int .i64 t.drop) := by simp [World.cell?,ht2]
 have t4 : W2.cell? ⟨W.heap.size,4,none⟩ = some (.int .i64 t.order) := by simp [World.cell?,ht2]
 have t5 : W2.cell? ⟨W.heap.size,5,none⟩ = some (.int .i64 t.initial) := by simp [World.cell?,ht2]
 have z2 := (Array.getElem?_eq_some_iff.1 ht2).1
 have zn2 : W.heap.size + 1 < W2.heap.size := Nat.lt_of_lt_of_le (Array.getElem?_eq_some_iff.1 hr1).1 hb2.size
 have HS2 := hid (sideOf_any t _ b y W3 (HT.out.below hbW3) (HTT.out.below hbW3) hy)
 have R3 := hid (And.intro hbW3 (And.intro hs3 (And.intro hr3 ht3)))
 have RS1 := hid (And.intro hS1 hb3)
 clear hb2 hb1 hr1 ht1 hb3 hs3 b13 hr3 ht3 hbW3 ht2 hS1 h2
 go_wp2_with fail
 rw [← hW3]
 clear hW3
 refine (HS2.out).mono ?_
 rintro e W4 h4
 obtain ⟨hb4,a3,n3,c3,a4,n4,c4,rfl,hS2⟩ := h4.uni
 obtain ⟨hbW3,hs3,hr3,ht3⟩ := R3.out
 obtain ⟨W5,hW5⟩ := exq (W4.alloc (.cells #[.slice a3 n3 c3,.slice a4 n4 c4] 199))
 have hb5 := bnew hW5
 have hs5 : W5.heap[W4.heap.size]? = some (.cells #[.slice a3 n3 c3,.slice a4 n4 c4] 199 (0,0)) := by rw [hW5]; exact World.alloc_heap_new W4 _
 have b35 := Below.step hb4 hb5
 have hr5 := (b35.block _ (Array.getElem?_eq_some_iff.1 hr3).1).trans hr3
 have ht5 := (b35.block _ (Array.getElem?_eq_some_iff.1 ht3).1).trans ht3
 have hs5' := (b35.block _ (Array.getElem?_eq_some_iff.1 hs3).1).trans hs3
 have hbW5 := hbW3.trans (b35.mono hbW3.size)
 have hWA := hid (show ∀ S1 S2,Al.side t.rules a x.data.toList = some S1 → Al.side t.rules b y.data.toList = some S2 → ∃ fl fr,WordsAt W5 ⟨S1,S2⟩ fl fr [.slice a1 n1 c1,.slice a2 n2 c2,.slice a3 n3 c3,.slice a4 n4 c4] by
  intro S1 S2 h1 h2
  obtain ⟨u1,fl,u2,u3⟩ := RS1.out.1 S1 h1
  obtain ⟨v1,fr,v2,v3⟩ := hS2 S2 h2
  have b25 := Below.step RS1.out.2 b35
  exact ⟨fl,fr,⟨⟨_,_,_,_,rfl,u1.below b25,u2.below b25,v1.below hb5,v2.below hb5⟩,u3,v3⟩⟩)
 have t0 : W5.cell? ⟨W.heap.size,0,none⟩ = some (.slice ar t.rules.length cr) := by simp [World.cell?,ht5]
 have t1 : W5.cell? ⟨W.heap.size,1,none⟩ = some (.slice ad t.drops.length cd) := by simp [World.cell?,ht5]
 have t2 : W5.cell? ⟨W.heap.size,2,none⟩ = some (.slice ae t.ends.length ce) := by simp [World.cell?,ht5]
 have t3 : W5.cell? ⟨W.heap.size,3,none⟩ = some (.int .i64 t.drop) := by simp [World.cell?,ht5]
 have t4 : W5.cell? ⟨W.heap.size,4,none⟩ = some (.int .i64 t.order) := by simp [World.cell?,ht5]
 have t5 : W5.cell? ⟨W.heap.size,5,none⟩ = some (.int .i64 t.initial) := by simp [World.cell?,ht5]
 have z5 := (Array.getElem?_eq_some_iff.1 ht5).1
 have y0 : W5.cell? ⟨W2.heap.size,0,none⟩ = some (.slice a1 n1 c1) := by simp [World.cell?,hs5']
 have y1 : W5.cell? ⟨W2.heap.size,1,none⟩ = some (.slice a2 n2 c2) := by simp [World.cell?,hs5']
 have zy := (Array.getElem?_eq_some_iff.1 hs5').1
 have x0 : W5.cell? ⟨W4.heap.size,0,none⟩ = some (.slice a3 n3 c3) := by simp [World.cell?,hs5]
 have x1 : W5.cell? ⟨W4.heap.size,1,none⟩ = some (.slice a4 n4 c4) := by simp [World.cell?,hs5]
 have zx := (Array.getElem?_eq_some_iff.1 hs5).1
 have r0 : W5.cell? ⟨W.heap.size + 1,0,none⟩ = some (.slice none 0 0) := by simp [World.cell?,hr5]
 have r1 : W5.cell? ⟨W.heap.size + 1,1,none⟩ = some (.slice none 0 0) := by simp [World.cell?,hr5]
 have r2 : W5.cell? ⟨W.heap.size + 1,2,none⟩ = some (.slice none 0 0) := by simp [World.cell?,hr5]
 have r3 : W5.cell? ⟨W.heap.size + 1,3,none⟩ = some (.slice none 0 0) := by simp [World.cell?,hr5]
 have q0 : W5.frozen? ⟨W.heap.size + 1,0,none⟩ = false := by simp [World.frozen?,hr5]
 have q1 : W5.frozen? ⟨W.heap.size + 1,1,none⟩ = false := by simp [World.frozen?,hr5]
 have q2 : W5.frozen? ⟨W.heap.size + 1,2,none⟩ = false := by simp [World.frozen?,hr5]
 have q3 : W5.frozen? ⟨W.heap.size + 1,3,none⟩ = false := by simp [World.frozen?,hr5]
 have zr := (Array.getElem?_eq_some_iff.1 hr5).1
 have HV := hid (valid_any t _ W5 (HT.out.below hbW5) (HTT.out.below hbW5))
 have ZN4 := hid (show W2.heap.size < W4.heap.size by have := hb4.size; have := (Array.getElem?_eq_some_iff.1 hs3).1; omega)
 have R5 := hid (And.intro hbW5 (And.intro hs5 (And.intro hs5' (And.intro hr5 ht5))))
 clear hb4 hbW3 hs3 hr3 ht3 hb5 hs5 b35 hr5 ht5 hs5' hbW5 hS2 h4
 cases e1 : (Al.side t.rules a x.data.toList).isSome with
 | false =>
  have hno := hid (show Al.openB t a x.data.toList b y.data.toList = false by unfold Al.openB; rw [e1]; rfl)
  clear e1
  go_wp2_with fail
  rw [← hW5]
  clear hW5
  go_region
  all_goals
   go_wp2_with fail
   refine post_cell_tmp (v := .agg #[.slice a1 n1 c1,.slice a2 n2 c2,.slice a3 n3 c3,.slice a4 n4 c4]) rfl rfl ?_ rfl rfl ?_
   ·go_simp
   ·exact open_end R5.out.1 R5.out.2.2.2.1 hWA.out (Below.refl _ _).drew hno.out.symm rfl
 | true =>
  cases e2 : (Al.side t.rules b y.data.toList).isSome with
  | false =>
   have hno := hid (show Al.openB t a x.data.toList b y.data.toList = false by unfold Al.openB; rw [e1,e2]; rfl)
   clear e1 e2
   go_wp2_with fail
   rw [← hW5]
   clear hW5
   go_region
   all_goals
    go_wp2_with fail
    refine post_cell_tmp (v := .agg #[.slice a1 n1 c1,.slice a2 n2 c2,.slice a3 n3 c3,.slice a4 n4 c4]) rfl rfl ?_ rfl rfl ?_
    ·go_simp
    ·exact open_end R5.out.1 R5.out.2.2.2.1 hWA.out (Below.refl _ _).drew hno.out.symm rfl
  | true =>
   have hno := hid (show Al.openB t a x.data.toList b y.data.toList = Rw.valid t by unfold Al.openB; rw [e1,e2]; rfl)
   clear e1 e2
   have K : Hid (∀ wx,Below W5.heap.size W5 wx → wx.cell? ⟨W2.heap.size,0,none⟩ = some (.slice a1 n1 c1) ∧ wx.cell? ⟨W2.heap.size,1,none⟩ = some (.slice a2 n2 c2) ∧ wx.cell? ⟨W4.heap.size,0,none⟩ = some (.slice a3 n3 c3) ∧ wx.cell? ⟨W4.heap.size,1,none⟩ = some (.slice a4 n4 c4) ∧
    wx.cell? ⟨W.heap.size,0,none⟩ = some (.slice ar t.rules.length cr) ∧ wx.cell? ⟨W.heap.size,1,none⟩ = some (.slice ad t.drops.length cd) ∧ wx.cell? ⟨W.heap.size,2,none⟩ = some (.slice ae t.ends.length ce) ∧
    wx.cell? ⟨W.heap.size,3,none⟩ = some (.int .i64 t.drop) ∧ wx.cell? ⟨W.heap.size,4,none⟩ = some (.int .i64 t.order) ∧ wx.cell? ⟨W.heap.size,5,none⟩ = some (.int .i64 t.initial)) := fun wx hb =>
    ⟨(hb.cell (p := ⟨W2.heap.size,0,none⟩) zy).trans y0,(hb.cell (p := ⟨W2.heap.size,1,none⟩) zy).trans y1,(hb.cell (p := ⟨W4.heap.size,0,none⟩) zx).trans x0,(hb.cell (p := ⟨W4.heap.size,1,none⟩) zx).trans x1,
     (hb.cell (p := ⟨W.heap.size,0,none⟩) z5).trans t0,(hb.cell (p := ⟨W.heap.size,1,none⟩) z5).trans t1,(hb.cell (p := ⟨W.heap.size,2,none⟩) z5).trans t2,(hb.cell (p := ⟨W.heap.size,3,none⟩) z5).trans t3,(hb.cell (p := ⟨W.heap.size,4,none⟩) z5).trans t4,(hb.cell (p := ⟨W.heap.size,5,none⟩) z5).trans t5⟩
   have KR : Hid (∀ wx,Below W5.heap.size W5 wx → wx.cell? ⟨W.heap.size + 1,0,none⟩ = some (.slice none 0 0) ∧ wx.cell? ⟨W.heap.size + 1,1,none⟩ = some (.slice none 0 0) ∧ wx.cell? ⟨W.heap.size + 1,2,none⟩ = some (.slice none 0 0) ∧ wx.cell? ⟨W.heap.size + 1,3,none⟩ = some (.slice none 0 0) ∧
    wx.frozen? ⟨W.heap.size + 1,0,none⟩ = false ∧ wx.frozen? ⟨W.heap.size + 1,1,none⟩ = false ∧ wx.frozen? ⟨W.heap.size + 1,2,none⟩ = false ∧ wx.frozen? ⟨W.heap.size + 1,3,none⟩ = false) := fun wx hb =>
    ⟨(hb.cell (p := ⟨W.heap.size + 1,0,none⟩) zr).trans r0,(hb.cell (p := ⟨W.heap.size + 1,1,none⟩) zr).trans r1,(hb.cell (p := ⟨W.heap.size + 1,2,none⟩) zr).trans r2,(hb.cell (p := ⟨W.heap.size + 1,3,none⟩) zr).trans r3,
     (hb.frozen (p := ⟨W.heap.size + 1,0,none⟩) zr).trans q0,(hb.frozen (p := ⟨W.heap.size + 1,1,none⟩) zr).trans q1,(hb.frozen (p := ⟨W.heap.size + 1,2,none⟩) zr).trans q2,(hb.frozen (p := ⟨W.heap.size + 1,3,none⟩) zr).trans q3⟩
   have VQ : Hid (∀ wx,Below W5.heap.size W5 wx → Calls Tryz.prog 32 #[.agg #[.slice ar t.rules.length cr,.slice ad t.drops.length cd,.slice ae t.ends.length ce,.int .i64 t.drop,.int .i64 t.order,.int .i64 t.initial]] wx (Gives (.bool (Rw.valid t)) wx)) := fun wx hb =>
    have b := R5.out.1.trans (hb.mono R5.out.1.size)
    valid_any t _ wx (HT.out.below b) (HTT.out.below b)
   go_wp2_with fail
   rw [← hW5]
   clear hW5
   have zn4 : W2.heap.size < W4.heap.size := ZN4.out
   have m1 : ¬ W2.heap.size = W.heap.size + 1 := by omega
   have m2 : ¬ W4.heap.size = W.heap.size + 1 := by omega
   have m3 : ¬ W.heap.size + 1 = W2.heap.size := by omega
   have m4 : ¬ W.heap.size + 1 = W4.heap.size := by omega
   go_region_held3 (fun wx => wx.cell? ⟨W2.heap.size,0,none⟩ = some (.slice a1 n1 c1) ∧ wx.cell? ⟨W2.heap.size,1,none⟩ = some (.slice a2 n2 c2) ∧ wx.cell? ⟨W4.heap.size,0,none⟩ = some (.slice a3 n3 c3) ∧ wx.cell? ⟨W4.heap.size,1,none⟩ = some (.slice a4 n4 c4) ∧
    wx.cell? ⟨W.heap.size,0,none⟩ = some (.slice ar t.rules.length cr) ∧ wx.cell? ⟨W.heap.size,1,none⟩ = some (.slice ad t.drops.length cd) ∧ wx.cell? ⟨W.heap.size,2,none⟩ = some (.slice ae t.ends.length ce) ∧
    wx.cell? ⟨W.heap.size,3,none⟩ = some (.int .i64 t.drop) ∧ wx.cell? ⟨W.heap.size,4,none⟩ = some (.int .i64 t.order) ∧ wx.cell? ⟨W.heap.size,5,none⟩ = some (.int .i64 t.initial))
    (first | (exact K.out _ (Below.refl _ _).drew) | (exact K.out _ (by assumption)) | (go_split_ands; go_simp))
    (first | (go_at_call 32; refine (VQ.out _ (Below.refl _ _).drew).mono ?_; rintro e wy ⟨rfl,hbx⟩; have hby := Below.step (Below.refl _ _).drew hbx; have hkr := KR.out _ hby; obtain ⟨w0,w1,w2,w3,w4,w5,w6,w7⟩ := hkr))
   have HB := hid hby
   clear hbx hby
   go_wp2_with fail
   refine post_cell_tmp (v := .agg #[.slice a1 n1 c1,.slice a2 n2 c2,.slice a3 n3 c3,.slice a4 n4 c4]) rfl rfl ?_ rfl rfl ?_
   ·go_simp
   ·exact open_end R5.out.1 R5.out.2.2.2.1 hWA.out HB.out hno.out.symm rfl
end Go.Proofs.YtdghfenbfbdijaaGreatDoor
namespace Rw
theorem allOk_mem {α : Type} {ok : α → Bool} {key : α → Int × List UInt8 × List UInt8} : ∀ {l : List α} {seen : List (Int × List UInt8 × List UInt8)},allOk ok key l seen = true → ∀ x ∈ l,ok x = true
 | [],_,_,x,h => by cases h
 | y :: l,seen,h,x,hx => by
  unfold allOk at h
  rw [Bool.and_eq_true,Bool.and_eq_true] at h
  rcases List.mem_cons.1 hx with rfl | hx
  ·exact h.1.2
  ·exact allOk_mem h.2 x hx
theorem valid_rules {t : Table} (h : valid t = true) : t.rules.length ≤ 80 ∧ ∀ r ∈ t.rules,ruleOk r = true := by
 unfold valid at h
 simp only [Bool.and_eq_true,decide_eq_true_eq] at h
 exact ⟨h.1.1.1.1.1.1.2,allOk_mem h.1.1.2⟩
end Rw
namespace Al
theorem rulesFrom_mem (k : Int) : ∀ (l : List Rw.Rule) (i : Nat),∀ r ∈ rulesFrom k i l,(∃ q ∈ l,r.cost = q.cost ∧ r.to_ = q.to_ ∧ Sc.lets k q.from_ = some r.from_) ∧ i ≤ r.index ∧ r.index < i + l.length
 | [],_,r,h => by simp [rulesFrom] at h
 | x :: l,i,r,h => by
  have go : r ∈ rulesFrom k (i + 1) l → (∃ q ∈ x :: l,r.cost = q.cost ∧ r.to_ = q.to_ ∧ Sc.lets k q.from_ = some r.from_) ∧ i ≤ r.index ∧ r.index < i + (x :: l).length := fun h => by
   obtain ⟨⟨q,h1,h2⟩,h3,h4⟩ := rulesFrom_mem k l (i + 1) r h
   exact ⟨⟨q,List.mem_cons_of_mem _ h1,h2⟩,by omega,by simp; omega⟩
  unfold rulesFrom at h
  split at h
  ·split at h
   ·rename_i f hf
    rcases List.mem_cons.1 h with rfl | h
    ·exact ⟨⟨x,List.mem_cons_self,rfl,rfl,hf⟩,Nat.le_refl _,by simp⟩
    ·exact go h
   ·exact go h
  ·exact go h
theorem rulesFrom_sorted (k : Int) : ∀ (l : List Rw.Rule) (i : Nat),(rulesFrom k i l).Pairwise (fun a b => a.index < b.index)
 | [],_ => by simp [rulesFrom]
 | x :: l,i => by
  unfold rulesFrom
  split
  ·split
   ·rw [List.pairwise_cons]
    refine ⟨fun r h => ?_,rulesFrom_sorted k l _⟩
    have := (rulesFrom_mem k l (i + 1) r h).2.1
    simp only; omega
   ·exact rulesFrom_sorted k l _
  ·exact rulesFrom_sorted k l _
theorem rulesFrom_len (k : Int) : ∀ (l : List Rw.Rule) (i : Nat),(rulesFrom k i l).length ≤ l.length
 | [],_ => by simp [rulesFrom]
 | x :: l,i => by
  have := rulesFrom_len k l (i + 1)
  unfold rulesFrom
  split
  ·split
   ·simp only [List.length_cons]; omega
   ·simp only [List.length_cons]; omega
  ·simp only [List.length_cons]; omega
theorem side_good {t : Rw.Table} (hv : Rw.valid t = true) {k : Int} {x : List UInt8} {S : Side} (h : side t.rules k x = some S) :
  S.Good ∧ S.letters.length ≤ 12 ∧ S.rules.length ≤ 80 ∧ ∀ r ∈ S.rules,r.from_.length ≤ 12 ∧ r.to_.length ≤ 3 := by
 obtain ⟨h1,h2⟩ := Go.Proofs.YtdghfenbfbdijaaGreatDoor.side_rules h
 obtain ⟨v1,v2⟩ := Rw.valid_rules hv
 have key : ∀ r ∈ S.rules,(0 ≤ r.cost ∧ r.cost ≤ 1000) ∧ r.from_ ≠ [] ∧ r.from_.length ≤ 12 ∧ r.to_.length ≤ 3 := fun r hr => by
  rw [h1] at hr
  obtain ⟨⟨q,hq,e1,e2,e3⟩,_⟩ := rulesFrom_mem k _ _ r hr
  have ho := v2 q hq
  unfold Rw.ruleOk Rw.isForm Rw.isCost at ho
  simp only [Bool.and_eq_true,decide_eq_true_eq] at ho
  obtain ⟨l1,l2⟩ := Sc.lets_len e3
  exact ⟨⟨by omega,by omega⟩,l1,l2,by rw [e2]; exact ho.1.2.1⟩
 refine ⟨⟨fun r hr => (key r hr).2.1,fun r hr => (key r hr).1,by rw [h1]; exact rulesFrom_sorted k _ _⟩,(Sc.lets_len h2).2,?_,fun r hr => (key r hr).2.2⟩
 rw [h1]
 exact Nat.le_trans (rulesFrom_len k _ _) v1
theorem path_done {w : Ws} {s : St} (h : done w s = true) (n : Nat) : path w n s = [] := by
 cases n with
 | zero => rfl
 | succ n => unfold path; rw [if_pos h]
theorem path_next {w : Ws} {s s' : St} {r : R} (h : done w s = false) (hp : pick w s = some (r,s')) (n : Nat) : path w (n + 1) s = (decide (s.i < s'.i),r) :: path w n s' := by
 rw [path,h,hp]; simp
end Al
namespace Go.Proofs.YtdghfenbfbdijaaGreatDoor
theorem few_valid {t : Rw.Table} (hv : Rw.valid t = true) {a b : Int} {x y : List UInt8} {S1 S2 : Al.Side} (h1 : Al.side t.rules a x = some S1) (h2 : Al.side t.rules b y = some S2) : Few ⟨S1,S2⟩ := by
 obtain ⟨g1,l1,n1,z1⟩ := Al.side_good hv h1
 obtain ⟨g2,l2,n2,z2⟩ := Al.side_good hv h2
 refine ⟨⟨g1,g2⟩,⟨l1,l2⟩,by rw [List.length_append]; show S1.rules.length + S2.rules.length ≤ 200; omega,fun r hr => ?_⟩
 rcases List.mem_append.1 hr with h | h
 ·have := z1 r h; omega
 ·have := z2 r h; omega
end Go.Proofs.YtdghfenbfbdijaaGreatDoor
