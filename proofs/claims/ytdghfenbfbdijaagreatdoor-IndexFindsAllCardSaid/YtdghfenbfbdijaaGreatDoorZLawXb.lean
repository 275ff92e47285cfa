/-
 IndexBounds: with the lesser bound those hits are found that cost at most this bound. Conditions: the arguments lie in memory and are of sizes that a machine holds; the library's tables.
-/
import Derived.Test.YtdghfenbfbdijaaGreatDoorZIy4
import Derived.Test.YtdghfenbfbdijaaGreatDoorZIy6
namespace Rw
theorem valid_order {t : Table} (h : valid t = true) : 0 ≤ t.order ∧ t.order ≤ 1000000 := by
 unfold valid at h
 simp only [Bool.and_eq_true] at h
 have := h.1.1.1.1.2
 unfold isCost at this
 simp only [Bool.and_eq_true,decide_eq_true_eq] at this
 omega
end Rw
namespace Go.Proofs.YtdghfenbfbdijaaGreatDoor
open Go.RowKit Go.Lib Go.Maps
theorem IxT.apart {W W' : World} {px eb cb : Nat} {t : Rw.Table} {vr vd ve : Value} {b : Int} {Q : Nat → Prop} {P : List (Li.En × Value)} {nc l : Nat} {o : Obj} (h : IxT W px eb cb t vr vd ve b Q P nc) (hb : But W.heap.size l W W') (hl : W.heap[l]? = some o) (ho : o.isCells = false) (h1 : eb ≠ l) (h2 : cb ≠ l) : IxT W' px eb cb t vr vd ve b Q P nc := by
 obtain ⟨F,f1,f2⟩ := h.ix.costs
 refine ⟨⟨blk_but h.ix.box hb hl ho,?_,fun p hp => (h.ix.names p hp).but hb hl ho,⟨F,?_,f2⟩,h.ix.ne,h.ix.ok⟩,tableAt_but h.tb hb hl ho,tabs_but h.tabs hb hl ho⟩
 ·have hlt := h.ix.ents.lt
  obtain ⟨D,⟨es,clock,hbk,hr⟩,hD⟩ := h.ix.ents
  exact ⟨D,⟨es,clock,(hb.block eb hlt h1).trans hbk,hr⟩,hD⟩
 ·have hlt := f1.lt
  obtain ⟨D,⟨es,clock,hbk,hr⟩,hD⟩ := f1
  exact ⟨D,⟨es,clock,(hb.block cb hlt h2).trans hbk,hr⟩,hD⟩
end Go.Proofs.YtdghfenbfbdijaaGreatDoor
