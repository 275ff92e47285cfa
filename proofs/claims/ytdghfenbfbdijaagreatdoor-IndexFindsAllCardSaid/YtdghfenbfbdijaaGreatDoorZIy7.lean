/-
 Find of whatever name; Entries as entries in memory. Conditions: lengths; the library's tables.
-/
import Derived.Test.YtdghfenbfbdijaaGreatDoorZLawXb
import Derived.Test.YtdghfenbfbdijaaGreatDoorZIy5
namespace Idx
def findZ (t : Rw.Table) (bd : Int) (n : Li.Nm) (L : List Li.En) : List Hit × Int := if Li.nmOk n then (hits (Mt.dist t n) bd L,0) else ([],1)
end Idx
namespace Go.Proofs.YtdghfenbfbdijaaGreatDoor
open Go.RowKit Go.Lib Go.Maps
theorem find_all (px eb cb : Nat) (t : Rw.Table) (vr vd ve : Value) (bd : Int) (Q : Nat → Prop) (P : List (Li.En × Value)) (nc : Nat) (n : Li.Nm) (vn : Value) (W : World) (h : IxT W px eb cb t vr vd ve bd Q P nc)
  (hn : SlOf W vn 1 strC n.words) (hw : ∀ s ∈ n.words,s.length ≤ 1000000) (hnc : nc ≤ 700000) (hto : 0 ≤ t.order ∧ t.order ≤ 1000000) :
  Calls Tryz.prog 18 #[.pointer (some ⟨px,0,none⟩),.agg #[.int .i64 n.script,vn]] W (fun e W' => But W.heap.size cb W W' ∧ ∃ (a : Option Addr) (c nc' : Nat),e = .returned (.tuple #[.slice a (Idx.findZ t bd n ((Idx.sortE P).map Prod.fst)).1.length c,.int .i64 (Idx.findZ t bd n ((Idx.sortE P).map Prod.fst)).2]) ∧
   SlOf W' (.slice a (Idx.findZ t bd n ((Idx.sortE P).map Prod.fst)).1.length c) 3 hitC (Idx.findZ t bd n ((Idx.sortE P).map Prod.fst)).1 ∧ nc' ≤ nc + 115200 ∧ IxT W' px eb cb t vr vd ve bd Q P nc') := by
 unfold Idx.findZ
 cases hok : Li.nmOk n with
 | true =>
  simp only [if_true]
  refine (find_any px eb cb t vr vd ve bd Q P nc n vn W h hn hok hnc hto).mono ?_
  rintro e W' ⟨hb,v,rfl,ho,nc',h1,h2⟩
  have hs := SlOf.own (sz := 3) (cells := hitC) ho (fun _ _ => rfl)
  obtain ⟨a,c,rfl,-⟩ := id hs
  exact ⟨hb,a,c,nc',rfl,hs,h1,h.now hb h2⟩
 | false =>
  simp only [Bool.false_eq_true,if_false]
  refine (ixFind_bad px eb cb t vr vd ve bd Q P nc n vn W h hn hok hw).mono ?_
  rintro e W' ⟨rfl,hb⟩
  exact ⟨But.of_below hb cb,none,0,nc,rfl,SlOf.nil _ _ _,by omega,h.below hb⟩
theorem entries_raw (px eb cb : Nat) (t : Rw.Table) (vr vd ve : Value) (bd : Int) (Q : Nat → Prop) (P : List (Li.En × Value)) (nc : Nat) (W : World) (h : IxT W px eb cb t vr vd ve bd Q P nc) :
  Calls Tryz.prog 22 #[.pointer (some ⟨px,0,none⟩)] W (fun e W' => Below W.heap.size W W' ∧ ∃ (a : Option Addr) (c : Nat) (ps : List (Li.En × Value)),e = .returned (.slice a ps.length c) ∧ ps.map Prod.fst = (Idx.sortE P).map Prod.fst ∧ EnsRaw W' (.slice a ps.length c) ps) := by
 refine (entries_own px eb cb t vr vd ve bd Q P nc W h).mono ?_
 rintro e W' ⟨hb,v,ps,rfl,h1,h2,h3⟩
 have hs := SlOf.own (sz := 2) (cells := enC) h2 (fun _ _ => rfl)
 obtain ⟨a,c,rfl,-⟩ := id hs
 exact ⟨hb,a,c,ps,rfl,h1,hs,fun p hp => by
  obtain ⟨qs,q1,q2⟩ := h3 p hp
  rw [← q1]
  exact q2.sl⟩
end Go.Proofs.YtdghfenbfbdijaaGreatDoor
