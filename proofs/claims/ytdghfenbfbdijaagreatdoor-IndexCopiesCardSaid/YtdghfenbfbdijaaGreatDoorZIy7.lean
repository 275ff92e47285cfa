import Derived.Test.YtdghfenbfbdijaaGreatDoorZLawXb
import Derived.Test.YtdghfenbfbdijaaGreatDoorZIy5
namespace Idx
end Idx
namespace Go.Proofs.YtdghfenbfbdijaaGreatDoor
open Go.RowKit Go.Lib Go.Maps
theorem entries_raw (px eb cb : Nat) (t : Rw.Table) (vr vd ve : Value) (bd : Int) (Q : Nat → Prop) (P : List (Li.En × Value)) (nc : Nat) (W : World) (h : IxT W px eb cb t vr vd ve bd Q P nc) :
  Calls Tryz.prog 22 #[.pointer (some ⟨px, 0, none⟩)] W (fun e W' => Below W.heap.size W W' ∧ ∃ (a : Option Addr) (c : Nat) (ps : List (Li.En × Value)), e = .returned (.slice a ps.length c) ∧ ps.map Prod.fst = (Idx.sortE P).map Prod.fst ∧ EnsRaw W' (.slice a ps.length c) ps) := by
 refine (entries_own px eb cb t vr vd ve bd Q P nc W h).mono ?_
 rintro e W' ⟨hb, v, ps, rfl, h1, h2, h3⟩
 have hs := SlOf.own (sz := 2) (cells := enC) h2 (fun _ _ => rfl)
 obtain ⟨a, c, rfl, -⟩ := id hs
 exact ⟨hb, a, c, ps, rfl, h1, hs, fun p hp => by
  obtain ⟨qs, q1, q2⟩ := h3 p hp
  rw [← q1]
  exact q2.sl⟩

end Go.Proofs.YtdghfenbfbdijaaGreatDoor
