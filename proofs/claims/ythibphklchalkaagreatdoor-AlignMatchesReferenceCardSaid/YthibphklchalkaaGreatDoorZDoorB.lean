/-
  The seat's door: its listed variables are met by a witness world; the library's tables by what is listed. Conditions: none.
-/
import Derived.Test.YthibphklchalkaaGreatDoorRows
import Derived.ProofKit
import Derived.LaidMore
import Derived.OpenShut
import Derived.Stop.Joined
import Derived.SevenTiedAt
import Derived.Lib.LaidCase
import Derived.Lib.LaidCaseMet
import Derived.Lib.LaidU8
import Derived.MakeChecks
import Derived.Test.YthibphklchalkaaGreatDoorZMScr
namespace Go.Proofs.YthibphklchalkaaGreatDoor
open Go.ChangeShapes Go.WideShapes Go.ChangeAt Go.RowKit Go.Lib

theorem own : ownKnob Tryz.prog.godebug = none := by kernel_rfl

/-- the variables that each row of this seat lists -/
def laidAll : List (String × DataW Unit) := Rows.alignFormsRow.laid

/-- a world in which they hold what they list: the witness -/
noncomputable def laidWorld (os : Os) : World :=
  let w0 := World.holding Tryz.prog os ⟨#[.cells Lib.caseCells5 (Tryz.lays159_ren.t 208)], #[], []⟩
  let put (h : Array Obj) (g : Nat) (cs : Array Value) : Array Obj := h.modify g fun
    | .cells _ t frozen => .cells cs t frozen
    | o => o
  let h2 := put w0.heap 2 (Lib.firstTab.map fun z => Value.int .u8 z).toArray
  let h3 := put h2 3 ((List.range 16).flatMap fun i => [Value.int .u8 (Lib.accLo i), Value.int .u8 (Lib.accHi i)]).toArray
  let h5 := put h3 0 #[.slice (some ⟨(World.settled Tryz.prog os).heap.size, 0, none⟩) 336 336]
  { w0 with heap := h5 }

theorem laidMet_swap {P : Program} {w : World} {a x y : String × DataW Unit} {l : List (String × DataW Unit)} (h : laidMet P (a :: x :: y :: l) w) : laidMet P (a :: y :: x :: l) w := by
  obtain ⟨ps, hv, hn, hp⟩ := h
  obtain ⟨na, da⟩ := a
  obtain ⟨nx, dx⟩ := x
  obtain ⟨ny, dy⟩ := y
  obtain ⟨g1, t1, c1, f1, p1, r1, a1, a2, a3, a4, hv, rfl⟩ := hv
  obtain ⟨g2, t2, c2, f2, p2, r2, b1, b2, b3, b4, hv, rfl⟩ := hv
  obtain ⟨g3, t3, c3, f3, p3, r3, d1, d2, d3, d4, hv, rfl⟩ := hv
  have hperm : List.Perm (MemPlace.row ⟨g1, 0, none⟩ c1.size ++ p1 ++ (MemPlace.row ⟨g2, 0, none⟩ c2.size ++ p2 ++ (MemPlace.row ⟨g3, 0, none⟩ c3.size ++ p3 ++ r3))) (MemPlace.row ⟨g1, 0, none⟩ c1.size ++ p1 ++ (MemPlace.row ⟨g3, 0, none⟩ c3.size ++ p3 ++ (MemPlace.row ⟨g2, 0, none⟩ c2.size ++ p2 ++ r3))) := by
    refine List.Perm.append_left _ ?_
    rw [← List.append_assoc (MemPlace.row ⟨g2, 0, none⟩ c2.size ++ p2), ← List.append_assoc (MemPlace.row ⟨g3, 0, none⟩ c3.size ++ p3)]
    exact List.Perm.append_right _ List.perm_append_comm
  exact ⟨_, ⟨g1, t1, c1, f1, p1, _, a1, a2, a3, a4, ⟨g3, t3, c3, f3, p3, _, d1, d2, d3, d4, ⟨g2, t2, c2, f2, p2, _, b1, b2, b3, b4, hv, rfl⟩, rfl⟩, rfl⟩, (hperm.nodup_iff).1 hn, fun b off hm => hp b off ((hperm.mem_iff).2 hm)⟩

theorem case_met (os : Os) (args : Array Value) : laidMet Tryz.prog [("unicode/utf8.acceptRanges", Lib.acceptData), ("unicode/utf8.first", Lib.firstData), ("unicode.CaseRanges", caseData)] ((laidWorld os).forCall (fun _ _ => 0) ⟨#[], args, []⟩).memory :=
  laidMet_with_case (ρ := Tryz.lays159_ren) { Tryz.lays159 with } Tryz.lays159.t206 ⟨by kernel_rfl, by kernel_rfl, by kernel_rfl, by kernel_rfl, by kernel_rfl, by kernel_rfl⟩
    (l := [("unicode/utf8.acceptRanges", Lib.acceptData), ("unicode/utf8.first", Lib.firstData)])
    10 (by kernel_rfl) (by kernel_rfl) (by kernel_rfl) ((World.settled Tryz.prog default).heap.size) (Tryz.lays159_ren.t 208) (of_decide_eq_true (by kernel_rfl)) (by kernel_rfl) (by kernel_rfl) (by kernel_rfl)

set_option maxRecDepth 1000000 in
theorem laid_is : laidAll = [("unicode/utf8.acceptRanges", Lib.acceptData), ("unicode.CaseRanges", caseData), ("unicode/utf8.first", Lib.firstData)] := by rfl

theorem door_met (os : Os) (args : Array Value) : laidMetH Tryz.prog laidAll ((laidWorld os).forCall (fun _ _ => 0) ⟨#[], args, []⟩).memory := by
  rw [Go.MakeChecks.laidMetH_plain Tryz.prog laidAll _ (by kernel_rfl), laid_is]
  exact laidMet_swap (case_met os args)

theorem tabs_met {W : World} (h : laidMetH Tryz.prog laidAll W) : Tabs W := by
  rw [Go.MakeChecks.laidMetH_plain Tryz.prog laidAll _ (by kernel_rfl), laid_is] at h
  have e1 : ("unicode.CaseRanges", caseData) ∈ [("unicode/utf8.acceptRanges", Lib.acceptData), ("unicode.CaseRanges", caseData), ("unicode/utf8.first", Lib.firstData)] := .tail _ (.head _)
  have e2 : ("unicode/utf8.first", firstData) ∈ [("unicode/utf8.acceptRanges", Lib.acceptData), ("unicode.CaseRanges", caseData), ("unicode/utf8.first", Lib.firstData)] := .tail _ (.tail _ (.head _))
  have e3 : ("unicode/utf8.acceptRanges", acceptData) ∈ [("unicode/utf8.acceptRanges", Lib.acceptData), ("unicode.CaseRanges", caseData), ("unicode/utf8.first", Lib.firstData)] := .head _
  exact ⟨caseVar_of_reads (ρ := Tryz.lays159_ren) { Tryz.lays159 with } Tryz.lays159.t206 ⟨by kernel_rfl, by kernel_rfl, by kernel_rfl, by kernel_rfl, by kernel_rfl, by kernel_rfl⟩ (laidMet.reads h e1),
    utf8Tabs_of_reads (ρ := Tryz.lays159_ren) { Tryz.lays159 with } ⟨by kernel_rfl, by kernel_rfl, by kernel_rfl, by kernel_rfl, by kernel_rfl, by kernel_rfl, by kernel_rfl⟩ (laidMet.reads h e2) (laidMet.reads h e3)⟩

end Go.Proofs.YthibphklchalkaaGreatDoor
