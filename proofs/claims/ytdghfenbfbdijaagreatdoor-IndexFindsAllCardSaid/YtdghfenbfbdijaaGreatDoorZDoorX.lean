/-
 The seat's door: its listed variables are met by a witness world; the library's tables by what is listed. Conditions: none.
-/
import Derived.Test.YtdghfenbfbdijaaGreatDoorRows
import Derived.ProofKit
import Derived.LaidMore
import Derived.OpenShut
import Derived.Stop.Joined
import Derived.SevenTiedAt
import Derived.MakeChecks
import Derived.Lib.LaidTab
import Derived.Lib.LaidCase
import Derived.Lib.LaidCaseMet
import Derived.Lib.LaidU8
import Derived.Stop.LaidErr
import Derived.Test.YtdghfenbfbdijaaGreatDoorZMRn
import Derived.Test.YtdghfenbfbdijaaGreatDoorZMScr
namespace Go.Proofs.YtdghfenbfbdijaaGreatDoor
open Go.ChangeShapes Go.WideShapes Go.ChangeAt Go.RowKit Go.Lib
theorem own : ownKnob Tryz.prog.godebug = none := by kernel_rfl
def laidAll : List (String × DataW Unit) := Rows.indexNothingRow.laid
noncomputable def laidWorld (os : Os) : World :=
 let w0 := (World.doorLaid Tryz.prog 400 os).alloc (.cells Lib.caseCells5 (Tryz.lays159_ren.t 208))
 let put (h : Array Obj) (g : Nat) (cs : Array Value) : Array Obj := h.modify g fun
  | .cells _ t frozen => .cells cs t frozen
  | o => o
 let h2 := put w0.heap 1 (Lib.firstTab.map fun z => Value.int .u8 z).toArray
 let h5 := put h2 0 #[.slice (some ⟨(World.doorLaid Tryz.prog 400 os).heap.size,0,none⟩) 336 336]
 { w0 with heap := h5 }
theorem laidVars_perm {P : Program} {w : World} : ∀ {l l' : List (String × DataW Unit)},List.Perm l l' → ∀ {ps : List MemPlace},DataW.LaidVars P w l ps → ∃ ps',DataW.LaidVars P w l' ps' ∧ List.Perm ps ps' := by
 intro l l' hp
 induction hp with
 | nil => exact fun {ps} h => ⟨ps,h,List.Perm.refl _⟩
 | cons x _ ih =>
  intro ps h
  obtain ⟨n,d⟩ := x
  obtain ⟨g,t,c,f,p,r,a1,a2,a3,a4,hv,rfl⟩ := h
  obtain ⟨r',hv',hr⟩ := ih hv
  exact ⟨_,⟨g,t,c,f,p,r',a1,a2,a3,a4,hv',rfl⟩,List.Perm.append_left _ hr⟩
 | swap x y l =>
  intro ps h
  obtain ⟨nx,dx⟩ := x
  obtain ⟨ny,dy⟩ := y
  obtain ⟨g2,t2,c2,f2,p2,r2,b1,b2,b3,b4,hv,rfl⟩ := h
  obtain ⟨g3,t3,c3,f3,p3,r3,d1,d2,d3,d4,hv,rfl⟩ := hv
  refine ⟨_,⟨g3,t3,c3,f3,p3,_,d1,d2,d3,d4,⟨g2,t2,c2,f2,p2,_,b1,b2,b3,b4,hv,rfl⟩,rfl⟩,?_⟩
  rw [← List.append_assoc (MemPlace.row ⟨g2,0,none⟩ c2.size ++ p2),← List.append_assoc (MemPlace.row ⟨g3,0,none⟩ c3.size ++ p3)]
  exact List.Perm.append_right _ List.perm_append_comm
 | trans _ _ ih1 ih2 =>
  intro ps h
  obtain ⟨p1,h1,e1⟩ := ih1 h
  obtain ⟨p2,h2,e2⟩ := ih2 h1
  exact ⟨p2,h2,e1.trans e2⟩
theorem laidMet_perm {P : Program} {w : World} {l l' : List (String × DataW Unit)} (hp : List.Perm l l') (h : laidMet P l w) : laidMet P l' w := by
 obtain ⟨ps,hv,hn,hc⟩ := h
 obtain ⟨ps',hv',e⟩ := laidVars_perm hp hv
 exact ⟨ps',hv',(e.nodup_iff).1 hn,fun b off hm => hc b off ((e.mem_iff).2 hm)⟩
def laidRest : List (String × DataW Unit) := [("math/bits.deBruijn32tab", Rows.laid_math_bits_deBruijn32tab), ("math/bits.deBruijn64tab", Rows.laid_math_bits_deBruijn64tab), ("internal/strconv.uint64pow10", tabData .u64 pow10Tab), ("unicode/utf8.acceptRanges", Lib.acceptData), ("strconv.ErrRange", Rows.laid_strconv_ErrRange), ("strconv.ErrSyntax", Rows.laid_strconv_ErrSyntax), ("unicode/utf8.first", Lib.firstData)]
set_option maxRecDepth 1000000 in
theorem laid_is : laidAll = [("math/bits.deBruijn32tab", Rows.laid_math_bits_deBruijn32tab), ("math/bits.deBruijn64tab", Rows.laid_math_bits_deBruijn64tab), ("internal/strconv.uint64pow10", tabData .u64 pow10Tab), ("unicode/utf8.acceptRanges", Lib.acceptData), ("strconv.ErrRange", Rows.laid_strconv_ErrRange), ("strconv.ErrSyntax", Rows.laid_strconv_ErrSyntax), ("unicode.CaseRanges", caseData), ("unicode/utf8.first", Lib.firstData)] := by kernel_rfl
theorem case_met (os : Os) (args : Array Value) : laidMet Tryz.prog (laidRest ++ [("unicode.CaseRanges", caseData)]) ((laidWorld os).forCall (fun _ _ => 0) ⟨#[], args, []⟩).memory :=
 laidMet_with_case (ρ := Tryz.lays159_ren) { Tryz.lays159 with } Tryz.lays159.t206 ⟨by kernel_rfl,by kernel_rfl,by kernel_rfl,by kernel_rfl,by kernel_rfl,by kernel_rfl⟩
  (l := laidRest)
  10 (by kernel_rfl) (by kernel_rfl) (by kernel_rfl) ((World.doorLaid Tryz.prog 400 default).heap.size) (Tryz.lays159_ren.t 208) (of_decide_eq_true (by kernel_rfl)) (by kernel_rfl) (by kernel_rfl) (by kernel_rfl)
theorem door_met (os : Os) (args : Array Value) : laidMetH Tryz.prog laidAll ((laidWorld os).forCall (fun _ _ => 0) ⟨#[],args,[]⟩).memory := by
 rw [Go.MakeChecks.laidMetH_plain Tryz.prog laidAll _ (by kernel_rfl),laid_is]
 refine laidMet_perm ?_ (case_met os args)
 unfold laidRest
 simp only [List.cons_append,List.nil_append]
 exact ((((((List.Perm.swap _ _ []).cons _).cons _).cons _).cons _).cons _).cons _
theorem tabs_met {W : World} (h : laidMetH Tryz.prog laidAll W) : Tabs W := by
 rw [Go.MakeChecks.laidMetH_plain Tryz.prog laidAll _ (by kernel_rfl),laid_is] at h
 exact ⟨caseVar_of_reads (ρ := Tryz.lays159_ren) { Tryz.lays159 with } Tryz.lays159.t206 ⟨by kernel_rfl,by kernel_rfl,by kernel_rfl,by kernel_rfl,by kernel_rfl,by kernel_rfl⟩ (laidMet.reads h (by repeat (first | exact .head _ | refine .tail _ ?_))),
  utf8Tabs_of_reads (ρ := Tryz.lays159_ren) { Tryz.lays159 with } ⟨by kernel_rfl,by kernel_rfl,by kernel_rfl,by kernel_rfl,by kernel_rfl,by kernel_rfl,by kernel_rfl⟩ (laidMet.reads h (by repeat (first | exact .head _ | refine .tail _ ?_))) (laidMet.reads h (by repeat (first | exact .head _ | refine .tail _ ?_)))⟩
theorem tab_met {W : World} (h : laidMetH Tryz.prog laidAll W) : Tab10 W := by
 rw [Go.MakeChecks.laidMetH_plain Tryz.prog laidAll _ (by kernel_rfl),laid_is] at h
 exact Tab10.of (tabIs_of_head (g := 6) (t := 352) (e := 282) (n := 20) (by kernel_rfl) (by kernel_rfl) Tryz.underlying352 Tryz.underlying282 (by kernel_rfl) (by kernel_rfl) h.tail.tail)
end Go.Proofs.YtdghfenbfbdijaaGreatDoor
