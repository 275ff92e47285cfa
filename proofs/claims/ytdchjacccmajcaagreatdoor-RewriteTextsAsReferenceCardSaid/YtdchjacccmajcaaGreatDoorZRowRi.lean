/-
 RewriteTextsAsReference: the given row and its card, closed. Conditions: those of the given row alone.
-/
import Derived.Test.YtdchjacccmajcaaGreatDoorRows
import Derived.Test.YtdchjacccmajcaaGreatDoorTie
import Derived.Test.YtdchjacccmajcaaGreatDoorCards
import Derived.Test.YtdchjacccmajcaaGreatDoorZLawRi
import Derived.Test.YtdchjacccmajcaaGreatDoorZDoorT
import Derived.Test.YtdchjacccmajcaaGreatDoorZFactRi
import Derived.Test.YtdchjacccmajcaaGreatDoorZMArgs
namespace Go.Proofs.YtdchjacccmajcaaGreatDoor
open Go.ChangeShapes Go.WideShapes Go.ChangeAt Go.RowKit

set_option maxRecDepth 1000000 in
set_option maxHeartbeats 4000000 in
theorem rewriteTextsAsReference_lifted (os : Os) (started : os.Started) (H : Type) (enc : TypeId × Value → H) :
  ReturnsInHanded {} Tryz.checked os 10 .any (fun w args => (Rows.rewriteTextsAsReferenceSpec.pre enc Tryz.prog Tryz.f10 [] false w args ∧ laidMetH Tryz.prog laidAll w) ∧ sizedMet enc Tryz.prog Tryz.f10 (OpenSpec.ofChange Rows.rewriteTextsAsReferenceSpec) false w args)
   (Rows.rewriteTextsAsReferenceSpec.post enc Tryz.prog Tryz.f10 false true false false) := by
 refine returnsInHanded_of_change_and (C := Tryz.checked) (X := fun w _ => laidMetH Tryz.prog laidAll w) (fun _ _ _ hh h => h.of_heap hh) own started (by kernel_rfl) Tryz.func10
  (ChangeSpec.witness_shaped (enc := enc) (C := Tryz.checked) (os := os) (X := fun w _ => laidMetH Tryz.prog laidAll w) false (laidWorld os) #[.agg #[.slice none 0 0, .slice none 0 0, .slice none 0 0, .int .i64 0, .int .i64 0, .int .i64 0], .string ⟨#[]⟩] 8 rfl (World.shaped_of_RefB (by kernel_rfl) (by kernel_rfl)) (by kernel_rfl) (by kernel_rfl) (by kernel_rfl) (door_met os _)) ?_
 intro W base args ds gs before hval0 hW _ _ hL _
 have hval : ∀ (j : Nat) t v, Tryz.f10.params[j]? = some t → args[j]? = some v → Value.okWide Tryz.prog W .any base t v := hval0
 have hW' := hW
 have hlt := fun p hp => hW.lt p hp
 obtain ⟨p, q, hA0, hV, rfl, hfz, hnd⟩ := hW
 have hA : DataW.TrodAll enc Tryz.prog W 0 (fun _ => true) true Tryz.f10.params.toList args.toList ds p := hA0
 rw [Tryz.params10] at hA hval
 obtain ⟨l, rfl⟩ : ∃ l : List Value, args = l.toArray := ⟨args.toList, by simp⟩
 obtain ⟨v0, vs0, d0, ds0, p0, q0, rfl, rfl, rfl, h0, r0⟩ := trodAll_cons hA
 obtain ⟨v1, vs1, d1, ds1, p1, q1, rfl, rfl, rfl, h1, r1⟩ := trodAll_cons r0
 obtain ⟨rfl, rfl, rfl⟩ := trodAll_nil r1
 obtain ⟨rfl, rfl⟩ := trodVars_none hV
 clear hA0 hval0
 simp only [List.append_nil] at hW' hlt
 have k0 := h0
 have k1 := h1
 obtain ⟨t0, f0⟩ := open_table (hval 0 25 v0 rfl rfl) h0
 obtain ⟨l1, rfl, f1⟩ := open_str (hval 1 9 v1 rfl rfl) h1
 refine (textsRef_law t0 v0 l1 W f0 (tabs_met hL) (tab_met hL) f1).mono fun e W' ⟨he, hb⟩ => ?_
 subst he
 have hargs : DataW.TrodAll enc Tryz.prog W' 0 (fun b => decide (b < W.heap.size)) true [25, 9] [v0, .string (bs l1)] [d0, d1] (p0 ++ (p1)) := ⟨_, _, (Below.trod laid_out (by kernel_rfl) (of_decide_eq_true (by kernel_rfl)) k0 hb (fun x hx => hlt x (by simp [hx]))), trodAll_mk1 (Below.trod laid_out (by kernel_rfl) (of_decide_eq_true (by kernel_rfl)) k1 hb (fun x hx => hlt x (by simp [hx]))), rfl⟩
 clear k0 h0 k1 h1
 exact ⟨_, rfl, _, _, _, [], _, [], hW', trodAll_mk1 (shut_bool Tryz.underlying4 _), hargs, rfl, hb.frame _, fun h => by cases h⟩

theorem rewriteTextsAsReference_holds : Rows.RewriteTextsAsReferenceSaid :=
 OpenClaim.holds_of_wide 10 Tryz.f10 rfl rfl rfl rfl rfl rfl rfl ⟨rfl, rfl, rfl, rfl, rfl⟩ rfl rfl rfl rfl rfl (by kernel_rfl) Tryz.func10 rewriteTextsAsReference_facts
  (of_decide_eq_true (by kernel_rfl)) (by unfold Func.isWrapper; first | (rw [if_pos (by decide +kernel)]; kernel_rfl) | (rw [if_neg (by decide +kernel)]; exact ⟨rfl, rfl⟩))
  (fun os started H enc _ => rewriteTextsAsReference_lifted os started H enc)

theorem rewriteTextsAsReference_card : Rows.RewriteTextsAsReferenceCardSaid :=
 Claim7.holds_tied_plain_at .later [] Rows.rewriteTextsAsReferenceCard.laidKinds true Rows.rewriteTextsAsReferenceCard.stood.harness Rows.rewriteTextsAsReferenceCard.stood.looks
  rewriteTextsAsReference_holds (fun _ h => by cases h) (by kernel_rfl) (fun _ h => by cases h) rewriteTextsAsReference_row_tie rfl ⟨rfl, rfl⟩ (by kernel_rfl) rfl
  (fun f fn hf hfn => by
   obtain rfl : f = 10 := Option.some.inj ((show Tryz.prog.funcNamed Tryz.f10.name = some 10 by kernel_rfl).symm.trans hf) |>.symm
   obtain rfl : fn = Tryz.f10 := (Option.some.inj (Tryz.func10.symm.trans hfn)).symm
   exact ⟨by kernel_rfl, fun j t ht => by
    rw [Tryz.params10] at ht
    have hm : t ∈ [25, 9] := by simpa using Array.mem_of_getElem? ht
    have hall : ([25, 9].all fun u => !Tryz.prog.wantsStandIn u) = true := by kernel_rfl
    exact (show Tryz.prog.wantsStandIn t = false by simpa using List.all_eq_true.1 hall t hm)⟩)
  (by kernel_rfl)

end Go.Proofs.YtdchjacccmajcaaGreatDoor
