/-
 IndexCopies: the given row and its card, closed. Conditions: those of the given row alone.
-/
import Derived.Test.YtdghfenbfbdijaaGreatDoorRows
import Derived.Test.YtdghfenbfbdijaaGreatDoorTie
import Derived.Test.YtdghfenbfbdijaaGreatDoorCards
import Derived.Test.YtdghfenbfbdijaaGreatDoorZLawXe
import Derived.Test.YtdghfenbfbdijaaGreatDoorZDoorX
import Derived.Test.YtdghfenbfbdijaaGreatDoorZArgsY
import Derived.Test.YtdghfenbfbdijaaGreatDoorZFactXe
namespace Go.Proofs.YtdghfenbfbdijaaGreatDoor
open Go.ChangeShapes Go.WideShapes Go.ChangeAt Go.RowKit

set_option maxRecDepth 1000000 in
set_option maxHeartbeats 4000000 in
theorem indexCopies_lifted (os : Os) (started : os.Started) (H : Type) (enc : TypeId × Value → H) :
  ReturnsInHanded {} Tryz.checked os 7 .any (fun w args => (Rows.indexCopiesSpec.pre enc Tryz.prog Tryz.f7 [] false w args ∧ laidMetH Tryz.prog laidAll w) ∧ sizedMet enc Tryz.prog Tryz.f7 (OpenSpec.ofChange Rows.indexCopiesSpec) false w args)
   (Rows.indexCopiesSpec.post enc Tryz.prog Tryz.f7 false true false false) := by
 refine returnsInHanded_of_change_and (C := Tryz.checked) (X := fun w _ => laidMetH Tryz.prog laidAll w) (fun _ _ _ hh h => h.of_heap hh) own started (by kernel_rfl) Tryz.func7
  (ChangeSpec.witness_shaped (enc := enc) (C := Tryz.checked) (os := os) (X := fun w _ => laidMetH Tryz.prog laidAll w) false (laidWorld os) #[.agg #[.slice none 0 0, .slice none 0 0, .slice none 0 0, .int .i64 0, .int .i64 0, .int .i64 0], .int .i64 0, .agg #[.string ⟨#[]⟩, .slice none 0 0]] 8 rfl (World.shaped_of_RefB (by kernel_rfl) (by kernel_rfl)) (by kernel_rfl) (by kernel_rfl) (by kernel_rfl) (door_met os _)) ?_
 intro W base args ds gs before hval0 hW _ hsz hL _
 have hval : ∀ (j : Nat) t v, Tryz.f7.params[j]? = some t → args[j]? = some v → Value.okWide Tryz.prog W .any base t v := hval0
 have hW' := hW
 have hlt := fun p hp => hW.lt p hp
 obtain ⟨p, q, hA0, hV, rfl, hfz, hnd⟩ := hW
 have hA : DataW.TrodAll enc Tryz.prog W 0 (fun _ => true) true Tryz.f7.params.toList args.toList ds p := hA0
 rw [Tryz.params7] at hA hval
 obtain ⟨l, rfl⟩ : ∃ l : List Value, args = l.toArray := ⟨args.toList, by simp⟩
 obtain ⟨v0, vs0, d0, ds0, p0, q0, rfl, rfl, rfl, h0, r0⟩ := trodAll_cons hA
 obtain ⟨v1, vs1, d1, ds1, p1, q1, rfl, rfl, rfl, h1, r1⟩ := trodAll_cons r0
 obtain ⟨v2, vs2, d2, ds2, p2, q2, rfl, rfl, rfl, h2, r2⟩ := trodAll_cons r1
 obtain ⟨rfl, rfl, rfl⟩ := trodAll_nil r2
 obtain ⟨rfl, rfl⟩ := trodVars_none hV
 clear hA0 hval0
 simp only [List.append_nil] at hW' hlt
 have k0 := h0
 have k1 := h1
 have k2 := h2
 obtain ⟨t0, f0⟩ := open_table (hval 0 25 v0 rfl rfl) h0
 obtain ⟨n1, rfl, f1⟩ := open_i64 (hval 1 3 v1 rfl rfl) h1
 have w2 : Light Tryz.prog 40 d2 := fun x hx => of_decide_eq_true (List.all_eq_true.1 hsz x (DataW.weights_mem_each (j := 2) rfl rfl x hx))
 obtain ⟨id2, ns2, u2, rfl, f2, z2⟩ := open_enW (hval 2 40 v2 rfl rfl) h2 w2
 clear hsz
 refine (copies_law t0 v0 n1 id2 ns2 u2 W f0 f2 z2 (tabs_met hL)).mono fun e W' ⟨he, hb⟩ => ?_
 subst he
 have hargs : DataW.TrodAll enc Tryz.prog W' 0 (fun b => decide (b < W.heap.size)) true [25, 3, 40] [v0, .int .i64 n1, .agg #[.string (bs id2), u2]] [d0, d1, d2] (p0 ++ (p1 ++ (p2))) := ⟨_, _, (Below.trod laid_out (by kernel_rfl) (of_decide_eq_true (by kernel_rfl)) k0 hb (fun x hx => hlt x (by simp [hx]))), ⟨_, _, (Below.trod laid_out (by kernel_rfl) (of_decide_eq_true (by kernel_rfl)) k1 hb (fun x hx => hlt x (by simp [hx]))), trodAll_mk1 (Below.trod laid_out (by kernel_rfl) (of_decide_eq_true (by kernel_rfl)) k2 hb (fun x hx => hlt x (by simp [hx]))), rfl⟩, rfl⟩
 clear k0 h0 k1 h1 k2 h2
 exact ⟨_, rfl, _, _, _, [], _, [], hW', trodAll_mk1 (shut_bool Tryz.underlying4 _), hargs, rfl, hb.frame _, fun h => by cases h⟩

theorem indexCopies_holds : Rows.IndexCopiesSaid :=
 OpenClaim.holds_of_wide 7 Tryz.f7 rfl rfl rfl rfl rfl rfl rfl ⟨rfl, rfl, rfl, rfl, rfl⟩ rfl rfl rfl rfl rfl (by kernel_rfl) Tryz.func7 indexCopies_facts
  (of_decide_eq_true (by kernel_rfl)) (by unfold Func.isWrapper; first | (rw [if_pos (by decide +kernel)]; kernel_rfl) | (rw [if_neg (by decide +kernel)]; exact ⟨rfl, rfl⟩))
  (fun os started H enc _ => indexCopies_lifted os started H enc)

theorem indexCopies_card : Rows.IndexCopiesCardSaid :=
 Claim7.holds_tied_plain_at .later [] Rows.indexCopiesCard.laidKinds true Rows.indexCopiesCard.stood.harness Rows.indexCopiesCard.stood.looks
  indexCopies_holds (fun _ h => by cases h) (by kernel_rfl) (fun _ h => by cases h) indexCopies_row_tie rfl ⟨rfl, rfl⟩ (by kernel_rfl) rfl
  (fun f fn hf hfn => by
   obtain rfl : f = 7 := Option.some.inj ((show Tryz.prog.funcNamed Tryz.f7.name = some 7 by kernel_rfl).symm.trans hf) |>.symm
   obtain rfl : fn = Tryz.f7 := (Option.some.inj (Tryz.func7.symm.trans hfn)).symm
   exact ⟨by kernel_rfl, fun j t ht => by
    rw [Tryz.params7] at ht
    have hm : t ∈ [25, 3, 40] := by simpa using Array.mem_of_getElem? ht
    have hall : ([25, 3, 40].all fun u => !Tryz.prog.wantsStandIn u) = true := by kernel_rfl
    exact (show Tryz.prog.wantsStandIn t = false by simpa using List.all_eq_true.1 hall t hm)⟩)
  (by kernel_rfl)

end Go.Proofs.YtdghfenbfbdijaaGreatDoor
