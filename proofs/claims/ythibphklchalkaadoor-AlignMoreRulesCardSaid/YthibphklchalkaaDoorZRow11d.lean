/-
  AlignMoreRules: the given row and its card, closed. Conditions: those of the given row alone.
-/
import Derived.Test.YthibphklchalkaaDoorRows
import Derived.Test.YthibphklchalkaaDoorTie
import Derived.Test.YthibphklchalkaaDoorCards
import Derived.Test.YthibphklchalkaaDoorZLaw11d
import Derived.Test.YthibphklchalkaaDoorZDoorA
import Derived.Test.YthibphklchalkaaDoorZArgs
import Derived.Test.YthibphklchalkaaDoorZOpenMore
namespace Go.Proofs.YthibphklchalkaaDoor
open Go.ChangeShapes Go.WideShapes Go.ChangeAt Go.RowKit

set_option maxRecDepth 1000000 in
set_option maxHeartbeats 4000000 in
theorem alignMoreRules_lifted (os : Os) (started : os.Started) (H : Type) (enc : TypeId × Value → H) :
    ReturnsInHanded {} Tryd.checked os 6 .any (fun w args => (Rows.alignMoreRulesSpec.pre enc Tryd.prog Tryd.f6 [] false w args ∧ laidMetH Tryd.prog laidAll w) ∧ sizedMet enc Tryd.prog Tryd.f6 (OpenSpec.ofChange Rows.alignMoreRulesSpec) false w args)
      (Rows.alignMoreRulesSpec.post enc Tryd.prog Tryd.f6 false true false false) := by
  refine returnsInHanded_of_change_and (C := Tryd.checked) (X := fun w _ => laidMetH Tryd.prog laidAll w) (fun _ _ _ hh h => h.of_heap hh) own started (by kernel_rfl) Tryd.func6
    (ChangeSpec.witness_shaped (enc := enc) (C := Tryd.checked) (os := os) (X := fun w _ => laidMetH Tryd.prog laidAll w) false (laidWorld os) #[.agg #[.slice none 0 0, .slice none 0 0, .slice none 0 0, .int .i64 0, .int .i64 0, .int .i64 0], .agg #[.int .i64 0, .string ⟨#[]⟩, .string ⟨#[]⟩, .int .i64 0], .int .i64 0, .string ⟨#[]⟩, .int .i64 0, .string ⟨#[]⟩] 8 rfl (World.shaped_of_RefB (by kernel_rfl) (by kernel_rfl)) (by kernel_rfl) (by kernel_rfl) (by kernel_rfl) (door_met os _)) ?_
  intro W base args ds gs before hval0 hW _ hsz hL _
  have hval : ∀ (j : Nat) t v, Tryd.f6.params[j]? = some t → args[j]? = some v → Value.okWide Tryd.prog W .any base t v := hval0
  have hW' := hW
  have hlt := fun p hp => hW.lt p hp
  obtain ⟨p, q, hA0, hV, rfl, hfz, hnd⟩ := hW
  have hA : DataW.TrodAll enc Tryd.prog W 0 (fun _ => true) true Tryd.f6.params.toList args.toList ds p := hA0
  rw [Tryd.params6] at hA hval
  obtain ⟨l, rfl⟩ : ∃ l : List Value, args = l.toArray := ⟨args.toList, by simp⟩
  obtain ⟨v0, vs0, d0, ds0, p0, q0, rfl, rfl, rfl, h0, r0⟩ := trodAll_cons hA
  obtain ⟨v1, vs1, d1, ds1, p1, q1, rfl, rfl, rfl, h1, r1⟩ := trodAll_cons r0
  obtain ⟨v2, vs2, d2, ds2, p2, q2, rfl, rfl, rfl, h2, r2⟩ := trodAll_cons r1
  obtain ⟨v3, vs3, d3, ds3, p3, q3, rfl, rfl, rfl, h3, r3⟩ := trodAll_cons r2
  obtain ⟨v4, vs4, d4, ds4, p4, q4, rfl, rfl, rfl, h4, r4⟩ := trodAll_cons r3
  obtain ⟨v5, vs5, d5, ds5, p5, q5, rfl, rfl, rfl, h5, r5⟩ := trodAll_cons r4
  obtain ⟨rfl, rfl, rfl⟩ := trodAll_nil r5
  obtain ⟨rfl, rfl⟩ := trodVars_none hV
  clear hA0 hval0
  simp only [List.append_nil] at hW' hlt
  have k0 := h0
  have k1 := h1
  have k2 := h2
  have k3 := h3
  have k4 := h4
  have k5 := h5
  obtain ⟨t0, f0⟩ := open_table (hval 0 25 v0 rfl rfl) h0
  obtain ⟨x1, rfl, f1⟩ := open_rule (hval 1 40 v1 rfl rfl) h1
  obtain ⟨n2, rfl, f2⟩ := open_i64 (hval 2 3 v2 rfl rfl) h2
  obtain ⟨l3, rfl, f3⟩ := open_str (hval 3 9 v3 rfl rfl) h3
  obtain ⟨n4, rfl, f4⟩ := open_i64 (hval 4 3 v4 rfl rfl) h4
  obtain ⟨l5, rfl, f5⟩ := open_str (hval 5 9 v5 rfl rfl) h5
  have hw0 : (d0.weights Tryd.prog 25).all (· ≤ reachBytes) = true := by
    rw [List.all_eq_true]
    intro x hx
    exact List.all_eq_true.1 hsz x (DataW.weights_mem_each (j := 0) rfl rfl x hx)
  have hre : t0.rules.length * 48 ≤ 140737488351232 := by
    obtain ⟨⟨vr, vd, ve, hv, ⟨ar, cr, rfl, -⟩, -, -⟩, -, -, -⟩ := id f0
    have := Go.Proofs.YthibphklchalkaaDoor.first_sized Tryd.underlying25 (by kernel_rfl) (by kernel_rfl) rfl Tryd.underlying22 hv k0 hw0
    rw [show Tryd.prog.bytesOf 40 = 48 by kernel_rfl] at this
    exact this
  clear hw0 hsz
  refine (more_law t0 v0 x1 n2 l3 n4 l5 W f0 (tabs_met hL) f1 f3 f5 hre).mono fun e W' ⟨he, hb⟩ => ?_
  subst he
  have hargs : DataW.TrodAll enc Tryd.prog W' 0 (fun b => decide (b < W.heap.size)) true [25, 40, 3, 9, 3, 9] [v0, .agg (ruleCells x1).toArray, .int .i64 n2, .string (bs l3), .int .i64 n4, .string (bs l5)] [d0, d1, d2, d3, d4, d5] (p0 ++ (p1 ++ (p2 ++ (p3 ++ (p4 ++ (p5)))))) := ⟨_, _, (Below.trod laid_out (by kernel_rfl) (of_decide_eq_true (by kernel_rfl)) k0 hb (fun x hx => hlt x (by simp [hx]))), ⟨_, _, (Below.trod laid_out (by kernel_rfl) (of_decide_eq_true (by kernel_rfl)) k1 hb (fun x hx => hlt x (by simp [hx]))), ⟨_, _, (Below.trod laid_out (by kernel_rfl) (of_decide_eq_true (by kernel_rfl)) k2 hb (fun x hx => hlt x (by simp [hx]))), ⟨_, _, (Below.trod laid_out (by kernel_rfl) (of_decide_eq_true (by kernel_rfl)) k3 hb (fun x hx => hlt x (by simp [hx]))), ⟨_, _, (Below.trod laid_out (by kernel_rfl) (of_decide_eq_true (by kernel_rfl)) k4 hb (fun x hx => hlt x (by simp [hx]))), trodAll_mk1 (Below.trod laid_out (by kernel_rfl) (of_decide_eq_true (by kernel_rfl)) k5 hb (fun x hx => hlt x (by simp [hx]))), rfl⟩, rfl⟩, rfl⟩, rfl⟩, rfl⟩
  clear k0 h0 k1 h1 k2 h2 k3 h3 k4 h4 k5 h5
  exact ⟨_, rfl, _, _, _, [], _, [], hW', trodAll_mk1 (shut_bool Tryd.underlying4 _), hargs, rfl, hb.frame _, fun h => by cases h⟩

theorem alignMoreRules_holds : Rows.AlignMoreRulesSaid :=
  OpenClaim.holds_of_wide 6 Tryd.f6 rfl rfl rfl rfl rfl rfl rfl ⟨rfl, rfl, rfl, rfl, rfl⟩ rfl rfl rfl rfl rfl (by kernel_rfl) Tryd.func6 (by kernel_rfl)
    (of_decide_eq_true (by kernel_rfl)) (by unfold Func.isWrapper; first | (rw [if_pos (by decide +kernel)]; kernel_rfl) | (rw [if_neg (by decide +kernel)]; exact ⟨rfl, rfl⟩))
    (fun os started H enc _ => alignMoreRules_lifted os started H enc)

theorem alignMoreRules_card : Rows.AlignMoreRulesCardSaid :=
  Claim7.holds_tied_plain_at .later [] Rows.alignMoreRulesCard.laidKinds true Rows.alignMoreRulesCard.stood.harness Rows.alignMoreRulesCard.stood.looks
    alignMoreRules_holds (fun _ h => by cases h) (by kernel_rfl) (fun _ h => by cases h) alignMoreRules_row_tie rfl ⟨rfl, rfl⟩ (by kernel_rfl) rfl
    (fun f fn hf hfn => by
      obtain rfl : f = 6 := Option.some.inj ((show Tryd.prog.funcNamed Tryd.f6.name = some 6 by kernel_rfl).symm.trans hf) |>.symm
      obtain rfl : fn = Tryd.f6 := (Option.some.inj (Tryd.func6.symm.trans hfn)).symm
      exact ⟨by kernel_rfl, fun j t ht => by
        rw [Tryd.params6] at ht
        have hm : t ∈ [25, 40, 3, 9, 3, 9] := by simpa using Array.mem_of_getElem? ht
        have hall : ([25, 40, 3, 9, 3, 9].all fun u => !Tryd.prog.wantsStandIn u) = true := by kernel_rfl
        exact (show Tryd.prog.wantsStandIn t = false by simpa using List.all_eq_true.1 hall t hm)⟩)
    (by kernel_rfl)

end Go.Proofs.YthibphklchalkaaDoor
