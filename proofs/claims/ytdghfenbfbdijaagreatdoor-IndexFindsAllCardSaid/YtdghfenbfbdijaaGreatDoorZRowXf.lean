/-
 IndexFindsAll: the given row and its card, closed. Conditions: those of the given row alone.
-/
import Derived.Test.YtdghfenbfbdijaaGreatDoorRows
import Derived.Test.YtdghfenbfbdijaaGreatDoorTie
import Derived.Test.YtdghfenbfbdijaaGreatDoorCards
import Derived.Test.YtdghfenbfbdijaaGreatDoorZLawXf
import Derived.Test.YtdghfenbfbdijaaGreatDoorZDoorX
import Derived.Test.YtdghfenbfbdijaaGreatDoorZArgsY
import Derived.Test.YtdghfenbfbdijaaGreatDoorZFactXf
namespace Go.Proofs.YtdghfenbfbdijaaGreatDoor
open Go.ChangeShapes Go.WideShapes Go.ChangeAt Go.RowKit
set_option maxRecDepth 1000000 in
set_option maxHeartbeats 4000000 in
theorem indexFindsAll_lifted (os : Os) (started : os.Started) (H : Type) (enc : TypeId × Value → H) :
  ReturnsInHanded {} Tryz.checked os 9 .any (fun w args => (Rows.indexFindsAllSpec.pre enc Tryz.prog Tryz.f9 [] false w args ∧ laidMetH Tryz.prog laidAll w) ∧ sizedMet enc Tryz.prog Tryz.f9 (OpenSpec.ofChange Rows.indexFindsAllSpec) false w args)
   (Rows.indexFindsAllSpec.post enc Tryz.prog Tryz.f9 false true false false) := by
 refine returnsInHanded_of_change_and (C := Tryz.checked) (X := fun w _ => laidMetH Tryz.prog laidAll w) (fun _ _ _ hh h => h.of_heap hh) own started (by kernel_rfl) Tryz.func9
  (ChangeSpec.witness_shaped (enc := enc) (C := Tryz.checked) (os := os) (X := fun w _ => laidMetH Tryz.prog laidAll w) false (laidWorld os) #[.agg #[.slice none 0 0,.slice none 0 0,.slice none 0 0,.int .i64 0,.int .i64 0,.int .i64 0],.int .i64 0,.slice none 0 0,.agg #[.int .i64 0,.slice none 0 0]] 8 rfl (World.shaped_of_RefB (by kernel_rfl) (by kernel_rfl)) (by kernel_rfl) (by kernel_rfl) (by kernel_rfl) (door_met os _)) ?_
 intro W base args ds gs before hval0 hW _ hsz hL _
 have hval : ∀ (j : Nat) t v,Tryz.f9.params[j]? = some t → args[j]? = some v → Value.okWide Tryz.prog W .any base t v := hval0
 have hW' := hW
 have hlt := fun p hp => hW.lt p hp
 obtain ⟨p,q,hA0,hV,rfl,hfz,hnd⟩ := hW
 have hA : DataW.TrodAll enc Tryz.prog W 0 (fun _ => true) true Tryz.f9.params.toList args.toList ds p := hA0
 rw [Tryz.params9] at hA hval
 obtain ⟨l,rfl⟩ : ∃ l : List Value,args = l.toArray := ⟨args.toList,by simp⟩
 obtain ⟨v0,vs0,d0,ds0,p0,q0,rfl,rfl,rfl,h0,r0⟩ := trodAll_cons hA
 obtain ⟨v1,vs1,d1,ds1,p1,q1,rfl,rfl,rfl,h1,r1⟩ := trodAll_cons r0
 obtain ⟨v2,vs2,d2,ds2,p2,q2,rfl,rfl,rfl,h2,r2⟩ := trodAll_cons r1
 obtain ⟨v3,vs3,d3,ds3,p3,q3,rfl,rfl,rfl,h3,r3⟩ := trodAll_cons r2
 obtain ⟨rfl,rfl,rfl⟩ := trodAll_nil r3
 obtain ⟨rfl,rfl⟩ := trodVars_none hV
 clear hA0 hval0
 simp only [List.append_nil] at hW' hlt
 have k0 := h0
 have k1 := h1
 have k2 := h2
 have k3 := h3
 obtain ⟨t0,f0⟩ := open_table (hval 0 25 v0 rfl rfl) h0
 obtain ⟨n1,rfl,f1⟩ := open_i64 (hval 1 3 v1 rfl rfl) h1
 have w2 : Light Tryz.prog 26 d2 := fun x hx => of_decide_eq_true (List.all_eq_true.1 hsz x (DataW.weights_mem_each (j := 2) rfl rfl x hx))
 obtain ⟨l2,f2,z2⟩ := open_ensW (hval 2 26 v2 rfl rfl) h2 w2
 have w3 : Light Tryz.prog 46 d3 := fun x hx => of_decide_eq_true (List.all_eq_true.1 hsz x (DataW.weights_mem_each (j := 3) rfl rfl x hx))
 obtain ⟨n3,u3,rfl,f3,z3⟩ := open_nmW (hval 3 46 v3 rfl rfl) h3 w3
 clear hsz
 refine (finds_law t0 v0 n1 l2 v2 n3 u3 W f0 f2 f3 z2 z3 (tabs_met hL)).mono fun e W' ⟨he,hb⟩ => ?_
 subst he
 have hargs : DataW.TrodAll enc Tryz.prog W' 0 (fun b => decide (b < W.heap.size)) true [25,3,26,46] [v0,.int .i64 n1,v2,.agg #[.int .i64 n3.script,u3]] [d0,d1,d2,d3] (p0 ++ (p1 ++ (p2 ++ (p3)))) := ⟨_,_,(Below.trod laid_out (by kernel_rfl) (of_decide_eq_true (by kernel_rfl)) k0 hb (fun x hx => hlt x (by simp [hx]))),⟨_,_,(Below.trod laid_out (by kernel_rfl) (of_decide_eq_true (by kernel_rfl)) k1 hb (fun x hx => hlt x (by simp [hx]))),⟨_,_,(Below.trod laid_out (by kernel_rfl) (of_decide_eq_true (by kernel_rfl)) k2 hb (fun x hx => hlt x (by simp [hx]))),trodAll_mk1 (Below.trod laid_out (by kernel_rfl) (of_decide_eq_true (by kernel_rfl)) k3 hb (fun x hx => hlt x (by simp [hx]))),rfl⟩,rfl⟩,rfl⟩
 clear k0 h0 k1 h1 k2 h2 k3 h3
 exact ⟨_,rfl,_,_,_,[],_,[],hW',trodAll_mk1 (shut_bool Tryz.underlying4 _),hargs,rfl,hb.frame _,fun h => by cases h⟩
theorem indexFindsAll_holds : Rows.IndexFindsAllSaid :=
 OpenClaim.holds_of_wide 9 Tryz.f9 rfl rfl rfl rfl rfl rfl rfl ⟨rfl,rfl,rfl,rfl,rfl⟩ rfl rfl rfl rfl rfl (by kernel_rfl) Tryz.func9 indexFindsAll_facts
  (of_decide_eq_true (by kernel_rfl)) (by unfold Func.isWrapper; first | (rw [if_pos (by decide +kernel)]; kernel_rfl) | (rw [if_neg (by decide +kernel)]; exact ⟨rfl,rfl⟩))
  (fun os started H enc _ => indexFindsAll_lifted os started H enc)
theorem indexFindsAll_card : Rows.IndexFindsAllCardSaid :=
 Claim7.holds_tied_plain_at .later [] Rows.indexFindsAllCard.laidKinds true Rows.indexFindsAllCard.stood.harness Rows.indexFindsAllCard.stood.looks
  indexFindsAll_holds (fun _ h => by cases h) (by kernel_rfl) (fun _ h => by cases h) indexFindsAll_row_tie rfl ⟨rfl,rfl⟩ (by kernel_rfl) rfl
  (fun f fn hf hfn => by
   obtain rfl : f = 9 := Option.some.inj ((show Tryz.prog.funcNamed Tryz.f9.name = some 9 by kernel_rfl).symm.trans hf) |>.symm
   obtain rfl : fn = Tryz.f9 := (Option.some.inj (Tryz.func9.symm.trans hfn)).symm
   exact ⟨by kernel_rfl,fun j t ht => by
    rw [Tryz.params9] at ht
    have hm : t ∈ [25,3,26,46] := by simpa using Array.mem_of_getElem? ht
    have hall : ([25,3,26,46].all fun u => !Tryz.prog.wantsStandIn u) = true := by kernel_rfl
    exact (show Tryz.prog.wantsStandIn t = false by simpa using List.all_eq_true.1 hall t hm)⟩)
  (by kernel_rfl)
end Go.Proofs.YtdghfenbfbdijaaGreatDoor
