/-
  LedgerCopies: the given row and its card, closed. Conditions: those of the given row alone.
-/
import Derived.Test.YtfkcphflcmpenaaDoorRows
import Derived.Test.YtfkcphflcmpenaaDoorTie
import Derived.Test.YtfkcphflcmpenaaDoorCards
import Derived.Test.YtfkcphflcmpenaaDoorZLaw37e
import Derived.Test.YtfkcphflcmpenaaDoorZDoorL
import Derived.Test.YtfkcphflcmpenaaDoorZArgsL
import Derived.SizedLaws
namespace Go.Proofs.YtfkcphflcmpenaaDoor
open Go.ChangeShapes Go.WideShapes Go.ChangeAt Go.RowKit

set_option maxRecDepth 1000000 in
set_option maxHeartbeats 4000000 in
theorem ledgerCopies_lifted (os : Os) (started : os.Started) (H : Type) (enc : TypeId × Value → H) :
    ReturnsInHanded {} Tryd.checked os 8 .any (fun w args => (Rows.ledgerCopiesSpec.pre enc Tryd.prog Tryd.f8 [] false w args ∧ laidMetH Tryd.prog laidAll w) ∧ sizedMet enc Tryd.prog Tryd.f8 (OpenSpec.ofChange Rows.ledgerCopiesSpec) false w args)
      (Rows.ledgerCopiesSpec.post enc Tryd.prog Tryd.f8 false true false false) := by
  refine returnsInHanded_of_change_and (C := Tryd.checked) (X := fun w _ => laidMetH Tryd.prog laidAll w) (fun _ _ _ hh h => h.of_heap hh) own started (by kernel_rfl) Tryd.func8
    (ChangeSpec.witness_shaped (enc := enc) (C := Tryd.checked) (os := os) (X := fun w _ => laidMetH Tryd.prog laidAll w) false (World.doorLaid Tryd.prog 400 os) #[.slice none 0 0, .int .u16 0, .slice none 0 0, .agg #[.string ⟨#[]⟩, .int .i64 0, .slice none 0 0]] 8 rfl (World.shaped_of_RefB (by kernel_rfl) (by kernel_rfl)) (by kernel_rfl) (by kernel_rfl) (by kernel_rfl) (door_met os _)) ?_
  intro W base args ds gs before hval0 hW _ hsz hL _
  have hval : ∀ (j : Nat) t v, Tryd.f8.params[j]? = some t → args[j]? = some v → Value.okWide Tryd.prog W .any base t v := hval0
  have hW' := hW
  have hlt := fun p hp => hW.lt p hp
  obtain ⟨p, q, hA0, hV, rfl, hfz, hnd⟩ := hW
  have hA : DataW.TrodAll enc Tryd.prog W 0 (fun _ => true) true Tryd.f8.params.toList args.toList ds p := hA0
  rw [Tryd.params8] at hA hval
  obtain ⟨l, rfl⟩ : ∃ l : List Value, args = l.toArray := ⟨args.toList, by simp⟩
  obtain ⟨v0, vs0, d0, ds0, p0, q0, rfl, rfl, rfl, h0, r0⟩ := trodAll_cons hA
  obtain ⟨v1, vs1, d1, ds1, p1, q1, rfl, rfl, rfl, h1, r1⟩ := trodAll_cons r0
  obtain ⟨v2, vs2, d2, ds2, p2, q2, rfl, rfl, rfl, h2, r2⟩ := trodAll_cons r1
  obtain ⟨v3, vs3, d3, ds3, p3, q3, rfl, rfl, rfl, h3, r3⟩ := trodAll_cons r2
  obtain ⟨rfl, rfl, rfl⟩ := trodAll_nil r3
  obtain ⟨rfl, rfl⟩ := trodVars_none hV
  clear hA0 hval0
  simp only [List.append_nil] at hW' hlt
  have k0 := h0
  have k1 := h1
  have k2 := h2
  have k3 := h3
  obtain ⟨l0, f0⟩ := open_strs (hval 0 22 v0 rfl rfl) h0
  obtain ⟨n1, rfl, f1⟩ := open_u16 (hval 1 23 v1 rfl rfl) h1
  obtain ⟨l2, f2, g2⟩ := open_books (hval 2 24 v2 rfl rfl) h2
  obtain ⟨x3, rfl, f3⟩ := open_book (hval 3 36 v3 rfl rfl) h3
  have hnn : ∀ a n k, v2 = .slice a n k → a = none → n = 0 ∧ k = 0 := fun a n k hv => by
    obtain ⟨fuel, hf⟩ := k2
    rw [hv] at hf
    exact Go.Proofs.YtfkcphflcmpenaaDoor.nil_slice Tryd.underlying24 hf
  have hre : l2.length * 48 ≤ 140737488351232 := by
    obtain ⟨a, c, hv, -⟩ := id f2
    obtain ⟨fuel, hf⟩ := k2
    rw [hv] at hf
    rcases Go.Proofs.YtfkcphflcmpenaaDoor.slice_datum Tryd.underlying24 hf with h0 | ⟨elems, sp, e1, e2⟩
    · rw [h0]; omega
    · have e1' : d2 = .slice elems sp := e1
      have this : (elems.length + sp.length) * Tryd.prog.bytesOf 36 ≤ reachBytes := sized_slice hsz (j := 2) (t := 24) (e := 36) (elems := elems) (spare := sp) rfl (by rw [e1']; rfl) Tryd.underlying24
      rw [show Tryd.prog.bytesOf 36 = 48 by kernel_rfl, e2] at this
      have h3 : l2.length * 48 ≤ (l2.length + sp.length) * 48 := Nat.mul_le_mul_right _ (by omega)
      exact Nat.le_trans h3 (by simpa [reachBytes] using this)
  clear hsz
  refine (copies_law W v0 v2 n1 l0 l2 x3 ⟨⟨f0, f2, fun q hq => (g2 q hq).1⟩, f3.1, hnn, hre⟩ f1).mono fun e W' ⟨he, hb⟩ => ?_
  subst he
  have hargs : DataW.TrodAll enc Tryd.prog W' 0 (fun b => decide (b < W.heap.size)) true [22, 23, 24, 36] [v0, .int .u16 n1, v2, bookV x3] [d0, d1, d2, d3] (p0 ++ (p1 ++ (p2 ++ (p3)))) := ⟨_, _, (Below.trod laid_out (by kernel_rfl) (of_decide_eq_true (by kernel_rfl)) k0 hb (fun x hx => hlt x (by simp [hx]))), ⟨_, _, (Below.trod laid_out (by kernel_rfl) (of_decide_eq_true (by kernel_rfl)) k1 hb (fun x hx => hlt x (by simp [hx]))), ⟨_, _, (Below.trod laid_out (by kernel_rfl) (of_decide_eq_true (by kernel_rfl)) k2 hb (fun x hx => hlt x (by simp [hx]))), trodAll_mk1 (Below.trod laid_out (by kernel_rfl) (of_decide_eq_true (by kernel_rfl)) k3 hb (fun x hx => hlt x (by simp [hx]))), rfl⟩, rfl⟩, rfl⟩
  clear k0 h0 k1 h1 k2 h2 k3 h3
  exact ⟨_, rfl, _, _, _, [], _, [], hW', trodAll_mk1 (shut_bool Tryd.underlying4 _), hargs, rfl, hb.frame _, fun h => by cases h⟩

theorem ledgerCopies_holds : Rows.LedgerCopiesSaid :=
  OpenClaim.holds_of_wide 8 Tryd.f8 rfl rfl rfl rfl rfl rfl rfl ⟨rfl, rfl, rfl, rfl, rfl⟩ rfl rfl rfl rfl rfl (by kernel_rfl) Tryd.func8 (by kernel_rfl)
    (of_decide_eq_true (by kernel_rfl)) (by unfold Func.isWrapper; first | (rw [if_pos (by decide +kernel)]; kernel_rfl) | (rw [if_neg (by decide +kernel)]; exact ⟨rfl, rfl⟩))
    (fun os started H enc _ => ledgerCopies_lifted os started H enc)

theorem ledgerCopies_card : Rows.LedgerCopiesCardSaid :=
  Claim7.holds_tied_plain_at .later [] Rows.ledgerCopiesCard.laidKinds true Rows.ledgerCopiesCard.stood.harness Rows.ledgerCopiesCard.stood.looks
    ledgerCopies_holds (fun _ h => by cases h) (by kernel_rfl) (fun _ h => by cases h) ledgerCopies_row_tie rfl ⟨rfl, rfl⟩ (by kernel_rfl) rfl
    (fun f fn hf hfn => by
      obtain rfl : f = 8 := Option.some.inj ((show Tryd.prog.funcNamed Tryd.f8.name = some 8 by kernel_rfl).symm.trans hf) |>.symm
      obtain rfl : fn = Tryd.f8 := (Option.some.inj (Tryd.func8.symm.trans hfn)).symm
      exact ⟨by kernel_rfl, fun j t ht => by
        rw [Tryd.params8] at ht
        have hm : t ∈ [22, 23, 24, 36] := by simpa using Array.mem_of_getElem? ht
        have hall : ([22, 23, 24, 36].all fun u => !Tryd.prog.wantsStandIn u) = true := by kernel_rfl
        exact (show Tryd.prog.wantsStandIn t = false by simpa using List.all_eq_true.1 hall t hm)⟩)
    (by kernel_rfl)

end Go.Proofs.YtfkcphflcmpenaaDoor
