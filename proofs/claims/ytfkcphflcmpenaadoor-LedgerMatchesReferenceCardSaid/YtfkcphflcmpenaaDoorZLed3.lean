/-
  ledger.New, Open, Balance. Conditions: lengths; room for one account more.
-/
import Derived.Test.YtfkcphflcmpenaaDoorZLed1
import Derived.StringKeys
namespace Go.Proofs.YtfkcphflcmpenaaDoor
open Go.RowKit Go.Lib Go.Maps

theorem str_keyed : Keyed Tryd.prog 9 := string_keyed Tryd.underlying9
theorem zero_acc (w : World) : (zeroValue 61).run Tryd.prog w = .ok (.agg #[.int .i64 0, .bool false]) w := by kernel_rfl
theorem str_key {s : ByteArray} (hs : s.size ≤ maxLen) : keyOf Tryd.prog 9 (.string s) = some (.string s.data.toList) := Go.WideMaps.keyOf_string_mk Tryd.underlying9 hs

/-- what New ends in -/
def NewPost (w : World) (e : Ending) (w' : World) : Prop :=
  ∃ (p : Nat) (O : Nat → Prop), e = .returned (.pointer (some ⟨p, 0, none⟩)) ∧ Led w' p Lg.empty O ∧ Below w.heap.size w w' ∧ ∀ k, O k → w.heap.size ≤ k

set_option maxRecDepth 100000 in
set_option maxHeartbeats 1000000 in
theorem new_any (w : World) : Calls Tryd.prog 11 #[] w (NewPost w) := by
  have hmm := @run_makeMap Tryd.prog
  have HW := hid (show NewPost w (.returned (.pointer (some ⟨w.heap.size + 3, 0, none⟩))) ((((w.alloc (.map #[] 0)).alloc (.map #[] 0)).alloc (.map #[] 0)).alloc (.cells #[.map (some w.heap.size), .slice none 0 0, .map (some (w.heap.size + 1)), .map (some (w.heap.size + 2))] 55)) from by
    obtain ⟨w1, h1⟩ : ∃ w1, w1 = w.alloc (.map #[] 0) := ⟨_, rfl⟩
    obtain ⟨w2, h2⟩ : ∃ w2, w2 = w1.alloc (.map #[] 0) := ⟨_, rfl⟩
    obtain ⟨w3, h3⟩ : ∃ w3, w3 = w2.alloc (.map #[] 0) := ⟨_, rfl⟩
    obtain ⟨w4, h4⟩ : ∃ w4, w4 = w3.alloc (.cells #[.map (some w.heap.size), .slice none 0 0, .map (some (w.heap.size + 1)), .map (some (w.heap.size + 2))] 55) := ⟨_, rfl⟩
    have z1 : w1.heap.size = w.heap.size + 1 := by rw [h1, World.size_alloc]
    have z2 : w2.heap.size = w.heap.size + 2 := by rw [h2, World.size_alloc, z1]
    have z3 : w3.heap.size = w.heap.size + 3 := by rw [h3, World.size_alloc, z2]
    have z4 : w4.heap.size = w.heap.size + 4 := by rw [h4, World.size_alloc, z3]
    have b1 : Below w.heap.size w w1 := by rw [h1]; exact (Below.refl _ w).alloc (Nat.le_refl _) _
    have b2 : Below w1.heap.size w1 w2 := by rw [h2]; exact (Below.refl _ w1).alloc (Nat.le_refl _) _
    have b3 : Below w2.heap.size w2 w3 := by rw [h3]; exact (Below.refl _ w2).alloc (Nat.le_refl _) _
    have b4 : Below w3.heap.size w3 w4 := by rw [h4]; exact (Below.refl _ w3).alloc (Nat.le_refl _) _
    have m1 : MapF w1 Tryd.prog 9 w.heap.size 0 (fun _ => none) := by rw [h1]; exact MapF.made _ _ _
    have m2 : MapF w2 Tryd.prog 9 (w.heap.size + 1) 0 (fun _ => none) := by rw [h2, ← z1]; exact MapF.made _ _ _
    have m3 : MapF w3 Tryd.prog 9 (w.heap.size + 2) 0 (fun _ => none) := by rw [h3, ← z2]; exact MapF.made _ _ _
    rw [← h1, ← h2, ← h3, ← h4]
    refine ⟨_, fun k => w.heap.size ≤ k ∧ k < w.heap.size + 4, rfl, ⟨w.heap.size, w.heap.size + 1, w.heap.size + 2, .slice none 0 0, [], ?_⟩, Below.step (Below.step (Below.step b1 b2) b3) b4, fun k hk => hk.1⟩
    refine { hp := ?_, acc := ?_, ids := ?_, trial := ⟨_, _, m3.below b4⟩, row := World.ownsRow_nil _ _ _ _, books := rfl, posts := by simp, npa := by omega, npi := by omega, npt := by omega, nab := by omega, nat := by omega, nit := by omega, op := by omega, oa := by omega, oi := by omega, ot := by omega, ov := fun g hg => (by cases hg), inv := Lg.inv_empty, lt := fun k hk => by omega }
    · rw [h4, ← z3]; exact alloc_new w3 _
    · refine (((m1.below b2).below b3).below b4).congr (fun x _ _ => ?_)
      cases x <;> rfl
    · refine ((m2.below b3).below b4).congr (fun x _ _ => ?_)
      cases x <;> rfl)
  go_enter Tryd.func11, Tryd.ntmps11
  go_wp2
  go_ret
  exact HW.out

set_option maxRecDepth 100000 in
set_option maxHeartbeats 2000000 in
theorem balance_any (w : World) (p : Nat) (S : Lg.S) (O : Nat → Prop) (a : ByteArray) (h : Led w p S O) (ha : a.size ≤ maxLen) :
    Calls Tryd.prog 17 #[.pointer (some ⟨p, 0, none⟩), .string a] w (Gives (.tuple #[.int .i64 (Lg.bal S a), .int .i64 (Lg.errOf S a)]) w) := by
  obtain ⟨ba, bi, bt, v, bs, h⟩ := h
  have c0 : w.cell? ⟨p, 0, none⟩ = some (.map (some ba)) := by simp [World.cell?, h.hp]
  have hget := h.acc.getOk str_keyed Tryd.underlying52 (zero_acc w) (str_key ha)
  have hsz := h.lt p h.op
  have hB : ∀ x : Array Value, Hid (Below w.heap.size w (w.alloc (.cells x 61))) := fun x => (Below.refl _ w).alloc (Nat.le_refl _) _
  cases hc : Lg.credit S a with
  | none =>
    have HF := hid (show Lg.bal S a = 0 ∧ Lg.errOf S a = 11 by unfold Lg.bal Lg.errOf; rw [hc]; exact ⟨rfl, rfl⟩)
    unfold accF at hget
    simp only [hc, Option.map_none, Option.getD_none, Option.isSome_none] at hget
    clear h hc
    go_enter Tryd.func17, Tryd.ntmps17
    go_wp2
    go_ret2
    exact ⟨by rw [HF.out.1, HF.out.2]; rfl, (hB _).out⟩
  | some d =>
    have HF := hid (show Lg.bal S a = Lg.sumB S.books a ∧ Lg.errOf S a = 0 by unfold Lg.bal Lg.errOf; rw [hc]; exact ⟨rfl, rfl⟩)
    unfold accF at hget
    simp only [hc, Option.map_some, Option.getD_some, Option.isSome_some, accV] at hget
    clear h hc
    go_enter Tryd.func17, Tryd.ntmps17
    go_wp2
    go_ret2
    exact ⟨by rw [HF.out.1, HF.out.2]; rfl, (hB _).out⟩

set_option maxRecDepth 100000 in
set_option maxHeartbeats 4000000 in
theorem open_any (w : World) (p : Nat) (S : Lg.S) (O : Nat → Prop) (a : ByteArray) (c : Bool) (h : Led w p S O) (ha : a.size ≤ 5000) (hf : S.names.length < 100) :
    Calls Tryd.prog 13 #[.pointer (some ⟨p, 0, none⟩), .string a, .bool c] w (LPost p O w (.int .i64 (Lg.open_ S a c).1) (Lg.open_ S a c).2) := by
  have hm : a.size ≤ maxLen := by unfold maxLen; omega
  have HI := hid (ident_any a w ha)
  have HL := hid h
  have hI := h.inv
  obtain ⟨ba, bi, bt, v, bs, hA⟩ := h
  have HA := hid hA
  have hz := hA.lt p hA.op
  have HF := hid hf
  have HII := hid hI
  clear ha hf hI hA
  go_enter Tryd.func13, Tryd.ntmps13
  go_wp2_with fail
  refine (HI.out).mono ?_
  rintro e w1 ⟨rfl, hb1⟩
  have HB1 := hid hb1
  have c0 : w1.cell? ⟨p, 0, none⟩ = some (.map (some ba)) := by rw [hb1.cell (p := ⟨p, 0, none⟩) hz]; simp [World.cell?, HA.out.hp]
  have hz1 : p < w1.heap.size := Nat.lt_of_lt_of_le hz hb1.size
  have hacc := HA.out.acc.below hb1
  have hget := hacc.getOk str_keyed Tryd.underlying52 (zero_acc w1) (str_key hm)
  clear hb1 HI
  have hB : ∀ x : Array Value, Hid (Below w.heap.size w (w1.alloc (.cells x 61))) := fun x => Below.step HB1.out ((Below.refl _ w1).alloc (Nat.le_refl _) _)
  cases hn : Lg.nm a with
  | false =>
    have HE := hid (show Lg.open_ S a c = (1, S) by unfold Lg.open_; rw [hn]; rfl)
    clear hn hget hacc
    go_wp2_with fail
    go_ret
    rw [HE.out]
    exact ⟨rfl, O, HL.out.below HB1.out, Tch.of_below HB1.out O, fun k hk => .inl hk⟩
  | true =>
    cases hc : Lg.credit S a with
    | some d =>
      have HE := hid (show Lg.open_ S a c = (9, S) by unfold Lg.open_; rw [hn, hc]; rfl)
      unfold accF at hget
      simp only [hc, Option.map_some, Option.getD_some, Option.isSome_some, accV] at hget
      clear hn hc hacc
      go_wp2_with fail
      go_ret
      rw [HE.out]
      exact ⟨rfl, O, HL.out.below (hB _).out, Tch.of_below (hB _).out O, fun k hk => .inl hk⟩
    | none =>
      have HE := hid (show Lg.open_ S a c = (0, ⟨S.names ++ [(a, c)], S.books⟩) by
        have := HF.out
        unfold Lg.open_; rw [hn, hc]; simp; omega)
      have HC := hid hc
      unfold accF at hget
      simp only [hc, Option.map_none, Option.getD_none, Option.isSome_none] at hget
      obtain ⟨w2, hw2⟩ : ∃ w2, w2 = w1.alloc (.cells #[.int .i64 0, .bool false] 61) := ⟨_, rfl⟩
      have hb2 : Below w1.heap.size w1 w2 := by rw [hw2]; exact (Below.refl _ w1).alloc (Nat.le_refl _) _
      have hacc2 := hacc.below hb2
      have HB2 := hid (Below.step HB1.out hb2)
      have HM2 := hid hacc2
      have hlt : S.names.length < maxLen := by have := HF.out; unfold maxLen; omega
      have hk := hid (str_key hm)
      have hnew : accF (⟨S.names ++ [(a, c)], S.books⟩ : Lg.S) (.string a) = some (accV 0 c) := by
        unfold accF
        simp only
        rw [Lg.credit_snoc, hc]
        simp only [if_true, Option.map_some]
        rw [Lg.sumB_none (fun b hb q hq e => by
          have := HII.out.isOpen b hb q hq
          rw [e, hc] at this
          simp at this)]
      have hold : ∀ y, y ≠ .string a → accF (⟨S.names ++ [(a, c)], S.books⟩ : Lg.S) y = accF S y := by
        intro y hy
        unfold accF
        split
        · rename_i s
          rw [Lg.credit_snoc]
          have hsa : a ≠ s := fun e => hy (by rw [e])
          cases Lg.credit S s with
          | some d => rfl
          | none => simp [hsa]
        · rfl
      have HN := hid (And.intro hnew hold)
      clear hn hc hacc hb2 hnew hold hacc2
      subst hw2
      go_wp2_with (first
        | (at_len; refine wpList_len_map _ rfl _ _ _ rfl Tryd.underlying52 rfl HM2.out ?_; intro j hj; have hj' : ¬ (100 : Int) ≤ (j : Int) := by (have := HF.out; omega))
        | (at_mapUpdate; refine wpList_put _ rfl _ _ _ 52 61 rfl str_keyed Tryd.underlying52 rfl HM2.out hlt _ _ _ rfl rfl hk.out (accF (⟨S.names ++ [(a, c)], S.books⟩ : Lg.S)) HN.out.1 HN.out.2 ?_; intro w3 hM3 hg3))
      go_ret
      rw [HE.out]
      have ht : Tch (fun k => k = ba) w w3 := (Tch.of_below HB2.out _).grown hg3 (fun r e => .inl (by cases e; rfl))
      refine ⟨rfl, O, ⟨ba, bi, bt, v, bs, HA.out.maps (ht.mono fun k e => .inl e) ?_ ?_ ?_ rfl ?_⟩, ht.mono (fun k e => by rw [e]; exact HA.out.oa), fun k hk => .inl hk⟩
      · simp only [List.length_append, List.length_cons, List.length_nil]
        exact hM3
      · exact (HA.out.ids.tch ht (fun e => HA.out.nab e.symm)).congr (fun x _ _ => by cases x <;> rfl)
      · obtain ⟨f, n, hf⟩ := HA.out.trial
        exact ⟨f, n, hf.tch ht (fun e => HA.out.nat e.symm)⟩
      · have := Lg.inv_open HII.out a c
        rw [HE.out] at this
        exact this

end Go.Proofs.YtfkcphflcmpenaaDoor
