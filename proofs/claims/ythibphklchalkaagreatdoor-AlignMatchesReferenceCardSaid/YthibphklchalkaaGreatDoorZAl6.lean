/-
  align.sideOf. Conditions: lengths; the library's tables.
-/
import Derived.Test.YthibphklchalkaaGreatDoorZAl5
import Derived.Test.YthibphklchalkaaGreatDoorZMScr
namespace Al

theorem rulesFrom_append (k : Int) : ∀ (a b : List Rw.Rule) (i : Nat), rulesFrom k i (a ++ b) = rulesFrom k i a ++ rulesFrom k (i + a.length) b
  | [], b, i => by simp [rulesFrom]
  | r :: a, b, i => by
    have ih := rulesFrom_append k a b (i + 1)
    rw [show i + 1 + a.length = i + (r :: a).length by simp; omega] at ih
    rw [List.cons_append]
    simp only [rulesFrom]
    split
    · split
      · rw [ih]; rfl
      · rw [ih]
    · rw [ih]

theorem rulesFrom_take (k : Int) {l : List Rw.Rule} {n : Nat} {r : Rw.Rule} (h : l[n]? = some r) : rulesFrom k 0 (l.take (n + 1)) = rulesFrom k 0 (l.take n) ++ rulesFrom k n [r] := by
  obtain ⟨hn, he⟩ := List.getElem?_eq_some_iff.1 h
  rw [List.take_succ_eq_append_getElem hn, he, rulesFrom_append]
  rw [List.length_take, Nat.zero_add, Nat.min_eq_left (Nat.le_of_lt hn)]

end Al
namespace Go.Proofs.YthibphklchalkaaGreatDoor
open Go.RowKit Go.Lib Go.Maps

/-- what sideOf ends in -/
def SidePost (t : Rw.Table) (k : Int) (word : List UInt8) (W : World) (e : Ending) (W' : World) : Prop :=
  Below W.heap.size W W' ∧ match Al.side t.rules k word with
    | none => e = .returned (.tuple #[.agg #[.slice none 0 0, .slice none 0 0], .bool false])
    | some S => ∃ lv rv fs, e = .returned (.tuple #[.agg #[lv, rv], .bool true]) ∧ SlOf W' lv 1 strC S.letters ∧ RulesAt W' fs rv ∧ fs.map Prod.fst = S.rules

theorem set_grown_at (w : World) (B o : Nat) (u : Value) : w.grownBy (w.setCell ⟨B, o, none⟩ u) (some B) :=
  ⟨rfl, rfl, rfl, by simp [World.setCell], fun k _ hk => Below.heap_setCell w ⟨B, o, none⟩ u k (fun e => hk (by rw [e]))⟩

theorem kept_at {w w' : World} {B q : Nat} {e : TypeId} {z : Nat} {v : Value} {m : Nat} {xs : List Value} (h : w.ownsRow B e z v m xs) (hg : w.grownBy w' (some q)) (hq : q < B) : w'.ownsRow B e z v m xs := by
  refine h.kept hg ?_
  cases hv : v.ownBlock with
  | none => exact .inl rfl
  | some k =>
    refine .inr (fun e => ?_)
    have := (own_cells h hv).1
    have := Option.some.inj e
    omega

theorem kept_type {w w' : World} {B B2 : Nat} {e e2 : TypeId} {z z2 : Nat} {v v2 : Value} {m m2 : Nat} {xs xs2 : List Value} (h : w.ownsRow B e z v m xs) (h2 : w.ownsRow B2 e2 z2 v2 m2 xs2) (hg : w.grownBy w' v2.ownBlock) (hne : e ≠ e2) : w'.ownsRow B e z v m xs := by
  refine h.kept hg ?_
  cases hv : v.ownBlock with
  | none => exact .inl rfl
  | some k =>
    refine .inr (fun e => ?_)
    obtain ⟨_, cs, h3⟩ := own_cells h hv
    obtain ⟨_, cs', h4⟩ := own_cells h2 e.symm
    rw [h3] at h4
    cases h4
    exact hne rfl

theorem flat_str (l : List (List UInt8)) : l.flatMap strC = l.map fun x => .string (bs x) := by
  induction l with
  | nil => rfl
  | cons x l ih => rw [List.flatMap_cons, ih]; rfl

theorem info_rule : (Tryz.prog.info? 59).map (fun i => (i.zero, i.size, i.bytes)) = some (some (.agg #[.int .i64 0, .int .i64 0, .slice none 0 0, .string ⟨#[]⟩]), 4, 56) := by kernel_rfl

set_option maxRecDepth 100000 in
set_option maxHeartbeats 4000000 in
theorem sideOf_any (t : Rw.Table) (tv : Value) (k : Int) (word : ByteArray) (W : World) (ht : TableAt W t tv) (hT : Tabs W) (hw : word.size ≤ 1000000) : Calls Tryz.prog 33 #[tv, .int .i64 k, .string word] W (SidePost t k word.data.toList W) := by
  obtain ⟨⟨vr, vd, ve, rfl, sr, ⟨ad, cd, rfl, -⟩, ⟨ae, ce, rfl, -⟩⟩, fr, -, -, hl1, -, -⟩ := ht
  obtain ⟨a, cap, rfl, h1, h2, h3⟩ := sr
  have hR := hid h3
  have hF := hid fr
  have hTT := hid hT
  clear h3 fr hT
  obtain ⟨W1, hW1⟩ : ∃ W1, W1 = (W.alloc (.cells #[.slice a t.rules.length cap, .slice ad t.drops.length cd, .slice ae t.ends.length ce, .int .i64 t.drop, .int .i64 t.order, .int .i64 t.initial] 25)).alloc (.cells #[.slice none 0 0, .slice none 0 0] 45) := ⟨_, rfl⟩
  have hb1 : Below W.heap.size W W1 := by rw [hW1]; exact ((Below.refl _ W).alloc (Nat.le_refl _) _).alloc (by simp) _
  have z1 : W1.heap.size = W.heap.size + 2 := by rw [hW1]; simp
  have hr1 : W1.heap[W.heap.size + 1]? = some (.cells #[.slice none 0 0, .slice none 0 0] 45 (0, 0)) := by
    rw [hW1]
    have := World.alloc_heap_new (W.alloc (.cells #[.slice a t.rules.length cap, .slice ad t.drops.length cd, .slice ae t.ends.length ce, .int .i64 t.drop, .int .i64 t.order, .int .i64 t.initial] 25)) (.cells #[.slice none 0 0, .slice none 0 0] 45)
    rwa [World.size_alloc] at this
  have hta1 := hid (show W1.heap[W.heap.size]? = some (.cells #[.slice a t.rules.length cap, .slice ad t.drops.length cd, .slice ae t.ends.length ce, .int .i64 t.drop, .int .i64 t.order, .int .i64 t.initial] 25 (0, 0)) by
    rw [hW1]; exact (Below.heap_alloc _ _ _ (by simp)).trans (World.alloc_heap_new W _))
  have hTT1 := hid (hTT.out.below hb1)
  have HFO := hid (fold_any k word W1 hw hTT1.out)
  cases hl : Sc.lets k word.data.toList with
  | none =>
    have hno := hid (show Al.side t.rules k word.data.toList = none by unfold Al.side; rw [hl])
    have HL := hid hl
    clear hl
    go_enter Tryz.func33, Tryz.ntmps33
    go_wp2_with fail
    rw [← hW1]
    refine (HFO.out).mono ?_
    rintro e W2 ⟨he, hb2⟩
    rw [HL.out] at he
    subst he
    have hr2 := (hb2.block _ (by omega)).trans hr1
    have B2 := hid (hb1.trans (hb2.mono hb1.size))
    have x0 : W2.cell? ⟨W.heap.size + 1, 0, none⟩ = some (.slice none 0 0) := by simp [World.cell?, hr2]
    have x1 : W2.cell? ⟨W.heap.size + 1, 1, none⟩ = some (.slice none 0 0) := by simp [World.cell?, hr2]
    have x2 : W2.frozen? ⟨W.heap.size + 1, 0, none⟩ = false := by simp [World.frozen?, hr2]
    have x3 : W2.frozen? ⟨W.heap.size + 1, 1, none⟩ = false := by simp [World.frozen?, hr2]
    have HR2 := hid hr2
    clear hb2 hr2 hr1 hb1 hW1
    go_wp2
    refine post_cell_tmp (v := .agg #[.slice none 0 0, .slice none 0 0]) rfl rfl ?_ rfl rfl ?_
    · go_simp
    · unfold SidePost
      rw [hno.out]
      exact ⟨(B2.out.setCell (p := ⟨W.heap.size + 1, 0, none⟩) (by simp) _).setCell (p := ⟨W.heap.size + 1, 1, none⟩) (by simp) _, rfl⟩
  | some ls =>
    have HL := hid hl
    have hfs : (bs (Sc.fold word.data.toList)).size ≤ 1000000 := by rw [bs_len]; unfold Sc.fold; rw [List.length_map]; simpa using hw
    clear hl
    go_enter Tryz.func33, Tryz.ntmps33
    go_wp2_with fail
    rw [← hW1]
    refine (HFO.out).mono ?_
    rintro e W2 ⟨he, hb2⟩
    rw [HL.out] at he
    subst he
    have hr2 := hid ((hb2.block _ (by omega)).trans hr1)
    have B2 := hid (hb1.trans (hb2.mono hb1.size))
    have HLE := hid (letters_any k (bs (Sc.fold word.data.toList)) W2 hfs (hTT1.out.below hb2))
    have hta2 := hid ((hb2.block W.heap.size (by omega)).trans hta1.out)
    clear hb2 hr1 hb1 hW1
    go_wp2_with fail
    refine (HLE.out).mono ?_
    rintro e W3 h3
    unfold LettersPost at h3
    rw [bs_list] at h3
    cases hl2 : Sc.lets k (Sc.fold word.data.toList) with
    | none =>
      rw [hl2] at h3
      obtain ⟨rfl, hb3⟩ := h3
      have hno := hid (show Al.side t.rules k word.data.toList = none by unfold Al.side; rw [HL.out, hl2])
      have hr3 := (hb3.block _ (Array.getElem?_eq_some_iff.1 hr2.out).1).trans hr2.out
      have B3 := hid (B2.out.trans (hb3.mono B2.out.size))
      have x0 : W3.cell? ⟨W.heap.size + 1, 0, none⟩ = some (.slice none 0 0) := by simp [World.cell?, hr3]
      have x1 : W3.cell? ⟨W.heap.size + 1, 1, none⟩ = some (.slice none 0 0) := by simp [World.cell?, hr3]
      have x2 : W3.frozen? ⟨W.heap.size + 1, 0, none⟩ = false := by simp [World.frozen?, hr3]
      have x3 : W3.frozen? ⟨W.heap.size + 1, 1, none⟩ = false := by simp [World.frozen?, hr3]
      clear hb3 hr3 hl2
      go_wp2
      refine post_cell_tmp (v := .agg #[.slice none 0 0, .slice none 0 0]) rfl rfl ?_ rfl rfl ?_
      · go_simp
      · unfold SidePost
        rw [hno.out]
        exact ⟨(B3.out.setCell (p := ⟨W.heap.size + 1, 0, none⟩) (by simp) _).setCell (p := ⟨W.heap.size + 1, 1, none⟩) (by simp) _, rfl⟩
    | some l =>
      rw [hl2] at h3
      obtain ⟨lv, rfl, hown, hb3⟩ := h3
      have hta3 := (hb3.block _ (Array.getElem?_eq_some_iff.1 hta2.out).1).trans hta2.out
      have hr3 := hid ((hb3.block _ (Array.getElem?_eq_some_iff.1 hr2.out).1).trans hr2.out)
      have B3 := hid (B2.out.trans (hb3.mono B2.out.size))
      have B23 := hid hb3
      have hst3 := (Array.getElem?_eq_some_iff.1 hta3).1
      have y0 : W3.cell? ⟨W.heap.size, 0, none⟩ = some (.slice a t.rules.length cap) := by simp [World.cell?, hta3]
      have HTA := hid hta3
      obtain ⟨a3, c3, rfl⟩ := ownsRow_slice hown
      have HOWN := hid hown
      have HL2 := hid hl2
      clear hb3 hta3 hl2 hown
      go_wp2_with fail
      obtain ⟨W4, hW4⟩ : ∃ W4, W4 = W3.alloc (.cells #[.slice a3 l.length c3, .slice none 0 0] 45) := ⟨_, rfl⟩
      have hb4 : Below W3.heap.size W3 W4 := by rw [hW4]; exact (Below.refl _ W3).alloc (Nat.le_refl _) _
      have hs4 : W4.heap[W3.heap.size]? = some (.cells #[.slice a3 l.length c3, .slice none 0 0] 45 (0, 0)) := by rw [hW4]; exact World.alloc_heap_new W3 _
      have H4 := hid (And.intro hb4 hs4)
      clear hb4 hs4
      go_loopw [39] (fun i wr => ∃ (n : Nat) (fs : List (Al.R × Value)) (rv : Value), n ≤ t.rules.length ∧ i = .int .i64 n ∧ fs.map Prod.fst = Al.rulesFrom k 0 (t.rules.take n) ∧ fs.length ≤ n ∧
        wr.heap[W3.heap.size]? = some (.cells #[.slice a3 l.length c3, rv] 45 (0, 0)) ∧ wr.ownsRow (W3.heap.size + 1) 59 4 rv fs.length (fs.flatMap ruleC) ∧
        (∀ p ∈ fs, wr.ownsRow (W3.heap.size + 1) 9 1 p.2 p.1.from_.length (p.1.from_.map fun x => .string (bs x))) ∧ Below W3.heap.size W3 wr) (fun i _ => t.rules.length - (intOf i).toNat)
      case atStart =>
        rw [← hW4]
        exact ⟨0, [], .slice none 0 0, Nat.zero_le _, rfl, by simp [Al.rulesFrom], by simp, H4.out.2, World.ownsRow_nil _ _ _ _, by simp, H4.out.1⟩
      case round =>
        obtain ⟨n, fs, rv, hn, rfl, hfs, hfl, hs, hrow, hall, hbr⟩ := hrel
        have hbW := B3.out.trans (hbr.mono B3.out.size)
        by_cases hlt : n < t.rules.length
        · obtain ⟨g, o, rfl, hr⟩ := hR.out (by omega)
          obtain ⟨d, hd⟩ : ∃ d, t.rules[n]? = some d := ⟨_, List.getElem?_eq_getElem hlt⟩
          have hc := (hr.below hbW).2 n d hd
          have c0 := hc 0 _ rfl
          have c1 := hc 1 _ rfl
          have c2 := hc 2 _ rfl
          have c3' := hc 3 _ rfl
          rw [Nat.add_zero] at c0
          have hg := (hr.below hbW).1
          have hn0 : (0 : Int) ≤ (n : Int) := by omega
          have hn1 : (n : Int) < (t.rules.length : Int) := by omega
          have hstep := hid (Al.rulesFrom_take k hd)
          have HD := hid hd
          have HREL := hid (And.intro hfs (And.intro hs (And.intro hrow (And.intro hall hbr))))
          clear hc hr hd hfs hs hrow hall hbr
          by_cases hsc : d.script = k
          · subst hsc
            have hne : ((d.script : Int) != d.script) = false := by simp
            have hfd := hF.out d (List.mem_of_getElem? HD.out)
            have hwl : (bs d.from_).size ≤ 1000000 := by rw [bs_len]; have := hfd.2.1; omega
            obtain ⟨A1, hA1⟩ : ∃ A1, A1 = wr.alloc (.cells #[.int .i64 d.script, .string (bs d.from_), .string (bs d.to_), .int .i64 d.cost] 72) := ⟨_, rfl⟩
            have hbA : Below wr.heap.size wr A1 := by rw [hA1]; exact (Below.refl _ wr).alloc (Nat.le_refl _) _
            have hkA : A1.heap[wr.heap.size]? = some (.cells #[.int .i64 d.script, .string (bs d.from_), .string (bs d.to_), .int .i64 d.cost] 72 (0, 0)) := by rw [hA1]; exact World.alloc_heap_new wr _
            have HLE2 := hid (letters_any d.script (bs d.from_) A1 hwl (hTT.out.below (hbW.trans (hbA.mono hbW.size))))
            have HBA := hid (And.intro hbA hkA)
            clear hbA hkA
            go_wp2_with fail
            rw [← hA1]
            have HA1 := hid hA1
            clear hA1
            refine (HLE2.out).mono ?_
            rintro e A2 h2
            unfold LettersPost at h2
            rw [bs_list] at h2
            cases hl3 : Sc.lets d.script d.from_ with
            | none =>
              rw [hl3] at h2
              obtain ⟨rfl, hb2⟩ := h2
              have hnil := hid (show Al.rulesFrom d.script n [d] = [] by simp [Al.rulesFrom, hl3])
              have HB2 := hid (Below.step HBA.out.1 hb2)
              clear hb2 hl3
              go_wp2_with fail
              go_roundw
              case rel =>
                obtain ⟨q1, q2, q3, q4, q5⟩ := HREL.out
                exact ⟨n + 1, fs, rv, by omega, by go_num, by rw [hstep.out, hnil.out, List.append_nil]; exact q1, by omega, (HB2.out.block _ (Array.getElem?_eq_some_iff.1 q2).1).trans q2, ownsRow_below q3 HB2.out, fun p hp => ownsRow_below (q4 p hp) HB2.out, q5.trans (HB2.out.mono q5.size)⟩
              case measure => simp [intOf]; omega
            | some f =>
              rw [hl3] at h2
              obtain ⟨fv, rfl, hown2, hb2⟩ := h2
              obtain ⟨i0, hi, hz0, hz1, hz2⟩ := info_parts info_rule
              have hb2w := Below.step HBA.out.1 hb2
              have HB2 := hid hb2w
              have hkA2 := (hb2.block _ (Array.getElem?_eq_some_iff.1 HBA.out.2).1).trans HBA.out.2
              obtain ⟨q1, q2, q3, q4, q5⟩ := HREL.out
              have hs2 := (hb2w.block _ (Array.getElem?_eq_some_iff.1 q2).1).trans q2
              have hrow2 := ownsRow_below q3 hb2w
              have e0 : A2.cell? ⟨wr.heap.size, 2, none⟩ = some (.string (bs d.to_)) := by simp [World.cell?, hkA2]
              have e1 : A2.cell? ⟨wr.heap.size, 3, none⟩ = some (.int .i64 d.cost) := by simp [World.cell?, hkA2]
              have s1 : A2.cell? ⟨W3.heap.size, 1, none⟩ = some rv := by simp [World.cell?, hs2]
              have s2 : A2.frozen? ⟨W3.heap.size, 1, none⟩ = false := by simp [World.frozen?, hs2]
              obtain ⟨ar, cr, rfl⟩ := ownsRow_slice hrow2
              obtain ⟨af, cf, rfl⟩ := ownsRow_slice hown2
              clear hb2 hb2w hkA2
              have hsA : W3.heap.size < A2.heap.size := (Array.getElem?_eq_some_iff.1 hs2).1
              go_wp2_with (at_builtin; refine wpList_append_own _ rfl _ _ 43 rfl (W3.heap.size + 1) 59 i0 (.agg #[.int .i64 0, .int .i64 0, .slice none 0 0, .string ⟨#[]⟩]) 4 56 Tryz.underlying43 hi hz0 hz1 hz2 rfl (by decide) _ _ _ rfl (hrow2.alloc _) ⟨A2.heap.size, 0, none⟩ 1 1 [.int .i64 n, .int .i64 d.cost, .slice af f.length cf, .string (bs d.to_)] rfl rfl ?c1 ?c2 ?c3 ?c4 ?c5 ?_)
              case c1 => exact cells_new rfl
              case c2 => intro x hx; simp at hx; rcases hx with rfl | rfl | rfl | rfl <;> rfl
              case c3 => unfold maxLen; omega
              case c4 => omega
              case c5 => simp; omega
              intro v' w5 hown5 hgrow5 _
              obtain ⟨a5, c5, rfl⟩ := ownsRow_slice hown5
              have hne5 : ∀ q, q < W3.heap.size + 1 → some q ≠ (Value.slice ar fs.length cr).ownBlock := fun q hq e => by
                have := (own_cells hrow2 e.symm).1; omega
              have hs5 := (hgrow5.block W3.heap.size (by rw [World.size_alloc]; omega) (hne5 _ (by omega))).trans ((Below.heap_alloc A2 _ _ hsA).trans hs2)
              have s1' : w5.cell? ⟨W3.heap.size, 1, none⟩ = some (.slice ar fs.length cr) := by simp [World.cell?, hs5]
              have s2' : w5.frozen? ⟨W3.heap.size, 1, none⟩ = false := by simp [World.frozen?, hs5]
              have hB5 : Below (W3.heap.size + 1) A2 w5 := Below.appended ((Below.refl _ A2).alloc (by omega) _) hgrow5 (by rw [World.size_alloc]; omega) (hrow2.alloc _)
              have HF := hid (And.intro hown5 (And.intro hs5 (And.intro hB5 (And.intro hown2 hgrow5))))
              have Q4 := hid q4
              have Q5 := hid q5
              have Q1 := hid q1
              have HR2 := hid hrow2
              clear hown5 hs5 hB5 hown2 hgrow5 q4 q5 q1 hrow2 hs2 q2 q3 s1 s2 hi hz0 hz1 hz2
              go_wp2_with fail
              go_roundw
              case rel =>
                obtain ⟨o5, b5, B5, of, g5⟩ := HF.out
                have hmr := hid (show Al.rulesFrom d.script n [d] = [⟨n, d.cost, f, d.to_⟩] by simp [Al.rulesFrom, hl3])
                have hgs := set_grown_at w5 W3.heap.size 1 (.slice a5 (fs.length + 1) c5)
                have hA2 : W3.heap.size + 1 ≤ wr.heap.size := by have := HR2.out; have := (Array.getElem?_eq_some_iff.1 (HREL.out.2.1)).1; omega
                refine ⟨n + 1, fs ++ [(⟨n, d.cost, f, d.to_⟩, .slice af f.length cf)], .slice a5 (fs.length + 1) c5, by omega, by go_num, ?_, by simp; omega, ?_, ?_, ?_, ?_⟩
                · rw [hstep.out, hmr.out, List.map_append, Q1.out]; rfl
                · simp [World.setCell, Array.getElem?_modify, b5]
                · rw [List.length_append, List.flatMap_append]
                  exact kept_at o5 hgs (by omega)
                · intro p hp
                  refine kept_at ?_ hgs (by omega)
                  have str : ∀ {v : Value} {m : Nat} {xs : List Value}, A2.ownsRow (W3.heap.size + 1) 9 1 v m xs → w5.ownsRow (W3.heap.size + 1) 9 1 v m xs := fun ho =>
                    kept_type (ho.alloc _) (HR2.out.alloc _) g5 (by decide)
                  rcases List.mem_append.1 hp with hp | hp
                  · exact str (ownsRow_below (Q4.out p hp) HB2.out)
                  · rw [List.mem_singleton] at hp
                    subst hp
                    exact str (ownsRow_base of (by have := HBA.out.1.size; omega))
                · exact ((Q5.out.trans (HB2.out.mono Q5.out.size)).trans (B5.mono (by omega))).setCell (p := ⟨W3.heap.size, 1, none⟩) (by simp) _
              case measure => simp [intOf]; omega
          · have hne : ((d.script : Int) != k) = true := by simpa using hsc
            have hnil := hid (show Al.rulesFrom k n [d] = [] by simp [Al.rulesFrom, hsc])
            have hbA : Below wr.heap.size wr (wr.alloc (.cells #[.int .i64 d.script, .string (bs d.from_), .string (bs d.to_), .int .i64 d.cost] 72)) := (Below.refl _ wr).alloc (Nat.le_refl _) _
            have HBA := hid hbA
            clear hbA hsc
            go_wp2_with fail
            go_roundw
            case rel =>
              obtain ⟨q1, q2, q3, q4, q5⟩ := HREL.out
              exact ⟨n + 1, fs, rv, by omega, by go_num, by rw [hstep.out, hnil.out, List.append_nil]; exact q1, by omega, (HBA.out.block _ (Array.getElem?_eq_some_iff.1 q2).1).trans q2, ownsRow_below q3 HBA.out, fun p hp => ownsRow_below (q4 p hp) HBA.out, q5.trans (HBA.out.mono q5.size)⟩
            case measure => simp [intOf]; omega
        · have hne : n = t.rules.length := by omega
          subst hne
          have hfs' := hid (hfs.trans (by rw [List.take_length]))
          obtain ⟨ar, cr, rfl⟩ := ownsRow_slice hrow
          have x0 : wr.cell? ⟨W3.heap.size, 0, none⟩ = some (.slice a3 l.length c3) := by simp [World.cell?, hs]
          have x1 : wr.cell? ⟨W3.heap.size, 1, none⟩ = some (.slice ar fs.length cr) := by simp [World.cell?, hs]
          have hr := (hbr.block _ (Array.getElem?_eq_some_iff.1 hr3.out).1).trans hr3.out
          have r0 : wr.cell? ⟨W.heap.size + 1, 0, none⟩ = some (.slice none 0 0) := by simp [World.cell?, hr]
          have r1 : wr.cell? ⟨W.heap.size + 1, 1, none⟩ = some (.slice none 0 0) := by simp [World.cell?, hr]
          have r2 : wr.frozen? ⟨W.heap.size + 1, 0, none⟩ = false := by simp [World.frozen?, hr]
          have r3 : wr.frozen? ⟨W.heap.size + 1, 1, none⟩ = false := by simp [World.frozen?, hr]
          have hWlt := (Array.getElem?_eq_some_iff.1 hr2.out).1
          have R := hid (And.intro hrow (And.intro hall (And.intro hbr hbW)))
          have HR := hid hr
          clear hfs hs hrow hall hbr hr hbW
          go_wp2_with fail
          refine post_cell_tmp (v := .agg #[.slice a3 l.length c3, .slice ar fs.length cr]) rfl rfl ?_ rfl rfl ?_
          · go_simp
          · obtain ⟨hrow, hall, hbr, hbW⟩ := R.out
            have ho : wr.ownsRow (W2.heap.size) 9 1 (.slice a3 l.length c3) l.length (l.flatMap strC) := by
              rw [flat_str]; exact ownsRow_below HOWN.out hbr
            have g1 := set_grown_at wr (W.heap.size + 1) 0 (.slice a3 l.length c3)
            have g2 := set_grown_at (wr.setCell ⟨W.heap.size + 1, 0, none⟩ (.slice a3 l.length c3)) (W.heap.size + 1) 1 (.slice ar fs.length cr)
            have k2 : ∀ {B : Nat} {e : TypeId} {z : Nat} {v : Value} {m : Nat} {xs : List Value}, W.heap.size + 1 < B → wr.ownsRow B e z v m xs → ((wr.setCell ⟨W.heap.size + 1, 0, none⟩ (.slice a3 l.length c3)).setCell ⟨W.heap.size + 1, 1, none⟩ (.slice ar fs.length cr)).ownsRow B e z v m xs :=
              fun hB h => kept_at (kept_at h g1 hB) g2 hB
            unfold SidePost
            refine ⟨(hbW.setCell (p := ⟨W.heap.size + 1, 0, none⟩) (by simp) _).setCell (p := ⟨W.heap.size + 1, 1, none⟩) (by simp) _, ?_⟩
            rw [show Al.side t.rules k word.data.toList = some ⟨l, Al.rulesFrom k 0 t.rules⟩ by unfold Al.side; rw [HL.out]; simp only; rw [HL2.out]]
            refine ⟨_, _, fs, rfl, SlOf.own (k2 hWlt ho) (fun x _ => rfl), ⟨SlOf.own (k2 (by omega) hrow) (fun x _ => rfl), fun p hp => ?_⟩, hfs'.out⟩
            have := hall p hp
            rw [← flat_str] at this
            exact SlOf.own (k2 (by omega) this) (fun x _ => rfl)

end Go.Proofs.YthibphklchalkaaGreatDoor
