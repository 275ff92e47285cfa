/-
  The reference's Best. Conditions: lengths.
-/
import Derived.Test.YthibphklchalkaaGreatDoorZRr10
import Derived.Test.YthibphklchalkaaGreatDoorZMBase
import Derived.Test.YthibphklchalkaaGreatDoorZMList
import Derived.Outline
namespace Al

theorem rf_get {K : Int} : ∀ {l : List Rw.Rule} {o : Nat} {r : R}, r ∈ rulesFrom K o l → ∃ j x, r.index = o + j ∧ l[j]? = some x ∧ x.to_ = r.to_
  | [], _, _, h => by unfold rulesFrom at h; cases h
  | x :: l, o, r, h => by
    unfold rulesFrom at h
    have key : r ∈ rulesFrom K (o + 1) l → ∃ j y, r.index = o + j ∧ (x :: l)[j]? = some y ∧ y.to_ = r.to_ := fun h => by
      obtain ⟨j, y, h1, h2, h3⟩ := rf_get h
      exact ⟨j + 1, y, by omega, by simpa using h2, h3⟩
    split at h
    · split at h
      · rcases List.mem_cons.1 h with rfl | h
        · exact ⟨0, x, rfl, rfl, rfl⟩
        · exact key h
      · exact key h
    · exact key h

theorem one_get {t : Rw.Table} {a b : Int} {L M : List (List UInt8)} {w : Ws} (hw : w = wsOf t a L b M) {s s' : St} {r : R} (h : (r, s') ∈ moves w s) : ∃ x, t.rules[r.index]? = some x ∧ x.to_ = r.to_ := by
  have hm := (mem_moves.1 h).1
  unfold one at hm
  rw [hw] at hm
  have : ∃ j x, r.index = 0 + j ∧ t.rules[j]? = some x ∧ x.to_ = r.to_ := by
    split at hm
    · exact rf_get hm
    · exact rf_get hm
  obtain ⟨j, x, h1, h2, h3⟩ := this
  exact ⟨x, by rw [h1, Nat.zero_add]; exact h2, h3⟩

theorem lefts_len (q : List (Bool × R)) : (lefts q).length ≤ q.length := by
  unfold lefts; rw [List.length_map]; exact List.length_filter_le _ _
theorem rights_len (q : List (Bool × R)) : (rights q).length ≤ q.length := by
  unfold rights; rw [List.length_map]; exact List.length_filter_le _ _
theorem lefts_add (q : List (Bool × R)) (r : R) : lefts (q ++ [(true, r)]) = lefts q ++ [r] ∧ rights (q ++ [(true, r)]) = rights q := by
  unfold lefts rights; simp
theorem rights_add (q : List (Bool × R)) (r : R) : lefts (q ++ [(false, r)]) = lefts q ∧ rights (q ++ [(false, r)]) = rights q ++ [r] := by
  unfold lefts rights; simp
theorem form_add (q : List R) (r : R) : form (q ++ [r]) = form q ++ r.to_ := by unfold form; simp
end Al
namespace Go.Proofs.YthibphklchalkaaGreatDoor
open Go.RowKit Go.Lib Go.Maps

theorem RowOf.grown_ {α : Type} {W W' : World} {g o sz : Nat} {cells : α → List Value} {l : List α} {row : Option Nat} (h : RowOf W g o sz cells l) (hg : W.grownBy W' row) (hr : row ≠ some g) : RowOf W' g o sz cells l :=
  ⟨Nat.lt_of_lt_of_le h.1 hg.size, fun i x hx j v hv => (World.cell?_of_block (a := ⟨g, o + i * sz + j, none⟩) (hg.block g h.1 (fun e => hr e.symm))).trans (h.2 i x hx j v hv)⟩
theorem intsV_add (l : List Al.R) (r : Al.R) : intsV (l ++ [r]) = intsV l ++ [.int .i64 r.index] := by unfold intsV; rw [List.map_append]; rfl

/-- between two moves of Best -/
structure RB (w : Al.Ws) (K : List Al.St) (W5 : World) (N k : Nat) (s : Al.St) (q : List (Bool × Al.R)) (lv rv : Value) (A : World) : Prop where
  st : Blk A W5.heap.size 66 [.int .i64 s.i, .int .i64 s.j, .string (bs s.ahead), .bool s.right, .int .i64 0]
  d : Blk A (W5.heap.size + 1) 28 [.int .i64 (Al.cost w Al.zero), lv, rv, .string (bs (Al.form (Al.lefts q)))]
  olv : A.ownsRow (W5.heap.size + 2) 3 1 lv (Al.lefts q).length (intsV (Al.lefts q))
  orv : A.ownsRow (W5.heap.size + 2) 3 1 rv (Al.rights q).length (intsV (Al.rights q))
  two : ∀ x, lv.ownBlock = some x → rv.ownBlock ≠ some x
  path : Al.path w N Al.zero = q ++ Al.path w k s
  meas : Al.meas w s < k
  len : q.length + k ≤ N
  flen : (Al.form (Al.lefts q)).length ≤ 1000 * q.length
  ok : Al.Ok w s
  inK : s ∈ K
  cheap : Al.cost w s < Al.endless
  below : Below W5.heap.size W5 A

theorem RB.on {w : Al.Ws} {K : List Al.St} {W5 : World} {N k : Nat} {s : Al.St} {q : List (Bool × Al.R)} {lv rv : Value} {A A' : World} (h : RB w K W5 N k s q lv rv A) (hb : Below A.heap.size A A') : RB w K W5 N k s q lv rv A' :=
  ⟨h.st.below hb, h.d.below hb, ownsRow_below h.olv hb, ownsRow_below h.orv hb, h.two, h.path, h.meas, h.len, h.flen, h.ok, h.inK, h.cheap, Below.step h.below hb⟩

/-- how far the state is from the end, read from its box -/
def stLeft (w : Al.Ws) (b : Nat) (X : World) : Nat :=
  (w.left.letters.length - (RowKit.intOf ((X.cell? ⟨b, 0, none⟩).getD (.int .i64 0))).toNat) + (w.right.letters.length - (RowKit.intOf ((X.cell? ⟨b, 1, none⟩).getD (.int .i64 0))).toNat)
theorem stLeft_blk {w : Al.Ws} {b : Nat} {X : World} {e : TypeId} {i j : Nat} {r : List Value} (h : Blk X b e (.int .i64 i :: .int .i64 j :: r)) : stLeft w b X = (w.left.letters.length - i) + (w.right.letters.length - j) := by
  unfold stLeft
  rw [h.cell (j := 0) rfl, h.cell (j := 1) rfl]
  simp [RowKit.intOf]

set_option maxRecDepth 100000 in
set_option maxHeartbeats 20000000 in
theorem rbest_any (t : Rw.Table) (tv : Value) (a b : Int) (x y : List UInt8) (W : World) (ht : TableAt W t tv) (hx : x.length ≤ 1000000) (hy : y.length ≤ 1000000) :
    Calls Tryz.prog 9 #[tv, .int .i64 a, .string (bs x), .int .i64 b, .string (bs y)] W (BestPost (Al.bestOf t a x b y) W) := by
  have HT := hid ht
  obtain ⟨⟨vr, vd, ve, rfl, str, ⟨ad, cd, rfl, -⟩, ⟨ae, ce, rfl, -⟩⟩, -, -, -, -, -, -⟩ := ht
  have HTR := hid str
  obtain ⟨ar, cr, rfl, -⟩ := str
  obtain ⟨W1, hW1⟩ : ∃ W1, W1 = (W.alloc (.cells #[.slice ar t.rules.length cr, .slice ad t.drops.length cd, .slice ae t.ends.length ce, .int .i64 t.drop, .int .i64 t.order, .int .i64 t.initial] 25)).alloc (.cells #[.int .i64 0, .slice none 0 0, .slice none 0 0, .string ⟨#[]⟩] 28) := ⟨_, rfl⟩
  have HB1 := hid (show Below W.heap.size W W1 by rw [hW1]; exact ((Below.refl _ W).alloc (Nat.le_refl _) _).alloc (by simp) _)
  have HT1 := hid (show Blk W1 W.heap.size 25 [.slice ar t.rules.length cr, .slice ad t.drops.length cd, .slice ae t.ends.length ce, .int .i64 t.drop, .int .i64 t.order, .int .i64 t.initial] by
    rw [hW1]; exact (Blk.new W _ _).below ((Below.refl _ _).alloc (Nat.le_refl _) _))
  have HR1 := hid (show Blk W1 (W.heap.size + 1) 28 [.int .i64 0, .slice none 0 0, .slice none 0 0, .string ⟨#[]⟩] by
    rw [hW1]
    have := Blk.new (W.alloc (.cells #[.slice ar t.rules.length cr, .slice ad t.drops.length cd, .slice ae t.ends.length ce, .int .i64 t.drop, .int .i64 t.order, .int .i64 t.initial] 25)) 28 [.int .i64 0, .slice none 0 0, .slice none 0 0, .string ⟨#[]⟩]
    rwa [World.size_alloc] at this)
  obtain ⟨i0, hi0, hz0, hz1, hz2⟩ := info_parts info_int
  have HPR := hid (proper_any t _ a b x y W1 (HT.out.below HB1.out) hx hy)
  have c0 := HT1.out.cell (j := 0) rfl
  have c1 := HT1.out.cell (j := 1) rfl
  have c2 := HT1.out.cell (j := 2) rfl
  have c3 := HT1.out.cell (j := 3) rfl
  have c4 := HT1.out.cell (j := 4) rfl
  have c5 := HT1.out.cell (j := 5) rfl
  have zc := HT1.out.lt
  go_enter Tryz.func9, Tryz.ntmps9
  go_upto_region 1 with (fail)
  rw [← hW1]
  clear hW1
  go_wp2_with fail
  refine (HPR.out).mono ?_
  rintro e W2 ⟨rfl, hb2⟩
  have HB2 := hid (Below.step HB1.out hb2)
  have HT2 := hid (HT1.out.below hb2)
  have HR2 := hid (HR1.out.below hb2)
  clear hb2 c0 c1 c2 c3 c4 c5 zc
  cases ho : Al.openB t a x b y with
  | false =>
    have hno := hid (show Al.bestOf t a x b y = (⟨0, [], [], []⟩, 1) by unfold Al.bestOf; rw [ho]; rfl)
    have r0 := HR2.out.cell (j := 0) rfl
    have r1 := HR2.out.cell (j := 1) rfl
    have r2 := HR2.out.cell (j := 2) rfl
    have r3 := HR2.out.cell (j := 3) rfl
    have q0 := HR2.out.frozen 0
    have q1 := HR2.out.frozen 1
    have q2 := HR2.out.frozen 2
    have q3 := HR2.out.frozen 3
    have z2 := HR2.out.lt
    clear ho
    go_wp2_with fail
    refine post_cell_tmp (v := .agg #[.int .i64 0, .slice none 0 0, .slice none 0 0, .string ⟨#[]⟩]) rfl rfl ?_ rfl rfl ?_
    · go_simp
    · rw [hno.out]
      exact ⟨_, rfl, ⟨_, _, rfl, SlOf.nil _ _ _, SlOf.nil _ _ _⟩, (((HB2.out.setCell (p := ⟨W.heap.size + 1, 0, none⟩) (by simp) _).setCell (p := ⟨W.heap.size + 1, 1, none⟩) (by simp) _).setCell (p := ⟨W.heap.size + 1, 2, none⟩) (by simp) _).setCell (p := ⟨W.heap.size + 1, 3, none⟩) (by simp) _⟩
  | true =>
    obtain ⟨S1, S2, h1, h2, hv⟩ : ∃ S1 S2, Al.side t.rules a x = some S1 ∧ Al.side t.rules b y = some S2 ∧ Rw.valid t = true := by
      unfold Al.openB at ho
      simp only [Bool.and_eq_true] at ho
      obtain ⟨⟨u, v⟩, z⟩ := ho
      obtain ⟨S1, e1⟩ := Option.isSome_iff_exists.1 u
      obtain ⟨S2, e2⟩ := Option.isSome_iff_exists.1 v
      exact ⟨S1, S2, e1, e2, z⟩
    obtain ⟨lx, hlx, hS1⟩ : ∃ lx, Sc.lets a x = some lx ∧ S1 = ⟨lx.map Sc.fold, Al.rulesFrom a 0 t.rules⟩ := by
      cases hq : Sc.lets a x with
      | none => rw [Al.side_no hq] at h1; cases h1
      | some lx => rw [Al.side_of hq] at h1; cases h1; exact ⟨lx, rfl, rfl⟩
    obtain ⟨ly, hly, hS2⟩ : ∃ ly, Sc.lets b y = some ly ∧ S2 = ⟨ly.map Sc.fold, Al.rulesFrom b 0 t.rules⟩ := by
      cases hq : Sc.lets b y with
      | none => rw [Al.side_no hq] at h2; cases h2
      | some ly => rw [Al.side_of hq] at h2; cases h2; exact ⟨ly, rfl, rfl⟩
    obtain ⟨w, hw⟩ : ∃ w : Al.Ws, w = ⟨S1, S2⟩ := ⟨_, rfl⟩
    have hf : Few w := by rw [hw]; exact few_valid hv h1 h2
    have hno := hid (show Al.bestOf t a x b y = Al.best w by unfold Al.bestOf; rw [ho, if_pos rfl, h1, h2, hw])
    have hws : w = Al.wsOf t a (lx.map Sc.fold) b (ly.map Sc.fold) := by rw [hw, hS1, hS2]; rfl
    have hl1 : lx.map Sc.fold = w.left.letters := by rw [hws]; rfl
    have hl2 : ly.map Sc.fold = w.right.letters := by rw [hws]; rfl
    have HWS := hid hws
    have HW := hid (show w = Al.wsOf t a w.left.letters b w.right.letters by rw [← hl1, ← hl2]; exact hws)
    have HLL := hid (And.intro hl1 hl2)
    have HLX := hid (And.intro hlx hly)
    have hll := hf.small.left
    have hlr := hf.small.right
    clear h1 h2 hv hlx hly hS1 hS2 hw ho hws hl1 hl2
    have HL1 := hid (rletters11_any a x W2 hx)
    go_wp2_with fail
    refine (HL1.out).mono ?_
    intro e W3 h3
    obtain ⟨va, vc, rfl, hs3, hb3⟩ := h3.some_ HLX.out.1
    rw [HLL.out.1] at hs3 ⊢
    have HS3 := hid hs3
    have HB3 := hid (Below.step HB2.out hb3)
    have HT3 := hid (HT2.out.below hb3)
    have HR3 := hid (HR2.out.below hb3)
    have HL2 := hid (rletters11_any b y W3 hy)
    clear hb3 h3 hs3
    go_wp2_with fail
    refine (HL2.out).mono ?_
    intro e W4 h4
    obtain ⟨ua, uc, rfl, hs4, hb4⟩ := h4.some_ HLX.out.2
    rw [HLL.out.2] at hs4 ⊢
    have HU4 := hid hs4
    have HS4 := hid (HS3.out.below hb4)
    have HB4 := hid (Below.step HB3.out hb4)
    have HT4 := hid (HT3.out.below hb4)
    have HR4 := hid (HR3.out.below hb4)
    have HCO := hid (rcosts_any t _ a b x y lx ly w W4 (HT.out.below HB4.out) hx hy HLX.out.1 HLX.out.2 HWS.out hf)
    clear hb4 h4 hs4
    have c0 := HT4.out.cell (j := 0) rfl
    have c1 := HT4.out.cell (j := 1) rfl
    have c2 := HT4.out.cell (j := 2) rfl
    have c3 := HT4.out.cell (j := 3) rfl
    have c4 := HT4.out.cell (j := 4) rfl
    have c5 := HT4.out.cell (j := 5) rfl
    have zc := HT4.out.lt
    go_wp2_with fail
    refine (HCO.out).mono ?_
    rintro e W5 ⟨m, K, rfl, hb5, hmap, hcl, hz⟩
    have HB5 := hid (Below.step HB4.out hb5)
    have HT5 := hid (HT4.out.below hb5)
    have HR5 := hid (HR4.out.below hb5)
    have HS5 := hid (HS4.out.below hb5)
    have HU5 := hid (HU4.out.below hb5)
    have HMAP := hid hmap
    have HKK := hid (And.intro hcl hz)
    have hmW := hmap.lt
    obtain ⟨kl0, hkl0⟩ := pot_some Al.zero (by decide) (by decide) (by decide)
    obtain ⟨W6, hW6⟩ : ∃ W6, W6 = W5.alloc (.cells #[.int .i64 0, .int .i64 0, .string ⟨#[]⟩, .bool false, .int .i64 0] 66) := ⟨_, rfl⟩
    have HS6 := hid (show Blk W6 W5.heap.size 66 [.int .i64 0, .int .i64 0, .string ⟨#[]⟩, .bool false, .int .i64 0] by rw [hW6]; exact Blk.new W5 _ _)
    have HB56 := hid (show Below W5.heap.size W5 W6 by rw [hW6]; exact (Below.refl _ W5).alloc (Nat.le_refl _) _)
    have hz6 : W6.heap.size = W5.heap.size + 1 := by rw [hW6, World.size_alloc]
    have HZ6 := hid hz6
    have hget : (Instr.lookup 63 (.map (some m)) (.agg #[.int .i64 0, .int .i64 0, .string ⟨#[]⟩, .bool false, .int .i64 0]) false).run Tryz.prog W6 = .ok (.int .i64 (Al.cost w Al.zero)) W6 := by
      have := (hmap.below HB56.out).get pot_keyed Tryz.underlying63 (zero_int _) hkl0
      rw [costsP_in hz] at this
      exact this
    have s0 := HS6.out.cell (j := 0) rfl
    have s1 := HS6.out.cell (j := 1) rfl
    have s2 := HS6.out.cell (j := 2) rfl
    have s3 := HS6.out.cell (j := 3) rfl
    have s4 := HS6.out.cell (j := 4) rfl
    have zs := HS6.out.lt
    have hc0 := Al.cost_nonneg hf.good _ Al.zero (Nat.le_refl _) Al.within_zero
    clear hb5 hmap hcl hz c0 c1 c2 c3 c4 c5 zc hkl0
    go_upto_region 7 with (fail)
    rw [← hW6]
    clear hW6
    by_cases hce : (1099511627776 : Int) ≤ Al.cost w Al.zero
    · have hbe := hid (show Al.best w = (⟨0, [], [], []⟩, 11) by unfold Al.best; rw [if_pos (show Al.endless ≤ _ from hce)])
      have HR6 := hid (HR5.out.below HB56.out)
      have r0 := HR6.out.cell (j := 0) rfl
      have r1 := HR6.out.cell (j := 1) rfl
      have r2 := HR6.out.cell (j := 2) rfl
      have r3 := HR6.out.cell (j := 3) rfl
      have q0 := HR6.out.frozen 0
      have q1 := HR6.out.frozen 1
      have q2 := HR6.out.frozen 2
      have q3 := HR6.out.frozen 3
      have z2 := HR6.out.lt
      clear hz6
      go_wp2_with fail
      refine post_cell_tmp (v := .agg #[.int .i64 0, .slice none 0 0, .slice none 0 0, .string ⟨#[]⟩]) rfl rfl ?_ rfl rfl ?_
      · go_simp
      · rw [hno.out, hbe.out]
        exact ⟨_, rfl, ⟨_, _, rfl, SlOf.nil _ _ _, SlOf.nil _ _ _⟩, ((((Below.step HB5.out HB56.out).setCell (p := ⟨W.heap.size + 1, 0, none⟩) (by simp) _).setCell (p := ⟨W.heap.size + 1, 1, none⟩) (by simp) _).setCell (p := ⟨W.heap.size + 1, 2, none⟩) (by simp) _).setCell (p := ⟨W.heap.size + 1, 3, none⟩) (by simp) _⟩
    · have HCE := hid (show Al.cost w Al.zero < Al.endless by unfold Al.endless; omega)
      obtain ⟨N, hN⟩ : ∃ N, N = Al.meas w Al.zero + 1 := ⟨_, rfl⟩
      have hN25 : N ≤ 25 := by rw [hN]; unfold Al.meas; omega
      obtain ⟨W7, hW7⟩ : ∃ W7, W7 = W6.alloc (.cells #[.int .i64 (Al.cost w Al.zero), .slice none 0 0, .slice none 0 0, .string ⟨#[]⟩] 28) := ⟨_, rfl⟩
      have HRB7 := hid (show RB w K W5 N N Al.zero [] (.slice none 0 0) (.slice none 0 0) W7 from by
        have hb67 : Below W6.heap.size W6 W7 := by rw [hW7]; exact (Below.refl _ W6).alloc (Nat.le_refl _) _
        refine ⟨HS6.out.below hb67, ?_, World.ownsRow_nil _ _ _ _, World.ownsRow_nil _ _ _ _, (fun x h => by cases h), rfl, by omega, by simp, by simp [Al.lefts, Al.form], Al.ok_zero, HKK.out.2, HCE.out, Below.step HB56.out hb67⟩
        rw [hW7, ← HZ6.out]
        exact Blk.new W6 _ _)
      have HNN := hid hN
      have HZ67 := hid (show W5.heap.size + 1 ≤ W7.heap.size by rw [hW7, World.size_alloc, HZ6.out]; omega)
      clear hN
      go_upto_region 10 with (fail)
      rw [← hW7]
      clear hW7 hget s0 s1 s2 s3 s4 zs hz6
      go_loopw [] (fun wr => ∃ (k : Nat) (s : Al.St) (q : List (Bool × Al.R)) (lv rv : Value), Hid (RB w K W5 N k s q lv rv wr)) (fun wr => stLeft w W5.heap.size wr)
      case atStart => exact ⟨N, Al.zero, [], _, _, HRB7⟩
      case round =>
        clear HRB7
        obtain ⟨k, s, q, lv, rv, HI⟩ := hrel
        obtain ⟨la, lc, rfl⟩ := ownsRow_slice HI.out.olv
        obtain ⟨ra, rc, rfl⟩ := ownsRow_slice HI.out.orv
        have hi1 := HI.out.ok.1.1
        have hi2 := HI.out.ok.1.2.1
        have hq25 : q.length ≤ 25 := by have := HI.out.len; omega
        have q0 := HI.out.st.cell (j := 0) rfl
        have q1 := HI.out.st.cell (j := 1) rfl
        have q2 := HI.out.st.cell (j := 2) rfl
        have q3 := HI.out.st.cell (j := 3) rfl
        have q4 := HI.out.st.cell (j := 4) rfl
        have zq := HI.out.st.lt
        obtain ⟨dn, hdn⟩ : ∃ dn, dn = !Al.done w s := ⟨_, rfl⟩
        have HDN := hid hdn
        clear hdn
        go_upto_region 10 with (fail)
        go_cut [57, 58, 59, 60, 61, 62, 63, 64, 65, 66, 67, 68, 69, 70, 71, 72, 73] from 74 to 151 (fun v57 v58 v59 v60 v61 v62 v63 v64 v65 v66 v67 v68 v69 v70 v71 v72 v73 wx => v73 = .bool dn ∧ wx = wr)
        case first =>
          by_cases h1 : s.i < w.left.letters.length
          · have d1 : decide (s.i < w.left.letters.length) = true := decide_eq_true h1
            have HD := hid (show dn = true by rw [HDN.out]; unfold Al.done; rw [decide_eq_false (show ¬ s.i = w.left.letters.length by omega)]; rfl)
            clear h1
            go_wp2_with fail
            go_meet
            case rel => exact ⟨congrArg Value.bool HD.out.symm, rfl⟩
          have d1 : decide (s.i < w.left.letters.length) = false := decide_eq_false h1
          by_cases h2 : s.j < w.right.letters.length
          · have d2 : decide (s.j < w.right.letters.length) = true := decide_eq_true h2
            have HD := hid (show dn = true by rw [HDN.out]; unfold Al.done; rw [decide_eq_false (show ¬ s.j = w.right.letters.length by omega), Bool.and_false]; rfl)
            clear h1 h2
            go_wp2_with fail
            go_meet
            case rel => exact ⟨congrArg Value.bool HD.out.symm, rfl⟩
          have d2 : decide (s.j < w.right.letters.length) = false := decide_eq_false h2
          have HD := hid (show dn = !s.ahead.isEmpty by rw [HDN.out]; unfold Al.done; rw [decide_eq_true (show s.i = w.left.letters.length by omega), decide_eq_true (show s.j = w.right.letters.length by omega)]; rfl)
          have hE := empty_is s.ahead
          obtain ⟨e, he⟩ : ∃ e, e = s.ahead.isEmpty := ⟨_, rfl⟩
          rw [← he] at hE HD
          clear h1 h2 he
          cases e with
          | false =>
            go_wp2_with fail
            go_meet
            case rel => exact ⟨congrArg Value.bool HD.out.symm, rfl⟩
          | true =>
            go_wp2_with fail
            go_meet
            case rel => exact ⟨congrArg Value.bool HD.out.symm, rfl⟩
        case rest =>
        obtain ⟨rfl, hwc⟩ := hcut
        rw [hwc]
        clear hwc
        cases dn with
        | false =>
          have hd : Al.done w s = true := by have := HDN.out; revert this; cases Al.done w s <;> simp
          have hbest := hid (show Al.best w = (⟨Al.cost w Al.zero, Al.ints (Al.lefts q), Al.ints (Al.rights q), Al.form (Al.lefts q)⟩, 0) by
            have hp := HI.out.path
            rw [Al.path_done hd, List.append_nil] at hp
            unfold Al.best
            rw [if_neg (by have := HCE.out; omega)]
            simp only
            rw [← HNN.out, hp])
          have HRr := hid ((HR5.out.below HI.out.below))
          have e0 := HI.out.d.cell (j := 0) rfl
          have e1 := HI.out.d.cell (j := 1) rfl
          have e2 := HI.out.d.cell (j := 2) rfl
          have e3 := HI.out.d.cell (j := 3) rfl
          have ez := HI.out.d.lt
          have r0 := HRr.out.cell (j := 0) rfl
          have r1 := HRr.out.cell (j := 1) rfl
          have r2 := HRr.out.cell (j := 2) rfl
          have r3 := HRr.out.cell (j := 3) rfl
          have f0 := HRr.out.frozen 0
          have f1 := HRr.out.frozen 1
          have f2 := HRr.out.frozen 2
          have f3 := HRr.out.frozen 3
          have rz := HRr.out.lt
          have r5 := hid HR5.out.lt
          clear hd q0 q1 q2 q3 q4 zq hc0 hce hmW hll hlr hi1 hi2 hq25 hN25
          go_wp2_with fail
          obtain ⟨w2, hw2⟩ : ∃ w2, w2 = (((wr.setCell ⟨W.heap.size + 1, 0, none⟩ (.int .i64 (Al.cost w Al.zero))).setCell ⟨W.heap.size + 1, 1, none⟩ (.slice la (Al.lefts q).length lc)).setCell ⟨W.heap.size + 1, 2, none⟩ (.slice ra (Al.rights q).length rc)).setCell ⟨W.heap.size + 1, 3, none⟩ (.string (bs (Al.form (Al.lefts q)))) := ⟨_, rfl⟩
          rw [← hw2]
          have hres : Blk w2 (W.heap.size + 1) 28 [.int .i64 (Al.cost w Al.zero), .slice la (Al.lefts q).length lc, .slice ra (Al.rights q).length rc, .string (bs (Al.form (Al.lefts q)))] := by
            rw [hw2]; exact (((HRr.out.set 0 _).set 1 _).set 2 _).set 3 _
          have hbW2 : Below W.heap.size W w2 := by
            rw [hw2]
            exact ((((Below.step HB5.out HI.out.below).setCell (p := ⟨W.heap.size + 1, 0, none⟩) (by simp) _).setCell (p := ⟨W.heap.size + 1, 1, none⟩) (by simp) _).setCell (p := ⟨W.heap.size + 1, 2, none⟩) (by simp) _).setCell (p := ⟨W.heap.size + 1, 3, none⟩) (by simp) _
          have keep : ∀ {v : Value} {n : Nat} {xs : List Value}, wr.ownsRow (W5.heap.size + 2) 3 1 v n xs → w2.ownsRow (W5.heap.size + 2) 3 1 v n xs := fun h => by
            have := r5.out
            rw [hw2]
            exact kept_at (kept_at (kept_at (kept_at h (set_grown_at _ _ 0 _) (by omega)) (set_grown_at _ _ 1 _) (by omega)) (set_grown_at _ _ 2 _) (by omega)) (set_grown_at _ _ 3 _) (by omega)
          have k0 := hres.cell (j := 0) rfl
          have k1 := hres.cell (j := 1) rfl
          have k2 := hres.cell (j := 2) rfl
          have k3 := hres.cell (j := 3) rfl
          have o1 := keep HI.out.olv
          have o2 := keep HI.out.orv
          refine post_cell_tmp (v := .agg #[.int .i64 (Al.cost w Al.zero), .slice la (Al.lefts q).length lc, .slice ra (Al.rights q).length rc, .string (bs (Al.form (Al.lefts q)))]) rfl rfl ?_ rfl rfl ?_
          · clear hres hw2 keep
            go_simp
          · rw [hno.out, hbest.out]
            exact ⟨_, rfl, ⟨_, _, rfl, slOf_ints o1, slOf_ints o2⟩, hbW2⟩
        | true =>
          have HD0 := hid (show Al.done w s = false by have := HDN.out; revert this; cases Al.done w s <;> simp)
          have HMV := hid (rmoves_any t _ a b w.left.letters w.right.letters (.slice va w.left.letters.length vc) (.slice ua w.right.letters.length uc) s wr ((HT.out.below HB5.out).below HI.out.below) (HS5.out.below HI.out.below) (HU5.out.below HI.out.below) (by omega) (by omega) (by omega) (by omega) (Nat.le_trans (Al.aheads_len (fun r hr => (hf.sizes r hr).2) HI.out.ok.2) (by omega)))
          rw [← HW.out] at HMV
          unfold potV potC at HMV
          have HTr := hid (HT5.out.below HI.out.below)
          have c0 := HTr.out.cell (j := 0) rfl
          have c1 := HTr.out.cell (j := 1) rfl
          have c2 := HTr.out.cell (j := 2) rfl
          have c3 := HTr.out.cell (j := 3) rfl
          have c4 := HTr.out.cell (j := 4) rfl
          have c5 := HTr.out.cell (j := 5) rfl
          have zc := HTr.out.lt
          go_wp2_with fail
          refine (HMV.out).mono ?_
          rintro e W8 ⟨v8, rfl, hown8, hb8⟩
          obtain ⟨va8, vc8, rfl⟩ := ownsRow_slice hown8
          have HOWN8 := hid hown8
          have HB8 := hid hb8
          have HM8 := hid (show SlOf W8 (.slice va8 (Al.moves w s).length vc8) 7 mvC (Al.moves w s) from SlOf.own hown8 (fun x _ => rfl))
          obtain ⟨n, hn⟩ : ∃ n, n = (Al.moves w s).length := ⟨_, rfl⟩
          have HN := hid hn
          have hn200 : n ≤ 200 := by
            rw [hn]
            exact Al.moves_few hf.rules s
          rw [← hn] at HM8 ⊢
          clear hown8 hb8 hn q0 q1 q2 q3 q4 zq c0 c1 c2 c3 c4 c5 zc HMV
          go_wp2_with fail
          go_loopw [20] (fun iv wx => ∃ i : Nat, i ≤ n ∧ iv = .int .i64 i ∧ Hid (∀ p ∈ (Al.moves w s).take i, (p.1.cost + Al.cost w p.2 == Al.cost w s) = false) ∧ Hid (Below W8.heap.size W8 wx)) (fun iv _ => n - (RowKit.intOf iv).toNat)
          case atStart => exact ⟨0, Nat.zero_le _, rfl, hid (by simp), Below.refl _ _⟩
          case round =>
            obtain ⟨i, hin, rfl, HNO, HBX⟩ := hrel
            rename World => wx
            by_cases hlt : i < n
            rotate_left
            · exfalso
              have hall : ∀ p ∈ Al.moves w s, (p.1.cost + Al.cost w p.2 == Al.cost w s) = false := by
                have h := HNO.out
                rw [List.take_of_length_le (by rw [← HN.out]; omega)] at h
                exact h
              obtain ⟨p, hp, -⟩ := Al.pick_some hf.good HI.out.ok.1 HI.out.cheap HD0.out
              rw [Al.pick_before hall] at hp
              cases hp
            obtain ⟨p, hp⟩ : ∃ p, (Al.moves w s)[i]? = some p := ⟨_, List.getElem?_eq_getElem (by rw [← HN.out]; exact hlt)⟩
            obtain ⟨r, s'⟩ := p
            obtain ⟨g, o, rfl, hr⟩ : ∃ g o, va8 = some ⟨g, o, none⟩ ∧ RowOf wx g o 7 mvC (Al.moves w s) := by
              obtain ⟨a', c', e, -, -, hr⟩ := HM8.out.below HBX.out
              cases e
              exact hr (by rw [← HN.out]; omega)
            have HGW := hid (show wr.heap.size ≤ g from (HOWN8.out.lt g rfl).1)
            have hbX := Below.step HB8.out HBX.out
            have HIX := hid (HI.out.on hbX)
            have hc := hr.2 i (r, s') hp
            have e0 := hc 0 _ rfl
            have e1 := hc 1 _ rfl
            have e2 := hc 2 _ rfl
            have e3 := hc 3 _ rfl
            have e4 := hc 4 _ rfl
            have e5 := hc 5 _ rfl
            have e6 := hc 6 _ rfl
            rw [Nat.add_zero] at e0
            have hg := hr.1
            have HRW0 := hid hr
            have hmem : (r, s') ∈ Al.moves w s := List.mem_of_getElem? hp
            obtain ⟨hok', hme, hdir⟩ := Al.move_step hf.good hmem HI.out.ok.1
            have hin' : s' ∈ K := HKK.out.1.on s HI.out.inK _ hmem
            have hokS : Al.Ok w s' := Al.ok_step hf.good hmem HI.out.ok
            have HMP : Hid (MapF wx Tryz.prog 66 m K.length (costsP w K)) := HMAP.out.below (Below.step HI.out.below hbX)
            have look : ∀ z : Al.St, z ∈ K → Al.Ok w z → ∀ X, Below wx.heap.size wx X → (Instr.lookup 63 (.map (some m)) (.agg #[.int .i64 z.i, .int .i64 z.j, .string (bs z.ahead), .bool z.right, .int .i64 0]) false).run Tryz.prog X = .ok (.int .i64 (Al.cost w z)) X := fun z hz ho X hX => by
              obtain ⟨kl, hkl⟩ := pot_some z (by have := ho.1.1; omega) (by have := ho.1.2.1; omega) (Al.aheads_len (fun r hr => (hf.sizes r hr).2) ho.2)
              have := (HMP.out.below hX).get pot_keyed Tryz.underlying63 (zero_int _) hkl
              rw [costsP_in hz] at this
              exact this
            have HG1 := hid (look s' hin' hokS)
            have HG2 := hid (look s HI.out.inK HI.out.ok)
            have hrc := (hf.good.one s).cost r (Al.mem_moves.1 hmem).1
            have hcn0 := Al.cost_nonneg hf.good _ s' (Nat.le_refl _) hok'
            have hcn1 := Al.cost_le hf.good hok'
            have hwrap : IntKind.i64.wrap (r.cost + Al.cost w s') = r.cost + Al.cost w s' := IntWalk.i64_in _ (by unfold Al.endless at hcn1; omega)
            have HM := hid (And.intro hmem (And.intro hok' (And.intro hme (And.intro hdir (And.intro hin' hokS)))))
            have HP := hid hp
            have HRC := hid (And.intro hrc.1 (And.intro hcn0 hcn1))
            have i0' : (0 : Int) ≤ (i : Int) := by omega
            have i1' : (i : Int) < (n : Int) := by omega
            have q0 := HIX.out.st.cell (j := 0) rfl
            have q1 := HIX.out.st.cell (j := 1) rfl
            have q2 := HIX.out.st.cell (j := 2) rfl
            have q3 := HIX.out.st.cell (j := 3) rfl
            have q4 := HIX.out.st.cell (j := 4) rfl
            have zq := HIX.out.st.lt
            clear hc hr hp hmem hok' hme hdir hin' hokS look hrc hcn0 hcn1 hbX
            obtain ⟨ne, hne⟩ : ∃ ne, ne = (r.cost + Al.cost w s' != Al.cost w s) := ⟨_, rfl⟩
            have HNE := hid hne
            have hne' := hne.symm
            clear hne
            go_upto_region 15 with (fail)
            refine wp_heldS (S := StillAt wx) (by kernel_rfl) ?_
            simp only [List.size_toArray, List.length_cons, List.length_nil, Nat.reduceAdd]
            intro hc
            have S0 : StillAt wx (Array.replicate 17 false) wx.drew := (Below.refl _ _).drew
            refine wpAnyS_take (i := 0) (v := .slice (some ⟨g, o, none⟩) n vc8) rfl (by kernel_rfl) (by kernel_rfl) (by kernel_rfl) (fun _ _ _ h => h) (fun _ _ => Iff.rfl) hc (by first | rfl | simp [Region.wanted]) (fun wx hx => ?_) S0 (fun hc S0 => ?_)
            · go_simp
            try simp only [List.getElem_toArray, List.getElem_cons_zero, Act.put, List.setIfInBounds_toArray, List.set_cons_zero, List.set_cons_succ]
            refine wpAnyS_take (i := 1) (v := .int .i64 i) rfl (by kernel_rfl) (by kernel_rfl) (by kernel_rfl) (fun _ _ _ h => h) (fun _ _ => Iff.rfl) hc (by first | rfl | simp [Region.wanted]) (fun wx hx => ?_) S0 (fun hc S0 => ?_)
            · go_simp
            try simp only [List.getElem_toArray, List.getElem_cons_succ, List.getElem_cons_zero, Act.put, List.setIfInBounds_toArray, List.set_cons_zero, List.set_cons_succ]
            refine wpAnyS_take (i := 2) (v := .pointer (some ⟨g, o + i * 7, none⟩)) rfl (by kernel_rfl) (by kernel_rfl) (by kernel_rfl) (fun _ _ _ h => h) (fun _ _ => Iff.rfl) hc (by first | rfl | simp [Region.wanted]) (fun wx hx => ?_) S0 (fun hc S0 => ?_)
            · go_simp
            try simp only [List.getElem_toArray, List.getElem_cons_succ, List.getElem_cons_zero, Act.put, List.setIfInBounds_toArray, List.set_cons_zero, List.set_cons_succ]
            refine wpAnyS_take (i := 3) (v := .pointer (some ⟨g, o + i * 7 + 1, none⟩)) rfl (by kernel_rfl) (by kernel_rfl) (by kernel_rfl) (fun _ _ _ h => h) (fun _ _ => Iff.rfl) hc (by first | rfl | simp [Region.wanted]) (fun wx hx => ?_) S0 (fun hc S0 => ?_)
            · go_simp
            try simp only [List.getElem_toArray, List.getElem_cons_succ, List.getElem_cons_zero, Act.put, List.setIfInBounds_toArray, List.set_cons_zero, List.set_cons_succ]
            refine wpAnyS_take (i := 4) (v := .int .i64 r.cost) rfl (by kernel_rfl) (by kernel_rfl) (by kernel_rfl) (fun _ _ _ h => h) (fun _ _ => Iff.rfl) hc (by first | rfl | simp [Region.wanted]) (fun wx hx => ?_) S0 (fun hc S0 => ?_)
            · have y := (hx.still.cell (p := ⟨g, o + i * 7 + 1, none⟩) hg).trans e1
              go_simp
            try simp only [List.getElem_toArray, List.getElem_cons_succ, List.getElem_cons_zero, Act.put, List.setIfInBounds_toArray, List.set_cons_zero, List.set_cons_succ]
            refine wpAnyS_take (i := 5) (v := .map (some m)) rfl (by kernel_rfl) (by kernel_rfl) (by kernel_rfl) (fun _ _ _ h => h) (fun _ _ => Iff.rfl) hc (by first | rfl | simp [Region.wanted]) (fun wx hx => ?_) S0 (fun hc S0 => ?_)
            · go_simp
            try simp only [List.getElem_toArray, List.getElem_cons_succ, List.getElem_cons_zero, Act.put, List.setIfInBounds_toArray, List.set_cons_zero, List.set_cons_succ]
            refine wpAnyS_take (i := 6) (v := .slice (some ⟨g, o, none⟩) n vc8) rfl (by kernel_rfl) (by kernel_rfl) (by kernel_rfl) (fun _ _ _ h => h) (fun _ _ => Iff.rfl) hc (by first | rfl | simp [Region.wanted]) (fun wx hx => ?_) S0 (fun hc S0 => ?_)
            · go_simp
            try simp only [List.getElem_toArray, List.getElem_cons_succ, List.getElem_cons_zero, Act.put, List.setIfInBounds_toArray, List.set_cons_zero, List.set_cons_succ]
            refine wpAnyS_take (i := 7) (v := .int .i64 i) rfl (by kernel_rfl) (by kernel_rfl) (by kernel_rfl) (fun _ _ _ h => h) (fun _ _ => Iff.rfl) hc (by first | rfl | simp [Region.wanted]) (fun wx hx => ?_) S0 (fun hc S0 => ?_)
            · go_simp
            try simp only [List.getElem_toArray, List.getElem_cons_succ, List.getElem_cons_zero, Act.put, List.setIfInBounds_toArray, List.set_cons_zero, List.set_cons_succ]
            refine wpAnyS_take (i := 8) (v := .pointer (some ⟨g, o + i * 7, none⟩)) rfl (by kernel_rfl) (by kernel_rfl) (by kernel_rfl) (fun _ _ _ h => h) (fun _ _ => Iff.rfl) hc (by first | rfl | simp [Region.wanted]) (fun wx hx => ?_) S0 (fun hc S0 => ?_)
            · go_simp
            try simp only [List.getElem_toArray, List.getElem_cons_succ, List.getElem_cons_zero, Act.put, List.setIfInBounds_toArray, List.set_cons_zero, List.set_cons_succ]
            refine wpAnyS_take (i := 9) (v := .pointer (some ⟨g, o + i * 7 + 2, none⟩)) rfl (by kernel_rfl) (by kernel_rfl) (by kernel_rfl) (fun _ _ _ h => h) (fun _ _ => Iff.rfl) hc (by first | rfl | simp [Region.wanted]) (fun wx hx => ?_) S0 (fun hc S0 => ?_)
            · go_simp
            try simp only [List.getElem_toArray, List.getElem_cons_succ, List.getElem_cons_zero, Act.put, List.setIfInBounds_toArray, List.set_cons_zero, List.set_cons_succ]
            refine wpAnyS_take (i := 10) (v := .agg #[.int .i64 s'.i, .int .i64 s'.j, .string (bs s'.ahead), .bool s'.right, .int .i64 0]) rfl (by kernel_rfl) (by kernel_rfl) (by kernel_rfl) (fun _ _ _ h => h) (fun _ _ => Iff.rfl) hc (by first | rfl | simp [Region.wanted]) (fun wx hx => ?_) S0 (fun hc S0 => ?_)
            · have y : ∀ j, wx.cell? ⟨g, j, none⟩ = _ := fun j => hx.still.cell (p := ⟨g, j, none⟩) hg; have y2 := (y (o + i * 7 + 2)).trans e2; have y3 := (y (o + i * 7 + 3)).trans e3; have y4 := (y (o + i * 7 + 4)).trans e4; have y5 := (y (o + i * 7 + 5)).trans e5; have y6 := (y (o + i * 7 + 6)).trans e6; clear y
              go_simp
            try simp only [List.getElem_toArray, List.getElem_cons_succ, List.getElem_cons_zero, Act.put, List.setIfInBounds_toArray, List.set_cons_zero, List.set_cons_succ]
            refine wpAnyS_take (i := 11) (v := .int .i64 (Al.cost w s')) rfl (by kernel_rfl) (by kernel_rfl) (by kernel_rfl) (fun _ _ _ h => h) (fun _ _ => Iff.rfl) hc (by first | rfl | simp [Region.wanted]) (fun wx hx => ?_) S0 (fun hc S0 => ?_)
            · have y := HG1.out _ hx.still
              go_simp
            try simp only [List.getElem_toArray, List.getElem_cons_succ, List.getElem_cons_zero, Act.put, List.setIfInBounds_toArray, List.set_cons_zero, List.set_cons_succ]
            refine wpAnyS_take (i := 12) (v := .int .i64 (r.cost + Al.cost w s')) rfl (by kernel_rfl) (by kernel_rfl) (by kernel_rfl) (fun _ _ _ h => h) (fun _ _ => Iff.rfl) hc (by first | rfl | simp [Region.wanted]) (fun wx hx => ?_) S0 (fun hc S0 => ?_)
            · go_simp
            try simp only [List.getElem_toArray, List.getElem_cons_succ, List.getElem_cons_zero, Act.put, List.setIfInBounds_toArray, List.set_cons_zero, List.set_cons_succ]
            refine wpAnyS_take (i := 13) (v := .map (some m)) rfl (by kernel_rfl) (by kernel_rfl) (by kernel_rfl) (fun _ _ _ h => h) (fun _ _ => Iff.rfl) hc (by first | rfl | simp [Region.wanted]) (fun wx hx => ?_) S0 (fun hc S0 => ?_)
            · go_simp
            try simp only [List.getElem_toArray, List.getElem_cons_succ, List.getElem_cons_zero, Act.put, List.setIfInBounds_toArray, List.set_cons_zero, List.set_cons_succ]
            refine wpAnyS_take (i := 14) (v := .agg #[.int .i64 s.i, .int .i64 s.j, .string (bs s.ahead), .bool s.right, .int .i64 0]) rfl (by kernel_rfl) (by kernel_rfl) (by kernel_rfl) (fun _ _ _ h => h) (fun _ _ => Iff.rfl) hc (by first | rfl | simp [Region.wanted]) (fun wx hx => ?_) S0 (fun hc S0 => ?_)
            · have y : ∀ j, wx.cell? ⟨W5.heap.size, j, none⟩ = _ := fun j => hx.still.cell (p := ⟨W5.heap.size, j, none⟩) zq; have y2 := (y 0).trans q0; have y3 := (y 1).trans q1; have y4 := (y 2).trans q2; have y5 := (y 3).trans q3; have y6 := (y 4).trans q4; clear y
              go_simp
            try simp only [List.getElem_toArray, List.getElem_cons_succ, List.getElem_cons_zero, Act.put, List.setIfInBounds_toArray, List.set_cons_zero, List.set_cons_succ]
            refine wpAnyS_take (i := 15) (v := .int .i64 (Al.cost w s)) rfl (by kernel_rfl) (by kernel_rfl) (by kernel_rfl) (fun _ _ _ h => h) (fun _ _ => Iff.rfl) hc (by first | rfl | simp [Region.wanted]) (fun wx hx => ?_) S0 (fun hc S0 => ?_)
            · have y := HG2.out _ hx.still
              go_simp
            try simp only [List.getElem_toArray, List.getElem_cons_succ, List.getElem_cons_zero, Act.put, List.setIfInBounds_toArray, List.set_cons_zero, List.set_cons_succ]
            refine wpAnyS_take (i := 16) (v := .bool ne) rfl (by kernel_rfl) (by kernel_rfl) (by kernel_rfl) (fun _ _ _ h => h) (fun _ _ => Iff.rfl) hc (by first | rfl | simp [Region.wanted]) (fun wx hx => ?_) S0 (fun hc S0 => ?_)
            · go_simp
            try simp only [List.getElem_toArray, List.getElem_cons_succ, List.getElem_cons_zero, Act.put, List.setIfInBounds_toArray, List.set_cons_zero, List.set_cons_succ]
            refine wpAnyS_done (by kernel_rfl) ?_ _
            clear hc S0
            cases ne with
            | true =>
              have HNX := hid (show ∀ p ∈ (Al.moves w s).take (i + 1), (p.1.cost + Al.cost w p.2 == Al.cost w s) = false from fun p hp => by
                rw [List.take_add_one, HP.out] at hp
                rcases List.mem_append.1 hp with h1 | h1
                · exact HNO.out p h1
                · simp only [Option.toList_some, List.mem_singleton] at h1
                  rw [h1]
                  have := HNE.out
                  revert this
                  simp only [bne]
                  cases (r.cost + Al.cost w s' == Al.cost w s) <;> simp)
              have HB2 := hid (HBX.out.drew)
              clear hne'
              go_wp2_with fail
              go_roundw
              case rel => exact ⟨i + 1, by omega, by go_num, HNX, HB2⟩
              case measure => simp [RowKit.intOf]; omega
            | false =>
              have HEQ := hid (show (r.cost + Al.cost w s' == Al.cost w s) = true by
                have := HNE.out
                revert this
                simp only [bne]
                cases (r.cost + Al.cost w s' == Al.cost w s) <;> simp)
              have HPK := hid (Al.pick_at HP.out HNO.out HEQ.out)
              have HCH := hid (show Al.cost w s' < Al.endless by
                have h1 := HEQ.out
                rw [beq_iff_eq] at h1
                have := HI.out.cheap
                have := HRC.out.1
                omega)
              obtain ⟨k', hk'⟩ : ∃ k', k = k' + 1 := ⟨k - 1, by have := HI.out.meas; omega⟩
              have HPN := hid (show Al.path w k s = (decide (s.i < s'.i), r) :: Al.path w k' s' by rw [hk']; exact Al.path_next HD0.out HPK.out k')
              have HKE := hid hk'
              obtain ⟨x0, hx0, hto⟩ := Al.one_get HW.out HM.out.1
              have HX0 := hid (And.intro hx0 hto)
              clear hne' hk' hx0 hto e1 e4 e5 e6
              cases hlt2 : decide (s.i < s'.i) with
              | true =>
                have hl1 : (s.i : Int) < (s'.i : Int) := by have := of_decide_eq_true hlt2; omega
                have hl2 := hlt2
                have HLT := hid hlt2
                clear hlt2
                go_upto_region 16 with (fail)
                obtain ⟨wy, hwy⟩ : ∃ wy, wy = wx.drew := ⟨_, rfl⟩
                have hbY : Below wx.heap.size wx wy := by rw [hwy]; exact (Below.refl _ wx).drew
                rw [← hwy]
                have e2 := (hbY.cell (p := ⟨g, o + i * 7 + 2, none⟩) hg).trans e2
                have q0 := (hbY.cell (p := ⟨W5.heap.size, 0, none⟩) zq).trans q0
                have hgY := Nat.lt_of_lt_of_le hg hbY.size
                have zqY := Nat.lt_of_lt_of_le zq hbY.size
                refine wp_heldS (S := StillAt wy) (by kernel_rfl) ?_
                simp only [List.size_toArray, List.length_cons, List.length_nil, Nat.reduceAdd]
                intro hc
                have S0 : StillAt wy (Array.replicate 9 false) wy.drew := (Below.refl _ _).drew
                refine wpAnyS_take (i := 0) (v := .slice (some ⟨g, o, none⟩) n vc8) rfl (by kernel_rfl) (by kernel_rfl) (by kernel_rfl) (fun _ _ _ h => h) (fun _ _ => Iff.rfl) hc (by first | rfl | simp [Region.wanted]) (fun wx hx => ?_) S0 (fun hc S0 => ?_)
                · go_simp
                try simp only [List.getElem_toArray, List.getElem_cons_zero, Act.put, List.setIfInBounds_toArray, List.set_cons_zero, List.set_cons_succ]
                refine wpAnyS_take (i := 1) (v := .int .i64 i) rfl (by kernel_rfl) (by kernel_rfl) (by kernel_rfl) (fun _ _ _ h => h) (fun _ _ => Iff.rfl) hc (by first | rfl | simp [Region.wanted]) (fun wx hx => ?_) S0 (fun hc S0 => ?_)
                · go_simp
                try simp only [List.getElem_toArray, List.getElem_cons_succ, List.getElem_cons_zero, Act.put, List.setIfInBounds_toArray, List.set_cons_zero, List.set_cons_succ]
                refine wpAnyS_take (i := 2) (v := .pointer (some ⟨g, o + i * 7, none⟩)) rfl (by kernel_rfl) (by kernel_rfl) (by kernel_rfl) (fun _ _ _ h => h) (fun _ _ => Iff.rfl) hc (by first | rfl | simp [Region.wanted]) (fun wx hx => ?_) S0 (fun hc S0 => ?_)
                · go_simp
                try simp only [List.getElem_toArray, List.getElem_cons_succ, List.getElem_cons_zero, Act.put, List.setIfInBounds_toArray, List.set_cons_zero, List.set_cons_succ]
                refine wpAnyS_take (i := 3) (v := .pointer (some ⟨g, o + i * 7 + 2, none⟩)) rfl (by kernel_rfl) (by kernel_rfl) (by kernel_rfl) (fun _ _ _ h => h) (fun _ _ => Iff.rfl) hc (by first | rfl | simp [Region.wanted]) (fun wx hx => ?_) S0 (fun hc S0 => ?_)
                · go_simp
                try simp only [List.getElem_toArray, List.getElem_cons_succ, List.getElem_cons_zero, Act.put, List.setIfInBounds_toArray, List.set_cons_zero, List.set_cons_succ]
                refine wpAnyS_take (i := 4) (v := .pointer (some ⟨g, o + i * 7 + 2, none⟩)) rfl (by kernel_rfl) (by kernel_rfl) (by kernel_rfl) (fun _ _ _ h => h) (fun _ _ => Iff.rfl) hc (by first | rfl | simp [Region.wanted]) (fun wx hx => ?_) S0 (fun hc S0 => ?_)
                · go_simp
                try simp only [List.getElem_toArray, List.getElem_cons_succ, List.getElem_cons_zero, Act.put, List.setIfInBounds_toArray, List.set_cons_zero, List.set_cons_succ]
                refine wpAnyS_take (i := 5) (v := .int .i64 s'.i) rfl (by kernel_rfl) (by kernel_rfl) (by kernel_rfl) (fun _ _ _ h => h) (fun _ _ => Iff.rfl) hc (by first | rfl | simp [Region.wanted]) (fun wx hx => ?_) S0 (fun hc S0 => ?_)
                · have y := (hx.still.cell (p := ⟨g, o + i * 7 + 2, none⟩) hgY).trans e2
                  go_simp
                try simp only [List.getElem_toArray, List.getElem_cons_succ, List.getElem_cons_zero, Act.put, List.setIfInBounds_toArray, List.set_cons_zero, List.set_cons_succ]
                refine wpAnyS_take (i := 6) (v := .pointer (some ⟨W5.heap.size, 0, none⟩)) rfl (by kernel_rfl) (by kernel_rfl) (by kernel_rfl) (fun _ _ _ h => h) (fun _ _ => Iff.rfl) hc (by first | rfl | simp [Region.wanted]) (fun wx hx => ?_) S0 (fun hc S0 => ?_)
                · go_simp
                try simp only [List.getElem_toArray, List.getElem_cons_succ, List.getElem_cons_zero, Act.put, List.setIfInBounds_toArray, List.set_cons_zero, List.set_cons_succ]
                refine wpAnyS_take (i := 7) (v := .int .i64 s.i) rfl (by kernel_rfl) (by kernel_rfl) (by kernel_rfl) (fun _ _ _ h => h) (fun _ _ => Iff.rfl) hc (by first | rfl | simp [Region.wanted]) (fun wx hx => ?_) S0 (fun hc S0 => ?_)
                · have y := (hx.still.cell (p := ⟨W5.heap.size, 0, none⟩) zqY).trans q0
                  go_simp
                try simp only [List.getElem_toArray, List.getElem_cons_succ, List.getElem_cons_zero, Act.put, List.setIfInBounds_toArray, List.set_cons_zero, List.set_cons_succ]
                refine wpAnyS_take (i := 8) (v := .bool true) rfl (by kernel_rfl) (by kernel_rfl) (by kernel_rfl) (fun _ _ _ h => h) (fun _ _ => Iff.rfl) hc (by first | rfl | simp [Region.wanted]) (fun wx hx => ?_) S0 (fun hc S0 => ?_)
                · go_simp
                try simp only [List.getElem_toArray, List.getElem_cons_succ, List.getElem_cons_zero, Act.put, List.setIfInBounds_toArray, List.set_cons_zero, List.set_cons_succ]
                refine wpAnyS_done (by kernel_rfl) ?_ _
                clear hc S0
                obtain ⟨A, hA⟩ : ∃ A, A = wy.drew := ⟨_, rfl⟩
                have hbA : Below wx.heap.size wx A := by rw [hA]; exact hbY.drew
                have HIA := hid (HIX.out.on hbA)
                have HRW := hid (HRW0.out.below hbA)
                have e0 := (hbA.cell (p := ⟨g, o + i * 7, none⟩) hg).trans e0
                have hgA := Nat.lt_of_lt_of_le hg hbA.size
                have HZA := hid (show W5.heap.size + 2 ≤ A.heap.size from HIA.out.d.lt)
                have HBWA := hid (Below.step (Below.step HB5.out HI.out.below) (Below.step (Below.step HB8.out HBX.out) hbA))
                have HTA := hid ((HTr.out.below (Below.step HB8.out HBX.out)).below hbA)
                clear hbY hbA hwy e2 q0 q1 q2 q3 q4 zq zqY hgY hg
                have HDA := hid (HIA.out.d)
                have dF := HDA.out.cell (j := 1) rfl
                have hdz := HDA.out.lt
                have hlen : (Al.lefts q).length ≤ 25 := Nat.le_trans (Al.lefts_len q) hq25
                have HOWN := hid (HIA.out.olv)
                have hgne : ¬ ((Value.slice la (Al.lefts q).length lc).ownBlock = some g ∨ g = W5.heap.size + 1) := by
                  rintro (e | e)
                  · have := (HI.out.olv.lt g e).2
                    have := HGW.out
                    omega
                  · have := HI.out.d.lt
                    have := HGW.out
                    omega
                have hdne : ¬ ((Value.slice la (Al.lefts q).length lc).ownBlock = some (W5.heap.size + 1)) := fun e => by
                  have := (HI.out.olv.lt _ e).1
                  omega
                go_upto_region 17 with (fail)
                rw [← hA]
                refine wp_heldS (S := HeldC 10 (fun X => X.cell? ⟨W5.heap.size + 1, 1, none⟩ = some (.slice la (Al.lefts q).length lc)) (fun b => (Value.slice la (Al.lefts q).length lc).ownBlock = some b ∨ b = W5.heap.size + 1) A) (by kernel_rfl) ?_
                simp only [List.size_toArray, List.length_cons, List.length_nil, Nat.reduceAdd]
                intro hc
                have S0 : HeldC 10 (fun X => X.cell? ⟨W5.heap.size + 1, 1, none⟩ = some (.slice la (Al.lefts q).length lc)) (fun b => (Value.slice la (Al.lefts q).length lc).ownBlock = some b ∨ b = W5.heap.size + 1) A (Array.replicate 11 false) A.drew := ⟨.inr dF, (Tch.refl _ A).step (Below.refl _ _).drew⟩
                refine wpAnyS_take (i := 0) (v := .pointer (some ⟨W5.heap.size + 1, 1, none⟩)) rfl (by kernel_rfl) (by kernel_rfl) (by kernel_rfl) (fun _ _ _ h => h) (fun _ _ => HeldC.set_ (by decide) _ _) hc (by first | rfl | simp [Region.wanted]) (fun wx hx => ?_) S0 (fun hc S0 => ?_)
                · go_simp
                try simp only [List.getElem_toArray, List.getElem_cons_zero, Act.put, List.setIfInBounds_toArray, List.set_cons_zero, List.set_cons_succ]
                refine wpAnyS_take (i := 1) (v := .slice la (Al.lefts q).length lc) rfl (by kernel_rfl) (by kernel_rfl) (by kernel_rfl) (fun _ _ _ h => h) (fun _ _ => HeldC.set_ (by decide) _ _) hc (by first | rfl | simp [Region.wanted]) (fun wx hx => ?_) S0 (fun hc S0 => ?_)
                · have y := hx.cee (n := 12) (by kernel_rfl)
                  go_simp
                try simp only [List.getElem_toArray, List.getElem_cons_succ, List.getElem_cons_zero, Act.put, List.setIfInBounds_toArray, List.set_cons_zero, List.set_cons_succ]
                refine wpAnyS_take (i := 2) (v := .slice (some ⟨g, o, none⟩) n vc8) rfl (by kernel_rfl) (by kernel_rfl) (by kernel_rfl) (fun _ _ _ h => h) (fun _ _ => HeldC.set_ (by decide) _ _) hc (by first | rfl | simp [Region.wanted]) (fun wx hx => ?_) S0 (fun hc S0 => ?_)
                · go_simp
                try simp only [List.getElem_toArray, List.getElem_cons_succ, List.getElem_cons_zero, Act.put, List.setIfInBounds_toArray, List.set_cons_zero, List.set_cons_succ]
                refine wpAnyS_take (i := 3) (v := .int .i64 i) rfl (by kernel_rfl) (by kernel_rfl) (by kernel_rfl) (fun _ _ _ h => h) (fun _ _ => HeldC.set_ (by decide) _ _) hc (by first | rfl | simp [Region.wanted]) (fun wx hx => ?_) S0 (fun hc S0 => ?_)
                · go_simp
                try simp only [List.getElem_toArray, List.getElem_cons_succ, List.getElem_cons_zero, Act.put, List.setIfInBounds_toArray, List.set_cons_zero, List.set_cons_succ]
                refine wpAnyS_take (i := 4) (v := .pointer (some ⟨g, o + i * 7, none⟩)) rfl (by kernel_rfl) (by kernel_rfl) (by kernel_rfl) (fun _ _ _ h => h) (fun _ _ => HeldC.set_ (by decide) _ _) hc (by first | rfl | simp [Region.wanted]) (fun wx hx => ?_) S0 (fun hc S0 => ?_)
                · go_simp
                try simp only [List.getElem_toArray, List.getElem_cons_succ, List.getElem_cons_zero, Act.put, List.setIfInBounds_toArray, List.set_cons_zero, List.set_cons_succ]
                refine wpAnyS_take (i := 5) (v := .pointer (some ⟨g, o + i * 7, none⟩)) rfl (by kernel_rfl) (by kernel_rfl) (by kernel_rfl) (fun _ _ _ h => h) (fun _ _ => HeldC.set_ (by decide) _ _) hc (by first | rfl | simp [Region.wanted]) (fun wx hx => ?_) S0 (fun hc S0 => ?_)
                · go_simp
                try simp only [List.getElem_toArray, List.getElem_cons_succ, List.getElem_cons_zero, Act.put, List.setIfInBounds_toArray, List.set_cons_zero, List.set_cons_succ]
                refine wpAnyS_take (i := 6) (v := .int .i64 r.index) rfl (by kernel_rfl) (by kernel_rfl) (by kernel_rfl) (fun _ _ _ h => h) (fun _ _ => HeldC.set_ (by decide) _ _) hc (by first | rfl | simp [Region.wanted]) (fun wx hx => ?_) S0 (fun hc S0 => ?_)
                · have y := (World.cell?_of_block (a := ⟨g, o + i * 7, none⟩) (hx.tee.block _ hgA hgne)).trans e0
                  go_simp
                try simp only [List.getElem_toArray, List.getElem_cons_succ, List.getElem_cons_zero, Act.put, List.setIfInBounds_toArray, List.set_cons_zero, List.set_cons_succ]
                obtain ⟨B, hB⟩ : ∃ B, B = A.drew := ⟨_, rfl⟩
                have hbB : Below A.heap.size A B := by rw [hB]; exact (Below.refl _ A).drew
                rw [← hB]
                clear S0 hB
                refine wpAnyS_one (i := 7) rfl (by kernel_rfl) (by rfl) hc (fun K' hK => ?_)
                go_simp
                obtain ⟨B1, hB1⟩ : ∃ Bz, Bz = B.alloc (.cells #[.int .i64 r.index] 3) := ⟨_, rfl⟩
                rw [← hB1]
                have hb1 : Below B.heap.size B B1 := by rw [hB1]; exact (Below.refl _ B).alloc (Nat.le_refl _) _
                have HN1 := hid (show ∀ (j : Nat) (u : Value), [Value.int .i64 r.index][j]? = some u → B1.cell? ((⟨B.heap.size, 0, none⟩ : Addr).add j) = some u by rw [hB1]; exact cell_one_new _ _ _)
                have hbA1 := Below.step hbB hb1
                refine hK.out _ _ ⟨.inr ((hbA1.cell (p := ⟨W5.heap.size + 1, 1, none⟩) hdz).trans dF), Tch.of_below hbA1 _⟩ (fun hc => ?_)
                clear hK K' hB1
                try simp only [List.getElem_toArray, List.getElem_cons_succ, List.getElem_cons_zero, Act.put, List.setIfInBounds_toArray, List.set_cons_zero, List.set_cons_succ]
                have hown1 := ownsRow_below HOWN.out hbA1
                refine wpAnyS_one (i := 8) rfl (by kernel_rfl) (by rfl) hc (fun K' hK => ?_)
                refine wp_append_join _ _ 26 rfl (W5.heap.size + 2) 3 i0 (.int .i64 0) 1 8 Tryz.underlying26 hi0 hz0 hz1 hz2 rfl (by decide) _ _ _ rfl hown1 (some ⟨B.heap.size, 0, none⟩) 1 1 [.int .i64 r.index] rfl rfl (fun h => by cases h) (fun b hb => by cases hb; exact HN1.out) (by simp [Value.oneCell']) (by unfold maxLen; omega) (by omega) (by have := hbA1.size; have := HZA.out; omega) ?_
                intro v' B2 ho2 hg2 hor2
                have hdb2 : B2.heap[W5.heap.size + 1]? = B1.heap[W5.heap.size + 1]? := hg2.block _ (by have := hbA1.size; omega) (fun e => hdne e.symm)
                have HD2 : Blk B2 (W5.heap.size + 1) 28 [.int .i64 (Al.cost w Al.zero), .slice la (Al.lefts q).length lc, .slice ra (Al.rights q).length rc, .string (bs (Al.form (Al.lefts q)))] := hdb2.trans (HDA.out.below hbA1)
                have f2 := HD2.frozen 1
                have d2 := HD2.cell (j := 1) rfl
                have z2 := HD2.lt
                refine hK.out _ _ ⟨.inr d2, (Tch.of_below hbA1 _).grown hg2 fun r e => .inl (.inl e)⟩ (fun hc => ?_)
                clear hK K'
                try simp only [List.getElem_toArray, List.getElem_cons_succ, List.getElem_cons_zero, Act.put, List.setIfInBounds_toArray, List.set_cons_zero, List.set_cons_succ]
                obtain ⟨va2, vc2, rfl⟩ := ownsRow_slice ho2
                refine wpAnyS_one (i := 9) rfl (by kernel_rfl) (by rfl) hc (fun K' hK => ?_)
                go_simp
                refine hK.out _ _ ⟨.inr d2, (Tch.of_below hbA1 _).grown hg2 fun r e => .inl (.inl e)⟩ (fun hc => ?_)
                clear hK K'
                try simp only [List.getElem_toArray, List.getElem_cons_succ, List.getElem_cons_zero, Act.put, List.setIfInBounds_toArray, List.set_cons_zero, List.set_cons_succ]
                refine wpAnyS_one (i := 10) rfl (by kernel_rfl) (by rfl) hc (fun K' hK => ?_)
                go_simp
                refine hK.out _ _ ⟨.inl rfl, ((Tch.of_below hbA1 _).grown hg2 fun r e => .inl (.inl e)).setCell (a := ⟨W5.heap.size + 1, 1, none⟩) (.inl (.inr rfl)) _⟩ (fun hc => ?_)
                clear hK K'
                try simp only [List.getElem_toArray, List.getElem_cons_succ, List.getElem_cons_zero, Act.put, List.setIfInBounds_toArray, List.set_cons_zero, List.set_cons_succ]
                refine wpAnyS_done (by kernel_rfl) ?_ _
                obtain ⟨B3, hB3⟩ : ∃ B3, B3 = B2.setCell ⟨W5.heap.size + 1, 1, none⟩ (.slice va2 ((Al.lefts q).length + 1) vc2) := ⟨_, rfl⟩
                rw [← hB3]
                have hg3 := set_grown_at B2 (W5.heap.size + 1) 1 (.slice va2 ((Al.lefts q).length + 1) vc2)
                rw [← hB3] at hg3
                have HD3 := hid (show Blk B3 (W5.heap.size + 1) 28 [.int .i64 (Al.cost w Al.zero), .slice va2 ((Al.lefts q).length + 1) vc2, .slice ra (Al.rights q).length rc, .string (bs (Al.form (Al.lefts q)))] by rw [hB3]; exact HD2.set 1 _)
                have HOW3 := hid (kept_at ho2 hg3 (by omega))
                have HOT3 := hid (kept_at ((ownsRow_below HIA.out.orv hbA1).kept hg2 (by
                  cases hv : (Value.slice ra (Al.rights q).length rc).ownBlock with
                  | none => exact .inl rfl
                  | some z => exact .inr (fun e => HI.out.two z e.symm hv))) hg3 (by omega))
                have HTW3 := hid (show ∀ z, (Value.slice va2 ((Al.lefts q).length + 1) vc2).ownBlock = some z → (Value.slice ra (Al.rights q).length rc).ownBlock ≠ some z from fun z hz e => by
                  rcases hor2 with h | h
                  · rw [h] at hz
                    exact HI.out.two z hz e
                  · rw [h] at hz
                    cases hz
                    have := (HIA.out.orv.lt _ e).2
                    have := hbA1.size
                    omega)
                have HST3 := hid (show Blk B3 W5.heap.size 66 [.int .i64 s.i, .int .i64 s.j, .string (bs s.ahead), .bool s.right, .int .i64 0] from (hg3.block _ (by have := hg2.size; have := hbA1.size; omega) (by simp)).trans ((hg2.block _ (by have := hbA1.size; omega) (fun e => by have := (HI.out.olv.lt _ e.symm).1; omega)).trans (HIA.out.st.below hbA1)))
                have HBL3 := hid (show Below W5.heap.size W5 B3 from by
                  rw [hB3]
                  exact ((((HIA.out.below.trans (hbA1.mono (by have := HZA.out; omega))).grown hg2 (by have := hbA1.size; have := HZA.out; omega) (fun r e => by have := (HI.out.olv.lt _ e).1; omega))).setCell (p := ⟨W5.heap.size + 1, 1, none⟩) (by simp) _))
                have HMV3 := hid (show RowOf B3 g o 7 mvC (Al.moves w s) from ((HRW.out.below hbA1).grown_ hg2 (fun e => hgne (.inl e))).grown_ hg3 (fun e => hgne (.inr (Option.some.inj e).symm)))
                clear hc S0 hB3 hg3 ho2 hg2 hor2 hdb2 HD2 f2 d2 z2 hown1 hb1 hbA1 hbB hA hgne hdne dF hdz
                obtain ⟨gr, og, rfl, hrr⟩ : ∃ g o, ar = some ⟨g, o, none⟩ ∧ RowOf A g o 4 ruleCells t.rules := by
                  obtain ⟨a', c', e, -, -, hr⟩ := HTR.out.below HBWA.out
                  cases e
                  exact hr (by have := (List.getElem?_eq_some_iff.1 HX0.out.1).1; omega)
                have hgrW : gr < W.heap.size := by
                  obtain ⟨a', c', e, -, -, hr⟩ := HTR.out
                  cases e
                  obtain ⟨g', o', e2, hr2⟩ := hr (by have := (List.getElem?_eq_some_iff.1 HX0.out.1).1; omega)
                  cases e2
                  exact hr2.1
                have hw5 : W.heap.size + 1 < W5.heap.size := HR5.out.lt
                have hcB : ∀ q j v, q < W5.heap.size → A.cell? ⟨q, j, none⟩ = some v → B3.cell? ⟨q, j, none⟩ = some v := fun q j v hq hv =>
                  ((HBL3.out.cell (p := ⟨q, j, none⟩) hq).trans (HIA.out.below.cell (p := ⟨q, j, none⟩) hq).symm).trans hv
                have t2 := hcB gr (og + r.index * 4 + 2) _ (by omega) (hrr.2 r.index x0 HX0.out.1 2 _ rfl)
                have t0 := hcB W.heap.size 0 _ (by omega) (HTA.out.cell (j := 0) rfl)
                rw [HX0.out.2] at t2
                have m0 := HMV3.out.2 i (r, s') HP.out 0 _ rfl
                rw [Nat.add_zero] at m0
                have d3 := HD3.out.cell (j := 3) rfl
                have hdz3 := HD3.out.lt
                have hgB := HMV3.out.1
                have hgd : ¬ g = W5.heap.size + 1 := by have := HI.out.d.lt; have := HGW.out; omega
                have hrd : ¬ gr = W5.heap.size + 1 := by omega
                have hWd : ¬ W.heap.size = W5.heap.size + 1 := by omega
                have hgrB : gr < B3.heap.size := by omega
                have hWB : W.heap.size < B3.heap.size := by omega
                have x0' : (0 : Int) ≤ (r.index : Int) := by omega
                have x1' : (r.index : Int) < (t.rules.length : Int) := by have := (List.getElem?_eq_some_iff.1 HX0.out.1).1; omega
                have hto : r.to_.length ≤ 1000 := (hf.sizes r (Al.one_rules (Al.mem_moves.1 HM.out.1).1)).2
                have hfl : (Al.form (Al.lefts q)).length ≤ 25000 := by have := HI.out.flen; omega
                have hzz : ¬ 9223372036854775807 < (bs (Al.form (Al.lefts q))).size + (bs r.to_).size := by rw [bs_len, bs_len]; omega
                have hcat : bs (Al.form (Al.lefts q)) ++ bs r.to_ = bs (Al.form (Al.lefts q) ++ r.to_) := by
                  refine bs_ext ?_
                  simp [bs]
                clear hcB hrr
                go_upto_region 18 with (fail)
                refine wp_heldS (S := HeldC 14 (fun X => X.cell? ⟨W5.heap.size + 1, 3, none⟩ = some (.string (bs (Al.form (Al.lefts q))))) (fun b => b = W5.heap.size + 1) B3) (by kernel_rfl) ?_
                simp only [List.size_toArray, List.length_cons, List.length_nil, Nat.reduceAdd]
                intro hc
                have S0 : HeldC 14 (fun X => X.cell? ⟨W5.heap.size + 1, 3, none⟩ = some (.string (bs (Al.form (Al.lefts q))))) (fun b => b = W5.heap.size + 1) B3 (Array.replicate 15 false) B3.drew := ⟨.inr d3, (Tch.refl _ B3).step (Below.refl _ _).drew⟩
                refine wpAnyS_take (i := 0) (v := .pointer (some ⟨W5.heap.size + 1, 3, none⟩)) rfl (by kernel_rfl) (by kernel_rfl) (by kernel_rfl) (fun _ _ _ h => h) (fun _ _ => HeldC.set_ (by decide) _ _) hc (by first | rfl | simp [Region.wanted]) (fun wx hx => ?_) S0 (fun hc S0 => ?_)
                · go_simp
                try simp only [List.getElem_toArray, List.getElem_cons_zero, Act.put, List.setIfInBounds_toArray, List.set_cons_zero, List.set_cons_succ]
                refine wpAnyS_take (i := 1) (v := .string (bs (Al.form (Al.lefts q)))) rfl (by kernel_rfl) (by kernel_rfl) (by kernel_rfl) (fun _ _ _ h => h) (fun _ _ => HeldC.set_ (by decide) _ _) hc (by first | rfl | simp [Region.wanted]) (fun wx hx => ?_) S0 (fun hc S0 => ?_)
                · have y := hx.cee (n := 16) (by kernel_rfl)
                  go_simp
                try simp only [List.getElem_toArray, List.getElem_cons_succ, List.getElem_cons_zero, Act.put, List.setIfInBounds_toArray, List.set_cons_zero, List.set_cons_succ]
                refine wpAnyS_take (i := 2) (v := .pointer (some ⟨W.heap.size, 0, none⟩)) rfl (by kernel_rfl) (by kernel_rfl) (by kernel_rfl) (fun _ _ _ h => h) (fun _ _ => HeldC.set_ (by decide) _ _) hc (by first | rfl | simp [Region.wanted]) (fun wx hx => ?_) S0 (fun hc S0 => ?_)
                · go_simp
                try simp only [List.getElem_toArray, List.getElem_cons_succ, List.getElem_cons_zero, Act.put, List.setIfInBounds_toArray, List.set_cons_zero, List.set_cons_succ]
                refine wpAnyS_take (i := 3) (v := .slice (some ⟨gr, og, none⟩) t.rules.length cr) rfl (by kernel_rfl) (by kernel_rfl) (by kernel_rfl) (fun _ _ _ h => h) (fun _ _ => HeldC.set_ (by decide) _ _) hc (by first | rfl | simp [Region.wanted]) (fun wx hx => ?_) S0 (fun hc S0 => ?_)
                · have y := (World.cell?_of_block (a := ⟨W.heap.size, 0, none⟩) (hx.tee.block _ hWB hWd)).trans t0
                  go_simp
                try simp only [List.getElem_toArray, List.getElem_cons_succ, List.getElem_cons_zero, Act.put, List.setIfInBounds_toArray, List.set_cons_zero, List.set_cons_succ]
                refine wpAnyS_take (i := 4) (v := .slice (some ⟨g, o, none⟩) n vc8) rfl (by kernel_rfl) (by kernel_rfl) (by kernel_rfl) (fun _ _ _ h => h) (fun _ _ => HeldC.set_ (by decide) _ _) hc (by first | rfl | simp [Region.wanted]) (fun wx hx => ?_) S0 (fun hc S0 => ?_)
                · go_simp
                try simp only [List.getElem_toArray, List.getElem_cons_succ, List.getElem_cons_zero, Act.put, List.setIfInBounds_toArray, List.set_cons_zero, List.set_cons_succ]
                refine wpAnyS_take (i := 5) (v := .int .i64 i) rfl (by kernel_rfl) (by kernel_rfl) (by kernel_rfl) (fun _ _ _ h => h) (fun _ _ => HeldC.set_ (by decide) _ _) hc (by first | rfl | simp [Region.wanted]) (fun wx hx => ?_) S0 (fun hc S0 => ?_)
                · go_simp
                try simp only [List.getElem_toArray, List.getElem_cons_succ, List.getElem_cons_zero, Act.put, List.setIfInBounds_toArray, List.set_cons_zero, List.set_cons_succ]
                refine wpAnyS_take (i := 6) (v := .pointer (some ⟨g, o + i * 7, none⟩)) rfl (by kernel_rfl) (by kernel_rfl) (by kernel_rfl) (fun _ _ _ h => h) (fun _ _ => HeldC.set_ (by decide) _ _) hc (by first | rfl | simp [Region.wanted]) (fun wx hx => ?_) S0 (fun hc S0 => ?_)
                · go_simp
                try simp only [List.getElem_toArray, List.getElem_cons_succ, List.getElem_cons_zero, Act.put, List.setIfInBounds_toArray, List.set_cons_zero, List.set_cons_succ]
                refine wpAnyS_take (i := 7) (v := .pointer (some ⟨g, o + i * 7, none⟩)) rfl (by kernel_rfl) (by kernel_rfl) (by kernel_rfl) (fun _ _ _ h => h) (fun _ _ => HeldC.set_ (by decide) _ _) hc (by first | rfl | simp [Region.wanted]) (fun wx hx => ?_) S0 (fun hc S0 => ?_)
                · go_simp
                try simp only [List.getElem_toArray, List.getElem_cons_succ, List.getElem_cons_zero, Act.put, List.setIfInBounds_toArray, List.set_cons_zero, List.set_cons_succ]
                refine wpAnyS_take (i := 8) (v := .int .i64 r.index) rfl (by kernel_rfl) (by kernel_rfl) (by kernel_rfl) (fun _ _ _ h => h) (fun _ _ => HeldC.set_ (by decide) _ _) hc (by first | rfl | simp [Region.wanted]) (fun wx hx => ?_) S0 (fun hc S0 => ?_)
                · have y := (World.cell?_of_block (a := ⟨g, o + i * 7, none⟩) (hx.tee.block _ hgB hgd)).trans m0
                  go_simp
                try simp only [List.getElem_toArray, List.getElem_cons_succ, List.getElem_cons_zero, Act.put, List.setIfInBounds_toArray, List.set_cons_zero, List.set_cons_succ]
                refine wpAnyS_take (i := 9) (v := .pointer (some ⟨gr, og + r.index * 4, none⟩)) rfl (by kernel_rfl) (by kernel_rfl) (by kernel_rfl) (fun _ _ _ h => h) (fun _ _ => HeldC.set_ (by decide) _ _) hc (by first | rfl | simp [Region.wanted]) (fun wx hx => ?_) S0 (fun hc S0 => ?_)
                · go_simp
                try simp only [List.getElem_toArray, List.getElem_cons_succ, List.getElem_cons_zero, Act.put, List.setIfInBounds_toArray, List.set_cons_zero, List.set_cons_succ]
                refine wpAnyS_take (i := 10) (v := .pointer (some ⟨gr, og + r.index * 4 + 2, none⟩)) rfl (by kernel_rfl) (by kernel_rfl) (by kernel_rfl) (fun _ _ _ h => h) (fun _ _ => HeldC.set_ (by decide) _ _) hc (by first | rfl | simp [Region.wanted]) (fun wx hx => ?_) S0 (fun hc S0 => ?_)
                · go_simp
                try simp only [List.getElem_toArray, List.getElem_cons_succ, List.getElem_cons_zero, Act.put, List.setIfInBounds_toArray, List.set_cons_zero, List.set_cons_succ]
                refine wpAnyS_take (i := 11) (v := .string (bs r.to_)) rfl (by kernel_rfl) (by kernel_rfl) (by kernel_rfl) (fun _ _ _ h => h) (fun _ _ => HeldC.set_ (by decide) _ _) hc (by first | rfl | simp [Region.wanted]) (fun wx hx => ?_) S0 (fun hc S0 => ?_)
                · have y := (World.cell?_of_block (a := ⟨gr, og + r.index * 4 + 2, none⟩) (hx.tee.block _ hgrB hrd)).trans t2
                  go_simp
                try simp only [List.getElem_toArray, List.getElem_cons_succ, List.getElem_cons_zero, Act.put, List.setIfInBounds_toArray, List.set_cons_zero, List.set_cons_succ]
                refine wpAnyS_take (i := 12) (v := .string (bs (Al.form (Al.lefts q) ++ r.to_))) rfl (by kernel_rfl) (by kernel_rfl) (by kernel_rfl) (fun _ _ _ h => h) (fun _ _ => HeldC.set_ (by decide) _ _) hc (by first | rfl | simp [Region.wanted]) (fun wx hx => ?_) S0 (fun hc S0 => ?_)
                · have y := hcat
                  go_simp
                try simp only [List.getElem_toArray, List.getElem_cons_succ, List.getElem_cons_zero, Act.put, List.setIfInBounds_toArray, List.set_cons_zero, List.set_cons_succ]
                refine wpAnyS_take (i := 13) (v := .pointer (some ⟨W5.heap.size + 1, 3, none⟩)) rfl (by kernel_rfl) (by kernel_rfl) (by kernel_rfl) (fun _ _ _ h => h) (fun _ _ => HeldC.set_ (by decide) _ _) hc (by first | rfl | simp [Region.wanted]) (fun wx hx => ?_) S0 (fun hc S0 => ?_)
                · go_simp
                try simp only [List.getElem_toArray, List.getElem_cons_succ, List.getElem_cons_zero, Act.put, List.setIfInBounds_toArray, List.set_cons_zero, List.set_cons_succ]
                obtain ⟨B4, hB4⟩ : ∃ B4, B4 = B3.drew := ⟨_, rfl⟩
                have hb4 : Below B3.heap.size B3 B4 := by rw [hB4]; exact (Below.refl _ B3).drew
                rw [← hB4]
                have HD4 := hid (HD3.out.below hb4)
                have f4 := HD4.out.frozen 3
                have d4 := HD4.out.cell (j := 3) rfl
                have z4 := HD4.out.lt
                clear S0 hB4
                refine wpAnyS_one (i := 14) rfl (by kernel_rfl) (by rfl) hc (fun K' hK => ?_)
                go_simp
                refine hK.out _ _ ⟨.inl rfl, (Tch.of_below hb4 (fun b => b = W5.heap.size + 1)).setCell (a := ⟨W5.heap.size + 1, 3, none⟩) (.inl rfl) _⟩ (fun hc => ?_)
                clear hK K'
                try simp only [List.getElem_toArray, List.getElem_cons_succ, List.getElem_cons_zero, Act.put, List.setIfInBounds_toArray, List.set_cons_zero, List.set_cons_succ]
                refine wpAnyS_done (by kernel_rfl) ?_ _
                obtain ⟨C, hC⟩ : ∃ C, C = B4.setCell ⟨W5.heap.size + 1, 3, none⟩ (.string (bs (Al.form (Al.lefts q) ++ r.to_))) := ⟨_, rfl⟩
                rw [← hC]
                have hgC := set_grown_at B4 (W5.heap.size + 1) 3 (.string (bs (Al.form (Al.lefts q) ++ r.to_)))
                rw [← hC] at hgC
                have HDC := hid (show Blk C (W5.heap.size + 1) 28 [.int .i64 (Al.cost w Al.zero), .slice va2 ((Al.lefts q).length + 1) vc2, .slice ra (Al.rights q).length rc, .string (bs (Al.form (Al.lefts q) ++ r.to_))] by rw [hC]; exact HD4.out.set 3 _)
                have HOWC := hid (kept_at (ownsRow_below HOW3.out hb4) hgC (by omega))
                have HOTC := hid (kept_at (ownsRow_below HOT3.out hb4) hgC (by omega))
                have HSTC := hid (show Blk C W5.heap.size 66 [.int .i64 s.i, .int .i64 s.j, .string (bs s.ahead), .bool s.right, .int .i64 0] by rw [hC]; exact (HST3.out.below hb4).other (by omega) _)
                have HBLC := hid (show Below W5.heap.size W5 C by rw [hC]; exact (HBL3.out.trans (hb4.mono (by omega))).setCell (p := ⟨W5.heap.size + 1, 3, none⟩) (by simp) _)
                have HMVC := hid ((HMV3.out.below hb4).grown_ hgC (fun e => hgd (Option.some.inj e).symm))
                clear hc hC hgC f4 d4 z4 hb4 t2 t0 m0 d3 hdz3 hgB hgd hrd hWd hgrB hWB hto hfl hzz hcat hgrW hw5
                have hm := HMVC.out.2 i (r, s') HP.out
                have m2 := hm 2 _ rfl
                have m3 := hm 3 _ rfl
                have m4 := hm 4 _ rfl
                have m5 := hm 5 _ rfl
                have m6 := hm 6 _ rfl
                have hgC := HMVC.out.1
                have hgs : ¬ g = W5.heap.size := by have := HI.out.d.lt; have := HGW.out; omega
                clear hm
                go_upto_region 20 with (fail)
                obtain ⟨D, hD⟩ : ∃ D, D = C := ⟨_, rfl⟩
                have hbD : Below C.heap.size C D := by rw [hD]; exact Below.refl _ C
                rw [← hD]
                rw [← hD] at m2 m3 m4 m5 m6 hgC
                have HSD := hid (HSTC.out.below hbD)
                have p0 := HSD.out.cell (j := 0) rfl
                have p1 := HSD.out.cell (j := 1) rfl
                have p2 := HSD.out.cell (j := 2) rfl
                have p3 := HSD.out.cell (j := 3) rfl
                have p4 := HSD.out.cell (j := 4) rfl
                have f0 := HSD.out.frozen 0
                have f1 := HSD.out.frozen 1
                have f2 := HSD.out.frozen 2
                have f3 := HSD.out.frozen 3
                have f4 := HSD.out.frozen 4
                have zD := HSD.out.lt
                obtain ⟨E, hE⟩ : ∃ E, E = ((((D.setCell ⟨W5.heap.size, 0, none⟩ (.int .i64 s'.i)).setCell ⟨W5.heap.size, 1, none⟩ (.int .i64 s'.j)).setCell ⟨W5.heap.size, 2, none⟩ (.string (bs s'.ahead))).setCell ⟨W5.heap.size, 3, none⟩ (.bool s'.right)).setCell ⟨W5.heap.size, 4, none⟩ (.int .i64 0) := ⟨_, rfl⟩
                have HRB := hid (show RB w K W5 N k' s' (q ++ [(true, r)]) (.slice va2 ((Al.lefts q).length + 1) vc2) (.slice ra (Al.rights q).length rc) E from by
                  have keep : ∀ {v : Value} {n : Nat} {xs : List Value}, C.ownsRow (W5.heap.size + 2) 3 1 v n xs → E.ownsRow (W5.heap.size + 2) 3 1 v n xs := fun h => by
                    rw [hE]
                    exact kept_at (kept_at (kept_at (kept_at (kept_at (ownsRow_below h hbD) (set_grown_at _ _ 0 _) (by omega)) (set_grown_at _ _ 1 _) (by omega)) (set_grown_at _ _ 2 _) (by omega)) (set_grown_at _ _ 3 _) (by omega)) (set_grown_at _ _ 4 _) (by omega)
                  obtain ⟨hla, hra⟩ := Al.lefts_add q r
                  refine ⟨?_, ?_, ?_, ?_, HTW3.out, ?_, ?_, ?_, ?_, HM.out.2.2.2.2.2, HM.out.2.2.2.2.1, HCH.out, ?_⟩
                  · rw [hE]; exact ((((HSD.out.set 0 _).set 1 _).set 2 _).set 3 _).set 4 _
                  · rw [hE, hla]
                    rw [Al.form_add]
                    exact (((((HDC.out.below hbD).other (by omega) _).other (by omega) _).other (by omega) _).other (by omega) _).other (by omega) _
                  · rw [hla]
                    exact keep (by rw [intsV_add, List.length_append]; exact HOWC.out)
                  · rw [hra]
                    exact keep (HOTC.out)
                  · rw [HI.out.path, HPN.out, HLT.out, List.append_assoc]; rfl
                  · have := HM.out.2.2.1; have := HI.out.meas; have := HKE.out; omega
                  · rw [List.length_append, List.length_singleton]; have := HI.out.len; have := HKE.out; omega
                  · rw [hla, List.length_append, List.length_singleton]
                    have := HI.out.flen
                    rw [Al.form_add, List.length_append]; have : r.to_.length ≤ 1000 := (hf.sizes r (Al.one_rules (Al.mem_moves.1 HM.out.1).1)).2; omega
                  · rw [hE]
                    exact (((((HBLC.out.trans (hbD.mono (Nat.le_of_lt HSTC.out.lt))).setCell (p := ⟨W5.heap.size, 0, none⟩) (Nat.le_refl _) _).setCell (p := ⟨W5.heap.size, 1, none⟩) (Nat.le_refl _) _).setCell (p := ⟨W5.heap.size, 2, none⟩) (Nat.le_refl _) _).setCell (p := ⟨W5.heap.size, 3, none⟩) (Nat.le_refl _) _).setCell (p := ⟨W5.heap.size, 4, none⟩) (Nat.le_refl _) _)
                have HSL := hid (show stLeft w W5.heap.size E < stLeft w W5.heap.size wr by
                  rw [stLeft_blk HRB.out.st, stLeft_blk HI.out.st]
                  have := HM.out.2.2.1
                  unfold Al.meas at this
                  exact this)
                clear hD hbD
                go_wp2_with fail
                rw [← hE]
                clear hE p0 p1 p2 p3 p4 f0 f1 f2 f3 f4 zD m2 m3 m4 m5 m6 hgC hgs
                go_roundw
                case rel => exact ⟨k', s', _, _, _, HRB⟩
                case measure => exact HSL.out
              | false =>
                have hl1 : ¬ (s.i : Int) < (s'.i : Int) := by have := of_decide_eq_false hlt2; omega
                have hl2 := hlt2
                have HLT := hid hlt2
                clear hlt2
                go_upto_region 16 with (fail)
                obtain ⟨wy, hwy⟩ : ∃ wy, wy = wx.drew := ⟨_, rfl⟩
                have hbY : Below wx.heap.size wx wy := by rw [hwy]; exact (Below.refl _ wx).drew
                rw [← hwy]
                have e2 := (hbY.cell (p := ⟨g, o + i * 7 + 2, none⟩) hg).trans e2
                have q0 := (hbY.cell (p := ⟨W5.heap.size, 0, none⟩) zq).trans q0
                have hgY := Nat.lt_of_lt_of_le hg hbY.size
                have zqY := Nat.lt_of_lt_of_le zq hbY.size
                refine wp_heldS (S := StillAt wy) (by kernel_rfl) ?_
                simp only [List.size_toArray, List.length_cons, List.length_nil, Nat.reduceAdd]
                intro hc
                have S0 : StillAt wy (Array.replicate 9 false) wy.drew := (Below.refl _ _).drew
                refine wpAnyS_take (i := 0) (v := .slice (some ⟨g, o, none⟩) n vc8) rfl (by kernel_rfl) (by kernel_rfl) (by kernel_rfl) (fun _ _ _ h => h) (fun _ _ => Iff.rfl) hc (by first | rfl | simp [Region.wanted]) (fun wx hx => ?_) S0 (fun hc S0 => ?_)
                · go_simp
                try simp only [List.getElem_toArray, List.getElem_cons_zero, Act.put, List.setIfInBounds_toArray, List.set_cons_zero, List.set_cons_succ]
                refine wpAnyS_take (i := 1) (v := .int .i64 i) rfl (by kernel_rfl) (by kernel_rfl) (by kernel_rfl) (fun _ _ _ h => h) (fun _ _ => Iff.rfl) hc (by first | rfl | simp [Region.wanted]) (fun wx hx => ?_) S0 (fun hc S0 => ?_)
                · go_simp
                try simp only [List.getElem_toArray, List.getElem_cons_succ, List.getElem_cons_zero, Act.put, List.setIfInBounds_toArray, List.set_cons_zero, List.set_cons_succ]
                refine wpAnyS_take (i := 2) (v := .pointer (some ⟨g, o + i * 7, none⟩)) rfl (by kernel_rfl) (by kernel_rfl) (by kernel_rfl) (fun _ _ _ h => h) (fun _ _ => Iff.rfl) hc (by first | rfl | simp [Region.wanted]) (fun wx hx => ?_) S0 (fun hc S0 => ?_)
                · go_simp
                try simp only [List.getElem_toArray, List.getElem_cons_succ, List.getElem_cons_zero, Act.put, List.setIfInBounds_toArray, List.set_cons_zero, List.set_cons_succ]
                refine wpAnyS_take (i := 3) (v := .pointer (some ⟨g, o + i * 7 + 2, none⟩)) rfl (by kernel_rfl) (by kernel_rfl) (by kernel_rfl) (fun _ _ _ h => h) (fun _ _ => Iff.rfl) hc (by first | rfl | simp [Region.wanted]) (fun wx hx => ?_) S0 (fun hc S0 => ?_)
                · go_simp
                try simp only [List.getElem_toArray, List.getElem_cons_succ, List.getElem_cons_zero, Act.put, List.setIfInBounds_toArray, List.set_cons_zero, List.set_cons_succ]
                refine wpAnyS_take (i := 4) (v := .pointer (some ⟨g, o + i * 7 + 2, none⟩)) rfl (by kernel_rfl) (by kernel_rfl) (by kernel_rfl) (fun _ _ _ h => h) (fun _ _ => Iff.rfl) hc (by first | rfl | simp [Region.wanted]) (fun wx hx => ?_) S0 (fun hc S0 => ?_)
                · go_simp
                try simp only [List.getElem_toArray, List.getElem_cons_succ, List.getElem_cons_zero, Act.put, List.setIfInBounds_toArray, List.set_cons_zero, List.set_cons_succ]
                refine wpAnyS_take (i := 5) (v := .int .i64 s'.i) rfl (by kernel_rfl) (by kernel_rfl) (by kernel_rfl) (fun _ _ _ h => h) (fun _ _ => Iff.rfl) hc (by first | rfl | simp [Region.wanted]) (fun wx hx => ?_) S0 (fun hc S0 => ?_)
                · have y := (hx.still.cell (p := ⟨g, o + i * 7 + 2, none⟩) hgY).trans e2
                  go_simp
                try simp only [List.getElem_toArray, List.getElem_cons_succ, List.getElem_cons_zero, Act.put, List.setIfInBounds_toArray, List.set_cons_zero, List.set_cons_succ]
                refine wpAnyS_take (i := 6) (v := .pointer (some ⟨W5.heap.size, 0, none⟩)) rfl (by kernel_rfl) (by kernel_rfl) (by kernel_rfl) (fun _ _ _ h => h) (fun _ _ => Iff.rfl) hc (by first | rfl | simp [Region.wanted]) (fun wx hx => ?_) S0 (fun hc S0 => ?_)
                · go_simp
                try simp only [List.getElem_toArray, List.getElem_cons_succ, List.getElem_cons_zero, Act.put, List.setIfInBounds_toArray, List.set_cons_zero, List.set_cons_succ]
                refine wpAnyS_take (i := 7) (v := .int .i64 s.i) rfl (by kernel_rfl) (by kernel_rfl) (by kernel_rfl) (fun _ _ _ h => h) (fun _ _ => Iff.rfl) hc (by first | rfl | simp [Region.wanted]) (fun wx hx => ?_) S0 (fun hc S0 => ?_)
                · have y := (hx.still.cell (p := ⟨W5.heap.size, 0, none⟩) zqY).trans q0
                  go_simp
                try simp only [List.getElem_toArray, List.getElem_cons_succ, List.getElem_cons_zero, Act.put, List.setIfInBounds_toArray, List.set_cons_zero, List.set_cons_succ]
                refine wpAnyS_take (i := 8) (v := .bool false) rfl (by kernel_rfl) (by kernel_rfl) (by kernel_rfl) (fun _ _ _ h => h) (fun _ _ => Iff.rfl) hc (by first | rfl | simp [Region.wanted]) (fun wx hx => ?_) S0 (fun hc S0 => ?_)
                · go_simp
                try simp only [List.getElem_toArray, List.getElem_cons_succ, List.getElem_cons_zero, Act.put, List.setIfInBounds_toArray, List.set_cons_zero, List.set_cons_succ]
                refine wpAnyS_done (by kernel_rfl) ?_ _
                clear hc S0
                obtain ⟨A, hA⟩ : ∃ A, A = wy.drew := ⟨_, rfl⟩
                have hbA : Below wx.heap.size wx A := by rw [hA]; exact hbY.drew
                have HIA := hid (HIX.out.on hbA)
                have HRW := hid (HRW0.out.below hbA)
                have e0 := (hbA.cell (p := ⟨g, o + i * 7, none⟩) hg).trans e0
                have hgA := Nat.lt_of_lt_of_le hg hbA.size
                have HZA := hid (show W5.heap.size + 2 ≤ A.heap.size from HIA.out.d.lt)
                have HBWA := hid (Below.step (Below.step HB5.out HI.out.below) (Below.step (Below.step HB8.out HBX.out) hbA))
                have HTA := hid ((HTr.out.below (Below.step HB8.out HBX.out)).below hbA)
                clear hbY hbA hwy e2 q0 q1 q2 q3 q4 zq zqY hgY hg
                have HDA := hid (HIA.out.d)
                have dF := HDA.out.cell (j := 2) rfl
                have hdz := HDA.out.lt
                have hlen : (Al.rights q).length ≤ 25 := Nat.le_trans (Al.rights_len q) hq25
                have HOWN := hid (HIA.out.orv)
                have hgne : ¬ ((Value.slice ra (Al.rights q).length rc).ownBlock = some g ∨ g = W5.heap.size + 1) := by
                  rintro (e | e)
                  · have := (HI.out.orv.lt g e).2
                    have := HGW.out
                    omega
                  · have := HI.out.d.lt
                    have := HGW.out
                    omega
                have hdne : ¬ ((Value.slice ra (Al.rights q).length rc).ownBlock = some (W5.heap.size + 1)) := fun e => by
                  have := (HI.out.orv.lt _ e).1
                  omega
                go_upto_region 19 with (fail)
                rw [← hA]
                refine wp_heldS (S := HeldC 10 (fun X => X.cell? ⟨W5.heap.size + 1, 2, none⟩ = some (.slice ra (Al.rights q).length rc)) (fun b => (Value.slice ra (Al.rights q).length rc).ownBlock = some b ∨ b = W5.heap.size + 1) A) (by kernel_rfl) ?_
                simp only [List.size_toArray, List.length_cons, List.length_nil, Nat.reduceAdd]
                intro hc
                have S0 : HeldC 10 (fun X => X.cell? ⟨W5.heap.size + 1, 2, none⟩ = some (.slice ra (Al.rights q).length rc)) (fun b => (Value.slice ra (Al.rights q).length rc).ownBlock = some b ∨ b = W5.heap.size + 1) A (Array.replicate 11 false) A.drew := ⟨.inr dF, (Tch.refl _ A).step (Below.refl _ _).drew⟩
                refine wpAnyS_take (i := 0) (v := .pointer (some ⟨W5.heap.size + 1, 2, none⟩)) rfl (by kernel_rfl) (by kernel_rfl) (by kernel_rfl) (fun _ _ _ h => h) (fun _ _ => HeldC.set_ (by decide) _ _) hc (by first | rfl | simp [Region.wanted]) (fun wx hx => ?_) S0 (fun hc S0 => ?_)
                · go_simp
                try simp only [List.getElem_toArray, List.getElem_cons_zero, Act.put, List.setIfInBounds_toArray, List.set_cons_zero, List.set_cons_succ]
                refine wpAnyS_take (i := 1) (v := .slice ra (Al.rights q).length rc) rfl (by kernel_rfl) (by kernel_rfl) (by kernel_rfl) (fun _ _ _ h => h) (fun _ _ => HeldC.set_ (by decide) _ _) hc (by first | rfl | simp [Region.wanted]) (fun wx hx => ?_) S0 (fun hc S0 => ?_)
                · have y := hx.cee (n := 12) (by kernel_rfl)
                  go_simp
                try simp only [List.getElem_toArray, List.getElem_cons_succ, List.getElem_cons_zero, Act.put, List.setIfInBounds_toArray, List.set_cons_zero, List.set_cons_succ]
                refine wpAnyS_take (i := 2) (v := .slice (some ⟨g, o, none⟩) n vc8) rfl (by kernel_rfl) (by kernel_rfl) (by kernel_rfl) (fun _ _ _ h => h) (fun _ _ => HeldC.set_ (by decide) _ _) hc (by first | rfl | simp [Region.wanted]) (fun wx hx => ?_) S0 (fun hc S0 => ?_)
                · go_simp
                try simp only [List.getElem_toArray, List.getElem_cons_succ, List.getElem_cons_zero, Act.put, List.setIfInBounds_toArray, List.set_cons_zero, List.set_cons_succ]
                refine wpAnyS_take (i := 3) (v := .int .i64 i) rfl (by kernel_rfl) (by kernel_rfl) (by kernel_rfl) (fun _ _ _ h => h) (fun _ _ => HeldC.set_ (by decide) _ _) hc (by first | rfl | simp [Region.wanted]) (fun wx hx => ?_) S0 (fun hc S0 => ?_)
                · go_simp
                try simp only [List.getElem_toArray, List.getElem_cons_succ, List.getElem_cons_zero, Act.put, List.setIfInBounds_toArray, List.set_cons_zero, List.set_cons_succ]
                refine wpAnyS_take (i := 4) (v := .pointer (some ⟨g, o + i * 7, none⟩)) rfl (by kernel_rfl) (by kernel_rfl) (by kernel_rfl) (fun _ _ _ h => h) (fun _ _ => HeldC.set_ (by decide) _ _) hc (by first | rfl | simp [Region.wanted]) (fun wx hx => ?_) S0 (fun hc S0 => ?_)
                · go_simp
                try simp only [List.getElem_toArray, List.getElem_cons_succ, List.getElem_cons_zero, Act.put, List.setIfInBounds_toArray, List.set_cons_zero, List.set_cons_succ]
                refine wpAnyS_take (i := 5) (v := .pointer (some ⟨g, o + i * 7, none⟩)) rfl (by kernel_rfl) (by kernel_rfl) (by kernel_rfl) (fun _ _ _ h => h) (fun _ _ => HeldC.set_ (by decide) _ _) hc (by first | rfl | simp [Region.wanted]) (fun wx hx => ?_) S0 (fun hc S0 => ?_)
                · go_simp
                try simp only [List.getElem_toArray, List.getElem_cons_succ, List.getElem_cons_zero, Act.put, List.setIfInBounds_toArray, List.set_cons_zero, List.set_cons_succ]
                refine wpAnyS_take (i := 6) (v := .int .i64 r.index) rfl (by kernel_rfl) (by kernel_rfl) (by kernel_rfl) (fun _ _ _ h => h) (fun _ _ => HeldC.set_ (by decide) _ _) hc (by first | rfl | simp [Region.wanted]) (fun wx hx => ?_) S0 (fun hc S0 => ?_)
                · have y := (World.cell?_of_block (a := ⟨g, o + i * 7, none⟩) (hx.tee.block _ hgA hgne)).trans e0
                  go_simp
                try simp only [List.getElem_toArray, List.getElem_cons_succ, List.getElem_cons_zero, Act.put, List.setIfInBounds_toArray, List.set_cons_zero, List.set_cons_succ]
                obtain ⟨B, hB⟩ : ∃ B, B = A.drew := ⟨_, rfl⟩
                have hbB : Below A.heap.size A B := by rw [hB]; exact (Below.refl _ A).drew
                rw [← hB]
                clear S0 hB
                refine wpAnyS_one (i := 7) rfl (by kernel_rfl) (by rfl) hc (fun K' hK => ?_)
                go_simp
                obtain ⟨B1, hB1⟩ : ∃ Bz, Bz = B.alloc (.cells #[.int .i64 r.index] 3) := ⟨_, rfl⟩
                rw [← hB1]
                have hb1 : Below B.heap.size B B1 := by rw [hB1]; exact (Below.refl _ B).alloc (Nat.le_refl _) _
                have HN1 := hid (show ∀ (j : Nat) (u : Value), [Value.int .i64 r.index][j]? = some u → B1.cell? ((⟨B.heap.size, 0, none⟩ : Addr).add j) = some u by rw [hB1]; exact cell_one_new _ _ _)
                have hbA1 := Below.step hbB hb1
                refine hK.out _ _ ⟨.inr ((hbA1.cell (p := ⟨W5.heap.size + 1, 2, none⟩) hdz).trans dF), Tch.of_below hbA1 _⟩ (fun hc => ?_)
                clear hK K' hB1
                try simp only [List.getElem_toArray, List.getElem_cons_succ, List.getElem_cons_zero, Act.put, List.setIfInBounds_toArray, List.set_cons_zero, List.set_cons_succ]
                have hown1 := ownsRow_below HOWN.out hbA1
                refine wpAnyS_one (i := 8) rfl (by kernel_rfl) (by rfl) hc (fun K' hK => ?_)
                refine wp_append_join _ _ 26 rfl (W5.heap.size + 2) 3 i0 (.int .i64 0) 1 8 Tryz.underlying26 hi0 hz0 hz1 hz2 rfl (by decide) _ _ _ rfl hown1 (some ⟨B.heap.size, 0, none⟩) 1 1 [.int .i64 r.index] rfl rfl (fun h => by cases h) (fun b hb => by cases hb; exact HN1.out) (by simp [Value.oneCell']) (by unfold maxLen; omega) (by omega) (by have := hbA1.size; have := HZA.out; omega) ?_
                intro v' B2 ho2 hg2 hor2
                have hdb2 : B2.heap[W5.heap.size + 1]? = B1.heap[W5.heap.size + 1]? := hg2.block _ (by have := hbA1.size; omega) (fun e => hdne e.symm)
                have HD2 : Blk B2 (W5.heap.size + 1) 28 [.int .i64 (Al.cost w Al.zero), .slice la (Al.lefts q).length lc, .slice ra (Al.rights q).length rc, .string (bs (Al.form (Al.lefts q)))] := hdb2.trans (HDA.out.below hbA1)
                have f2 := HD2.frozen 2
                have d2 := HD2.cell (j := 2) rfl
                have z2 := HD2.lt
                refine hK.out _ _ ⟨.inr d2, (Tch.of_below hbA1 _).grown hg2 fun r e => .inl (.inl e)⟩ (fun hc => ?_)
                clear hK K'
                try simp only [List.getElem_toArray, List.getElem_cons_succ, List.getElem_cons_zero, Act.put, List.setIfInBounds_toArray, List.set_cons_zero, List.set_cons_succ]
                obtain ⟨va2, vc2, rfl⟩ := ownsRow_slice ho2
                refine wpAnyS_one (i := 9) rfl (by kernel_rfl) (by rfl) hc (fun K' hK => ?_)
                go_simp
                refine hK.out _ _ ⟨.inr d2, (Tch.of_below hbA1 _).grown hg2 fun r e => .inl (.inl e)⟩ (fun hc => ?_)
                clear hK K'
                try simp only [List.getElem_toArray, List.getElem_cons_succ, List.getElem_cons_zero, Act.put, List.setIfInBounds_toArray, List.set_cons_zero, List.set_cons_succ]
                refine wpAnyS_one (i := 10) rfl (by kernel_rfl) (by rfl) hc (fun K' hK => ?_)
                go_simp
                refine hK.out _ _ ⟨.inl rfl, ((Tch.of_below hbA1 _).grown hg2 fun r e => .inl (.inl e)).setCell (a := ⟨W5.heap.size + 1, 2, none⟩) (.inl (.inr rfl)) _⟩ (fun hc => ?_)
                clear hK K'
                try simp only [List.getElem_toArray, List.getElem_cons_succ, List.getElem_cons_zero, Act.put, List.setIfInBounds_toArray, List.set_cons_zero, List.set_cons_succ]
                refine wpAnyS_done (by kernel_rfl) ?_ _
                obtain ⟨B3, hB3⟩ : ∃ B3, B3 = B2.setCell ⟨W5.heap.size + 1, 2, none⟩ (.slice va2 ((Al.rights q).length + 1) vc2) := ⟨_, rfl⟩
                rw [← hB3]
                have hg3 := set_grown_at B2 (W5.heap.size + 1) 2 (.slice va2 ((Al.rights q).length + 1) vc2)
                rw [← hB3] at hg3
                have HD3 := hid (show Blk B3 (W5.heap.size + 1) 28 [.int .i64 (Al.cost w Al.zero), .slice la (Al.lefts q).length lc, .slice va2 ((Al.rights q).length + 1) vc2, .string (bs (Al.form (Al.lefts q)))] by rw [hB3]; exact HD2.set 2 _)
                have HOW3 := hid (kept_at ho2 hg3 (by omega))
                have HOT3 := hid (kept_at ((ownsRow_below HIA.out.olv hbA1).kept hg2 (by
                  cases hv : (Value.slice la (Al.lefts q).length lc).ownBlock with
                  | none => exact .inl rfl
                  | some z => exact .inr (fun e => HI.out.two z hv e.symm))) hg3 (by omega))
                have HTW3 := hid (show ∀ z, (Value.slice va2 ((Al.rights q).length + 1) vc2).ownBlock = some z → (Value.slice la (Al.lefts q).length lc).ownBlock ≠ some z from fun z hz e => by
                  rcases hor2 with h | h
                  · rw [h] at hz
                    exact HI.out.two z e hz
                  · rw [h] at hz
                    cases hz
                    have := (HIA.out.olv.lt _ e).2
                    have := hbA1.size
                    omega)
                have HST3 := hid (show Blk B3 W5.heap.size 66 [.int .i64 s.i, .int .i64 s.j, .string (bs s.ahead), .bool s.right, .int .i64 0] from (hg3.block _ (by have := hg2.size; have := hbA1.size; omega) (by simp)).trans ((hg2.block _ (by have := hbA1.size; omega) (fun e => by have := (HI.out.orv.lt _ e.symm).1; omega)).trans (HIA.out.st.below hbA1)))
                have HBL3 := hid (show Below W5.heap.size W5 B3 from by
                  rw [hB3]
                  exact ((((HIA.out.below.trans (hbA1.mono (by have := HZA.out; omega))).grown hg2 (by have := hbA1.size; have := HZA.out; omega) (fun r e => by have := (HI.out.orv.lt _ e).1; omega))).setCell (p := ⟨W5.heap.size + 1, 2, none⟩) (by simp) _))
                have HMV3 := hid (show RowOf B3 g o 7 mvC (Al.moves w s) from ((HRW.out.below hbA1).grown_ hg2 (fun e => hgne (.inl e))).grown_ hg3 (fun e => hgne (.inr (Option.some.inj e).symm)))
                clear hc S0 hB3 hg3 ho2 hg2 hor2 hdb2 HD2 f2 d2 z2 hown1 hb1 hbA1 hbB hA hgne hdne dF hdz
                obtain ⟨C, hC⟩ : ∃ C, C = B3 := ⟨_, rfl⟩
                rw [← hC]
                rw [← hC] at HD3 HOW3 HOT3 HST3 HBL3 HMV3
                have HDC := HD3
                have HOWC := HOW3
                have HOTC := HOT3
                have HSTC := HST3
                have HBLC := HBL3
                have HMVC := HMV3
                clear hC
                have hm := HMVC.out.2 i (r, s') HP.out
                have m2 := hm 2 _ rfl
                have m3 := hm 3 _ rfl
                have m4 := hm 4 _ rfl
                have m5 := hm 5 _ rfl
                have m6 := hm 6 _ rfl
                have hgC := HMVC.out.1
                have hgs : ¬ g = W5.heap.size := by have := HI.out.d.lt; have := HGW.out; omega
                clear hm
                go_upto_region 20 with (fail)
                obtain ⟨D, hD⟩ : ∃ D, D = C := ⟨_, rfl⟩
                have hbD : Below C.heap.size C D := by rw [hD]; exact Below.refl _ C
                rw [← hD]
                rw [← hD] at m2 m3 m4 m5 m6 hgC
                have HSD := hid (HSTC.out.below hbD)
                have p0 := HSD.out.cell (j := 0) rfl
                have p1 := HSD.out.cell (j := 1) rfl
                have p2 := HSD.out.cell (j := 2) rfl
                have p3 := HSD.out.cell (j := 3) rfl
                have p4 := HSD.out.cell (j := 4) rfl
                have f0 := HSD.out.frozen 0
                have f1 := HSD.out.frozen 1
                have f2 := HSD.out.frozen 2
                have f3 := HSD.out.frozen 3
                have f4 := HSD.out.frozen 4
                have zD := HSD.out.lt
                obtain ⟨E, hE⟩ : ∃ E, E = ((((D.setCell ⟨W5.heap.size, 0, none⟩ (.int .i64 s'.i)).setCell ⟨W5.heap.size, 1, none⟩ (.int .i64 s'.j)).setCell ⟨W5.heap.size, 2, none⟩ (.string (bs s'.ahead))).setCell ⟨W5.heap.size, 3, none⟩ (.bool s'.right)).setCell ⟨W5.heap.size, 4, none⟩ (.int .i64 0) := ⟨_, rfl⟩
                have HRB := hid (show RB w K W5 N k' s' (q ++ [(false, r)]) (.slice la (Al.lefts q).length lc) (.slice va2 ((Al.rights q).length + 1) vc2) E from by
                  have keep : ∀ {v : Value} {n : Nat} {xs : List Value}, C.ownsRow (W5.heap.size + 2) 3 1 v n xs → E.ownsRow (W5.heap.size + 2) 3 1 v n xs := fun h => by
                    rw [hE]
                    exact kept_at (kept_at (kept_at (kept_at (kept_at (ownsRow_below h hbD) (set_grown_at _ _ 0 _) (by omega)) (set_grown_at _ _ 1 _) (by omega)) (set_grown_at _ _ 2 _) (by omega)) (set_grown_at _ _ 3 _) (by omega)) (set_grown_at _ _ 4 _) (by omega)
                  obtain ⟨hla, hra⟩ := Al.rights_add q r
                  refine ⟨?_, ?_, ?_, ?_, (fun z h1 h2 => HTW3.out z h2 h1), ?_, ?_, ?_, ?_, HM.out.2.2.2.2.2, HM.out.2.2.2.2.1, HCH.out, ?_⟩
                  · rw [hE]; exact ((((HSD.out.set 0 _).set 1 _).set 2 _).set 3 _).set 4 _
                  · rw [hE, hla]
                    skip
                    exact (((((HDC.out.below hbD).other (by omega) _).other (by omega) _).other (by omega) _).other (by omega) _).other (by omega) _
                  · rw [hla]
                    exact keep (HOTC.out)
                  · rw [hra]
                    exact keep (by rw [intsV_add, List.length_append]; exact HOWC.out)
                  · rw [HI.out.path, HPN.out, HLT.out, List.append_assoc]; rfl
                  · have := HM.out.2.2.1; have := HI.out.meas; have := HKE.out; omega
                  · rw [List.length_append, List.length_singleton]; have := HI.out.len; have := HKE.out; omega
                  · rw [hla, List.length_append, List.length_singleton]
                    have := HI.out.flen
                    omega
                  · rw [hE]
                    exact (((((HBLC.out.trans (hbD.mono (Nat.le_of_lt HSTC.out.lt))).setCell (p := ⟨W5.heap.size, 0, none⟩) (Nat.le_refl _) _).setCell (p := ⟨W5.heap.size, 1, none⟩) (Nat.le_refl _) _).setCell (p := ⟨W5.heap.size, 2, none⟩) (Nat.le_refl _) _).setCell (p := ⟨W5.heap.size, 3, none⟩) (Nat.le_refl _) _).setCell (p := ⟨W5.heap.size, 4, none⟩) (Nat.le_refl _) _)
                have HSL := hid (show stLeft w W5.heap.size E < stLeft w W5.heap.size wr by
                  rw [stLeft_blk HRB.out.st, stLeft_blk HI.out.st]
                  have := HM.out.2.2.1
                  unfold Al.meas at this
                  exact this)
                clear hD hbD
                go_wp2_with fail
                rw [← hE]
                clear hE p0 p1 p2 p3 p4 f0 f1 f2 f3 f4 zD m2 m3 m4 m5 m6 hgC hgs
                go_roundw
                case rel => exact ⟨k', s', _, _, _, HRB⟩
                case measure => exact HSL.out

end Go.Proofs.YthibphklchalkaaGreatDoor
