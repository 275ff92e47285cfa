/-
  Several texts in one: ZLiK, ZLiT1, ZLiT2, ZLiPa, ZLiPc. Conditions: as each law says.
-/
import Derived.Test.YtidkmhokolknbaaGreatDoorZMLiA
import Derived.Test.YtidkmhokolknbaaGreatDoorZMLiP
import Derived.Test.YtidkmhokolknbaaGreatDoorZFaLib
import Derived.Test.YtidkmhokolknbaaGreatDoorZMLiB
import Derived.Test.YtidkmhokolknbaaGreatDoorZFlat
import Derived.OwnWalk
import Derived.Test.YtidkmhokolknbaaGreatDoorZShelf
import Derived.Lib.CutLaws
import Derived.BigQuiet
import Derived.Test.YtidkmhokolknbaaGreatDoorZMBase
namespace Go.Proofs.YtidkmhokolknbaaGreatDoor
open Go.RowKit Go.Lib Go.Maps

/-- the words of the kinds -/
def kindsL : List (List UInt8) := [[], Li.wAdd, Li.wRemove, Li.wCorrect, Li.wVoid]
def titlesL : List (List UInt8) := [[], Li.tPlain, Li.tCased, Li.tAbjad, Li.tSyllab]
def KindsP (w : World) (e : Ending) (w' : World) : Prop :=
  e = .returned (.slice (some ⟨w.heap.size, 0, none⟩) 5 5) ∧ w' = w.alloc (.cells #[.string ⟨#[]⟩, .string ⟨#[97, 100, 100]⟩, .string ⟨#[114, 101, 109, 111, 118, 101]⟩, .string ⟨#[99, 111, 114, 114, 101, 99, 116]⟩, .string ⟨#[118, 111, 105, 100]⟩] 9)

set_option maxRecDepth 100000 in
theorem kinds_any (w : World) : Calls Tryz.prog 42 #[] w (KindsP w) := by
  go_enter Tryz.func42, Tryz.ntmps42
  go_wp2
  go_ret
  exact ⟨rfl, rfl⟩

set_option maxRecDepth 100000 in
theorem titles_any (w : World) : Calls Tryz.prog 65 #[] w (Gives (.agg #[.string ⟨#[]⟩, .string ⟨#[112, 108, 97, 105, 110]⟩, .string ⟨#[99, 97, 115, 101, 100]⟩, .string ⟨#[97, 98, 106, 97, 100]⟩, .string ⟨#[115, 121, 108, 108, 97, 98]⟩]) w) := by
  go_enter Tryz.func65, Tryz.ntmps65
  go_wp2
  obtain ⟨w1, h1⟩ : ∃ w1, w1 = w.alloc (.cells #[.string ⟨#[]⟩, .string ⟨#[112, 108, 97, 105, 110]⟩, .string ⟨#[99, 97, 115, 101, 100]⟩, .string ⟨#[97, 98, 106, 97, 100]⟩, .string ⟨#[115, 121, 108, 108, 97, 98]⟩] 89) := ⟨_, rfl⟩
  rw [← h1]
  have s1 : w1.heap[w.heap.size]? = some (.cells #[.string ⟨#[]⟩, .string ⟨#[112, 108, 97, 105, 110]⟩, .string ⟨#[99, 97, 115, 101, 100]⟩, .string ⟨#[97, 98, 106, 97, 100]⟩, .string ⟨#[115, 121, 108, 108, 97, 98]⟩] 89 (0, 0)) := by rw [h1]; exact alloc_new w _
  have b1 : Below w.heap.size w w1 := by rw [h1]; exact (Below.refl _ w).alloc (Nat.le_refl _) _
  refine bodyPost_ret (v := .agg #[.string ⟨#[]⟩, .string ⟨#[112, 108, 97, 105, 110]⟩, .string ⟨#[99, 97, 115, 101, 100]⟩, .string ⟨#[97, 98, 106, 97, 100]⟩, .string ⟨#[115, 121, 108, 108, 97, 98]⟩]) ?_ rfl ⟨rfl, b1⟩
  exact results_cell_row rfl _ _ w.heap.size 89 _ _ _ rfl s1 Tryz.underlying89 rfl (by kernel_rfl)

end Go.Proofs.YtidkmhokolknbaaGreatDoor

namespace Li

theorem join_words : ∀ (l : List (List UInt8)), l ≠ [] → Go.Lib.join l [32] = joinW l
  | [], h => absurd rfl h
  | x :: l, _ => by
    rw [Go.Proofs.YtidkmhokolknbaaGreatDoor.join_lists]
    rfl

end Li
namespace Go.Proofs.YtidkmhokolknbaaGreatDoor
open Go.RowKit Go.Lib Go.Maps

/-- what script.Text returns -/
def STextP (n : Li.Nm) (w : World) (e : Ending) (w' : World) : Prop :=
  e = .returned (.tuple #[.string (bs (if Li.nmOk n = true then Li.nameText n else [])), .int .i64 (if Li.nmOk n = true then 0 else 1)]) ∧ Below w.heap.size w w'

set_option maxRecDepth 100000 in
set_option maxHeartbeats 4000000 in
theorem sText_any (p : Li.Nm × Value) (w : World) (h : NmAt w p) (hw : shortN p.1) (hT : Tabs w) : Calls Tryz.prog 45 #[nmV p] w (STextP p.1 w) := by
  obtain ⟨⟨sc, ws⟩, v⟩ := p
  unfold nmV
  simp only at hw ⊢
  obtain ⟨W1, hW1⟩ : ∃ W1, W1 = w.alloc (.cells #[.int .i64 sc, v] 73) := ⟨_, rfl⟩
  obtain ⟨c0, c1, z1, hb1⟩ := name_box hW1
  have HB := hid hb1
  have HV := hid (scrValid_any ⟨sc, ws⟩ v W1 (h.below hb1) hw (hT.below hb1))
  unfold nmV at HV
  simp only at HV
  have HS := hid (h.below hb1)
  obtain ⟨va, cap, e, k1, k2, -⟩ := h
  simp only at e k1 k2
  subst e
  have HC := hid (And.intro c0 (And.intro c1 z1))
  clear hT hb1 c0 c1 z1
  obtain ⟨c0, c1, z1⟩ := HC.out
  go_enter Tryz.func45, Tryz.ntmps45
  go_upto_region 1 with (fail)
  rw [← hW1]
  clear hW1
  go_wp2_with fail
  refine (HV.out).mono ?_
  rintro e w2 ⟨rfl, hb2⟩
  have HB2 := hid (Below.step HB.out hb2)
  have HS2 := hid (HS.out.below hb2)
  replace c0 := (hb2.cell (p := ⟨w.heap.size, 0, none⟩) z1).trans c0
  replace c1 := (hb2.cell (p := ⟨w.heap.size, 1, none⟩) z1).trans c1
  replace z1 := Nat.lt_of_lt_of_le z1 hb2.size
  clear hb2
  cases hn : Li.nmOk ⟨sc, ws⟩ with
  | false =>
    have HN := hid hn
    clear hn
    go_wp2_with fail
    go_ret2
    unfold STextP
    rw [HN.out]
    exact ⟨rfl, HB2.out⟩
  | true =>
    have HN := hid hn
    obtain ⟨h1, h2, h3⟩ := Li.nmOk_parts hn
    have hk := Li.nm_script hn
    simp only at h1 h2 h3 hk
    have hjl := Li.joinW_len ws fun x hx => Li.word_len (h1 x hx)
    have hjs := bs_len (Li.joinW ws)
    have hlp := List.length_pos_iff.2 h2
    obtain ⟨g, o, rfl, hr⟩ : ∃ g o, va = some ⟨g, o, none⟩ ∧ RowOf w2 g o 1 strC ws := by
      obtain ⟨a', cap', ev, -, -, hr⟩ := HS2.out
      simp only at ev hr
      cases ev
      exact hr (by omega)
    have HJ : Hid (∀ W, Below w2.heap.size w2 W → Calls Tryz.prog 46 #[.slice (some ⟨g, o, none⟩) ws.length cap, .string ⟨#[32]⟩] W (Gives (.string (bs (Li.joinW ws))) W)) := fun W hW => by
      rw [← Li.join_words ws h2]
      refine join_any g o cap ws [32] W (fun j x hx => ?_) (Nat.lt_of_lt_of_le hr.1 hW.size) (by omega) k1 (by rw [Li.join_words ws h2]; omega)
      have := (hr.below hW).2 j x hx 0 _ rfl
      simpa using this
    obtain ⟨T, hT⟩ : ∃ T, T = bs (Li.title sc) := ⟨_, rfl⟩
    have hTs : T.size ≤ 6 := by rw [hT, bs_len]; exact (Li.title_script hk).2.2
    have HTT := hid (show T ++ ⟨#[58]⟩ ++ bs (Li.joinW ws) = bs (Li.nameText ⟨sc, ws⟩) by
      rw [hT]
      unfold Li.nameText
      rw [show (⟨#[58]⟩ : ByteArray) = bs [58] from rfl, bs_app, bs_app, List.append_assoc]
      rfl)
    have HIX : Hid (∀ wx, (Instr.index 89 (.agg #[.string ⟨#[]⟩, .string ⟨#[112, 108, 97, 105, 110]⟩, .string ⟨#[99, 97, 115, 101, 100]⟩, .string ⟨#[97, 98, 106, 97, 100]⟩, .string ⟨#[115, 121, 108, 108, 97, 98]⟩]) (.int .i64 sc)).run Tryz.prog wx = .ok (.string T) wx) := fun wx => by
      rw [hT]
      rcases hk with rfl | rfl | rfl | rfl <;> kernel_rfl
    have hs5 : (T ++ (⟨#[58]⟩ : ByteArray)).size = T.size + 1 := by rw [ByteArray.size_append]; rfl
    have hs4 : T.size ≤ 9223372036854775806 := by omega
    have hs6 : ¬ 9223372036854775807 < T.size + 1 + (bs (Li.joinW ws)).size := by omega
    have hs7 : T.size + 1 + (bs (Li.joinW ws)).size ≤ 9223372036854775807 := by omega
    have HT0 := hid hT
    clear hn h1 h2 hr hT hjs
    go_upto_region 3 with (fail)
    refine wp_heldS (S := StillAt w2) (by kernel_rfl) ?_
    simp only [List.size_toArray, List.length_cons, List.length_nil, Nat.reduceAdd]
    intro hc
    have S0 : StillAt w2 (Array.replicate 11 false) w2.drew := (Below.refl _ _).drew
    refine wpAnyS_take (i := 1) (v := .pointer (some ⟨w.heap.size, 0, none⟩)) rfl (by kernel_rfl) (by kernel_rfl) (by kernel_rfl) (fun _ _ _ h => h) (fun _ _ => Iff.rfl) hc (by first | rfl | simp [Region.wanted]) (fun wx hx => ?_) S0 (fun hc S0 => ?_)
    · go_simp
    try simp only [List.getElem_toArray, List.getElem_cons_succ, List.getElem_cons_zero, Act.put, List.setIfInBounds_toArray, List.set_cons_zero, List.set_cons_succ]
    refine wpAnyS_take (i := 2) (v := .int .i64 sc) rfl (by kernel_rfl) (by kernel_rfl) (by kernel_rfl) (fun _ _ _ h => h) (fun _ _ => Iff.rfl) hc (by first | rfl | simp [Region.wanted]) (fun wx hx => ?_) S0 (fun hc S0 => ?_)
    · have g := (hx.still.cell (p := ⟨w.heap.size, 0, none⟩) z1).trans c0
      go_simp
    try simp only [List.getElem_toArray, List.getElem_cons_succ, List.getElem_cons_zero, Act.put, List.setIfInBounds_toArray, List.set_cons_zero, List.set_cons_succ]
    refine wpAnyS_take (i := 5) (v := .pointer (some ⟨w.heap.size, 1, none⟩)) rfl (by kernel_rfl) (by kernel_rfl) (by kernel_rfl) (fun _ _ _ h => h) (fun _ _ => Iff.rfl) hc (by first | rfl | simp [Region.wanted]) (fun wx hx => ?_) S0 (fun hc S0 => ?_)
    · go_simp
    try simp only [List.getElem_toArray, List.getElem_cons_succ, List.getElem_cons_zero, Act.put, List.setIfInBounds_toArray, List.set_cons_zero, List.set_cons_succ]
    refine wpAnyS_take (i := 6) (v := .slice (some ⟨g, o, none⟩) ws.length cap) rfl (by kernel_rfl) (by kernel_rfl) (by kernel_rfl) (fun _ _ _ h => h) (fun _ _ => Iff.rfl) hc (by first | rfl | simp [Region.wanted]) (fun wx hx => ?_) S0 (fun hc S0 => ?_)
    · have g := (hx.still.cell (p := ⟨w.heap.size, 1, none⟩) z1).trans c1
      go_simp
    try simp only [List.getElem_toArray, List.getElem_cons_succ, List.getElem_cons_zero, Act.put, List.setIfInBounds_toArray, List.set_cons_zero, List.set_cons_succ]
    refine wpAnyS_one (i := 0) rfl (by kernel_rfl) (by rfl) hc (fun K' hK => ?_)
    go_simp
    refine (titles_any w2.drew).mono ?_
    rintro e w3 ⟨rfl, hb3⟩
    refine hK.out _ _ (Below.step (Below.refl _ _).drew hb3) (fun hc => ?_)
    clear hK K'
    have S0 : StillAt w2 #[] w3 := (Below.step (Below.refl _ _).drew hb3)
    try simp only [List.getElem_toArray, List.getElem_cons_succ, List.getElem_cons_zero, Act.put, List.setIfInBounds_toArray, List.set_cons_zero, List.set_cons_succ]
    refine wpAnyS_take (i := 3) (v := .string T) rfl (by kernel_rfl) (by kernel_rfl) (by kernel_rfl) (fun _ _ _ h => h) (fun _ _ => Iff.rfl) hc (by first | rfl | simp [Region.wanted]) (fun wx hx => ?_) S0 (fun hc S0 => ?_)
    · (have q := HIX.out wx; go_simp)
    try simp only [List.getElem_toArray, List.getElem_cons_succ, List.getElem_cons_zero, Act.put, List.setIfInBounds_toArray, List.set_cons_zero, List.set_cons_succ]
    refine wpAnyS_take (i := 4) (v := .string (T ++ ⟨#[58]⟩)) rfl (by kernel_rfl) (by kernel_rfl) (by kernel_rfl) (fun _ _ _ h => h) (fun _ _ => Iff.rfl) hc (by first | rfl | simp [Region.wanted]) (fun wx hx => ?_) S0 (fun hc S0 => ?_)
    · go_simp
    try simp only [List.getElem_toArray, List.getElem_cons_succ, List.getElem_cons_zero, Act.put, List.setIfInBounds_toArray, List.set_cons_zero, List.set_cons_succ]
    refine wpAnyS_one (i := 7) rfl (by kernel_rfl) (by rfl) hc (fun K' hK => ?_)
    go_simp
    refine (HJ.out w3 (Below.step (Below.refl _ _).drew hb3)).mono ?_
    rintro e w4 ⟨rfl, hb4⟩
    have hbb := Below.step (Below.step (Below.refl _ _).drew hb3) hb4
    refine hK.out _ _ hbb (fun hc => ?_)
    clear hK K'
    have S0 : StillAt w2 #[] w4 := hbb
    try simp only [List.getElem_toArray, List.getElem_cons_succ, List.getElem_cons_zero, Act.put, List.setIfInBounds_toArray, List.set_cons_zero, List.set_cons_succ]
    refine wpAnyS_one (i := 8) rfl (by kernel_rfl) (by rfl) hc (fun K' hK => ?_)
    go_simp
    refine hK.out _ _ (hbb) (fun hc => ?_)
    clear hK K'
    have S0 : StillAt w2 #[] w4 := (hbb)
    try simp only [List.getElem_toArray, List.getElem_cons_succ, List.getElem_cons_zero, Act.put, List.setIfInBounds_toArray, List.set_cons_zero, List.set_cons_succ]
    refine wpAnyS_one (i := 9) rfl (by kernel_rfl) (by rfl) hc (fun K' hK => ?_)
    go_simp
    refine hK.out _ _ (hbb) (fun hc => ?_)
    clear hK K'
    have S0 : StillAt w2 #[] w4 := (hbb)
    try simp only [List.getElem_toArray, List.getElem_cons_succ, List.getElem_cons_zero, Act.put, List.setIfInBounds_toArray, List.set_cons_zero, List.set_cons_succ]
    refine wpAnyS_one (i := 10) rfl (by kernel_rfl) (by rfl) hc (fun K' hK => ?_)
    go_simp
    refine hK.out _ _ (hbb) (fun hc => ?_)
    clear hK K'
    have S0 : StillAt w2 #[] w4 := (hbb)
    try simp only [List.getElem_toArray, List.getElem_cons_succ, List.getElem_cons_zero, Act.put, List.setIfInBounds_toArray, List.set_cons_zero, List.set_cons_succ]
    refine wpAnyS_done (by kernel_rfl) ?_ _
    clear hc S0
    have HBF := hid hbb
    clear hb3 hb4
    go_wp2_with fail
    go_ret2
    refine ⟨?_, Below.step HB2.out HBF.out⟩
    rw [if_pos HN.out, if_pos HN.out, ← HTT.out]
    rfl

end Go.Proofs.YtidkmhokolknbaaGreatDoor

namespace Li

/-- the words of a change's text -/
def quote (n : Nm) : List UInt8 := 34 :: (nameText n ++ [34])
def textWords (c : Ch) : List (List UInt8) := [kindWord c.kind, c.id] ++ (if dated c then [Lx.dec c.at_.toNat] else [])
theorem join_body (c : Ch) : Go.Lib.join (textWords c ++ c.en.names.map quote) [32] ++ [59] = body c := by
  unfold textWords body
  rw [List.append_assoc, List.cons_append, Go.Proofs.YtidkmhokolknbaaGreatDoor.join_lists]
  have h : ∀ l : List Nm, (l.map quote).flatMap (fun y => 32 :: y) = l.flatMap quoted := fun l => by
    rw [List.flatMap_map]
    rfl
  cases hd : dated c <;> simp [h]

end Li
namespace Go.Proofs.YtidkmhokolknbaaGreatDoor
open Go.RowKit Go.Lib Go.Maps

theorem Tryz.infoStr : (Tryz.prog.info? 9).map (fun i => (i.zero, i.size, i.bytes)) = some (some (.string ⟨#[]⟩), 1, 16) := by kernel_rfl

/-- words of the call's own in a cell -/
structure TxW (w0 W : World) (p : Nat) (l : List (List UInt8)) : Prop where
  own : ∃ sv, W.heap[p]? = some (.cells #[sv] 68 (0, 0)) ∧ W.ownsRow w0.heap.size 9 1 sv l.length (l.flatMap strC)
  below : Below w0.heap.size w0 W
  le : w0.heap.size ≤ p
theorem TxW.step {w0 W W' : World} {p : Nat} {l : List (List UInt8)} (h : TxW w0 W p l) (hb : Below W.heap.size W W') : TxW w0 W' p l := by
  obtain ⟨⟨sv, h1, h2⟩, h3, h4⟩ := h
  exact ⟨⟨sv, (hb.block _ (Array.getElem?_eq_some_iff.1 h1).1).trans h1, ownsRow_below h2 hb⟩, Below.step h3 hb, h4⟩

theorem strs_one (l : List (List UInt8)) : ∀ u ∈ l.flatMap strC, u.oneCell' = true := by
  intro u hu
  obtain ⟨p, hp, hx⟩ := List.mem_flatMap.1 hu
  simp [strC] at hx
  subst hx
  rfl

set_option maxRecDepth 100000 in
set_option maxHeartbeats 2000000 in
theorem add_any (w0 : World) (p : Nat) (l xs : List (List UInt8)) (g o c : Nat) (W : World) (h : TxW w0 W p l) (hr : RowOf W g o 1 strC xs) (hx : 0 < xs.length) (_hxc : xs.length ≤ c) (hl : l.length ≤ 1000) (hxl : xs.length ≤ 1000) (_hc : c ≤ maxLen) :
    Calls Tryz.prog 43 #[.slice (some ⟨g, o, none⟩) xs.length c, .pointer (some ⟨p, 0, none⟩)] W (fun e w' => e = .returned (.tuple #[]) ∧ TxW w0 w' p (l ++ xs)) := by
  obtain ⟨i0, hi, hz0, hz1, hz2⟩ := info_parts Tryz.infoStr
  obtain ⟨⟨sv, hb, hown⟩, hbw, hle⟩ := h
  obtain ⟨sa, sc, rfl⟩ := ownsRow_slice hown
  have c0 : W.cell? ⟨p, 0, none⟩ = some (.slice sa l.length sc) := by simp [World.cell?, hb]
  have hp := (Array.getElem?_eq_some_iff.1 hb).1
  have HB := hid (And.intro hb (And.intro hbw hle))
  have HC := hid (flatCells (cells := strC) (sz := 1) (fun x => rfl) hr)
  have HL := hid (flatLen (cells := strC) (sz := 1) xs (fun x => rfl))
  have HO := hid (strs_one xs)
  have hz := hbw.size
  have hxm : xs.length ≤ 9223372036854775807 := by omega
  clear hb hbw hle hr
  go_enter Tryz.func43, Tryz.ntmps43
  go_wp2_with (at_builtin; refine wpList_append_own _ rfl _ _ 68 rfl w0.heap.size 9 i0 (.string ⟨#[]⟩) 1 16 Tryz.underlying68 hi hz0 hz1 hz2 rfl (by decide) _ _ _ rfl hown ⟨g, o, none⟩ xs.length c (xs.flatMap strC) rfl HL.out HC.out HO.out (by unfold maxLen; omega) (by omega) hz ?_; intro v' w4 ho4 hg4 _; obtain ⟨va, vc, rfl⟩ := ownsRow_slice ho4; have HO4 := hid (And.intro ho4 hg4); obtain ⟨hb4, c04, f04⟩ : w4.heap[p]? = some (.cells #[.slice sa l.length sc] 68 (0, 0)) ∧ w4.cell? ⟨p, 0, none⟩ = some (.slice sa l.length sc) ∧ w4.frozen? ⟨p, 0, none⟩ = false := by { have e : w4.heap[p]? = some (.cells #[.slice sa l.length sc] 68 (0, 0)) := (hg4.block p hp (fun e => by { obtain ⟨_, cs, h3⟩ := own_cells hown e.symm; rw [HB.out.1] at h3; cases h3 })).trans HB.out.1; exact ⟨e, by simp [World.cell?, e], by simp [World.frozen?, e]⟩ }; have hp4 := (Array.getElem?_eq_some_iff.1 hb4).1; have HB4 := hid hb4; clear hb4 ho4 hg4)
  go_end0
  obtain ⟨ho4, hg4⟩ := HO4.out
  refine ⟨rfl, ⟨_, set_blk HB4.out, ?_⟩, ?_, HB.out.2.2⟩
  · rw [List.length_append, List.flatMap_append]
    refine ho4.kept (set_grown w4 p _) ?_
    cases hv : Value.ownBlock _ with
    | none => exact .inl rfl
    | some q =>
      refine .inr (fun e => ?_)
      cases e
      obtain ⟨_, cs, h3⟩ := own_cells ho4 hv
      rw [HB4.out] at h3
      cases h3
  · exact (Below.appended HB.out.2.1 hg4 hz hown).setCell (p := ⟨p, 0, none⟩) HB.out.2.2 _

end Go.Proofs.YtidkmhokolknbaaGreatDoor

namespace Go.Proofs.YtidkmhokolknbaaGreatDoor
open Go.RowKit Go.Lib Go.Maps

/-- the first titles, each with its number -/
def tf : Nat → List UInt8 → Option Int
  | 0, _ => none
  | j + 1, a => if a = titlesL.getD j [] then some (j : Int) else tf j a
def titF (j : Nat) : Value → Option Value
  | .string s => (tf j s.data.toList).map fun n : Int => Value.int .i64 n
  | _ => none
theorem titF_nil : titF 0 = fun _ => none := by
  funext v
  cases v <;> rfl
theorem titF_step (j : Nat) : titF (j + 1) (.string (bs (titlesL.getD j []))) = some (.int .i64 (j : Int)) ∧ ∀ y, y ≠ .string (bs (titlesL.getD j [])) → titF (j + 1) y = titF j y := by
  refine ⟨?_, fun y hy => ?_⟩
  · show (tf (j + 1) (titlesL.getD j [])).map _ = _
    unfold tf
    rw [if_pos rfl]
    rfl
  · cases y with
    | string s =>
      have hne : ¬ s.data.toList = titlesL.getD j [] := fun e => hy (by rw [← e]; rfl)
      show (tf (j + 1) s.data.toList).map _ = (tf j s.data.toList).map _
      rw [tf, if_neg hne]
    | _ => rfl
theorem titF_end (t : List UInt8) : (titF 5 (.string (bs t))).getD (.int .i64 0) = .int .i64 (Li.scriptOf t) := by
  show ((tf 5 t).map _).getD _ = _
  unfold Li.scriptOf
  simp only [tf, titlesL, List.getD_cons_zero, List.getD_cons_succ]
  by_cases h4 : t = Li.tSyllab
  · subst h4; rfl
  · by_cases h3 : t = Li.tAbjad
    · subst h3; rfl
    · by_cases h2 : t = Li.tCased
      · subst h2; rfl
      · by_cases h1 : t = Li.tPlain
        · subst h1; rfl
        · rw [if_neg h4, if_neg h3, if_neg h2, if_neg h1, if_neg h1, if_neg h2, if_neg h3, if_neg h4]
          by_cases h0 : t = []
          · rw [if_pos h0]; rfl
          · rw [if_neg h0]; rfl
theorem tit_at {k : Nat} (hk : k < 5) (wx : World) : (Instr.index 89 (.agg #[.string ⟨#[]⟩, .string ⟨#[112, 108, 97, 105, 110]⟩, .string ⟨#[99, 97, 115, 101, 100]⟩, .string ⟨#[97, 98, 106, 97, 100]⟩, .string ⟨#[115, 121, 108, 108, 97, 98]⟩]) (.int .i64 (k : Int))).run Tryz.prog wx = .ok (.string (bs (titlesL.getD k []))) wx := by
  have : k = 0 ∨ k = 1 ∨ k = 2 ∨ k = 3 ∨ k = 4 := by omega
  obtain ⟨T, hT⟩ : ∃ T, T = bs (titlesL.getD k []) := ⟨_, rfl⟩
  rw [← hT]
  clear hk
  rcases this with rfl | rfl | rfl | rfl | rfl
  all_goals (rw [hT]; show _ = _; kernel_rfl)

/-- what Cut at a colon returns -/
def cutC (s : List UInt8) : List UInt8 × List UInt8 × Bool := match Li.split58 s with | some p => (p.1, p.2, true) | none => (s, [], false)
theorem index_split : ∀ (s : List UInt8), match Li.split58 s with | some p => Lib.indexByte s 58 = p.1.length ∧ s = p.1 ++ 58 :: p.2 | none => Lib.indexByte s 58 = -1
  | [] => rfl
  | c :: s => by
    have ih := index_split s
    unfold Li.split58
    by_cases hc : c = 58
    · subst hc
      rw [if_pos rfl]
      exact ⟨rfl, rfl⟩
    · rw [if_neg hc]
      have hb : (c == 58) = false := by simpa using hc
      cases hs : Li.split58 s with
      | none =>
        rw [hs] at ih
        show Lib.indexByte (c :: s) 58 = -1
        unfold Lib.indexByte
        simp only at ih
        simp [hc, ih]
      | some p =>
        rw [hs] at ih
        obtain ⟨h1, h2⟩ := ih
        refine ⟨?_, ?_⟩
        · show Lib.indexByte (c :: s) 58 = _
          unfold Lib.indexByte
          simp [hc, h1]
        · show c :: s = _
          rw [h2]
          rfl
theorem cut_split (s : List UInt8) : Lib.cut s [58] = cutC s := by
  have h := index_split s
  unfold Lib.cut cutC
  rw [Lib.index_one]
  cases hs : Li.split58 s with
  | none =>
    rw [hs] at h
    simp only at h ⊢
    rw [h, if_neg (by omega)]
  | some p =>
    rw [hs] at h
    obtain ⟨h1, h2⟩ := h
    simp only
    rw [h1, if_pos (by omega)]
    simp only [Int.toNat_natCast]
    rw [h2, List.take_left' rfl]
    simp

set_option maxRecDepth 100000 in
set_option maxHeartbeats 2000000 in
theorem lcut_any (s : ByteArray) (w : World) (hs : s.size ≤ 1000000) : Calls Tryz.prog 97 #[.string s, .string ⟨#[58]⟩] w (Gives (.tuple #[.string (bs (cutC s.data.toList).1), .string (bs (cutC s.data.toList).2.1), .bool (cutC s.data.toList).2.2]) w) := by
  have HI := hid (Tryz.stringslite_Index_one s 58 w)
  rw [← cut_split]
  rcases Lib.indexB_cases s ⟨#[58]⟩ with hix | ⟨i, hix, hroom⟩
  · obtain ⟨e1, e2, e3⟩ := Lib.cutB_miss s ⟨#[58]⟩ hix
    have HE := hid (And.intro e1 (And.intro e2 e3))
    have hib : Lib.indexByte s.data.toList 58 = -1 := by rw [← Lib.index_one]; exact hix
    rw [hib] at HI
    clear hix e1 e2 e3 hib
    go_enter Tryz.func97, Tryz.ntmps97
    go_wp2_with fail
    refine (HI.out).mono ?_
    rintro e w1 ⟨rfl, rfl⟩
    go_wp2_with fail
    go_ret3
    refine ⟨?_, Below.refl _ _⟩
    show _ = Ending.returned (.tuple #[.string ⟨(Lib.cut s.data.toList (⟨#[58]⟩ : ByteArray).data.toList).1.toArray⟩, .string ⟨(Lib.cut s.data.toList (⟨#[58]⟩ : ByteArray).data.toList).2.1.toArray⟩, .bool (Lib.cut s.data.toList (⟨#[58]⟩ : ByteArray).data.toList).2.2])
    rw [HE.out.1, HE.out.2.1, HE.out.2.2]
    rfl
  · obtain ⟨e1, e2, e3⟩ := Lib.cutB_hit s ⟨#[58]⟩ i hix
    have HE := hid (And.intro e1 (And.intro e2 e3))
    have hib : Lib.indexByte s.data.toList 58 = i := by rw [← Lib.index_one]; exact hix
    rw [hib] at HI
    have hroom' : i + 1 ≤ s.size := hroom
    have c1 : (0 : Int) ≤ (i : Int) := by omega
    have c2 : (i : Int) ≤ (s.size : Int) := by omega
    have c3 : (0 : Int) ≤ (i : Int) + 1 := by omega
    have c4 : (i : Int) + 1 ≤ (s.size : Int) := by omega
    clear hix e1 e2 e3 hib hroom
    go_enter Tryz.func97, Tryz.ntmps97
    go_wp2_with fail
    refine (HI.out).mono ?_
    rintro e w1 ⟨rfl, rfl⟩
    go_wp2_with fail
    go_quiet (fail)
    go_wp2_with fail
    go_ret3
    refine ⟨?_, Below.drewQ _ _⟩
    show _ = Ending.returned (.tuple #[.string ⟨(Lib.cut s.data.toList (⟨#[58]⟩ : ByteArray).data.toList).1.toArray⟩, .string ⟨(Lib.cut s.data.toList (⟨#[58]⟩ : ByteArray).data.toList).2.1.toArray⟩, .bool (Lib.cut s.data.toList (⟨#[58]⟩ : ByteArray).data.toList).2.2])
    rw [HE.out.1, HE.out.2.1, HE.out.2.2]
    rfl

set_option maxRecDepth 100000 in
theorem cut_any (s : ByteArray) (w : World) (hs : s.size ≤ 1000000) : Calls Tryz.prog 74 #[.string s, .string ⟨#[58]⟩] w (Gives (.tuple #[.string (bs (cutC s.data.toList).1), .string (bs (cutC s.data.toList).2.1), .bool (cutC s.data.toList).2.2]) w) := by
  have HI := hid (lcut_any s w hs)
  go_enter Tryz.func74, Tryz.ntmps74
  go_wp2_with fail
  refine (HI.out).mono ?_
  rintro e w1 ⟨rfl, hb⟩
  have HB := hid hb
  clear hb
  go_wp2_with fail
  go_ret3
  exact ⟨rfl, HB.out⟩

end Go.Proofs.YtidkmhokolknbaaGreatDoor

namespace Li
open Sc

/-- what comes of the words -/
def outP (k : Int) : Option (List (List UInt8)) → Option Nm
  | none => none
  | some ws => if ws = [] then none else some ⟨k, ws⟩
/-- what is still to be read -/
def RestP (t : List UInt8) (k : Int) (i : Nat) (ws : List (List UInt8)) : Prop := ∃ f, (t.drop i).length < f ∧ nameP t = outP k (wordsP k f (t.drop i) ws)
theorem nameP_long {t : List UInt8} (h : 20000 < t.length) : nameP t = none := by unfold nameP; rw [if_pos h]
theorem nameP_none {t : List UInt8} (h : split58 t = none) : nameP t = none := by
  unfold nameP
  split
  · rfl
  · rw [h]
theorem nameP_zero {t : List UInt8} {p : List UInt8 × List UInt8} (h : split58 t = some p) (h0 : scriptOf p.1 = 0) : nameP t = none := by
  unfold nameP
  split
  · rfl
  · rw [h]
    simp only
    rw [if_pos h0]
theorem split_drop {t : List UInt8} {p : List UInt8 × List UInt8} (h : split58 t = some p) : t.drop (p.1.length + 1) = p.2 := by
  have := Go.Proofs.YtidkmhokolknbaaGreatDoor.index_split t
  rw [h] at this
  rw [this.2, List.drop_append, List.drop_eq_nil_of_le (by omega), show p.1.length + 1 - p.1.length = 1 by omega]
  rfl
theorem rest_start {t : List UInt8} {p : List UInt8 × List UInt8} (hl : ¬ 20000 < t.length) (h : split58 t = some p) (h0 : scriptOf p.1 ≠ 0) : RestP t (scriptOf p.1) (p.1.length + 1) [] := by
  refine ⟨p.2.length + 1, by rw [split_drop h]; omega, ?_⟩
  rw [split_drop h]
  unfold nameP
  rw [if_neg hl, h]
  simp only
  rw [if_neg h0]
  cases wordsP (scriptOf p.1) (p.2.length + 1) p.2 [] <;> rfl

/-- the words with what was read -/
def wsP (k : Int) (s : List UInt8) (ws : List (List UInt8)) : List (List UInt8) := if (cuts k s).1 = [] then ws else ws ++ [(cuts k s).1.flatten]
theorem rest_end {t : List UInt8} {k : Int} {i : Nat} {ws : List (List UInt8)} (h : RestP t k i ws) (hi : t.length ≤ i) : nameP t = outP k (some ws) := by
  obtain ⟨f, hf, e⟩ := h
  rw [List.drop_eq_nil_of_le hi] at hf e
  cases f with
  | zero => simp at hf
  | succ f => rw [e]; rfl
theorem rest_bad {t : List UInt8} {k : Int} {i : Nat} {ws : List (List UInt8)} (h : RestP t k i ws) (hi : i < t.length) (hb : 12 < (cuts k (t.drop i)).1.length ∨ ((cuts k (t.drop i)).1 ≠ [] ∧ ws.length = 6)) : nameP t = none := by
  obtain ⟨f, hf, e⟩ := h
  have hne : t.drop i ≠ [] := fun e => by have := congrArg List.length e; rw [List.length_drop] at this; simp at this; omega
  cases f with
  | zero => simp at hf
  | succ f =>
    rw [e, wordsP, if_neg hne, if_pos hb]
    rfl
theorem rest_step {t : List UInt8} {k : Int} {i : Nat} {ws : List (List UInt8)} (h : RestP t k i ws) (hi : i < t.length) (hb : ¬ (12 < (cuts k (t.drop i)).1.length ∨ ((cuts k (t.drop i)).1 ≠ [] ∧ ws.length = 6))) :
    ((cuts k (t.drop i)).2 = [] → nameP t = outP k (some (wsP k (t.drop i) ws))) ∧
    (∀ c r, (cuts k (t.drop i)).2 = c :: r → c ≠ 32 → nameP t = none) ∧
    (∀ j r, (cuts k (t.drop i)).2 = 32 :: r → t.drop (j + 1) = r → RestP t k (j + 1) (wsP k (t.drop i) ws)) := by
  obtain ⟨f, hf, e⟩ := h
  have hne : t.drop i ≠ [] := fun e => by have := congrArg List.length e; rw [List.length_drop] at this; simp at this; omega
  cases f with
  | zero => simp at hf
  | succ f =>
    rw [wordsP, if_neg hne, if_neg hb] at e
    have hj := cuts_join k _ (t.drop i) (Nat.le_refl _)
    refine ⟨fun h => ?_, fun c r h hc => ?_, fun j r h hd => ⟨f, ?_, ?_⟩⟩
    · rw [h] at e; exact e
    · rw [h] at e; simp only [if_neg hc] at e; exact e
    · rw [hd]
      rw [h] at hj
      have := congrArg List.length hj
      rw [List.length_append, List.length_cons] at this
      omega
    · rw [h] at e
      simp only [if_pos] at e
      rw [hd]
      exact e

end Li
namespace Go.Proofs.YtidkmhokolknbaaGreatDoor
open Go.RowKit Go.Lib Go.Maps

/-- the memory between two rounds: three results, the name so far, the place -/
structure SpW (w0 : World) (nb : Nat) (k : Int) (ws : List (List UInt8)) (j : Nat) (Ds : List Nat) (top : Nat) (W : World) : Prop where
  d : W.heap[w0.heap.size]? = some (.cells #[.int .i64 0, .slice none 0 0] 73 (0, 0))
  e : W.heap[w0.heap.size + 1]? = some (.cells #[.int .i64 0] 32 (0, 0))
  o : W.heap[w0.heap.size + 2]? = some (.cells #[.int .i64 0] 3 (0, 0))
  n : ∃ v, W.heap[nb]? = some (.cells #[.int .i64 k, v] 73 (0, 0)) ∧ W.ownsRow (nb + 2) 9 1 v ws.length (ws.flatMap strC) ∧ ∀ g, v.ownBlock = some g → g < top
  a : W.heap[nb + 1]? = some (.cells #[.int .i64 j] 3 (0, 0))
  le : w0.heap.size + 3 ≤ nb
  below : Below w0.heap.size w0 W
  once : Ds.Nodup
  marks : ∀ X ∈ Ds, nb + 2 ≤ X ∧ W.heap[X]? = some (.deferred (some []))

theorem SpW.grown {w0 : World} {nb : Nat} {k : Int} {ws : List (List UInt8)} {j : Nat} {Ds : List Nat} {top : Nat} {A A' : World} {row : Option Nat} (h : SpW w0 nb k ws j Ds top A) (hg : A.grownBy A' row)
    (hr : ∀ r, row = some r → nb + 2 ≤ r ∧ r ∉ Ds ∧ (top ≤ r ∨ ∃ o : Obj, A.heap[r]? = some o ∧ o.isCells = false)) : SpW w0 nb k ws j Ds top A' := by
  have hle := h.le
  have far : ∀ (x : Nat) (o : Obj), A.heap[x]? = some o → x < nb + 2 → A'.heap[x]? = some o := fun x o ho hx =>
    (hg.block x (Array.getElem?_eq_some_iff.1 ho).1 (fun e => by have := (hr x e.symm).1; omega)).trans ho
  obtain ⟨v, h1, h2, h3⟩ := h.n
  refine ⟨far _ _ h.d (by omega), far _ _ h.e (by omega), far _ _ h.o (by omega), ⟨v, far _ _ h1 (by omega), ?_, h3⟩, far _ _ h.a (by omega), hle, ?_, h.once, fun D hD => ?_⟩
  · refine h2.kept hg ?_
    cases hv : v.ownBlock with
    | none => exact .inl rfl
    | some x =>
      refine .inr (fun e => ?_)
      rcases (hr x e.symm).2.2 with h5 | ⟨o', h5, h6⟩
      · have := h3 x hv; omega
      · obtain ⟨_, cs, h7⟩ := own_cells h2 hv
        rw [h7] at h5; cases h5; cases h6
  · refine h.below.grown hg ?_ (fun r e => by have := (hr r e).1; omega)
    exact h.below.size
  · obtain ⟨m1, m2⟩ := h.marks D hD
    exact ⟨m1, (hg.block D (Array.getElem?_eq_some_iff.1 m2).1 (fun e => (hr D e.symm).2.1 hD)).trans m2⟩
theorem SpW.step {w0 : World} {nb : Nat} {k : Int} {ws : List (List UInt8)} {j : Nat} {Ds : List Nat} {top : Nat} {A A' : World} (h : SpW w0 nb k ws j Ds top A) (hb : Below A.heap.size A A') : SpW w0 nb k ws j Ds top A' := h.grown (Below.grows hb none) (fun r e => by cases e)
theorem SpW.tops {w0 : World} {nb : Nat} {k : Int} {ws : List (List UInt8)} {j : Nat} {Ds : List Nat} {top : Nat} {A : World} (h : SpW w0 nb k ws j Ds top A) : SpW w0 nb k ws j Ds A.heap.size A := by
  obtain ⟨v, h1, h2, h3⟩ := h.n
  exact ⟨h.d, h.e, h.o, ⟨v, h1, h2, fun g hg => (h2.lt g hg).2⟩, h.a, h.le, h.below, h.once, h.marks⟩
theorem SpW.lt {w0 : World} {nb : Nat} {k : Int} {ws : List (List UInt8)} {j : Nat} {Ds : List Nat} {top : Nat} {A : World} (h : SpW w0 nb k ws j Ds top A) : nb + 1 < A.heap.size := (Array.getElem?_eq_some_iff.1 h.a).1
theorem SpW.ds {w0 : World} {nb : Nat} {k : Int} {ws : List (List UInt8)} {j : Nat} {Ds : List Nat} {top : Nat} {A : World} (h : SpW w0 nb k ws j Ds top A) : ∀ D ∈ Ds, D < A.heap.size := fun D hD => (Array.getElem?_eq_some_iff.1 (h.marks D hD).2).1
/-- the place moves -/
theorem SpW.move {w0 : World} {nb : Nat} {k : Int} {ws : List (List UInt8)} {j : Nat} {Ds : List Nat} {top : Nat} {A : World} (h : SpW w0 nb k ws j Ds top A) (j' : Nat) : SpW w0 nb k ws j' Ds top (A.setCell ⟨nb + 1, 0, none⟩ (.int .i64 j')) := by
  have hle := h.le
  have far : ∀ x, x ≠ nb + 1 → (A.setCell ⟨nb + 1, 0, none⟩ (.int .i64 j')).heap[x]? = A.heap[x]? := fun x hx => Below.heap_setCell A ⟨nb + 1, 0, none⟩ _ x hx
  obtain ⟨v, h1, h2, h3⟩ := h.n
  refine ⟨(far _ (by omega)).trans h.d, (far _ (by omega)).trans h.e, (far _ (by omega)).trans h.o, ⟨v, (far _ (by omega)).trans h1, ?_, h3⟩, set_blk h.a, hle, ?_, h.once, fun D hD => ⟨(h.marks D hD).1, (far D (by have := (h.marks D hD).1; omega)).trans (h.marks D hD).2⟩⟩
  · refine h2.kept (set_grown A (nb + 1) _) ?_
    cases hv : v.ownBlock with
    | none => exact .inl rfl
    | some x =>
      refine .inr (fun e => ?_)
      cases e
      have := (own_cells h2 hv).1
      omega
  · exact h.below.setCell (p := ⟨nb + 1, 0, none⟩) (by show w0.heap.size ≤ nb + 1; omega) _
/-- another mark -/
theorem SpW.mark {w0 : World} {nb : Nat} {k : Int} {ws : List (List UInt8)} {j : Nat} {Ds : List Nat} {top D : Nat} {A : World} (h : SpW w0 nb k ws j Ds top A) (hD : nb + 2 ≤ D) (hn : D ∉ Ds) (hA : A.heap[D]? = some (.deferred (some []))) : SpW w0 nb k ws j (D :: Ds) top A :=
  ⟨h.d, h.e, h.o, h.n, h.a, h.le, h.below, List.nodup_cons.2 ⟨hn, h.once⟩, fun X hX => by
    rcases List.mem_cons.1 hX with rfl | hX
    · exact ⟨hD, hA⟩
    · exact h.marks X hX⟩

/-- the three results as they are returned -/
structure SpR (w0 : World) (k : Int) (v : Value) (er off : Int) (Ds : List Nat) (W : World) : Prop where
  d : W.heap[w0.heap.size]? = some (.cells #[.int .i64 k, v] 73 (0, 0))
  e : W.heap[w0.heap.size + 1]? = some (.cells #[.int .i64 er] 32 (0, 0))
  o : W.heap[w0.heap.size + 2]? = some (.cells #[.int .i64 off] 3 (0, 0))
  below : Below w0.heap.size w0 W
  once : Ds.Nodup
  marks : ∀ X ∈ Ds, w0.heap.size + 3 ≤ X ∧ W.heap[X]? = some (.deferred (some []))
theorem SpR.grown {w0 : World} {k : Int} {v : Value} {er off : Int} {Ds : List Nat} {A A' : World} {row : Option Nat} (h : SpR w0 k v er off Ds A) (hg : A.grownBy A' row)
    (hr : ∀ r, row = some r → w0.heap.size + 3 ≤ r ∧ r ∉ Ds) : SpR w0 k v er off Ds A' := by
  have far : ∀ (x : Nat) (o : Obj), A.heap[x]? = some o → x < w0.heap.size + 3 → A'.heap[x]? = some o := fun x o ho hx =>
    (hg.block x (Array.getElem?_eq_some_iff.1 ho).1 (fun e => by have := (hr x e.symm).1; omega)).trans ho
  refine ⟨far _ _ h.d (by omega), far _ _ h.e (by omega), far _ _ h.o (by omega), h.below.grown hg h.below.size (fun r e => by have := (hr r e).1; omega), h.once, fun D hD => ?_⟩
  obtain ⟨m1, m2⟩ := h.marks D hD
  exact ⟨m1, (hg.block D (Array.getElem?_eq_some_iff.1 m2).1 (fun e => (hr D e.symm).2 hD)).trans m2⟩
theorem SpR.mark {w0 : World} {k : Int} {v : Value} {er off : Int} {Ds : List Nat} {D : Nat} {A : World} (h : SpR w0 k v er off Ds A) (hD : w0.heap.size + 3 ≤ D) (hn : D ∉ Ds) (hA : A.heap[D]? = some (.deferred (some []))) : SpR w0 k v er off (D :: Ds) A :=
  ⟨h.d, h.e, h.o, h.below, List.nodup_cons.2 ⟨hn, h.once⟩, fun X hX => by
    rcases List.mem_cons.1 hX with rfl | hX
    · exact ⟨hD, hA⟩
    · exact h.marks X hX⟩
/-- the results are stored -/
theorem spR_stored {w0 W : World} {v0 v : Value} {k0 k er0 off0 er off : Int} {Ds : List Nat} (hd : W.heap[w0.heap.size]? = some (.cells #[.int .i64 k0, v0] 73 (0, 0))) (he : W.heap[w0.heap.size + 1]? = some (.cells #[.int .i64 er0] 32 (0, 0)))
    (ho : W.heap[w0.heap.size + 2]? = some (.cells #[.int .i64 off0] 3 (0, 0))) (hb : Below w0.heap.size w0 W) (h1 : Ds.Nodup) (hm : ∀ X ∈ Ds, w0.heap.size + 3 ≤ X ∧ W.heap[X]? = some (.deferred (some []))) :
    SpR w0 k v er off Ds ((((W.setCell ⟨w0.heap.size, 0, none⟩ (.int .i64 k)).setCell ⟨w0.heap.size, 1, none⟩ v).setCell ⟨w0.heap.size + 1, 0, none⟩ (.int .i64 er)).setCell ⟨w0.heap.size + 1 + 1, 0, none⟩ (.int .i64 off)) := by
  refine ⟨?_, ?_, ?_, ?_, h1, fun X hX => ⟨(hm X hX).1, ?_⟩⟩
  · rw [Below.heap_setCell _ ⟨w0.heap.size + 1 + 1, 0, none⟩ _ _ (by show w0.heap.size ≠ w0.heap.size + 1 + 1; omega), Below.heap_setCell _ ⟨w0.heap.size + 1, 0, none⟩ _ _ (by show w0.heap.size ≠ w0.heap.size + 1; omega)]
    simp [World.setCell, Array.getElem?_modify, hd]
  · rw [Below.heap_setCell _ ⟨w0.heap.size + 1 + 1, 0, none⟩ _ _ (by show w0.heap.size + 1 ≠ w0.heap.size + 1 + 1; omega)]
    refine set_blk (v := .int .i64 er0) ?_
    rw [Below.heap_setCell _ ⟨w0.heap.size, 1, none⟩ _ _ (by show w0.heap.size + 1 ≠ w0.heap.size; omega), Below.heap_setCell _ ⟨w0.heap.size, 0, none⟩ _ _ (by show w0.heap.size + 1 ≠ w0.heap.size; omega)]
    exact he
  · refine set_blk (v := .int .i64 off0) ?_
    rw [Below.heap_setCell _ ⟨w0.heap.size + 1, 0, none⟩ _ _ (by show w0.heap.size + 1 + 1 ≠ w0.heap.size + 1; omega), Below.heap_setCell _ ⟨w0.heap.size, 1, none⟩ _ _ (by show w0.heap.size + 1 + 1 ≠ w0.heap.size; omega), Below.heap_setCell _ ⟨w0.heap.size, 0, none⟩ _ _ (by show w0.heap.size + 1 + 1 ≠ w0.heap.size; omega)]
    exact ho
  · exact (((hb.setCell (p := ⟨w0.heap.size, 0, none⟩) (Nat.le_refl _) _).setCell (p := ⟨w0.heap.size, 1, none⟩) (Nat.le_refl _) _).setCell (p := ⟨w0.heap.size + 1, 0, none⟩) (Nat.le_succ _) _).setCell (p := ⟨w0.heap.size + 1 + 1, 0, none⟩) (by show w0.heap.size ≤ w0.heap.size + 1 + 1; omega) _
  · have := (hm X hX).1
    rw [Below.heap_setCell _ ⟨w0.heap.size + 1 + 1, 0, none⟩ _ _ (by show X ≠ w0.heap.size + 1 + 1; omega), Below.heap_setCell _ ⟨w0.heap.size + 1, 0, none⟩ _ _ (by show X ≠ w0.heap.size + 1; omega), Below.heap_setCell _ ⟨w0.heap.size, 1, none⟩ _ _ (by show X ≠ w0.heap.size; omega), Below.heap_setCell _ ⟨w0.heap.size, 0, none⟩ _ _ (by show X ≠ w0.heap.size; omega)]
    exact (hm X hX).2

/-- the three results, read -/
theorem spR_results {fn : Func} (hfn : fn.results = #[.cell 2 73, .cell 3 32, .cell 4 3]) {tmps : Array Value} {w0 w : World} {k : Int} {v : Value} {er off : Int} {Ds : List Nat} (h2 : tmps.getD 2 undef = .pointer (some ⟨w0.heap.size, 0, none⟩)) (h3 : tmps.getD 3 undef = .pointer (some ⟨w0.heap.size + 1, 0, none⟩)) (h4 : tmps.getD 4 undef = .pointer (some ⟨w0.heap.size + 1 + 1, 0, none⟩))
    (h : SpR w0 k v er off Ds w) : (results fn tmps).run Tryz.prog w = .ok (.tuple #[.agg #[.int .i64 k, v], .int .i64 er, .int .i64 off]) w := by
  have e0 := (cell_blk h.e).1
  have a0 : w.cell? ⟨w0.heap.size + 1 + 1, 0, none⟩ = some (.int .i64 off) := (cell_blk h.o).1
  have hl : (loadVar 73 ⟨w0.heap.size, 0, none⟩).run Tryz.prog w = .ok (.agg #[.int .i64 k, v]) w := run_loadVar_row w w0.heap.size _ 73 _ _ _ h.d Tryz.underlying73 rfl (by kernel_rfl)
  have l1 : (loadVar 32 ⟨w0.heap.size + 1, 0, none⟩).run Tryz.prog w = .ok (.int .i64 er) w := by simp [loadVar, go_sem, e0]
  have l2 : (loadVar 3 ⟨w0.heap.size + 1 + 1, 0, none⟩).run Tryz.prog w = .ok (.int .i64 off) w := by simp [loadVar, go_sem, a0]
  have h2' : tmps[2]?.getD undef = .pointer (some ⟨w0.heap.size, 0, none⟩) := by simpa using h2
  have h3' : tmps[3]?.getD undef = .pointer (some ⟨w0.heap.size + 1, 0, none⟩) := by simpa using h3
  have h4' : tmps[4]?.getD undef = .pointer (some ⟨w0.heap.size + 1 + 1, 0, none⟩) := by simpa using h4
  simp [results, hfn, h2', h3', h4', asAddr, hl, l1, l2, Sem.run_bind, Result.andThen]

theorem SpR.but {w0 : World} {k : Int} {v : Value} {er off : Int} {Ds : List Nat} {W W' : World} (h : SpR w0 k v er off Ds W) (hb : ButThese Ds W W') : SpR w0 k v er off [] W' := by
  have far : ∀ x, x < w0.heap.size + 3 → W'.heap[x]? = W.heap[x]? := fun x hx => hb.block x (fun hm => by have := (h.marks x hm).1; omega)
  exact ⟨(far _ (by omega)).trans h.d, (far _ (by omega)).trans h.e, (far _ (by omega)).trans h.o, h.below.trans (hb.below fun D hD => by have := (h.marks D hD).1; omega), List.nodup_nil, fun X hX => by cases hX⟩

theorem keepsFrom_set {B : Nat} {W : World} {b o : Nat} {cs : Array Value} {e : TypeId} {fr : Nat × Nat} (v : Value) (h : W.heap[b]? = some (.cells cs e fr)) : KeepsFrom B W (W.setCell ⟨b, o, none⟩ v) := by
  refine ⟨by simp [World.setCell], fun q ob _ ho hn => ?_⟩
  by_cases hq : q = b
  · subst hq
    rw [h] at ho
    cases ho
    cases hn
  · exact (Below.heap_setCell W ⟨b, o, none⟩ v q hq).trans ho
theorem KeepsFrom.after {B : Nat} {W W1 W2 : World} (h : KeepsFrom B W W1) (g : KeepsFrom B W1 W2) : KeepsFrom B W W2 := ⟨Nat.le_trans h.size g.size, fun q o hq ho hn => g.same q o hq (h.same q o hq ho hn) hn⟩
theorem keepsFrom_below {B : Nat} {W W' : World} (h : Below W.heap.size W W') : KeepsFrom B W W' := ⟨h.size, fun q _ _ ho _ => (h.block q (Array.getElem?_eq_some_iff.1 ho).1).trans ho⟩
theorem letKeep_rec (Bk Bs : Nat) (W : World) (l : Nat) (o o' : Obj) (h1 : Bk ≠ l) (h2 : Bs ≠ l) (h : W.heap[l]? = some o) (ho : o.isCells = false) : LetKeep Bk Bs W (W.putObj l o') :=
  ⟨by simp, World.putObj_heap_other h1, World.putObj_heap_other h2, fun ht => ht.grown (grownBy_putObj' W l o') (fun q v o1 e hc => by
    cases e
    exfalso
    obtain ⟨o2, h2, h3⟩ := cells_of_cell hc
    rw [h] at h2; cases h2; rw [ho] at h3; cases h3)⟩

/-- between two letters -/
def SpI (w0 : World) (nb : Nat) (k : Int) (ws : List (List UInt8)) (i : Nat) (t : List UInt8) (Ds : List Nat) (cb : Nat) (b : List UInt8) (W : World) : Prop :=
  ∃ ls : List (List UInt8), Sc.cuts k (t.drop i) = (ls ++ (Sc.cuts k b).1, (Sc.cuts k b).2) ∧ ls.length ≤ 12 ∧ (ls ≠ [] → ws.length ≠ 6) ∧ t.drop (i + ls.flatten.length) = b ∧ i + ls.flatten.length ≤ t.length ∧
    SpW w0 nb k ws (i + ls.flatten.length) Ds cb W ∧ W.heap[cb]? = some (.cells #[.int .i64 ls.length] 3 (0, 0))
theorem spI_stays (w0 : World) (nb : Nat) (k : Int) (ws : List (List UInt8)) (i : Nat) (t : List UInt8) (Ds : List Nat) (cb : Nat) (hDs : ∀ D ∈ Ds, D < cb) (hcb : nb + 2 ≤ cb) : Stays (cb + 3) (some (cb + 2)) (SpI w0 nb k ws i t Ds cb) := by
  rintro b A A' row ⟨ls, h1, h2, h3, h4, h5, h6, h7⟩ hg hr
  refine ⟨ls, h1, h2, h3, h4, h5, h6.grown hg (fun r e => ?_), (hg.block cb (Array.getElem?_eq_some_iff.1 h7).1 (fun e => ?_)).trans h7⟩
  · rcases hr r e with h | ⟨h8, h9⟩
    · cases h
      exact ⟨by omega, fun hm => by have := hDs _ hm; omega, .inl (by omega)⟩
    · exact ⟨by omega, fun hm => by have := hDs _ hm; omega, .inr h9⟩
  · rcases hr cb e.symm with h | ⟨h8, h9⟩
    · simp at h
    · omega
/-- where a round returns -/
def SpX (w0 : World) (t : List UInt8) (Ds : List Nat) (c : Code) (_b : List UInt8) (W : World) : Prop := c = .ret ∧ Li.nameP t = none ∧ ∃ er off : Int, er ≠ 0 ∧ SpR w0 0 (.slice none 0 0) er off Ds W
theorem spX_stays (w0 : World) (t : List UInt8) (Ds : List Nat) (c : Code) (cb : Nat) (hDs : ∀ D ∈ Ds, D < cb) (hcb : w0.heap.size + 3 ≤ cb) : Stays (cb + 3) (some (cb + 2)) (SpX w0 t Ds c) := by
  rintro b A A' row ⟨h1, h2, er, off, h3, h4⟩ hg hr
  refine ⟨h1, h2, er, off, h3, h4.grown hg (fun r e => ?_)⟩
  rcases hr r e with h | ⟨h8, h9⟩
  · cases h
    exact ⟨by omega, fun hm => by have := hDs _ hm; omega⟩
  · exact ⟨by omega, fun hm => by have := hDs _ hm; omega⟩

/-- leaving hangs on the results' slots alone -/
theorem leavesM_congr {F : Fence} {n : Nat} {P : Program} {fn : Func} {tmps tmps' : Array Value} {R : Ending → World → Prop} (h : results fn tmps = results fn tmps') : ∀ (ds : List Deferred) (u : FrameMode) (w : World), LeavesInM F n P fn tmps R ds u w → LeavesInM F n P fn tmps' R ds u w
  | [], u, w, hl => by
    cases u with
    | run => exact hl
    | returning => obtain ⟨v, h1, h2⟩ := hl; exact ⟨v, h ▸ h1, h2⟩
    | panicking c => exact hl
  | d :: ds, u, w, ⟨h1, hl⟩ => by
    refine ⟨h1, ?_⟩
    rcases hl with ⟨r, w', h2, h3, h4⟩ | ⟨hn, fv, cap, f, args, h2, h3, h5, h4⟩
    · exact .inl ⟨r, w', h2, h3, leavesM_congr h ds u w' h4⟩
    · refine .inr ⟨hn, fv, cap, f, args, h2, h3, h5, h4.mono ?_⟩
      intro e u' w' hr
      cases e with
      | returned v => exact leavesM_congr h ds _ _ hr
      | panicked c => exact leavesM_congr h ds _ _ hr
      | outgrown => exact hr
theorem leavesM_put {F : Fence} {n : Nat} {P : Program} {fn : Func} {t te ti : TypeId} (hfn : fn.results = #[.cell 2 t, .cell 3 te, .cell 4 ti]) {R : Ending → World → Prop} {a : Act} {i : Nat} (hi : 4 < i) {v : Value} {ds : List Deferred} {u : FrameMode} {w : World} (h : LeavesInM F n P fn (a.put (some i) v).tmps R ds u w) : LeavesInM F n P fn a.tmps R ds u w := by
  refine leavesM_congr ?_ ds u w h
  have g : ∀ j, j < i → ((a.put (some i) v).tmps)[j]?.getD undef = a.tmps[j]?.getD undef := fun j hj => by
    simp only [Act.put]
    rw [Array.getElem?_setIfInBounds_ne (by omega)]
  simp [results, hfn, g 2 (by omega), g 3 (by omega), g 4 (by omega)]

theorem keepsFrom_sets {B : Nat} {W W' : World} {b1 b2 b3 : Nat} (hc : ∀ b, b = b1 ∨ b = b2 ∨ b = b3 → ∃ cs e fr, W.heap[b]? = some (.cells cs e fr)) (hz : W.heap.size ≤ W'.heap.size) (hf : ∀ q, q ≠ b1 → q ≠ b2 → q ≠ b3 → W'.heap[q]? = W.heap[q]?) : KeepsFrom B W W' := by
  refine ⟨hz, fun q o _ ho hn => ?_⟩
  have hq : ∀ b, b = b1 ∨ b = b2 ∨ b = b3 → q ≠ b := fun b hb e => by
    obtain ⟨cs, t, fr, h⟩ := hc b hb
    subst e
    rw [h] at ho
    cases ho
    cases hn
  exact (hf q (hq _ (.inl rfl)) (hq _ (.inr (.inl rfl))) (hq _ (.inr (.inr rfl)))).trans ho

theorem ownsRow_far {W W' : World} {B : Nat} {e : TypeId} {z : Nat} {v : Value} {n : Nat} {xs : List Value} (h : W.ownsRow B e z v n xs) (hf : ∀ g o, B ≤ g → W.heap[g]? = some o → o.isCells = true → W'.heap[g]? = some o) : W'.ownsRow B e z v n xs := by
  refine ⟨h.1, ?_⟩
  rcases h.2 with h2 | ⟨g, cap, cur, hv, hg, hh, r⟩
  · exact .inl h2
  · exact .inr ⟨g, cap, cur, hv, hg, hf g _ hg hh rfl, r⟩
/-- a word more -/
theorem SpW.append {w0 : World} {nb : Nat} {k : Int} {ws ws' : List (List UInt8)} {j : Nat} {Ds : List Nat} {top : Nat} {W X w8 : World} {v v' : Value} (h : SpW w0 nb k ws j Ds top W) (hX : Below W.heap.size W X) (hv : W.heap[nb]? = some (.cells #[.int .i64 k, v] 73 (0, 0)))
    (hown : W.ownsRow (nb + 2) 9 1 v ws.length (ws.flatMap strC)) (hg : X.grownBy w8 v.ownBlock) (ho : w8.ownsRow (nb + 2) 9 1 v' ws'.length (ws'.flatMap strC)) :
    SpW w0 nb k ws' j Ds (w8.setCell ⟨nb, 1, none⟩ v').heap.size (w8.setCell ⟨nb, 1, none⟩ v') := by
  have hle := h.le
  have hb : ∀ x, v.ownBlock = some x → nb + 2 ≤ x := fun x hx => (own_cells hown hx).1
  have far8 : ∀ (x : Nat) (o : Obj), W.heap[x]? = some o → (x < nb + 2 ∨ o.isCells = false) → w8.heap[x]? = some o := fun x o hx hc => by
    have h1 := (hX.block x (Array.getElem?_eq_some_iff.1 hx).1).trans hx
    refine (hg.block x (Array.getElem?_eq_some_iff.1 h1).1 (fun e => ?_)).trans h1
    rcases hc with hc | hc
    · have := hb x e.symm; omega
    · obtain ⟨_, cs, h7⟩ := own_cells hown e.symm
      rw [h7] at hx
      cases hx
      cases hc
  have far : ∀ (x : Nat) (o : Obj), x ≠ nb → W.heap[x]? = some o → (x < nb + 2 ∨ o.isCells = false) → (w8.setCell ⟨nb, 1, none⟩ v').heap[x]? = some o := fun x o hn hx hc => (Below.heap_setCell w8 ⟨nb, 1, none⟩ v' x hn).trans (far8 x o hx hc)
  have hn8 := far8 nb _ hv (.inl (by omega))
  have ho2 : (w8.setCell ⟨nb, 1, none⟩ v').ownsRow (nb + 2) 9 1 v' ws'.length (ws'.flatMap strC) := ownsRow_far ho fun g o hgg hgo _ => (Below.heap_setCell w8 ⟨nb, 1, none⟩ v' g (by show g ≠ nb; omega)).trans hgo
  refine ⟨far _ _ (by omega) h.d (.inl (by omega)), far _ _ (by omega) h.e (.inl (by omega)), far _ _ (by omega) h.o (.inl (by omega)), ⟨v', ?_, ho2, fun g hgg => (ho2.lt g hgg).2⟩, far _ _ (by omega) h.a (.inl (by omega)), hle, ?_, h.once, fun D hD => ⟨(h.marks D hD).1, far D _ (by have := (h.marks D hD).1; omega) (h.marks D hD).2 (.inr rfl)⟩⟩
  · simp [World.setCell, Array.getElem?_modify, hn8]
  · refine Below.setCell (p := ⟨nb, 1, none⟩) ?_ (by show w0.heap.size ≤ nb; omega) _
    have h1 : Below w0.heap.size w0 X := h.below.trans (hX.mono h.below.size)
    exact h1.grown hg h1.size (fun r e => by have := hb r e; omega)

end Go.Proofs.YtidkmhokolknbaaGreatDoor
