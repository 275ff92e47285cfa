/-
  The law file's change and head: the chapter's examples: head returns true. Conditions: the library's tables.
-/
import Derived.Test.YtidkmhokolknbaaGreatDoorZLiQ
import Derived.Test.YtidkmhokolknbaaGreatDoorZMLiB
import Derived.Test.YtidkmhokolknbaaGreatDoorZMLiP
namespace Go.Proofs.YtidkmhokolknbaaGreatDoor
open Go.RowKit Go.Lib Go.Maps

/-- a change of the call's own -/
def ChangeP (c : Li.Ch) (w : World) (e : Ending) (w' : World) : Prop :=
  ∃ a k, ∃ l : List (Li.Nm × Value), e = .returned (.agg #[.int .i64 c.kind, .string (bs c.id), .string (bs c.en.id), .slice a l.length k, .int .i64 c.at_]) ∧ l.map Prod.fst = c.en.names ∧ NmOwn w.heap.size w' (.slice a l.length k) l ∧ Below w.heap.size w w'

set_option maxRecDepth 100000 in
set_option maxHeartbeats 1000000 in
theorem change_any (s : List UInt8) (c : Li.Ch) (w : World) (hp : Li.parse s = some c) (hs : s.length ≤ 5000) (hA : Tabs w) (hT : Tab10 w) : Calls Tryz.prog 33 #[.string (bs s)] w (ChangeP c w) := by
  obtain ⟨W1, hW1⟩ : ∃ W1, W1 = w.alloc (.cells #[.int .i64 0, .string ⟨#[]⟩, .string ⟨#[]⟩, .slice none 0 0, .int .i64 0] 27) := ⟨_, rfl⟩
  have hb1 : Below w.heap.size w W1 := by rw [hW1]; exact (Below.refl _ w).alloc (Nat.le_refl _) _
  have hd1 : W1.heap[w.heap.size]? = some (.cells #[.int .i64 0, .string ⟨#[]⟩, .string ⟨#[]⟩, .slice none 0 0, .int .i64 0] 27 (0, 0)) := by rw [hW1]; exact alloc_new w _
  have HP := hid (listParse_any s W1 hs (hA.below hb1) (hT.below hb1))
  have HD := hid (And.intro hb1 hd1)
  have HPP := hid hp
  clear hA hT hb1 hd1 hp
  go_enter Tryz.func33, Tryz.ntmps33
  go_upto_region 1 with (fail)
  rw [← hW1]
  clear hW1
  go_wp2_with fail
  refine (HP.out).mono ?_
  rintro e w2 ⟨hb2, h2⟩
  rw [HPP.out] at h2
  obtain ⟨u, l, rfl, hl, ho⟩ := h2
  unfold chV
  obtain ⟨a, k, rfl⟩ := ownsRow_slice ho.1
  have hd2 := (hb2.block _ (Array.getElem?_eq_some_iff.1 HD.out.2).1).trans HD.out.2
  obtain ⟨⟨d0, d1, d2, d3, d4⟩, ⟨g0, g1, g2, g3, g4⟩, zp⟩ := ch_cells hd2
  have H2 := hid (And.intro hb2 (And.intro hl (And.intro ho hd2)))
  clear hb2 hl ho hd2
  go_wp2_with fail
  obtain ⟨hb2, hl, ho, hd2⟩ := H2.out
  have hst := ch_stored (.int .i64 c.kind) (.string (bs c.id)) (.string (bs c.en.id)) (.slice a l.length k) (.int .i64 c.at_) hd2
  have hz := (Array.getElem?_eq_some_iff.1 hst.1).1
  refine bodyPost_ret (results_cell_row rfl _ _ w.heap.size 27 _ _ _ rfl ((Below.heap_alloc _ _ _ hz).trans hst.1) Tryz.underlying27 rfl (by kernel_rfl)) rfl ?_
  have hle := HD.out.1.size
  have far : ∀ g o, W1.heap.size ≤ g → w2.heap[g]? = some o → o.isCells = true → _ := fun g o hg ho _ => (Below.heap_alloc _ (.cells #[.int .i64 c.kind, .string (bs c.id), .string (bs c.en.id), .slice a l.length k, .int .i64 c.at_] 27) g (by
      have := (Array.getElem?_eq_some_iff.1 ho).1
      simp [World.setCell]; omega)).trans ((hst.2 g (by have := (Array.getElem?_eq_some_iff.1 HD.out.2).1; omega)).trans ho)
  refine ⟨a, k, l, rfl, hl, ⟨ownsRow_base (ownsRow_far ho.1 far) hle, fun q hq => ⟨ownsRow_base (ownsRow_far (ho.2 q hq).1 far) hle, (ho.2 q hq).2⟩⟩, ?_⟩
  exact (ch_below _ _ _ _ _ (Below.step HD.out.1 hb2) (Nat.le_refl _)).alloc (by have := (Below.step HD.out.1 hb2).size; simp [World.setCell]; omega) _

/-- changes in a block of their own -/
theorem chs_row {X : World} {b : Nat} {cs : List (Li.Ch × Value)} (h : X.heap[b]? = some (.cells (cs.flatMap chC).toArray 27 (0, 0))) (hl : cs.length ≤ 1000) (hn : ∀ p ∈ cs, NmsIn X p.2 p.1.en.names) (hi : ∀ p ∈ cs, p.1.id.length ≤ 5000 ∧ p.1.en.id.length ≤ 5000) :
    ChsAt X (.slice (some ⟨b, 0, none⟩) cs.length cs.length) cs := by
  have hfl : (cs.flatMap chC).length = cs.length * 5 := flatLen (cells := chC) (sz := 5) cs (fun x => rfl)
  refine ⟨SlOf.own (B := 0) (e := 27) ⟨hfl, .inr ⟨b, cs.length, _, rfl, Nat.zero_le _, h, Nat.le_refl _, by unfold maxLen; omega, by simp [hfl], ?_⟩⟩ (fun _ _ => rfl), hn, hi⟩
  exact List.take_of_length_le (by show (cs.flatMap chC).length ≤ _; omega)
def RunH (L : List Li.Ls) (E : List Int) (w : World) (e : Ending) (w' : World) : Prop :=
  ∃ (la : Option Addr) (lc : Nat) (ea : Option Addr) (ec : Nat) (ps : List (Li.Ls × Value)), e = .returned (.tuple #[.slice la L.length lc, .slice ea E.length ec]) ∧ ps.map Prod.fst = L ∧ LssAt w' (.slice la L.length lc) ps ∧ SlOf w' (.slice ea E.length ec) 1 intC E ∧ Below w.heap.size w w'
theorem run_head {cs : List (Li.Ch × Value)} {v : Value} {w : World} {L : List Li.Ls} {E : List Int} (hr : Li.run [] (cs.map Prod.fst) = (L, E)) (h : ChsAt w v cs) (hd : cs.length ≤ 5000) (hA : Tabs w) (hT : Tab10 w) : Calls Tryz.prog 16 #[v] w (RunH L E w) := by
  refine (run_any cs v w h hd hA hT).mono ?_
  rintro e w' ⟨lv, ev, ps, rfl, h1, h2, h3, h4⟩
  rw [hr] at h1 h3
  simp only at h1 h3
  obtain ⟨la, lc, e1, -⟩ := id h2.sl
  obtain ⟨ea, ec, e2, -⟩ := id h3
  have hl : ps.length = L.length := by rw [← h1, List.length_map]
  rw [hl] at e1
  subst e1
  subst e2
  exact ⟨la, lc, ea, ec, ps, rfl, h1, h2, h3, h4⟩
theorem at_head {L : List Li.Ls} {ps : List (Li.Ls × Value)} {v : Value} {t : Int} {n : Nat} {w : World} (hm : ps.map Prod.fst = L) (hr : (Li.at_ L t).length = n) (h : LssAt w v ps) (hd : ps.length ≤ 5000) (hA : Tabs w) (hT : Tab10 w) :
    Calls Tryz.prog 26 #[v, .int .i64 t] w (fun e w' => ∃ a c, e = .returned (.slice a n c) ∧ Below w.heap.size w w') := by
  refine (listAt_any ps v t w h hd hA hT).mono ?_
  rintro e w' ⟨ev, es, rfl, h1, h2, h3⟩
  rw [hm] at h1
  obtain ⟨a, c, e1, -⟩ := id h2.sl
  have : es.length = n := by rw [← hr, ← h1, List.length_map]
  rw [this] at e1
  subst e1
  exact ⟨a, c, rfl, h3⟩
theorem NmOwn.lens {B : Nat} {W : World} {v : Value} {l : List (Li.Nm × Value)} {c : Li.Ch} (h : NmOwn B W v l) (hm : l.map Prod.fst = c.en.names) : NmsIn W v c.en.names := by rw [← hm]; exact h.nms

def ChangeL (kd : Int) (id eid : List UInt8) (ns : List Li.Nm) (at_ : Int) (n : Nat) (w : World) (e : Ending) (w' : World) : Prop :=
  ∃ a k, e = .returned (.agg #[.int .i64 kd, .string (bs id), .string (bs eid), .slice a n k, .int .i64 at_]) ∧ NmsIn w' (.slice a n k) ns ∧ Below w.heap.size w w'
theorem change_lit {s : List UInt8} {kd : Int} {id eid : List UInt8} {ns : List Li.Nm} {at_ : Int} (n : Nat) (w : World) (hp : Li.parse s = some ⟨kd, id, ⟨eid, ns⟩, at_⟩) (hn : ns.length = n) (hs : s.length ≤ 5000) (hA : Tabs w) (hT : Tab10 w) : Calls Tryz.prog 33 #[.string (bs s)] w (ChangeL kd id eid ns at_ n w) := by
  refine (change_any s _ w hp hs hA hT).mono ?_
  rintro e w' ⟨a, k, l, rfl, h1, h2, h3⟩
  have hl : l.length = n := by
    have h5 := congrArg List.length h1
    rw [List.length_map] at h5
    exact h5.trans hn
  have h4 := h2.lens h1
  rw [hl] at h4
  exact ⟨a, k, by rw [hl], h4, h3⟩
theorem bs_lit {l : List UInt8} {a : Array UInt8} (h : l.toArray = a) : bs l = ⟨a⟩ := by subst h; rfl
/-- one cell of a row of numbers -/
theorem int_row {W : World} {a : Option Addr} {c : Nat} {E : List Int} {n : Nat} (h : SlOf W (.slice a n c) 1 intC E) (h0 : 0 < E.length) : ∃ g o, a = some ⟨g, o, none⟩ ∧ g < W.heap.size ∧ ∀ (i : Nat) (x : Int), E[i]? = some x → W.cell? ⟨g, o + i, none⟩ = some (.int .i64 x) := by
  obtain ⟨a', cap', ev, -, -, hr⟩ := h
  have e1 := (Value.slice.inj ev).1
  subst e1
  obtain ⟨g, o, ea, hr⟩ := hr h0
  exact ⟨g, o, ea, hr.1, fun i x hx => by have := hr.2 i x hx 0 _ rfl; simpa using this⟩

set_option maxRecDepth 100000 in
set_option maxHeartbeats 20000000 in
theorem head_true (w : World) (hA : Tabs w) (hT : Tab10 w) : Calls Tryz.prog 11 #[] w (Gives (.bool true) w) := by
  have HAA := hid hA
  have HTT := hid hT
  have HP0 := hid (change_lit (kd := 1) (id := Li.hId) (eid := Li.hId) (ns := Li.hEn.names) (at_ := 10) 1 w Li.p_add rfl (by decide) hA hT)
  rw [bs_lit (show Li.hAdd.toArray = _ from rfl)] at HP0
  clear hA hT
  go_enter Tryz.func11, Tryz.ntmps11
  go_wp2_with fail
  refine (HP0.out).mono ?_
  rintro e w1 ⟨na, nk, rfl, hn1, hb1⟩
  have HN1 := hid hn1
  have HB1 := hid hb1
  clear hn1 hb1
  obtain ⟨X2, hX2⟩ : ∃ X2, X2 = w1.alloc (.cells #[.int .i64 1, .string (bs Li.hId), .string (bs Li.hId), .slice na 1 nk, .int .i64 10] 27) := ⟨_, rfl⟩
  have hd2 : X2.heap[w1.heap.size]? = some (.cells #[.int .i64 1, .string (bs Li.hId), .string (bs Li.hId), .slice na 1 nk, .int .i64 10] 27 (0, 0)) := by rw [hX2]; exact alloc_new w1 _
  have hb2 : Below w1.heap.size w1 X2 := by rw [hX2]; exact (Below.refl _ w1).alloc (Nat.le_refl _) _
  have HD2 := hid hd2
  have HB2 := hid (Below.step HB1.out hb2)
  have HN2 := hid (HN1.out.below hb2)
  -- the box of the first change in any later world
  have HBOX := hid (show ∀ X, Below X2.heap.size X2 X → X.heap[w1.heap.size]? = some (.cells #[.int .i64 1, .string (bs Li.hId), .string (bs Li.hId), .slice na 1 nk, .int .i64 10] 27 (0, 0)) from fun X hX => (hX.block _ (Array.getElem?_eq_some_iff.1 hd2).1).trans hd2)
  obtain ⟨⟨d0, d1, d2, d3, d4⟩, -, zp⟩ := ch_cells hd2
  clear hd2 hb2
  go_upto_region 2 with (fail)
  rw [← hX2]
  clear hX2
  -- the first list
  obtain ⟨Y2, hY2⟩ : ∃ Y2, Y2 = X2.alloc (.cells #[.int .i64 1, .string (bs Li.hId), .string (bs Li.hId), .slice na 1 nk, .int .i64 10] 27) := ⟨_, rfl⟩
  have hby2 : Below X2.heap.size X2 Y2 := by rw [hY2]; exact (Below.refl _ X2).alloc (Nat.le_refl _) _
  have hcs2 : ChsAt Y2 (.slice (some ⟨X2.heap.size, 0, none⟩) 1 1) [(Li.cAdd, .slice na 1 nk)] := chs_row (cs := [(Li.cAdd, .slice na 1 nk)]) (by rw [hY2]; exact alloc_new X2 _) (by simp) (fun p hp => by simp only [List.mem_singleton] at hp; subst hp; exact HN2.out.below hby2) (fun p hp => by simp only [List.mem_singleton] at hp; subst hp; exact ⟨show Li.cAdd.id.length ≤ 5000 by decide, show Li.cAdd.en.id.length ≤ 5000 by decide⟩)
  have HR2 := hid (run_head (cs := [(Li.cAdd, .slice na 1 nk)]) (w := Y2) Li.r_a hcs2 (by simp) (HAA.out.below (Below.step HB2.out hby2)) (HTT.out.below (Below.step HB2.out hby2)))
  have HBY2 := hid hby2
  clear hby2 hcs2
  go_wp2_with fail
  rw [← hY2]
  clear hY2
  refine (HR2.out).mono ?_
  rintro e w3 ⟨la, lc, ea, ec, ps1, rfl, hm1, hl1, he1, hb3⟩
  have HB3 := hid (Below.step HB2.out (Below.step HBY2.out hb3))
  have HBX3 := hid (Below.step HBY2.out hb3)
  have H1 := hid (And.intro hm1 (And.intro hl1 he1))
  clear hm1 hl1 he1 hb3
  simp only [List.length_cons, List.length_nil, Nat.reduceAdd]
  obtain ⟨⟨d0, d1, d2, d3, d4⟩, -, zp⟩ := ch_cells (HBOX.out w3 HBX3.out)
  go_wp2_with fail
  refine wp_heldS (S := StillAt w3) (by kernel_rfl) ?_
  simp only [List.size_toArray, List.length_cons, List.length_nil, Nat.reduceAdd]
  intro hc
  have S0 : StillAt w3 (Array.replicate 9 false) w3.drew := (Below.refl _ _).drew
  refine wpAnyS_take (i := 0) (v := .agg #[.int .i64 1, .string (bs Li.hId), .string (bs Li.hId), .slice na 1 nk, .int .i64 10]) rfl (by kernel_rfl) (by kernel_rfl) (by kernel_rfl) (fun _ _ _ h => h) (fun _ _ => Iff.rfl) hc (by first | rfl | simp [Region.wanted]) (fun wx hx => ?_) S0 (fun hc S0 => ?_)
  · have g0 := (hx.still.cell (p := ⟨w1.heap.size, 0, none⟩) zp).trans d0; have g1 := (hx.still.cell (p := ⟨w1.heap.size, 1, none⟩) zp).trans d1; have g2 := (hx.still.cell (p := ⟨w1.heap.size, 2, none⟩) zp).trans d2; have g3 := (hx.still.cell (p := ⟨w1.heap.size, 3, none⟩) zp).trans d3; have g4 := (hx.still.cell (p := ⟨w1.heap.size, 4, none⟩) zp).trans d4
    go_simp
  try simp only [List.getElem_toArray, List.getElem_cons_zero, Act.put, List.setIfInBounds_toArray, List.set_cons_zero, List.set_cons_succ]
  refine wpAnyS_one (i := 1) rfl (by kernel_rfl) (by rfl) hc (fun K' hK => ?_)
  go_simp
  refine ((change_lit (w := w3.drew) (kd := 2) (id := Li.hId) (eid := []) (ns := []) (at_ := 50) 0 Li.p_rem rfl (by decide) (HAA.out.below (Below.step HB3.out (Below.refl _ w3).drew)) (HTT.out.below (Below.step HB3.out (Below.refl _ w3).drew))) : Calls Tryz.prog 33 #[.string ⟨#[114, 101, 109, 111, 118, 101, 32, 101, 49, 32, 53, 48, 59]⟩] _ _).mono ?_
  rintro e w4 ⟨w4a, w4k, rfl, hnw4, hbw4⟩
  have hBw4 := (Below.step (Below.refl _ w3).drew hbw4)
  refine hK.out _ _ hBw4 (fun hc => ?_)
  clear hK K'
  have S0 : StillAt w3 #[] w4 := hBw4
  try simp only [List.getElem_toArray, List.getElem_cons_succ, List.getElem_cons_zero, Act.put, List.setIfInBounds_toArray, List.set_cons_zero, List.set_cons_succ]
  refine wpAnyS_one (i := 2) rfl (by kernel_rfl) (by rfl) hc (fun K' hK => ?_)
  go_simp
  obtain ⟨Yw3, hYw3⟩ : ∃ Yw3, Yw3 = w4.alloc (.cells #[.int .i64 1, .string (bs Li.hId), .string (bs Li.hId), .slice na 1 nk, .int .i64 10, .int .i64 2, .string (bs Li.hId), .string (bs []), .slice w4a 0 w4k, .int .i64 50] 27) := ⟨_, rfl⟩
  have hbYw3 : Below w4.heap.size w4 Yw3 := by rw [hYw3]; exact (Below.refl _ w4).alloc (Nat.le_refl _) _
  have hBYw3 := Below.step hBw4 hbYw3
  have hcs : ChsAt Yw3 (.slice (some ⟨w4.heap.size, 0, none⟩) 2 2) [(Li.cAdd, .slice na 1 nk), (Li.cRem, .slice w4a 0 w4k)] := chs_row (cs := [(Li.cAdd, .slice na 1 nk), (Li.cRem, .slice w4a 0 w4k)]) (by rw [hYw3]; exact alloc_new w4 _) (by simp) (fun p hp => by
      simp only [List.mem_cons, List.not_mem_nil, or_false] at hp
      rcases hp with rfl | rfl
      · exact HN2.out.below (Below.step HBX3.out hBYw3)
      · exact (hnw4).below hbYw3
    ) (fun p hp => by
      simp only [List.mem_cons, List.not_mem_nil, or_false] at hp
      rcases hp with rfl | rfl
      · exact ⟨show Li.cAdd.id.length ≤ 5000 by decide, show Li.cAdd.en.id.length ≤ 5000 by decide⟩
      · exact ⟨show Li.cRem.id.length ≤ 5000 by decide, show Li.cRem.en.id.length ≤ 5000 by decide⟩
    )
  have HRR := hid (run_head (cs := [(Li.cAdd, .slice na 1 nk), (Li.cRem, .slice w4a 0 w4k)]) (w := Yw3) Li.r_b hcs (by simp) (HAA.out.below (Below.step HB3.out hBYw3)) (HTT.out.below (Below.step HB3.out hBYw3)))
  rw [← hYw3]
  clear hcs hYw3
  refine hK.out _ _ hBYw3 (fun hc => ?_)
  clear hK K'
  have S0 : StillAt w3 #[] Yw3 := hBYw3
  try simp only [List.getElem_toArray, List.getElem_cons_succ, List.getElem_cons_zero, Act.put, List.setIfInBounds_toArray, List.set_cons_zero, List.set_cons_succ]
  refine wpAnyS_one (i := 3) rfl (by kernel_rfl) (by rfl) hc (fun K' hK => ?_)
  go_simp
  refine (HRR.out).mono ?_
  rintro e w5 ⟨w5l, w5lc, w5e, w5ec, w5ps, rfl, hmw5, hlw5, hew5, hbw5⟩
  have hBw5 := Below.step hBYw3 hbw5
  simp only [List.length_cons, List.length_nil, Nat.reduceAdd]
  refine hK.out _ _ hBw5 (fun hc => ?_)
  clear hK K'
  have S0 : StillAt w3 #[] w5 := hBw5
  try simp only [List.getElem_toArray, List.getElem_cons_succ, List.getElem_cons_zero, Act.put, List.setIfInBounds_toArray, List.set_cons_zero, List.set_cons_succ]
  refine wpAnyS_one (i := 4) rfl (by kernel_rfl) (by rfl) hc (fun K' hK => ?_)
  go_simp
  refine hK.out _ _ hBw5 (fun hc => ?_)
  clear hK K'
  have S0 : StillAt w3 #[] w5 := hBw5
  try simp only [List.getElem_toArray, List.getElem_cons_succ, List.getElem_cons_zero, Act.put, List.setIfInBounds_toArray, List.set_cons_zero, List.set_cons_succ]
  refine wpAnyS_take (i := 5) (v := .slice w5l 1 w5lc) rfl (by kernel_rfl) (by kernel_rfl) (by kernel_rfl) (fun _ _ _ h => h) (fun _ _ => Iff.rfl) hc (by first | rfl | simp [Region.wanted]) (fun wx hx => ?_) S0 (fun hc S0 => ?_)
  · go_simp
  try simp only [List.getElem_toArray, List.getElem_cons_succ, List.getElem_cons_zero, Act.put, List.setIfInBounds_toArray, List.set_cons_zero, List.set_cons_succ]
  refine wpAnyS_take (i := 6) (v := .slice w5e 2 w5ec) rfl (by kernel_rfl) (by kernel_rfl) (by kernel_rfl) (fun _ _ _ h => h) (fun _ _ => Iff.rfl) hc (by first | rfl | simp [Region.wanted]) (fun wx hx => ?_) S0 (fun hc S0 => ?_)
  · go_simp
  try simp only [List.getElem_toArray, List.getElem_cons_succ, List.getElem_cons_zero, Act.put, List.setIfInBounds_toArray, List.set_cons_zero, List.set_cons_succ]
  refine wpAnyS_one (i := 7) rfl (by kernel_rfl) (by rfl) hc (fun K' hK => ?_)
  go_simp
  refine hK.out _ _ hBw5 (fun hc => ?_)
  clear hK K'
  have S0 : StillAt w3 #[] w5 := hBw5
  try simp only [List.getElem_toArray, List.getElem_cons_succ, List.getElem_cons_zero, Act.put, List.setIfInBounds_toArray, List.set_cons_zero, List.set_cons_succ]
  refine wpAnyS_one (i := 8) rfl (by kernel_rfl) (by rfl) hc (fun K' hK => ?_)
  go_simp
  refine hK.out _ _ hBw5 (fun hc => ?_)
  clear hK K'
  have S0 : StillAt w3 #[] w5 := hBw5
  try simp only [List.getElem_toArray, List.getElem_cons_succ, List.getElem_cons_zero, Act.put, List.setIfInBounds_toArray, List.set_cons_zero, List.set_cons_succ]
  refine wpAnyS_done (by kernel_rfl) ?_ _
  clear hc S0
  have HB5 := hid (Below.step HB3.out hBw5)
  have HBX5 := hid (Below.step HBX3.out hBw5)
  have HW5 := hid hBw5
  have H2 := hid (And.intro hmw5 (And.intro hlw5 hew5))
  clear hBw5 hbw5 hBYw3 hbYw3 HRR d0 d1 d2 d3 d4 zp hmw5 hlw5 hew5 hBw4 hbw4 hnw4
  obtain ⟨⟨d0, d1, d2, d3, d4⟩, -, zp⟩ := ch_cells (HBOX.out w5 HBX5.out)
  go_wp2_with fail
  refine wp_heldS (S := StillAt w5) (by kernel_rfl) ?_
  simp only [List.size_toArray, List.length_cons, List.length_nil, Nat.reduceAdd]
  intro hc
  have S0 : StillAt w5 (Array.replicate 10 false) w5.drew := (Below.refl _ _).drew
  refine wpAnyS_take (i := 0) (v := .agg #[.int .i64 1, .string (bs Li.hId), .string (bs Li.hId), .slice na 1 nk, .int .i64 10]) rfl (by kernel_rfl) (by kernel_rfl) (by kernel_rfl) (fun _ _ _ h => h) (fun _ _ => Iff.rfl) hc (by first | rfl | simp [Region.wanted]) (fun wx hx => ?_) S0 (fun hc S0 => ?_)
  · have g0 := (hx.still.cell (p := ⟨w1.heap.size, 0, none⟩) zp).trans d0; have g1 := (hx.still.cell (p := ⟨w1.heap.size, 1, none⟩) zp).trans d1; have g2 := (hx.still.cell (p := ⟨w1.heap.size, 2, none⟩) zp).trans d2; have g3 := (hx.still.cell (p := ⟨w1.heap.size, 3, none⟩) zp).trans d3; have g4 := (hx.still.cell (p := ⟨w1.heap.size, 4, none⟩) zp).trans d4
    go_simp
  try simp only [List.getElem_toArray, List.getElem_cons_zero, Act.put, List.setIfInBounds_toArray, List.set_cons_zero, List.set_cons_succ]
  refine wpAnyS_one (i := 1) rfl (by kernel_rfl) (by rfl) hc (fun K' hK => ?_)
  go_simp
  refine ((change_lit (w := w5.drew) (kd := 4) (id := Li.hId) (eid := []) (ns := []) (at_ := 0) 0 Li.p_void rfl (by decide) (HAA.out.below (Below.step HB5.out (Below.refl _ w5).drew)) (HTT.out.below (Below.step HB5.out (Below.refl _ w5).drew))) : Calls Tryz.prog 33 #[.string ⟨#[118, 111, 105, 100, 32, 101, 49, 59]⟩] _ _).mono ?_
  rintro e w6 ⟨w6a, w6k, rfl, hnw6, hbw6⟩
  have hBw6 := (Below.step (Below.refl _ w5).drew hbw6)
  refine hK.out _ _ hBw6 (fun hc => ?_)
  clear hK K'
  have S0 : StillAt w5 #[] w6 := hBw6
  try simp only [List.getElem_toArray, List.getElem_cons_succ, List.getElem_cons_zero, Act.put, List.setIfInBounds_toArray, List.set_cons_zero, List.set_cons_succ]
  refine wpAnyS_one (i := 2) rfl (by kernel_rfl) (by rfl) hc (fun K' hK => ?_)
  go_simp
  refine ((change_lit (w := w6) (kd := 1) (id := Li.hId) (eid := Li.hId) (ns := Li.hEn.names) (at_ := 60) 1 Li.p_add2 rfl (by decide) (HAA.out.below (Below.step HB5.out hBw6)) (HTT.out.below (Below.step HB5.out hBw6))) : Calls Tryz.prog 33 #[.string ⟨#[97, 100, 100, 32, 101, 49, 32, 54, 48, 32, 34, 112, 108, 97, 105, 110, 58, 97, 110, 110, 97, 34, 59]⟩] _ _).mono ?_
  rintro e w7 ⟨w7a, w7k, rfl, hnw7, hbw7⟩
  have hBw7 := (Below.step hBw6 hbw7)
  refine hK.out _ _ hBw7 (fun hc => ?_)
  clear hK K'
  have S0 : StillAt w5 #[] w7 := hBw7
  try simp only [List.getElem_toArray, List.getElem_cons_succ, List.getElem_cons_zero, Act.put, List.setIfInBounds_toArray, List.set_cons_zero, List.set_cons_succ]
  refine wpAnyS_one (i := 3) rfl (by kernel_rfl) (by rfl) hc (fun K' hK => ?_)
  go_simp
  obtain ⟨Yw5, hYw5⟩ : ∃ Yw5, Yw5 = w7.alloc (.cells #[.int .i64 1, .string (bs Li.hId), .string (bs Li.hId), .slice na 1 nk, .int .i64 10, .int .i64 4, .string (bs Li.hId), .string (bs []), .slice w6a 0 w6k, .int .i64 0, .int .i64 1, .string (bs Li.hId), .string (bs Li.hId), .slice w7a 1 w7k, .int .i64 60] 27) := ⟨_, rfl⟩
  have hbYw5 : Below w7.heap.size w7 Yw5 := by rw [hYw5]; exact (Below.refl _ w7).alloc (Nat.le_refl _) _
  have hBYw5 := Below.step hBw7 hbYw5
  have hcs : ChsAt Yw5 (.slice (some ⟨w7.heap.size, 0, none⟩) 3 3) [(Li.cAdd, .slice na 1 nk), (Li.cVoid, .slice w6a 0 w6k), (Li.cAdd2, .slice w7a 1 w7k)] := chs_row (cs := [(Li.cAdd, .slice na 1 nk), (Li.cVoid, .slice w6a 0 w6k), (Li.cAdd2, .slice w7a 1 w7k)]) (by rw [hYw5]; exact alloc_new w7 _) (by simp) (fun p hp => by
      simp only [List.mem_cons, List.not_mem_nil, or_false] at hp
      rcases hp with rfl | rfl | rfl
      · exact HN2.out.below (Below.step HBX5.out hBYw5)
      · exact ((hnw6.below hbw7)).below hbYw5
      · exact (hnw7).below hbYw5
    ) (fun p hp => by
      simp only [List.mem_cons, List.not_mem_nil, or_false] at hp
      rcases hp with rfl | rfl | rfl
      · exact ⟨show Li.cAdd.id.length ≤ 5000 by decide, show Li.cAdd.en.id.length ≤ 5000 by decide⟩
      · exact ⟨show Li.cVoid.id.length ≤ 5000 by decide, show Li.cVoid.en.id.length ≤ 5000 by decide⟩
      · exact ⟨show Li.cAdd2.id.length ≤ 5000 by decide, show Li.cAdd2.en.id.length ≤ 5000 by decide⟩
    )
  have HRR := hid (run_head (cs := [(Li.cAdd, .slice na 1 nk), (Li.cVoid, .slice w6a 0 w6k), (Li.cAdd2, .slice w7a 1 w7k)]) (w := Yw5) Li.r_c hcs (by simp) (HAA.out.below (Below.step HB5.out hBYw5)) (HTT.out.below (Below.step HB5.out hBYw5)))
  rw [← hYw5]
  clear hcs hYw5
  refine hK.out _ _ hBYw5 (fun hc => ?_)
  clear hK K'
  have S0 : StillAt w5 #[] Yw5 := hBYw5
  try simp only [List.getElem_toArray, List.getElem_cons_succ, List.getElem_cons_zero, Act.put, List.setIfInBounds_toArray, List.set_cons_zero, List.set_cons_succ]
  refine wpAnyS_one (i := 4) rfl (by kernel_rfl) (by rfl) hc (fun K' hK => ?_)
  go_simp
  refine (HRR.out).mono ?_
  rintro e w8 ⟨w8l, w8lc, w8e, w8ec, w8ps, rfl, hmw8, hlw8, hew8, hbw8⟩
  have hBw8 := Below.step hBYw5 hbw8
  simp only [List.length_cons, List.length_nil, Nat.reduceAdd]
  refine hK.out _ _ hBw8 (fun hc => ?_)
  clear hK K'
  have S0 : StillAt w5 #[] w8 := hBw8
  try simp only [List.getElem_toArray, List.getElem_cons_succ, List.getElem_cons_zero, Act.put, List.setIfInBounds_toArray, List.set_cons_zero, List.set_cons_succ]
  refine wpAnyS_one (i := 5) rfl (by kernel_rfl) (by rfl) hc (fun K' hK => ?_)
  go_simp
  refine hK.out _ _ hBw8 (fun hc => ?_)
  clear hK K'
  have S0 : StillAt w5 #[] w8 := hBw8
  try simp only [List.getElem_toArray, List.getElem_cons_succ, List.getElem_cons_zero, Act.put, List.setIfInBounds_toArray, List.set_cons_zero, List.set_cons_succ]
  refine wpAnyS_take (i := 6) (v := .slice w8l 1 w8lc) rfl (by kernel_rfl) (by kernel_rfl) (by kernel_rfl) (fun _ _ _ h => h) (fun _ _ => Iff.rfl) hc (by first | rfl | simp [Region.wanted]) (fun wx hx => ?_) S0 (fun hc S0 => ?_)
  · go_simp
  try simp only [List.getElem_toArray, List.getElem_cons_succ, List.getElem_cons_zero, Act.put, List.setIfInBounds_toArray, List.set_cons_zero, List.set_cons_succ]
  refine wpAnyS_take (i := 7) (v := .slice w8e 3 w8ec) rfl (by kernel_rfl) (by kernel_rfl) (by kernel_rfl) (fun _ _ _ h => h) (fun _ _ => Iff.rfl) hc (by first | rfl | simp [Region.wanted]) (fun wx hx => ?_) S0 (fun hc S0 => ?_)
  · go_simp
  try simp only [List.getElem_toArray, List.getElem_cons_succ, List.getElem_cons_zero, Act.put, List.setIfInBounds_toArray, List.set_cons_zero, List.set_cons_succ]
  refine wpAnyS_one (i := 8) rfl (by kernel_rfl) (by rfl) hc (fun K' hK => ?_)
  go_simp
  refine hK.out _ _ hBw8 (fun hc => ?_)
  clear hK K'
  have S0 : StillAt w5 #[] w8 := hBw8
  try simp only [List.getElem_toArray, List.getElem_cons_succ, List.getElem_cons_zero, Act.put, List.setIfInBounds_toArray, List.set_cons_zero, List.set_cons_succ]
  refine wpAnyS_one (i := 9) rfl (by kernel_rfl) (by rfl) hc (fun K' hK => ?_)
  go_simp
  refine hK.out _ _ hBw8 (fun hc => ?_)
  clear hK K'
  have S0 : StillAt w5 #[] w8 := hBw8
  try simp only [List.getElem_toArray, List.getElem_cons_succ, List.getElem_cons_zero, Act.put, List.setIfInBounds_toArray, List.set_cons_zero, List.set_cons_succ]
  refine wpAnyS_done (by kernel_rfl) ?_ _
  clear hc S0
  have HB8 := hid (Below.step HB5.out hBw8)
  have HBX8 := hid (Below.step HBX5.out hBw8)
  have HW8 := hid hBw8
  have H3 := hid (And.intro hmw8 (And.intro hlw8 hew8))
  clear hBw8 hbw8 hBYw5 hbYw5 HRR d0 d1 d2 d3 d4 zp hmw8 hlw8 hew8 hBw6 hbw6 hnw6 hBw7 hbw7 hnw7
  obtain ⟨⟨d0, d1, d2, d3, d4⟩, -, zp⟩ := ch_cells (HBOX.out w8 HBX8.out)
  obtain ⟨g1, o1, rfl, zg1, e1⟩ := int_row (H1.out.2.2.below (Below.step HW5.out HW8.out)) (by simp)
  obtain ⟨g2, o2, rfl, zg2, e2⟩ := int_row (H2.out.2.2.below HW8.out) (by simp)
  obtain ⟨g3, o3, rfl, zg3, e3⟩ := int_row H3.out.2.2 (by simp)
  have e10 := e1 0 0 rfl
  have e21 := e2 1 0 rfl
  have e31 := e3 1 0 rfl
  have e32 := e3 2 9 rfl
  rw [Nat.add_zero] at e10
  clear e1 e2 e3
  have HTX := hid (show Calls Tryz.prog 18 #[.agg #[.int .i64 1, .string (bs Li.hId), .string (bs Li.hId), .slice na 1 nk, .int .i64 10]] w8 (fun e w' => e = .returned (.tuple #[.string ⟨#[97, 100, 100, 32, 101, 49, 32, 49, 48, 32, 34, 112, 108, 97, 105, 110, 58, 97, 110, 110, 97, 34, 59]⟩, .int .i64 0]) ∧ Below w8.heap.size w8 w') from
    (listText_any 1 Li.hId Li.hId Li.hEn.names (.slice na 1 nk) 10 w8 (HN2.out.below HBX8.out) (by decide) (by decide) (HAA.out.below HB8.out) (HTT.out.below HB8.out)).mono (by
      rintro e w' ⟨h1, h2⟩
      refine ⟨?_, h2⟩
      rw [h1]
      have ec : (⟨1, Li.hId, ⟨Li.hId, Li.hEn.names⟩, 10⟩ : Li.Ch) = Li.cAdd := rfl
      rw [ec, Li.t_add, if_pos Li.f_add]
      rfl))
  go_wp2_with fail
  refine (HTX.out).mono ?_
  rintro e w9 ⟨rfl, hb9⟩
  have HW9 := hid hb9
  have HB9 := hid (Below.step HB8.out hb9)
  clear hb9 d0 d1 d2 d3 d4 zp e10 e21 e31 e32
  go_wp2_with fail
  refine (at_head (n := 1) (t := 50) (w := w9) H1.out.1 (by decide +kernel) (H1.out.2.1.below (Below.step HW5.out (Below.step HW8.out HW9.out))) (by have := congrArg List.length H1.out.1; rw [List.length_map] at this; simp at this; omega) (HAA.out.below HB9.out) (HTT.out.below HB9.out)).mono ?_
  rintro e w10 ⟨a10, k10, rfl, hb10⟩
  have HB10 := hid (Below.step HB9.out hb10)
  have HW10 := hid (Below.step HW9.out hb10)
  clear hb10
  go_wp2_with fail
  refine (at_head (n := 0) (t := 9) (w := w10) H1.out.1 (by decide +kernel) (H1.out.2.1.below (Below.step HW5.out (Below.step HW8.out HW10.out))) (by have := congrArg List.length H1.out.1; rw [List.length_map] at this; simp at this; omega) (HAA.out.below HB10.out) (HTT.out.below HB10.out)).mono ?_
  rintro e w11 ⟨a11, k11, rfl, hb11⟩
  have HB11 := hid (Below.step HB10.out hb11)
  have HW11 := hid (Below.step HW10.out hb11)
  clear hb11
  go_wp2_with fail
  refine (at_head (n := 0) (t := 50) (w := w11) H2.out.1 (by decide +kernel) (H2.out.2.1.below (Below.step HW8.out HW11.out)) (by have := congrArg List.length H2.out.1; rw [List.length_map] at this; simp at this; omega) (HAA.out.below HB11.out) (HTT.out.below HB11.out)).mono ?_
  rintro e w12 ⟨a12, k12, rfl, hb12⟩
  have HB12 := hid (Below.step HB11.out hb12)
  have HW12 := hid (Below.step HW11.out hb12)
  clear hb12
  go_wp2_with fail
  refine (at_head (n := 1) (t := 49) (w := w12) H2.out.1 (by decide +kernel) (H2.out.2.1.below (Below.step HW8.out HW12.out)) (by have := congrArg List.length H2.out.1; rw [List.length_map] at this; simp at this; omega) (HAA.out.below HB12.out) (HTT.out.below HB12.out)).mono ?_
  rintro e w13 ⟨a13, k13, rfl, hb13⟩
  have HB13 := hid (Below.step HB12.out hb13)
  have HW13 := hid (Below.step HW12.out hb13)
  clear hb13
  go_wp2_with fail
  refine (at_head (n := 0) (t := 50) (w := w13) H3.out.1 (by decide +kernel) (H3.out.2.1.below (HW13.out)) (by have := congrArg List.length H3.out.1; rw [List.length_map] at this; simp at this; omega) (HAA.out.below HB13.out) (HTT.out.below HB13.out)).mono ?_
  rintro e w14 ⟨a14, k14, rfl, hb14⟩
  have HB14 := hid (Below.step HB13.out hb14)
  have HW14 := hid (Below.step HW13.out hb14)
  clear hb14
  go_wp2_with fail
  refine (at_head (n := 0) (t := 10) (w := w14) H3.out.1 (by decide +kernel) (H3.out.2.1.below (HW14.out)) (by have := congrArg List.length H3.out.1; rw [List.length_map] at this; simp at this; omega) (HAA.out.below HB14.out) (HTT.out.below HB14.out)).mono ?_
  rintro e w15 ⟨a15, k15, rfl, hb15⟩
  have HB15 := hid (Below.step HB14.out hb15)
  have HW15 := hid (Below.step HW14.out hb15)
  clear hb15
  go_wp2_with fail
  have HPB := hid (show Calls Tryz.prog 20 #[.string ⟨#[97, 100, 100, 32, 101, 49, 32, 49, 48, 32, 32, 34, 112, 108, 97, 105, 110, 58, 97, 110, 110, 97, 34, 59]⟩] w15 (fun e w' => e = .returned (.tuple #[.agg #[.int .i64 0, .string ⟨#[]⟩, .string ⟨#[]⟩, .slice none 0 0, .int .i64 0], .int .i64 5]) ∧ Below w15.heap.size w15 w') from
    (listParse_any Li.hBad w15 (by decide) (HAA.out.below HB15.out) (HTT.out.below HB15.out)).mono (by
      rintro e w' ⟨h1, h2⟩
      rw [Li.p_bad] at h2
      exact ⟨h2, h1⟩))
  refine (HPB.out).mono ?_
  rintro e w16 ⟨rfl, hb16⟩
  have HB16 := hid (Below.step HB15.out hb16)
  clear hb16
  go_wp2_with fail
  go_ret
  exact ⟨rfl, HB16.out.alloc HB16.out.size _⟩

end Go.Proofs.YtidkmhokolknbaaGreatDoor
