/-
  list.Text. Conditions: lengths; the library's tables.
-/
import Derived.Test.YtidkmhokolknbaaGreatDoorZMLiT
import Derived.Test.YtidkmhokolknbaaGreatDoorZMLiB
import Derived.Deep.Cut
import Derived.Deep.CutRange
namespace Go.Proofs.YtidkmhokolknbaaGreatDoor
open Go.RowKit Go.Lib Go.Maps

/-- what Text returns -/
def TextP (c : Li.Ch) (w : World) (e : Ending) (w' : World) : Prop :=
  e = .returned (.tuple #[.string (bs ((Li.text c).getD [])), .int .i64 (if Li.formed c = true then 0 else 1)]) ∧ Below w.heap.size w w'

theorem txw_two {w0 X : World} {p q : Nat} {a b : List UInt8} (hb : Below w0.heap.size w0 X) (hp : X.heap[p]? = some (.cells #[.slice (some ⟨q, 0, none⟩) 2 2] 68 (0, 0))) (hq : X.heap[q]? = some (.cells #[.string (bs a), .string (bs b)] 9 (0, 0))) (lp : w0.heap.size ≤ p) (lq : w0.heap.size ≤ q) : TxW w0 X p [a, b] :=
  ⟨⟨_, hp, rfl, .inr ⟨q, 2, _, rfl, lq, hq, Nat.le_refl _, by unfold maxLen; omega, rfl, rfl⟩⟩, hb, lp⟩

theorem row_one (w : World) (x : List UInt8) : RowOf (w.alloc (.cells #[.string (bs x)] 9)) w.heap.size 0 1 strC [x] := by
  refine ⟨by rw [World.size_alloc]; omega, fun i y hy j v hv => ?_⟩
  have hi : i = 0 := by have := (List.getElem?_eq_some_iff.1 hy).1; simp at this; exact this
  subst hi
  simp at hy
  subst hy
  have hj : j = 0 := by have := (List.getElem?_eq_some_iff.1 hv).1; simp [strC] at this; exact this
  subst hj
  simp [strC] at hv
  subst hv
  rw [World.cell?_alloc_at _ _ _ _ rfl]
  rfl

set_option maxRecDepth 100000 in
set_option maxHeartbeats 8000000 in
theorem listText_any (kd : Int) (id eid : List UInt8) (ns : List Li.Nm) (u : Value) (at_ : Int) (w : World) (hn : NmsIn w u ns) (hs : id.length ≤ 5000) (hs2 : eid.length ≤ 5000) (hA : Tabs w) (hT : Tab10 w) :
    Calls Tryz.prog 18 #[.agg #[.int .i64 kd, .string (bs id), .string (bs eid), u, .int .i64 at_]] w (TextP ⟨kd, id, ⟨eid, ns⟩, at_⟩ w) := by
  have HNS := hid hn
  have HAA := hid hA
  have HTT := hid hT
  obtain ⟨na, nc, rfl⟩ := hn.slice
  obtain ⟨W1, hW1⟩ : ∃ W1, W1 = w.alloc (.cells #[.int .i64 kd, .string (bs id), .string (bs eid), .slice na ns.length nc, .int .i64 at_] 27) := ⟨_, rfl⟩
  have HX := hid (ChBox.new hW1)
  have hb1 := HX.out.below
  have HB1 := hid hb1
  have HF := hid (formed_in kd id eid ns _ at_ W1 (hn.below hb1) hs hs2 (hA.below hb1) (hT.below hb1))
  obtain ⟨c, hcc⟩ : ∃ c, c = (⟨kd, id, ⟨eid, ns⟩, at_⟩ : Li.Ch) := ⟨_, rfl⟩
  rw [← hcc] at HF ⊢
  have HC := hid hcc
  obtain ⟨c0, c1, c2, c3, c4, z1, -⟩ := HX.out
  clear hA hT hb1 hn
  go_enter Tryz.func18, Tryz.ntmps18
  go_upto_region 1 with (fail)
  rw [← hW1]
  clear hW1
  cases hf : Li.formed c with
  | false =>
    have HE := hid (show Li.text c = none by unfold Li.text; rw [hf]; rfl)
    have HFO := hid hf
    rw [hf] at HF
    clear hf hcc
    go_wp2_with fail
    refine (HF.out).mono ?_
    rintro e w3 ⟨rfl, hb3⟩
    have HB3 := hid (Below.step HB1.out hb3)
    clear hb3
    go_wp2_with fail
    go_ret2
    unfold TextP
    rw [HE.out, HFO.out]
    exact ⟨rfl, HB3.out⟩
  | true =>
    have HFO := hid hf
    obtain ⟨hn1, hn8, -, -, ha0, ha1⟩ := Li.formed_names hf
    have hkr := (Li.formed_parts hf).2
    have hidl : c.id.length ≤ 24 := (Fa.nm_len (a := c.id) (Li.formed_parts hf).1).2
    rw [hcc] at hkr hidl hn1 hn8 ha0 ha1
    simp only at hkr hidl hn1 hn8 ha0 ha1
    have hk1 := hkr.1
    have hk4 := hkr.2.1
    obtain ⟨kn, hkn⟩ : ∃ kn : Nat, kd = (kn : Int) := ⟨kd.toNat, by omega⟩
    subst hkn
    have HN1 := hid hn1
    rw [hf] at HF
    clear hf hkr hcc hn1
    go_wp2_with fail
    refine (HF.out).mono ?_
    rintro e w3 ⟨rfl, hb3⟩
    have HB3 := hid hb3
    have HX3 := hid (HX.out.step hb3)
    clear hb3 c0 c1 c2 c3 c4 z1
    obtain ⟨c0, c1, c2, c3, c4, z1, -⟩ := HX3.out
    have HKW := hid (show ∀ X : World, ∀ b, X.heap[b]? = some (.cells #[.string ⟨#[]⟩, .string ⟨#[97, 100, 100]⟩, .string ⟨#[114, 101, 109, 111, 118, 101]⟩, .string ⟨#[99, 111, 114, 114, 101, 99, 116]⟩, .string ⟨#[118, 111, 105, 100]⟩] 9 (0, 0)) → b < X.heap.size ∧ X.cell? ⟨b, kn, none⟩ = some (.string (bs (Li.kindWord kn))) from fun X b hb => by
      refine ⟨(Array.getElem?_eq_some_iff.1 hb).1, ?_⟩
      have : kn = 1 ∨ kn = 2 ∨ kn = 3 ∨ kn = 4 := by omega
      rcases this with rfl | rfl | rfl | rfl <;> (simp [World.cell?, hb]; rfl))
    have hk0 : (0 : Int) ≤ (kn : Int) := by omega
    have hk5 : (kn : Int) < 5 := by omega
    have hkk : kn < 5 := by omega
    go_upto_region 3 with (fail)
    go_cut [4] from 13 to 20 (fun v4 wx => ∃ p, v4 = .pointer (some ⟨p, 0, none⟩) ∧ Hid (TxW W1 wx p [Li.kindWord kn, id]))
    case first =>
      refine wp_heldS (S := StillAt w3) (by kernel_rfl) ?_
      simp only [List.size_toArray, List.length_cons, List.length_nil, Nat.reduceAdd]
      intro hc
      have S0 : StillAt w3 (Array.replicate 10 false) w3.drew := (Below.refl _ _).drew
      refine wpAnyS_take (i := 1) (v := .pointer (some ⟨w.heap.size, 0, none⟩)) rfl (by kernel_rfl) (by kernel_rfl) (by kernel_rfl) (fun _ _ _ h => h) (fun _ _ => Iff.rfl) hc (by first | rfl | simp [Region.wanted]) (fun wx hx => ?_) S0 (fun hc S0 => ?_)
      · go_simp
      try simp only [List.getElem_toArray, List.getElem_cons_succ, List.getElem_cons_zero, Act.put, List.setIfInBounds_toArray, List.set_cons_zero, List.set_cons_succ]
      refine wpAnyS_take (i := 2) (v := .int .i64 kn) rfl (by kernel_rfl) (by kernel_rfl) (by kernel_rfl) (fun _ _ _ h => h) (fun _ _ => Iff.rfl) hc (by first | rfl | simp [Region.wanted]) (fun wx hx => ?_) S0 (fun hc S0 => ?_)
      · have g := (hx.still.cell (p := ⟨w.heap.size, 0, none⟩) z1).trans c0
        go_simp
      try simp only [List.getElem_toArray, List.getElem_cons_succ, List.getElem_cons_zero, Act.put, List.setIfInBounds_toArray, List.set_cons_zero, List.set_cons_succ]
      refine wpAnyS_take (i := 5) (v := .pointer (some ⟨w.heap.size, 1, none⟩)) rfl (by kernel_rfl) (by kernel_rfl) (by kernel_rfl) (fun _ _ _ h => h) (fun _ _ => Iff.rfl) hc (by first | rfl | simp [Region.wanted]) (fun wx hx => ?_) S0 (fun hc S0 => ?_)
      · go_simp
      try simp only [List.getElem_toArray, List.getElem_cons_succ, List.getElem_cons_zero, Act.put, List.setIfInBounds_toArray, List.set_cons_zero, List.set_cons_succ]
      refine wpAnyS_take (i := 6) (v := .string (bs id)) rfl (by kernel_rfl) (by kernel_rfl) (by kernel_rfl) (fun _ _ _ h => h) (fun _ _ => Iff.rfl) hc (by first | rfl | simp [Region.wanted]) (fun wx hx => ?_) S0 (fun hc S0 => ?_)
      · have g := (hx.still.cell (p := ⟨w.heap.size, 1, none⟩) z1).trans c1
        go_simp
      try simp only [List.getElem_toArray, List.getElem_cons_succ, List.getElem_cons_zero, Act.put, List.setIfInBounds_toArray, List.set_cons_zero, List.set_cons_succ]
      refine wpAnyS_two (i := 0) (k := 8) rfl rfl (by kernel_rfl) (by rfl) (by rfl) hc (fun K' hK => ?A) (fun K' hK => ?B)
      case' A =>
        go_simp
        refine (kinds_any w3.drew).mono ?_
        rintro e w4 ⟨rfl, hw4⟩
        have hb4 : Below w3.heap.size w3 w4 := by rw [hw4]; exact (Below.refl _ w3).drew.alloc (Nat.le_refl _) _
        obtain ⟨zk, ck⟩ := HKW.out w4 w3.heap.size (by rw [hw4]; exact alloc_new w3.drew _)
        have HB4 := hid (Below.step HB3.out hb4)
        clear hw4
        refine hK.out _ _ hb4 (fun hc => ?_)
        clear hK K'
        try simp only [List.getElem_toArray, List.getElem_cons_succ, List.getElem_cons_zero, Act.put, List.setIfInBounds_toArray, List.set_cons_zero, List.set_cons_succ]
        refine wpAnyS_more (S2 := StillAt w4) (fun _ _ h => Below.step hb4 h) _ _ _ _ ?_
        have S0 : StillAt w4 #[] w4 := Below.refl _ _
        refine wpAnyS_take (i := 3) (v := .pointer (some ⟨w3.heap.size, kn, none⟩)) rfl (by kernel_rfl) (by kernel_rfl) (by kernel_rfl) (fun _ _ _ h => h) (fun _ _ => Iff.rfl) hc (by first | rfl | simp [Region.wanted]) (fun wx hx => ?_) S0 (fun hc S0 => ?_)
        · go_simp
        try simp only [List.getElem_toArray, List.getElem_cons_succ, List.getElem_cons_zero, Act.put, List.setIfInBounds_toArray, List.set_cons_zero, List.set_cons_succ]
        refine wpAnyS_take (i := 4) (v := .string (bs (Li.kindWord kn))) rfl (by kernel_rfl) (by kernel_rfl) (by kernel_rfl) (fun _ _ _ h => h) (fun _ _ => Iff.rfl) hc (by first | rfl | simp [Region.wanted]) (fun wx hx => ?_) S0 (fun hc S0 => ?_)
        · have g := (hx.still.cell (p := ⟨w3.heap.size, kn, none⟩) zk).trans ck
          go_simp
        try simp only [List.getElem_toArray, List.getElem_cons_succ, List.getElem_cons_zero, Act.put, List.setIfInBounds_toArray, List.set_cons_zero, List.set_cons_succ]
        refine wpAnyS_two (i := 7) (k := 8) rfl rfl (by kernel_rfl) (by rfl) (by rfl) hc (fun K' hK => ?C) (fun K' hK => ?D)
        case' C =>
          go_simp
          refine hK.out _ _ ((Below.refl _ w4).alloc (Nat.le_refl _) _) (fun hc => ?_)
          clear hK K'
          try simp only [List.getElem_toArray, List.getElem_cons_succ, List.getElem_cons_zero, Act.put, List.setIfInBounds_toArray, List.set_cons_zero, List.set_cons_succ]
          refine wpAnyS_one (i := 8) rfl (by kernel_rfl) (by rfl) hc (fun K' hK => ?_)
          go_simp
          refine hK.out _ _ (((Below.refl _ w4).alloc (Nat.le_refl _) _).alloc (by simp) _) (fun hc => ?_)
          clear hK K'
          try simp only [List.getElem_toArray, List.getElem_cons_succ, List.getElem_cons_zero, Act.put, List.setIfInBounds_toArray, List.set_cons_zero, List.set_cons_succ]
          refine wpAnyS_one (i := 9) rfl (by kernel_rfl) (by rfl) hc (fun K' hK => ?_)
          go_simp
          refine hK.out _ _ (((Below.refl _ w4).alloc (Nat.le_refl _) _).alloc (by simp) _) (fun hc => ?_)
          clear hK K'
          try simp only [List.getElem_toArray, List.getElem_cons_succ, List.getElem_cons_zero, Act.put, List.setIfInBounds_toArray, List.set_cons_zero, List.set_cons_succ]
          refine wpAnyS_done (by kernel_rfl) ?_ _
          clear hc S0
          go_wp2_with fail
          go_meet
          case rel =>
            refine ⟨_, rfl, txw_two ?_ (q := w4.heap.size) ?_ ?_ ?_ ?_⟩
            · exact (HB4.out.alloc HB4.out.size _).alloc (by have := HB4.out.size; simp; omega) _
            · have := World.alloc_heap_new (w4.alloc (.cells #[.string (bs (Li.kindWord kn)), .string (bs id)] 9)) (.cells #[.slice (some ⟨w4.heap.size, 0, none⟩) 2 2] 68)
              rwa [World.size_alloc] at this
            · exact (Below.heap_alloc _ _ _ (by simp)).trans (World.alloc_heap_new w4 _)
            · have := HB4.out.size; omega
            · exact HB4.out.size
        case' D =>
          go_simp
          refine hK.out _ _ ((Below.refl _ w4).alloc (Nat.le_refl _) _) (fun hc => ?_)
          clear hK K'
          try simp only [List.getElem_toArray, List.getElem_cons_succ, List.getElem_cons_zero, Act.put, List.setIfInBounds_toArray, List.set_cons_zero, List.set_cons_succ]
          refine wpAnyS_one (i := 7) rfl (by kernel_rfl) (by rfl) hc (fun K' hK => ?_)
          go_simp
          refine hK.out _ _ (((Below.refl _ w4).alloc (Nat.le_refl _) _).alloc (by simp) _) (fun hc => ?_)
          clear hK K'
          try simp only [List.getElem_toArray, List.getElem_cons_succ, List.getElem_cons_zero, Act.put, List.setIfInBounds_toArray, List.set_cons_zero, List.set_cons_succ]
          refine wpAnyS_one (i := 9) rfl (by kernel_rfl) (by rfl) hc (fun K' hK => ?_)
          go_simp
          refine hK.out _ _ (((Below.refl _ w4).alloc (Nat.le_refl _) _).alloc (by simp) _) (fun hc => ?_)
          clear hK K'
          try simp only [List.getElem_toArray, List.getElem_cons_succ, List.getElem_cons_zero, Act.put, List.setIfInBounds_toArray, List.set_cons_zero, List.set_cons_succ]
          refine wpAnyS_done (by kernel_rfl) ?_ _
          clear hc S0
          go_wp2_with fail
          go_meet
          case rel =>
            refine ⟨_, rfl, txw_two ?_ (q := w4.heap.size + 1) ?_ ?_ ?_ ?_⟩
            · exact (HB4.out.alloc HB4.out.size _).alloc (by have := HB4.out.size; simp; omega) _
            · exact (Below.heap_alloc _ _ _ (by simp)).trans (World.alloc_heap_new w4 _)
            · have := World.alloc_heap_new (w4.alloc (.cells #[.slice (some ⟨w4.heap.size + 1, 0, none⟩) 2 2] 68)) (.cells #[.string (bs (Li.kindWord kn)), .string (bs id)] 9)
              rwa [World.size_alloc] at this
            · exact HB4.out.size
            · have := HB4.out.size; omega
      case' B =>
        go_simp
        refine hK.out _ _ ((Below.refl _ w3).alloc (Nat.le_refl _) _).drew (fun hc => ?_)
        clear hK K'
        try simp only [List.getElem_toArray, List.getElem_cons_succ, List.getElem_cons_zero, Act.put, List.setIfInBounds_toArray, List.set_cons_zero, List.set_cons_succ]
        obtain ⟨X, hX⟩ : ∃ X, X = (w3.alloc (.cells #[.slice none 0 0] 68)).drew := ⟨_, rfl⟩
        rw [← hX]
        have hXb : Below w3.heap.size w3 X := by rw [hX]; exact ((Below.refl _ w3).alloc (Nat.le_refl _) _).drew
        have hXp : X.heap[w3.heap.size]? = some (.cells #[.slice none 0 0] 68 (0, 0)) := by rw [hX]; exact alloc_new w3 _
        clear hX
        refine wpAnyS_one (i := 0) rfl (by kernel_rfl) (by rfl) hc (fun K' hK => ?_)
        go_simp
        refine (kinds_any X).mono ?_
        rintro e w5 ⟨rfl, hw5⟩
        have hb5 : Below X.heap.size X w5 := by rw [hw5]; exact (Below.refl _ X).alloc (Nat.le_refl _) _
        obtain ⟨zk, ck⟩ := HKW.out w5 X.heap.size (by rw [hw5]; exact alloc_new X _)
        have hp5 := (hb5.block _ (Array.getElem?_eq_some_iff.1 hXp).1).trans hXp
        obtain ⟨q5, f5⟩ := cell_blk hp5
        have zp5 := (Array.getElem?_eq_some_iff.1 hp5).1
        have HP5 := hid hp5
        have HB5 := hid (Below.step hXb hb5)
        clear hw5 hb5 hp5
        refine hK.out _ _ HB5.out (fun hc => ?_)
        clear hK K'
        try simp only [List.getElem_toArray, List.getElem_cons_succ, List.getElem_cons_zero, Act.put, List.setIfInBounds_toArray, List.set_cons_zero, List.set_cons_succ]
        refine wpAnyS_one (i := 3) rfl (by kernel_rfl) (by rfl) hc (fun K' hK => ?_)
        go_simp
        refine hK.out _ _ HB5.out (fun hc => ?_)
        clear hK K'
        try simp only [List.getElem_toArray, List.getElem_cons_succ, List.getElem_cons_zero, Act.put, List.setIfInBounds_toArray, List.set_cons_zero, List.set_cons_succ]
        refine wpAnyS_one (i := 4) rfl (by kernel_rfl) (by rfl) hc (fun K' hK => ?_)
        go_simp
        refine hK.out _ _ HB5.out (fun hc => ?_)
        clear hK K'
        try simp only [List.getElem_toArray, List.getElem_cons_succ, List.getElem_cons_zero, Act.put, List.setIfInBounds_toArray, List.set_cons_zero, List.set_cons_succ]
        refine wpAnyS_one (i := 7) rfl (by kernel_rfl) (by rfl) hc (fun K' hK => ?_)
        go_simp
        refine hK.out _ _ (HB5.out.alloc HB5.out.size _) (fun hc => ?_)
        clear hK K'
        try simp only [List.getElem_toArray, List.getElem_cons_succ, List.getElem_cons_zero, Act.put, List.setIfInBounds_toArray, List.set_cons_zero, List.set_cons_succ]
        refine wpAnyS_one (i := 9) rfl (by kernel_rfl) (by rfl) hc (fun K' hK => ?_)
        go_simp
        refine hK.out _ _ ((HB5.out.setCell (p := ⟨w3.heap.size, 0, none⟩) (Nat.le_refl _) _).alloc (by have := HB5.out.size; simp [World.setCell]; omega) _) (fun hc => ?_)
        clear hK K'
        try simp only [List.getElem_toArray, List.getElem_cons_succ, List.getElem_cons_zero, Act.put, List.setIfInBounds_toArray, List.set_cons_zero, List.set_cons_succ]
        refine wpAnyS_done (by kernel_rfl) ?_ _
        clear hc S0
        go_wp2_with fail
        go_meet
        case rel =>
          have hle := HB3.out.size
          have hle5 := HB5.out.size
          refine ⟨_, rfl, txw_two ?_ (q := w5.heap.size) ?_ ?_ ?_ ?_⟩
          · exact ((Below.step HB3.out HB5.out).setCell (p := ⟨w3.heap.size, 0, none⟩) hle _).alloc (by simp [World.setCell]; omega) _
          · exact (Below.heap_alloc _ _ _ (by simp [World.setCell]; omega)).trans (set_blk HP5.out)
          · have := World.alloc_heap_new (w5.setCell ⟨w3.heap.size, 0, none⟩ (.slice (some ⟨w5.heap.size, 0, none⟩) 2 2)) (.cells #[.string (bs (Li.kindWord kn)), .string (bs id)] 9)
            rwa [show (w5.setCell ⟨w3.heap.size, 0, none⟩ (.slice (some ⟨w5.heap.size, 0, none⟩) 2 2)).heap.size = w5.heap.size by simp [World.setCell]] at this
          · exact hle
          · omega
    case rest =>
    obtain ⟨p, rfl, HT0⟩ := hcut
    rename World => wx
    have HX5 := hid (HX.out.step HT0.out.below)
    clear c0 c1 c2 c3 c4 z1
    obtain ⟨c0, c1, c2, c3, c4, z1, -⟩ := HX5.out
    have HD := hid (show Li.dated c = (decide ((kn : Int) = 1) || decide ((kn : Int) = 2)) by rw [HC.out]; rfl)
    have HTW := hid (show Li.textWords c = [Li.kindWord kn, id] ++ (if Li.dated c = true then [Lx.dec at_.toNat] else []) by unfold Li.textWords; rw [HC.out])
    obtain ⟨dt, hdt⟩ : ∃ dt, dt = Li.dated c := ⟨_, rfl⟩
    rw [← hdt] at HD HTW
    have HDT := hid hdt
    clear hdt
    go_upto_region 5 with (fail)
    go_cut [29] from 22 to 29 (fun v29 wy => v29 = .bool dt ∧ wy = wx)
    case first =>
      by_cases h1 : kn = 1
      · have e1 : ((kn : Int) == 1) = true := by rw [beq_iff_eq]; omega
        have HE := hid (show true = dt by rw [HD.out, decide_eq_true (show (kn : Int) = 1 by omega)]; rfl)
        clear h1
        go_wp2_with fail
        go_meet
        case rel => exact ⟨congrArg Value.bool HE.out, rfl⟩
      · have e1 : ((kn : Int) == 1) = false := by rw [beq_eq_false_iff_ne]; omega
        have HE := hid (show ((kn : Int) == 2) = dt by rw [HD.out, decide_eq_false (show ¬ (kn : Int) = 1 by omega), Bool.false_or]; rfl)
        clear h1
        go_wp2_with fail
        go_meet
        case rel => exact ⟨congrArg Value.bool HE.out, rfl⟩
    case rest =>
    obtain ⟨rfl, hwx⟩ := hcut
    rw [hwx]
    clear hwx
    go_step
    go_cut [] from 29 to 35 (fun wy => Hid (TxW W1 wy p (Li.textWords c)))
    case first =>
      cases dt with
      | false =>
        have HW := hid (show Li.textWords c = [Li.kindWord kn, id] from HTW.out)
        go_wp2_with fail
        go_meet
        case rel =>
          show TxW W1 wx p (Li.textWords c)
          rw [HW.out]
          exact HT0.out
      | true =>
        have HW := hid (show Li.textWords c = [Li.kindWord kn, id] ++ [Lx.dec at_.toNat] from HTW.out)
        have HI := hid (itoa_any at_ ha0 (by omega) wx (HTT.out.below (Below.step HB1.out HT0.out.below)))
        go_wp2_with fail
        refine (HI.out).mono ?_
        rintro e w6 ⟨rfl, hb6⟩
        have HA := hid (add_any W1 p [Li.kindWord kn, id] [Lx.dec at_.toNat] w6.heap.size 0 1 (w6.alloc (.cells #[.string (bs (Lx.dec at_.toNat))] 9)) ((HT0.out.step hb6).step ((Below.refl _ w6).alloc (Nat.le_refl _) _)) (row_one _ _) (by simp) (by simp) (by simp) (by simp) (by unfold maxLen; omega))
        clear hb6
        go_wp2_with fail
        refine (HA.out).mono ?_
        rintro e w7 ⟨rfl, ht7⟩
        have HT7 := hid ht7
        clear ht7
        go_wp2_with fail
        go_meet
        case rel =>
          show TxW W1 w7 p (Li.textWords c)
          rw [HW.out]
          exact HT7.out
    case rest =>
    rename World => wz
    have HT1 := hid (show TxW W1 wz p (Li.textWords c) from hcut)
    have HX6 := hid (HX.out.step HT1.out.below)
    clear c0 c1 c2 c3 c4 z1 hcut
    obtain ⟨c0, c1, c2, c3, c4, z1, -⟩ := HX6.out
    have hl1 : ns.length ≤ 9223372036854775807 := by omega
    have HTL := hid (show (Li.textWords c).length ≤ 3 by
      unfold Li.textWords
      split <;> simp)
    obtain ⟨l, hlm, hla⟩ := HNS.out
    have hll : l.length = ns.length := by rw [← hlm, List.length_map]
    have HLA := hid (And.intro hlm (And.intro hla hll))
    clear hlm hla hll
    go_wp2_with fail
    go_loopw [40] (fun iv wr => ∃ k : Nat, k ≤ ns.length ∧ iv = .int .i64 k ∧ Hid (TxW W1 wr p (Li.textWords c ++ (ns.take k).map Li.quote))) (fun iv _ => ns.length - (RowKit.intOf iv).toNat)
    case atStart => exact ⟨0, Nat.zero_le _, rfl, by
      show TxW W1 wz p (Li.textWords c ++ (ns.take 0).map Li.quote)
      simpa using HT1.out⟩
    case round =>
      obtain ⟨k, hk, rfl, HK⟩ := hrel
      have HBR := hid (Below.step HB1.out HK.out.below)
      have HXR := hid (HX.out.step HK.out.below)
      clear c0 c1 c2 c3 c4 z1
      obtain ⟨c0, c1, c2, c3, c4, z1, -⟩ := HXR.out
      by_cases hlt : k < ns.length
      · obtain ⟨q, hq⟩ : ∃ q, l[k]? = some q := ⟨_, List.getElem?_eq_getElem (by rw [HLA.out.2.2]; exact hlt)⟩
        have hqm := List.mem_of_getElem? hq
        have hnx : ns[k]? = some q.1 := by rw [← HLA.out.1, List.getElem?_map, hq]; rfl
        obtain ⟨g, o, rfl, hr⟩ : ∃ g o, na = some ⟨g, o, none⟩ ∧ RowOf wr g o 2 nmC l := by
          obtain ⟨a', cap', ev, -, -, hr⟩ := HLA.out.2.1.sl.below HBR.out
          have e1 := (Value.slice.inj ev).1
          subst e1
          exact hr (by rw [HLA.out.2.2]; omega)
        have hc := hr.2 k q hq
        have e0 := hc 0 _ rfl
        have e1 := hc 1 _ rfl
        rw [Nat.add_zero] at e0
        have hg := hr.1
        have hat := (HLA.out.2.1.at_ q hqm).below HBR.out
        have hsh := HLA.out.2.1.short q hqm
        have HOK := hid (HN1.out q.1 (List.mem_of_getElem? hnx))
        have HNX := hid hnx
        have hk0 : (0 : Int) ≤ (k : Int) := by omega
        have hk1 : (k : Int) < (ns.length : Int) := by omega
        clear hc hr hq hqm hnx
        obtain ⟨⟨sc, ws⟩, v⟩ := q
        obtain ⟨xa, xc, hv⟩ : ∃ a c, v = .slice a ws.length c := by obtain ⟨a, c, e, -⟩ := hat; exact ⟨a, c, e⟩
        subst hv
        simp only at e0 e1 HOK HNX
        obtain ⟨W5, hW5⟩ : ∃ W5, W5 = wr.alloc (.cells #[.int .i64 sc, .slice xa ws.length xc] 73) := ⟨_, rfl⟩
        obtain ⟨b0, b1, bz, hb5⟩ := name_box hW5
        have HT5 := hid (HK.out.step hb5)
        have HS := hid (sText_any (⟨sc, ws⟩, .slice xa ws.length xc) W5 (hat.below hb5) hsh (HAA.out.below (Below.step HBR.out hb5)))
        unfold nmV at HS
        have hql := bs_len (Li.nameText ⟨sc, ws⟩)
        have hq160 := Li.nameText_len HOK.out
        have HQ := hid (show (⟨#[34]⟩ : ByteArray) ++ bs (Li.nameText ⟨sc, ws⟩) ++ ⟨#[34]⟩ = bs (Li.quote ⟨sc, ws⟩) by
          rw [show (⟨#[34]⟩ : ByteArray) = bs [34] from rfl, bs_app, bs_app]; rfl)
        clear hat hsh hb5
        go_upto_region 10 with (fail)
        rw [← hW5]
        clear hW5 e0 e1
        go_wp2_with fail
        refine (HS.out).mono ?_
        rintro e w6 ⟨rfl, hb6⟩
        rw [if_pos HOK.out, if_pos HOK.out]
        have HT6 := hid (HT5.out.step hb6)
        have HA := hid (add_any W1 p (Li.textWords c ++ (ns.take k).map Li.quote) [Li.quote ⟨sc, ws⟩] w6.heap.size 0 1 (w6.alloc (.cells #[.string (bs (Li.quote ⟨sc, ws⟩))] 9)) (HT6.out.step ((Below.refl _ w6).alloc (Nat.le_refl _) _)) (row_one _ _) (by simp) (by simp) (by have := HTL.out; simp; omega) (by simp) (by unfold maxLen; omega))
        rw [← HQ.out] at HA
        clear hb6 b0 b1 bz
        go_wp2_with fail
        refine (HA.out).mono ?_
        rintro e w7 ⟨rfl, ht7⟩
        have HT7 := hid (show TxW W1 w7 p (Li.textWords c ++ (ns.take (k + 1)).map Li.quote) by
          rw [take_snoc HNX.out, List.map_append, ← List.append_assoc]
          exact ht7)
        clear ht7
        go_wp2_with fail
        go_roundw
        case rel => exact ⟨k + 1, by omega, by go_num, HT7⟩
        case measure => simp [RowKit.intOf]; omega
      · have HKE := hid (show ns.take k = ns from List.take_of_length_le (by omega))
        have hl := HTL.out
        obtain ⟨⟨sv, hpb, hown⟩, -, -⟩ := HK.out
        rw [HKE.out] at hown
        have HJB := hid (show Go.Lib.join (Li.textWords c ++ ns.map Li.quote) [32] ++ [59] = Li.body c by
          have := Li.join_body c
          rw [HC.out] at this ⊢
          exact this)
        have hbl := Li.body_len HFO.out
        rw [← HJB.out, List.length_append] at hbl
        simp only [List.length_cons, List.length_nil] at hbl
        obtain ⟨xs, hxs⟩ : ∃ xs, xs = Li.textWords c ++ ns.map Li.quote := ⟨_, rfl⟩
        rw [← hxs] at hown HJB hbl
        have hxl : 2 ≤ xs.length ∧ xs.length ≤ 20 := by
          rw [hxs, List.length_append, List.length_map]
          refine ⟨?_, by omega⟩
          have : 2 ≤ (Li.textWords c).length := by unfold Li.textWords; simp
          omega
        obtain ⟨n, hn⟩ : ∃ n, n = xs.length := ⟨_, rfl⟩
        obtain ⟨a, cp, rfl, kc, -, hr0⟩ := SlOf.own hown (fun x _ => rfl)
        obtain ⟨g, o, rfl, hr⟩ := hr0 (by omega)
        have HJ := hid (join_any g o cp xs [32] wr (fun j x hx => by have := hr.2 j x hx 0 _ rfl; simpa using this) hr.1 (by omega) kc (by omega))
        rw [← hn] at HJ hpb
        have cp0 : wr.cell? ⟨p, 0, none⟩ = some (.slice (some ⟨g, o, none⟩) n cp) := by simp [World.cell?, hpb]
        have zp0 := (Array.getElem?_eq_some_iff.1 hpb).1
        have hjl := bs_len (Go.Lib.join xs [32])
        have HTX := hid (show (Li.text c).getD [] = Li.body c by unfold Li.text; rw [if_pos HFO.out]; rfl)
        clear hown hpb hr hr0 hxs hn hxl kc
        go_wp2_with fail
        refine (HJ.out).mono ?_
        rintro e w8 ⟨rfl, hb8⟩
        have HB8 := hid (Below.step HBR.out hb8)
        clear hb8
        go_wp2_with fail
        go_ret2
        refine ⟨?_, HB8.out⟩
        rw [HTX.out, if_pos HFO.out, ← HJB.out, ← bs_app]
        rfl

end Go.Proofs.YtidkmhokolknbaaGreatDoor
