/-
  The statement LexerGaps as the program computes it: true at every text, gaps and number within Go's own bounds. Conditions: none but those bounds.
-/
import Derived.Test.YtlojckkccgpabaaDoorZLaw4
namespace Go.Proofs.YtlojckkccgpabaaDoor
open Go.RowKit

/-- tokens alike -/
def LikeToks (l : List (Nat × Lx.Tk)) (w : World) (e : Ending) (w' : World) : Prop :=
  ∃ v m, e = .returned (.tuple #[v, .int .i64 0, .int .i64 0]) ∧ TokSl w' v m ∧ Lx.toks m = Lx.toks l ∧ Below w.heap.size w w'

theorem lex_gaps {t G : ByteArray} {l : List (Nat × Lx.Tk)} (h : Lx.lu t.data.toList = .ok l) (hG : Lx.skip false G.data.toList = []) (k : Nat) (hk : k ≤ l.length) (ht : t.size ≤ 1500) (hg : G.size ≤ 300) (w : World) :
    Calls Tryd.prog 12 #[.string (G ++ ⟨#[10]⟩ ++ t.extract 0 (Lx.endAt l k) ++ (G ++ ⟨#[10]⟩) ++ t.extract (Lx.endAt l k) t.size ++ ⟨#[10]⟩ ++ G)] w (LikeToks l w) := by
  obtain ⟨m, h1, h2⟩ := Lx.gaps_more h hG k hk
  have hl : (G ++ ⟨#[10]⟩ ++ t.extract 0 (Lx.endAt l k) ++ (G ++ ⟨#[10]⟩) ++ t.extract (Lx.endAt l k) t.size ++ ⟨#[10]⟩ ++ G).data.toList =
      G.data.toList ++ [10] ++ t.data.toList.take (Lx.endAt l k) ++ (G.data.toList ++ [10]) ++ t.data.toList.drop (Lx.endAt l k) ++ [10] ++ G.data.toList := by
    simp only [app_list, extract_list, List.drop_zero, Nat.sub_zero]
    rw [List.take_of_length_le (l := t.data.toList.drop (Lx.endAt l k)) (by simp)]
  have hs : (G ++ ⟨#[10]⟩ ++ t.extract 0 (Lx.endAt l k) ++ (G ++ ⟨#[10]⟩) ++ t.extract (Lx.endAt l k) t.size ++ ⟨#[10]⟩ ++ G).size ≤ 5000 := by
    simp only [ByteArray.size_append, ByteArray.size_extract, show (⟨#[10]⟩ : ByteArray).size = 1 from rfl]
    omega
  refine (lex_toks w (by rw [hl]; exact h1) hs).mono ?_
  rintro e w' ⟨v, rfl, hv, hb⟩
  exact ⟨v, m, rfl, hv, h2, hb⟩

set_option maxRecDepth 100000 in
set_option maxHeartbeats 1600000 in
theorem law_gaps (t G : ByteArray) (after : Int) (w : World) (hs : t.size ≤ maxLen) (hg : G.size ≤ maxLen) (ha : (Lit.int .u16 after).wf = true) :
    Calls Tryd.prog 8 #[.string t, .string G, .int .u16 after] w (Gives (.bool true) w) := by
  have hg' := hg
  unfold maxLen at hs hg
  obtain ⟨y0, y1⟩ : 0 ≤ after ∧ after ≤ 65535 := by
    simp only [Lit.wf, Bool.and_eq_true, decide_eq_true_eq] at ha
    exact ⟨ha.1, ha.2⟩
  clear ha
  obtain ⟨y, rfl⟩ := Int.eq_ofNat_of_zero_le y0
  go_enter Tryd.func8, Tryd.ntmps8
  by_cases hlen : (1500 : Int) < t.size
  · go_wp2_with (go_at_call 11; refine (head_true _).mono ?_; rintro e w1 ⟨rfl, hb1⟩)
    go_ret
    exact ⟨rfl, hb1⟩
  by_cases hlen2 : (300 : Int) < G.size
  · go_wp2_with (go_at_call 11; refine (head_true _).mono ?_; rintro e w1 ⟨rfl, hb1⟩)
    go_ret
    exact ⟨rfl, hb1⟩
  have h5 : t.size ≤ 5000 := by omega
  have hsz : t.data.toList.length = t.size := by simp
  cases hGp : gapsB G with
  | false =>
    go_wp2_with (go_at_call 11; refine (head_true _).mono ?_; rintro e w1 ⟨rfl, hb1⟩)
    refine (gaps_any G w1 hg').mono ?_
    rintro e w2 ⟨rfl, hw2⟩
    subst hw2
    go_wp2
    go_ret
    exact ⟨rfl, hb1⟩
  | true =>
    have hGG := hid (show Lx.skip false G.data.toList = [] by simpa [gapsB] using hGp)
    go_wp2_with (go_at_call 11; refine (head_true _).mono ?_; rintro e w1 ⟨rfl, hb1⟩)
    refine (gaps_any G w1 hg').mono ?_
    rintro e w2 ⟨rfl, hw2⟩
    subst hw2
    go_wp2_with fail
    cases hlu : Lx.lu t.data.toList with
    | error x =>
      obtain ⟨x, y⟩ := x
      refine (lex_fails _ hlu h5).mono ?_
      rintro e w3 ⟨v, rfl, _, hb3⟩
      have hx0 := (lu_err hlu).1
      have hx : ((x : Int) != 0) = true := by rw [bne_iff_ne]; omega
      clear hlu
      go_wp2
      go_ret
      exact ⟨rfl, Below.step hb1 hb3⟩
    | ok l =>
      refine (lex_toks _ hlu h5).mono ?_
      rintro e w3 ⟨v, rfl, hv, hb3⟩
      have HB := hid (Below.step hb1 hb3)
      have hPl := hid (Lx.lu_places hlu)
      have hV := hid hv
      obtain ⟨cap, m1, m2, m3⟩ := hv
      unfold maxLen at m2
      have hLX := hid (fun k hk => lex_gaps hlu hGG.out k hk (by omega) (by omega))
      by_cases hl0 : l.length = 0
      · obtain rfl := List.length_eq_zero_iff.1 hl0
        obtain ⟨a, rfl⟩ : ∃ a, v = .slice a 0 cap := by
          rcases m3 with ⟨_, rfl⟩ | ⟨g, o, rfl, _⟩
          · exact ⟨_, rfl⟩
          · exact ⟨_, rfl⟩
        have hLX2 : Hid (∀ w, Calls Tryd.prog 12 #[.string (G ++ ⟨#[10]⟩ ++ (G ++ ⟨#[10]⟩) ++ t ++ ⟨#[10]⟩ ++ G)] w (LikeToks [] w)) := by
          have hq := hLX.out 0 (Nat.zero_le _)
          simp only [Lx.endAt] at hq
          have e1 : t.extract 0 0 = ByteArray.empty := by ext1; simp
          rw [e1, ByteArray.append_empty, ByteArray.extract_zero_size] at hq
          exact hq
        have f0 : ¬ 9223372036854775807 < G.size + 1 := by omega
        have f2 : ¬ 9223372036854775807 < G.size + 1 + (G.size + 1) := by omega
        have f3 : ¬ 9223372036854775807 < G.size + 1 + (G.size + 1) + t.size := by omega
        have f4 : ¬ 9223372036854775807 < G.size + 1 + (G.size + 1) + t.size + 1 := by omega
        have f5 : ¬ 9223372036854775807 < G.size + 1 + (G.size + 1) + t.size + 1 + G.size := by omega
        clear hlu hb1 hb3 hLX m3 hl0
        go_wp2_with fail
        go_region_held3 (fun wx => Below w3.heap.size w3 wx)
          (first | (exact Below.refl _ _) | (exact (Below.refl _ _).drew) | assumption | (refine Below.step ?_ hbx; assumption))
          (first | (go_at_call 12; refine (hLX2.out _).mono ?_; rintro e wy ⟨v, m, rfl, hvm, htk, hbx⟩))
        have hbz : Below w3.heap.size w3 wy := by assumption
        have HA := hid (alike_sl _ v [] m wy (hV.out.below hbz) hvm htk)
        have HZ := hid (Below.step HB.out hbz)
        clear hbz hbx hvm htk hV
        go_wp2_with fail
        refine (HA.out).mono ?_
        rintro e wz ⟨rfl, hbl⟩
        go_wp2
        go_ret
        exact ⟨rfl, Below.step HZ.out hbl⟩
      · obtain ⟨g, o, rfl, hr⟩ : ∃ g o, v = .slice (some ⟨g, o, none⟩) l.length cap ∧ TokRow w3 g o l := by
          rcases m3 with ⟨h, _⟩ | ⟨g, o, h1, h2⟩
          · exact absurd (by rw [h]; rfl) hl0
          · exact ⟨g, o, h1, h2⟩
        have hl1 : 0 < l.length := by omega
        obtain ⟨j, hj, hjl⟩ : ∃ j : Nat, (y : Int) % (l.length : Int) = (j : Int) ∧ j < l.length := ⟨y % l.length, by omega, Nat.mod_lt _ hl1⟩
        obtain ⟨p, hp⟩ : ∃ p, l[j]? = some p := ⟨_, List.getElem?_eq_getElem hjl⟩
        obtain ⟨a0, a1, a2, a3⟩ := hr.2 j p hp
        have cA := hid (hr.2 j p hp)
        have hg1 := hr.1
        have hf1 := hPl.out.fits j p hp
        have htl : p.2.text.length + 2 ≤ maxLen := by have := text_le p.2; unfold maxLen; omega
        have hf1' : (p.1 : Int) + (p.2.width : Int) ≤ (t.size : Int) := by omega
        have hLX3 := hLX.out (j + 1) (by omega)
        rw [endAt_succ hp] at hLX3
        have hLX2 := hid hLX3
        have hjl' : (j : Int) < (l.length : Int) := by omega
        have hl1' : (0 : Int) < (l.length : Int) := by omega
        clear hlu hb1 hb3 hLX m3 hr hp hl0 hLX3 hf1
        go_wp2_with fail
        obtain ⟨w4, hw4⟩ : ∃ w4, w4 = w3.alloc (.cells #[.int .i64 p.2.kind, .int .i64 p.1, .int .i64 p.2.n, .string (bs p.2.text)] 30) := ⟨_, rfl⟩
        rw [← hw4]
        have hbw : Below w3.heap.size w3 w4 := by rw [hw4]; exact (Below.refl _ _).alloc (Nat.le_refl _) _
        have hn4 : w3.heap.size < w4.heap.size := by rw [hw4]; simp
        have cT : TokCell w4 w3.heap.size 0 p := by
          rw [hw4]
          have hc := cells_new (w := w3) (n := w3.heap.size) (t := 30) (l := [.int .i64 p.2.kind, .int .i64 p.1, .int .i64 p.2.n, .string (bs p.2.text)]) rfl
          exact ⟨hc 0 _ rfl, hc 1 _ rfl, hc 2 _ rfl, hc 3 _ rfl⟩
        have cB := hid cT
        have HC := hid (Below.step HB.out hbw)
        have hV4 := hid (hV.out.below hbw)
        have e2 : IntKind.i64.wrap ((p.1 : Int) + (p.2.width : Int)) = (p.1 : Int) + (p.2.width : Int) := IntWalk.i64_in _ (by omega)
        clear hw4 hbw cT a0 a1 a2 a3 cA hV HB
        go_region_held3 (fun wx => Below w4.heap.size w4 wx ∧ wx.cell? ⟨w3.heap.size, 0, none⟩ = some (.int .i64 p.2.kind) ∧ wx.cell? ⟨w3.heap.size, 1, none⟩ = some (.int .i64 p.1) ∧ wx.cell? ⟨w3.heap.size, 2, none⟩ = some (.int .i64 p.2.n) ∧
      wx.cell? ⟨w3.heap.size, 3, none⟩ = some (.string (bs p.2.text)))
          (first | (exact place_keep cB.out hn4 (Below.refl _ _)) | (exact place_keep cB.out hn4 ((Below.refl _ _).drew)) | (go_split_ands; refine place_keep cB.out hn4 ?_; first | assumption | (refine Below.step ?_ hbx; assumption) | (refine Below.step ?_ hbx; exact (Below.refl _ _).drew)))
          (first | (go_at_call 15; refine (width_tok _ p.2 _ htl).mono ?_; rintro e wy ⟨rfl, hbx⟩))
        go_split_ands
        have hbz : Below w4.heap.size w4 wy := by assumption
        have HD := hid (Below.step HC.out hbz)
        have hV5 := hid (hV4.out.below hbz)
        clear hbz hbx hV4 HC e2 cB hn4
        have e3 : ((p.1 : Int) + (p.2.width : Int)).toNat = p.1 + p.2.width := by omega
        have e4 : (0 : Int) ≤ (p.1 : Int) + (p.2.width : Int) := by omega
        have e6 : p.1 + p.2.width ≤ t.size := by omega
        obtain ⟨T1, hT1, hz1⟩ : ∃ T1, t.extract 0 (p.1 + p.2.width) = T1 ∧ T1.size ≤ 1500 := ⟨_, rfl, by rw [ByteArray.size_extract]; omega⟩
        obtain ⟨T2, hT2, hz2⟩ : ∃ T2, t.extract (p.1 + p.2.width) t.size = T2 ∧ T2.size ≤ 1500 := ⟨_, rfl, by rw [ByteArray.size_extract]; omega⟩
        have hLX4 := hLX2.out
        rw [hT1, hT2] at hLX4
        have hLX5 := hid hLX4
        have f1 : ¬ 9223372036854775807 < G.size + 1 + T1.size := by omega
        have f2 : ¬ 9223372036854775807 < G.size + 1 + T1.size + (G.size + 1) := by omega
        have f3 : ¬ 9223372036854775807 < G.size + 1 + T1.size + (G.size + 1) + T2.size := by omega
        have f4 : ¬ 9223372036854775807 < G.size + 1 + T1.size + (G.size + 1) + T2.size + 1 := by omega
        have f5 : ¬ 9223372036854775807 < G.size + 1 + T1.size + (G.size + 1) + T2.size + 1 + G.size := by omega
        clear hLX4 hLX2
        go_wp2_with fail
        go_region_held3 (fun wx => Below wy.heap.size wy wx)
          (first | (exact Below.refl _ _) | (exact (Below.refl _ _).drew) | assumption | (refine Below.step ?_ hby; assumption))
          (first | (go_at_call 12; refine (hLX5.out _).mono ?_; rintro e wz ⟨v, m, rfl, hvm, htk, hby⟩))
        have hbz : Below wy.heap.size wy wz := by assumption
        have HA := hid (alike_sl _ v l m wz (hV5.out.below hbz) hvm htk)
        have HZ := hid (Below.step HD.out hbz)
        clear hbz hby hvm htk hV5 e3 e4 e6 hT1 hT2 f1 f2 f3 f4 f5
        go_wp2_with fail
        refine (HA.out).mono ?_
        rintro e wv ⟨rfl, hbl⟩
        go_wp2
        go_ret
        exact ⟨rfl, Below.step HZ.out hbl⟩

end Go.Proofs.YtlojckkccgpabaaDoor
