/-
  ledger.formed: which bookings are as required. Conditions: lengths.
-/
import Derived.Test.YtfkcphflcmpenaaDoorZLed1
namespace Go.Proofs.YtfkcphflcmpenaaDoor
open Go.RowKit Go.Lib Go.Maps

theorem SlOf.taken {α : Type} {w : World} {a : Option Addr} {cap sz k : Nat} {cells : α → List Value} {l : List α} (h : SlOf w (.slice a l.length cap) sz cells l) (hk : k ≤ l.length) : SlOf w (.slice a k cap) sz cells (l.take k) := by
  obtain ⟨a', cap', e, h1, h2, h3⟩ := h
  cases e
  have hl : (l.take k).length = k := by rw [List.length_take]; omega
  refine ⟨a, cap, by rw [hl], by omega, h2, fun hp => ?_⟩
  obtain ⟨g, o, ha, hr⟩ := h3 (by omega)
  exact ⟨g, o, ha, hr.1, fun i x hx j v hv => hr.2 i x (by
    rw [List.getElem?_take] at hx
    split at hx
    · exact hx
    · cases hx) j v hv⟩

theorem hasP_mem {a : ByteArray} {l : List (ByteArray × Int)} : hasP a l = true ↔ a ∈ l.map Prod.fst := by
  unfold hasP
  rw [List.any_eq_true, List.mem_map]
  simp only [decide_eq_true_eq]

theorem nodup_step {l : List (ByteArray × Int)} {k : Nat} {p : ByteArray × Int} (hp : l[k]? = some p) (h : ((l.take k).map Prod.fst).Nodup) (hn : hasP p.1 (l.take k) = false) : ((l.take (k + 1)).map Prod.fst).Nodup := by
  obtain ⟨hk, hx⟩ := List.getElem?_eq_some_iff.1 hp
  rw [List.take_succ_eq_append_getElem hk, hx, List.map_append, List.nodup_append]
  refine ⟨h, by simp, fun x hx y hy e => ?_⟩
  simp at hy
  subst hy; subst e
  rw [hasP_mem.2 hx] at hn
  cases hn

theorem all_step {l : List (ByteArray × Int)} {k : Nat} {p : ByteArray × Int} (hp : l[k]? = some p) (h : (l.take k).all (fun q => Lg.okUnits q.2) = true) (hn : Lg.okUnits p.2 = true) : (l.take (k + 1)).all (fun q => Lg.okUnits q.2) = true := by
  obtain ⟨hk, hx⟩ := List.getElem?_eq_some_iff.1 hp
  rw [List.take_succ_eq_append_getElem hk, hx, List.all_append, h]
  simp [hn]

theorem formed_units_no {b : Lg.Bk} {p : ByteArray × Int} (hp : p ∈ b.posts) (hn : Lg.okUnits p.2 = false) : Lg.formed b = false := by
  rw [Bool.eq_false_iff]; intro h
  unfold Lg.formed at h
  simp only [Bool.and_eq_true, List.all_eq_true] at h
  rw [h.1.2 p hp] at hn
  cases hn

theorem formed_twice {b : Lg.Bk} {k : Nat} {p : ByteArray × Int} (hp : b.posts[k]? = some p) (hn : hasP p.1 (b.posts.take k) = true) : Lg.formed b = false := by
  rw [Bool.eq_false_iff]; intro h
  have hd := Lg.formed_nodup h
  obtain ⟨hk, hx⟩ := List.getElem?_eq_some_iff.1 hp
  rw [← List.take_append_drop k b.posts, List.map_append, List.nodup_append] at hd
  refine hd.2.2 p.1 (hasP_mem.1 hn) p.1 ?_ rfl
  rw [List.drop_eq_getElem_cons hk, hx]
  simp

theorem okUnits_no {n : Int} (h : n = 0 ∨ n < -1000000000000 ∨ 1000000000000 < n) : Lg.okUnits n = false := by
  rw [Bool.eq_false_iff]; intro e
  unfold Lg.okUnits at e
  simp at e
  omega

set_option maxRecDepth 100000 in
set_option maxHeartbeats 4000000 in
theorem formed_any (b : Lg.Bk) (vp : Value) (w : World) (h : SlOf w vp 2 postC b.posts) (hs : b.id.size ≤ 5000) : Calls Tryd.prog 31 #[bookV (b, vp)] w (Gives (.bool (Lg.formed b)) w) := by
  have HV := hid h
  obtain ⟨a, cap, rfl, h1, h2, -⟩ := h
  unfold bookV
  simp only
  obtain ⟨W1, hW1⟩ : ∃ W1, W1 = w.alloc (.cells #[.string b.id, .int .i64 b.at_, .slice a b.posts.length cap] 36) := ⟨_, rfl⟩
  have hb1 : Below w.heap.size w W1 := by rw [hW1]; exact (Below.refl _ w).alloc (Nat.le_refl _) _
  have hs1 : W1.heap[w.heap.size]? = some (.cells #[.string b.id, .int .i64 b.at_, .slice a b.posts.length cap] 36 (0, 0)) := by rw [hW1]; exact alloc_new w _
  have H1 := hid (And.intro hb1 hs1)
  have HI := hid (ident_any b.id W1 hs)
  have hf0 := hid (show Lg.formed b = (Lg.nm b.id && decide (0 ≤ b.at_) && decide (b.at_ ≤ 144001439) && decide (2 ≤ b.posts.length) && decide (b.posts.length ≤ 12) && b.posts.all (fun p => Lg.okUnits p.2) && decide (b.posts.map Prod.fst).Nodup) from rfl)
  clear hb1 hs1 hs
  go_enter Tryd.func31, Tryd.ntmps31
  go_wp2_with fail
  rw [← hW1]
  clear hW1
  refine (HI.out).mono ?_
  rintro e w2 ⟨rfl, hb2⟩
  obtain ⟨hb1, hs1⟩ := H1.out
  have hs2 := (hb2.block _ (Array.getElem?_eq_some_iff.1 hs1).1).trans hs1
  have c1 : w2.cell? ⟨w.heap.size, 1, none⟩ = some (.int .i64 b.at_) := by simp [World.cell?, hs2]
  have c2 : w2.cell? ⟨w.heap.size, 2, none⟩ = some (.slice a b.posts.length cap) := by simp [World.cell?, hs2]
  have hz : w.heap.size < w2.heap.size := (Array.getElem?_eq_some_iff.1 hs2).1
  have HB2 := hid (hb1.trans (hb2.mono hb1.size))
  have HS2 := hid hs2
  clear hb1 hs1 hb2 hs2 HI H1
  cases hn : Lg.nm b.id with
  | false =>
    have HF := hid (show Lg.formed b = false by rw [hf0.out, hn]; rfl)
    clear hn
    go_wp2_with fail
    go_ret
    exact ⟨ret_bool HF.out.symm, HB2.out⟩
  | true =>
    by_cases g1 : b.at_ < 0
    · have HF := hid (show Lg.formed b = false by rw [hf0.out]; simp; intros; omega)
      clear hn
      go_wp2_with fail
      go_ret
      exact ⟨ret_bool HF.out.symm, HB2.out⟩
    · by_cases g2 : 144001439 < b.at_
      · have HF := hid (show Lg.formed b = false by rw [hf0.out]; simp; intros; omega)
        clear hn
        go_wp2_with fail
        go_ret
        exact ⟨ret_bool HF.out.symm, HB2.out⟩
      · by_cases g3 : (b.posts.length : Int) < 2
        · have HF := hid (show Lg.formed b = false by rw [hf0.out]; simp; intros; omega)
          clear hn
          go_wp2_with fail
          go_ret
          exact ⟨ret_bool HF.out.symm, HB2.out⟩
        · by_cases g4 : (12 : Int) < (b.posts.length : Int)
          · have HF := hid (show Lg.formed b = false by rw [hf0.out]; simp; intros; omega)
            clear hn
            go_wp2_with fail
            go_ret
            exact ⟨ret_bool HF.out.symm, HB2.out⟩
          · have HF := hid (show Lg.formed b = (b.posts.all (fun p => Lg.okUnits p.2) && decide (b.posts.map Prod.fst).Nodup) by
              rw [hf0.out, hn]
              simp only [Bool.true_and]
              rw [decide_eq_true (show 0 ≤ b.at_ by omega), decide_eq_true (show b.at_ ≤ 144001439 by omega), decide_eq_true (show 2 ≤ b.posts.length by omega), decide_eq_true (show b.posts.length ≤ 12 by omega)]
              rfl)
            clear hn
            obtain ⟨g, o, rfl, hr⟩ : ∃ g o, a = some ⟨g, o, none⟩ ∧ RowOf w g o 2 postC b.posts := by
              obtain ⟨a', cap', e, _, _, h3⟩ := HV.out
              cases e
              exact h3 (by omega)
            have HR := hid (hr.below HB2.out)
            have HVV := hid (HV.out.below HB2.out)
            clear hr
            go_wp2_with fail
            go_loopw [34] (fun i wr => ∃ k : Nat, k ≤ b.posts.length ∧ i = .int .i64 k ∧ Hid ((b.posts.take k).all (fun q => Lg.okUnits q.2) = true) ∧ Hid (((b.posts.take k).map Prod.fst).Nodup) ∧ Below w2.heap.size w2 wr) (fun i _ => b.posts.length - (RowKit.intOf i).toNat)
            case atStart => exact ⟨0, Nat.zero_le _, rfl, rfl, by simp [Hid], Below.refl _ _⟩
            case round =>
              obtain ⟨k, hk, rfl, HA, HN, hbr⟩ := hrel
              by_cases hlt : k < b.posts.length
              · obtain ⟨p, hp⟩ : ∃ p, b.posts[k]? = some p := ⟨_, List.getElem?_eq_getElem hlt⟩
                have hc := (HR.out.below hbr).2 k p hp
                have d0 := hc 0 _ rfl
                have d1 := hc 1 _ rfl
                rw [Nat.add_zero] at d0
                have hg := (HR.out.below hbr).1
                have hn0 : (0 : Int) ≤ (k : Int) := by omega
                have hn1 : (k : Int) < (b.posts.length : Int) := by omega
                have hkc : (k : Int) ≤ (cap : Int) := by omega
                have e1 : wr.cell? ⟨w.heap.size, 1, none⟩ = some (.int .i64 b.at_) := (hbr.cell (p := ⟨w.heap.size, 1, none⟩) hz).trans c1
                have e2 : wr.cell? ⟨w.heap.size, 2, none⟩ = some (.slice (some ⟨g, o, none⟩) b.posts.length cap) := (hbr.cell (p := ⟨w.heap.size, 2, none⟩) hz).trans c2
                have hzr : w.heap.size < wr.heap.size := Nat.lt_of_lt_of_le hz hbr.size
                have hzn : ¬ w.heap.size = wr.heap.size := by omega
                obtain ⟨W4, hW4⟩ : ∃ W4, W4 = wr.alloc (.cells #[.string p.1, .int .i64 p.2] 47) := ⟨_, rfl⟩
                have hb4 : Below wr.heap.size wr W4 := by rw [hW4]; exact (Below.refl _ wr).alloc (Nat.le_refl _) _
                have hs4 : W4.heap[wr.heap.size]? = some (.cells #[.string p.1, .int .i64 p.2] 47 (0, 0)) := by rw [hW4]; exact alloc_new wr _
                have HB4 := hid (Below.step hbr hb4)
                have HP := hid hp
                by_cases u1 : p.2 = 0 ∨ p.2 < -1000000000000 ∨ 1000000000000 < p.2
                · have HFF := hid (show Lg.formed b = false from formed_units_no (List.mem_of_getElem? hp) (okUnits_no u1))
                  have HB5 := hid (HB2.out.trans (HB4.out.mono HB2.out.size))
                  clear hc hp hb4 hs4 hbr c1 c2
                  rcases u1 with u1 | u1 | u1
                  · have u2 : (p.2 == 0) = true := by rw [u1]; rfl
                    clear u1
                    go_wp2_with fail
                    rw [← hW4]
                    go_ret
                    exact ⟨ret_bool HFF.out.symm, HB5.out⟩
                  · have u2 : (p.2 == 0) = false := by rw [beq_eq_false_iff_ne]; omega
                    go_wp2_with fail
                    rw [← hW4]
                    go_ret
                    exact ⟨ret_bool HFF.out.symm, HB5.out⟩
                  · have u2 : (p.2 == 0) = false := by rw [beq_eq_false_iff_ne]; omega
                    have u3 : ¬ p.2 < -1000000000000 := by omega
                    go_wp2_with fail
                    rw [← hW4]
                    go_ret
                    exact ⟨ret_bool HFF.out.symm, HB5.out⟩
                · have u2 : (p.2 == 0) = false := by rw [beq_eq_false_iff_ne]; omega
                  have u3 : ¬ p.2 < -1000000000000 := by omega
                  have u4 : ¬ 1000000000000 < p.2 := by omega
                  have HU := hid (show Lg.okUnits p.2 = true by unfold Lg.okUnits; simp; omega)
                  have hlen : (b.posts.take k).length = k := by rw [List.length_take]; omega
                  have HC := hid (contains_post (b.posts.take k) (.slice (some ⟨g, o, none⟩) k cap) p wr.heap.size W4 (((HVV.out.below hbr).below hb4).taken hk) (by simp [World.cell?, hs4]) (Array.getElem?_eq_some_iff.1 hs4).1 (by rw [hlen]; omega))
                  clear hc hp hb4 hs4 hbr c1 c2 u1 hlen
                  go_wp2_with fail
                  rw [← hW4]
                  clear hW4
                  refine (HC.out).mono ?_
                  rintro e w5 ⟨rfl, hb5⟩
                  have HB5 := hid (Below.trans HB4.out (hb5.mono HB4.out.size))
                  clear hb5
                  cases hh : hasP p.1 (b.posts.take k) with
                  | true =>
                    have HFF := hid (show Lg.formed b = false from formed_twice HP.out hh)
                    clear hh
                    go_wp2_with fail
                    go_ret
                    exact ⟨ret_bool HFF.out.symm, HB2.out.trans (HB5.out.mono HB2.out.size)⟩
                  | false =>
                    have HH := hid hh
                    clear hh
                    go_wp2_with fail
                    go_roundw
                    case rel => exact ⟨k + 1, by omega, by go_num, all_step HP.out HA.out HU.out, nodup_step HP.out HN.out HH.out, HB5.out⟩
                    case measure => simp [RowKit.intOf]; omega
              · have hke : k = b.posts.length := by omega
                subst hke
                have HFF := hid (show Lg.formed b = true by
                  have h1 := HA.out
                  have h2 := HN.out
                  rw [List.take_length] at h1 h2
                  rw [HF.out, h1, decide_eq_true h2]; rfl)
                have HB5 := hid (HB2.out.trans (hbr.mono HB2.out.size))
                clear hbr
                go_wp2_with fail
                go_ret
                exact ⟨ret_bool HFF.out.symm, HB5.out⟩

end Go.Proofs.YtfkcphflcmpenaaDoor
