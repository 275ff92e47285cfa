/-
  fact.Text. Conditions: lengths; the table of powers lies where it was laid.
-/
import Derived.Test.YteogmlgmodeajaaGreatDoorZFa4
import Derived.Test.YteogmlgmodeajaaGreatDoorZFaLib
import Derived.Deep.RegionHeld3
import Derived.Deep.CutRange
namespace Go.Proofs.YteogmlgmodeajaaGreatDoor
open Go.RowKit Go.Maps Go.Lib

theorem Bldr.below {w w' : World} {B b : Nat} {l : List UInt8} (h : Bldr w B b l) (hb : Below w.heap.size w w') : Bldr w' B b l := by
  have key : ∀ p, BuilderAtF 78 5 B b p (byteCells l) w → BuilderAtF 78 5 B b p (byteCells l) w' := by
    rintro p ⟨h1, v, h2, h3, h4⟩
    refine ⟨h1, v, (hb.block b (Array.getElem?_eq_some_iff.1 h2).1).trans h2, ⟨h3.1, ?_⟩, h4⟩
    rcases h3.2 with h5 | ⟨g, cap, cur, fz, hv, hg, hh, r⟩
    · exact .inl h5
    · exact .inr ⟨g, cap, cur, fz, hv, hg, (hb.block g (Array.getElem?_eq_some_iff.1 hh).1).trans hh, r⟩
  exact h.elim (fun x => .inl (key _ x)) (fun x => .inr (key _ x))

theorem app_bs (x : List UInt8) (y : ByteArray) : (bs x ++ y).data.toList = x ++ y.data.toList := by simp [ByteArray.data_append, bs]
theorem text_not {d : Fa.Dom} (h : Fa.valid d = false) : Fa.text d = [] := by unfold Fa.text; rw [h]; rfl
theorem text_yes {d : Fa.Dom} (h : Fa.valid d = true) : Fa.text d = d.flatMap Fa.factText := by unfold Fa.text; rw [if_pos h]
theorem text_flag {f : Fa.Fact} (h : f.kind = 1) : Fa.factText f = join [f.name, Fa.tFlag] [32] ++ [59, 10] := by
  unfold Fa.factText; rw [if_pos h, join_lists]; simp
theorem text_num {f : Fa.Fact} (h : f.kind ≠ 1) : Fa.factText f = join [f.name, Fa.tNumber, Lx.dec f.lo.toNat, Fa.tTo, Lx.dec f.hi.toNat] [32] ++ [59, 10] := by
  unfold Fa.factText; rw [if_neg h, join_lists]; simp
/-- the texts so far -/
def txTo (d : Fa.Dom) (k : Nat) : List UInt8 := (d.take k).flatMap Fa.factText
theorem txTo_step {d : Fa.Dom} {k : Nat} {f : Fa.Fact} (h : d[k]? = some f) : txTo d (k + 1) = txTo d k ++ Fa.factText f := by unfold txTo; rw [take_snoc h]; simp
theorem txTo_len {d : Fa.Dom} (h : Fa.valid d = true) (k : Nat) : (txTo d k).length ≤ 3600 := by
  obtain ⟨h1, h2, h3⟩ := Fa.valid_parts h
  have := Fa.facts_len (d.take k) fun f hf => h1 f (List.mem_of_mem_take hf)
  unfold txTo
  have : (d.take k).length ≤ 60 := by simp; omega
  omega

set_option maxRecDepth 100000 in
set_option maxHeartbeats 4000000 in
theorem factText_any (d : Fa.Dom) (v : Value) (w : World) (h : SlOf w v 4 factC d) (hn : ∀ f ∈ d, f.name.length ≤ 5000) (hd : d.length ≤ 5000) (hT : Tab10 w) : Calls Tryz.prog 18 #[.agg #[v]] w (Gives (.string (bs (Fa.text d))) w) := by
  have HS := hid h
  have HT := hid hT
  obtain ⟨W1, hW1⟩ : ∃ W1, W1 = w.alloc (.cells #[v] 24) := ⟨_, rfl⟩
  have hb1 : Below w.heap.size w W1 := by rw [hW1]; exact (Below.refl _ w).alloc (Nat.le_refl _) _
  have hs1 : W1.heap[w.heap.size]? = some (.cells #[v] 24 (0, 0)) := by rw [hW1]; exact alloc_new w _
  have HVC := hid (factValid_any d v W1 (h.below hb1) hn hd)
  obtain ⟨va, cap, rfl, k1, k2, -⟩ := h
  have HB1 := hid hb1
  have hd2 : d.length ≤ 9223372036854775807 := by omega
  have c1 : W1.cell? ⟨w.heap.size, 0, none⟩ = some (.slice va d.length cap) := by simp [World.cell?, hs1]
  have hz1' : w.heap.size < W1.heap.size := (Array.getElem?_eq_some_iff.1 hs1).1
  have HC1 := hid c1
  clear hb1 hs1 hn hd hT
  go_enter Tryz.func18, Tryz.ntmps18
  go_wp2_with fail
  rw [← hW1]
  clear hW1
  refine (HVC.out).mono ?_
  rintro e w2 ⟨rfl, hb2⟩
  clear c1
  have c2 : w2.cell? ⟨w.heap.size, 0, none⟩ = some (.slice va d.length cap) := (hb2.cell (p := ⟨w.heap.size, 0, none⟩) hz1').trans HC1.out
  have hz2' : w.heap.size < w2.heap.size := Nat.lt_of_lt_of_le hz1' hb2.size
  have HB2 := hid (Below.step HB1.out hb2)
  have HC2 := hid c2
  clear hb2
  cases hv : Fa.valid d with
  | false =>
    have HE := hid (text_not hv)
    clear hv
    go_wp2_with fail
    go_ret
    rw [HE.out]
    exact ⟨rfl, HB2.out⟩
  | true =>
    have HV := hid hv
    have HE := hid (text_yes hv)
    clear hv
    obtain ⟨W3, hW3⟩ : ∃ W3, W3 = w2.alloc (.cells #[.pointer none, .slice none 0 0] 78) := ⟨_, rfl⟩
    have hb3 : Below w2.heap.size w2 W3 := by rw [hW3]; exact (Below.refl _ w2).alloc (Nat.le_refl _) _
    have HBL : Hid (Bldr W3 w2.heap.size w2.heap.size (txTo d 0)) := by rw [hW3]; exact Bldr.fresh w2
    have HB3 := hid hb3
    have c3 : W3.cell? ⟨w.heap.size, 0, none⟩ = some (.slice va d.length cap) := (hb3.cell (p := ⟨w.heap.size, 0, none⟩) hz2').trans HC2.out
    have hz3' : w.heap.size < W3.heap.size := Nat.lt_of_lt_of_le hz2' hb3.size
    clear hb3 c2
    go_upto_region 4 with (fail)
    rw [← hW3]
    clear hW3
    go_wp2_with fail
    go_loopw [13] (fun iv wr => ∃ k : Nat, k ≤ d.length ∧ iv = .int .i64 k ∧ Hid (Bldr wr w2.heap.size w2.heap.size (txTo d k)) ∧ Hid (Below w2.heap.size w2 wr)) (fun iv _ => d.length - (RowKit.intOf iv).toNat)
    case atStart => exact ⟨0, Nat.zero_le _, rfl, HBL, HB3⟩
    case round =>
      obtain ⟨k, hk, rfl, HK, HR⟩ := hrel
      have HBR := hid (HB2.out.trans (HR.out.mono HB2.out.size))
      clear c3
      have c2 : wr.cell? ⟨w.heap.size, 0, none⟩ = some (.slice va d.length cap) := (HR.out.cell (p := ⟨w.heap.size, 0, none⟩) hz2').trans HC2.out
      have hzr : w.heap.size < wr.heap.size := Nat.lt_of_lt_of_le hz2' HR.out.size
      by_cases hlt : k < d.length
      · obtain ⟨f, hf⟩ : ∃ f, d[k]? = some f := ⟨_, List.getElem?_eq_getElem hlt⟩
        obtain ⟨g, o, rfl, hg, e0, e1, e2, e3⟩ := fact_cells HS.out hf HBR.out
        have hk0 : (0 : Int) ≤ (k : Int) := by omega
        have hk1 : (k : Int) < (d.length : Int) := by omega
        have hok := ((Fa.valid_parts HV.out).1 f (List.mem_of_getElem? hf))
        have hfl := Fa.factText_len hok.1 hok.2
        have hnm := Fa.nm_len hok.2
        have htl := txTo_len HV.out k
        have hcs := Fa.okKind_cases hok.1
        have HST := hid (txTo_step hf)
        have HCS := hid hcs
        have HFL := hid hfl.1
        obtain ⟨W5, hW5⟩ : ∃ W5, W5 = wr.alloc (.cells #[.string (bs f.name), .int .i64 f.kind, .int .i64 f.lo, .int .i64 f.hi] 62) := ⟨_, rfl⟩
        have hb5 : Below wr.heap.size wr W5 := by rw [hW5]; exact (Below.refl _ wr).alloc (Nat.le_refl _) _
        have hs5 : W5.heap[wr.heap.size]? = some (.cells #[.string (bs f.name), .int .i64 f.kind, .int .i64 f.lo, .int .i64 f.hi] 62 (0, 0)) := by rw [hW5]; exact alloc_new wr _
        obtain ⟨W6, hW6⟩ : ∃ W6, W6 = W5.alloc (.cells #[.string (bs f.name), .string ⟨#[102, 108, 97, 103]⟩] 9) := ⟨_, rfl⟩
        have hb6 : Below W5.heap.size W5 W6 := by rw [hW6]; exact (Below.refl _ W5).alloc (Nat.le_refl _) _
        have hs6 : W6.heap[W5.heap.size]? = some (.cells #[.string (bs f.name), .string ⟨#[102, 108, 97, 103]⟩] 9 (0, 0)) := by rw [hW6]; exact alloc_new W5 _
        have x0 : W5.cell? ⟨wr.heap.size, 0, none⟩ = some (.string (bs f.name)) := by simp [World.cell?, hs5]
        have xz5 : wr.heap.size < W5.heap.size := (Array.getElem?_eq_some_iff.1 hs5).1
        have hs56 := (hb6.block _ xz5).trans hs5
        have xz6 : wr.heap.size < W6.heap.size := Nat.lt_of_lt_of_le xz5 hb6.size
        have zz6 : W5.heap.size < W6.heap.size := (Array.getElem?_eq_some_iff.1 hs6).1
        have HB6 := hid (Below.step hb5 hb6)
        have HS6 := hid hs6
        have HS56 := hid hs56
        have HT6 := hid (HT.out.below (Below.step HBR.out HB6.out))
        clear hf hok hfl hcs hb5 hs5 hb6 hs6 hs56
        go_upto_region 7 with (fail)
        rw [← hW5]
        clear hW5 e0 e1 e2 e3
        go_upto_region 8 with (fail)
        rw [← hW6]
        clear hW6 x0
        have x1 : W6.cell? ⟨wr.heap.size, 1, none⟩ = some (.int .i64 f.kind) := by simp [World.cell?, HS56.out]
        rcases HCS.out with ⟨q1, q2, q3⟩ | ⟨q1, q2, q3, q4⟩
        · have t1 : (f.kind != 1) = false := by rw [q1]; rfl
          have HFT := hid (text_flag q1)
          have hjl : (join [f.name, Fa.tFlag] [32]).length ≤ 60 := by have h1 := HFL.out; rw [HFT.out, List.length_append] at h1; omega
          have HJ : Hid (Calls Tryz.prog 48 #[.slice (some ⟨W5.heap.size, 0, none⟩) 2 2, .string ⟨#[32]⟩] W6 (Gives (.string (bs (join [f.name, Fa.tFlag] [32]))) W6)) := join_any W5.heap.size 0 2 [f.name, Fa.tFlag] [32] W6 (fun j x hj => by
            match j, hj with
            | 0, hj => simp at hj; subst hj; simp [World.cell?, HS6.out]
            | 1, hj => simp at hj; subst hj; simp [World.cell?, HS6.out]; rfl
            | j + 2, hj => simp at hj) zz6 (by simp) (by simp) (by omega)
          have hjs : (bs (join [f.name, Fa.tFlag] [32])).size ≤ 60 := by rw [bs_size]; exact hjl
          have HBW := hid (HK.out.below HB6.out)
          clear q1 q2 q3 hjl
          go_wp2_with fail
          refine (HJ.out).mono ?_
          rintro e w7 ⟨rfl, hb7⟩
          have HB7 := hid (HR.out.trans ((Below.step HB6.out hb7).mono HR.out.size))
          have HBW7 := hid (HBW.out.below hb7)
          have HWR := hid (write_any w2.heap.size w2.heap.size _ (bs (join [f.name, Fa.tFlag] [32]) ++ ⟨#[59, 10]⟩) w7 HBW7.out (by rw [ByteArray.size_append]; show _ + (_ + 2) ≤ _; omega) HB7.out.size)
          have hns : ¬ 9223372036854775807 < (bs (join [f.name, Fa.tFlag] [32])).size + 2 := by omega
          clear hb7
          go_wp2_with fail
          refine (HWR.out).mono ?_
          rintro e w8 ⟨rfl, hw8, hb8⟩
          have HW8 : Hid (Bldr w8 w2.heap.size w2.heap.size (txTo d (k + 1))) := by
            show Bldr w8 w2.heap.size w2.heap.size (txTo d (k + 1))
            rw [HST.out, HFT.out]
            rw [app_bs] at hw8
            exact hw8
          have HB8 := hid (HB7.out.trans hb8)
          clear hw8 hb8
          go_wp2_with fail
          go_roundw
          case rel => exact ⟨k + 1, by omega, by go_num, HW8, HB8⟩
          case measure => simp [RowKit.intOf]; omega
        · have t1 : (f.kind != 1) = true := by rw [q1]; rfl
          have HFT := hid (text_num (f := f) (by omega))
          have x2 : W6.cell? ⟨wr.heap.size, 2, none⟩ = some (.int .i64 f.lo) := by simp [World.cell?, HS56.out]
          have x3 : W6.cell? ⟨wr.heap.size, 3, none⟩ = some (.int .i64 f.hi) := by simp [World.cell?, HS56.out]
          have x0 : W6.cell? ⟨wr.heap.size, 0, none⟩ = some (.string (bs f.name)) := by simp [World.cell?, HS56.out]
          have HK6 := hid (show ∀ wx, Below W6.heap.size W6 wx → Below W6.heap.size W6 wx ∧ wx.cell? ⟨wr.heap.size, 0, none⟩ = some (.string (bs f.name)) ∧ wx.cell? ⟨wr.heap.size, 2, none⟩ = some (.int .i64 f.lo) ∧ wx.cell? ⟨wr.heap.size, 3, none⟩ = some (.int .i64 f.hi) from
            fun wx hb => ⟨hb, (hb.cell (p := ⟨wr.heap.size, 0, none⟩) xz6).trans x0, (hb.cell (p := ⟨wr.heap.size, 2, none⟩) xz6).trans x2, (hb.cell (p := ⟨wr.heap.size, 3, none⟩) xz6).trans x3⟩)
          have hlo1 : f.lo ≤ 1000000 := by omega
          have hhi0 : 0 ≤ f.hi := by omega
          clear q1
          go_upto_region 9 with (fail)
          go_cut [6, 13] from 13 to 36 (fun v6 v13 wx => v13 = .int .i64 k ∧ Hid (∃ q, v6 = .slice (some ⟨q, 0, none⟩) 5 5 ∧ Below W6.heap.size W6 wx ∧ wx.heap[q]? = some (.cells #[.string (bs f.name), .string ⟨#[110, 117, 109, 98, 101, 114]⟩, .string (bs (Lx.dec f.lo.toNat)), .string ⟨#[116, 111]⟩, .string (bs (Lx.dec f.hi.toNat))] 9 (0, 0))))
          case first =>
            go_region_held3 (fun wx => Below W6.heap.size W6 wx ∧ wx.cell? ⟨wr.heap.size, 0, none⟩ = some (.string (bs f.name)) ∧ wx.cell? ⟨wr.heap.size, 2, none⟩ = some (.int .i64 f.lo) ∧ wx.cell? ⟨wr.heap.size, 3, none⟩ = some (.int .i64 f.hi))
              (first | (exact HK6.out _ (Below.refl _ _)) | (exact HK6.out _ (Below.refl _ _).drew) | (go_split_ands; refine HK6.out _ ?_; first | assumption | (refine Below.step ?_ hbx; assumption) | (refine Below.step ?_ hbx; exact (Below.refl _ _).drew) | (refine (Below.alloc ?_ ?_ _); assumption; exact Below.size (by assumption))))
              (first | (go_at_call 46; try go_split_ands; refine (itoa_any _ (by assumption) (by omega) _ (HT6.out.below (by assumption))).mono ?_; rintro e wx ⟨rfl, hbx⟩))
            all_goals (go_wp2_with fail)
            rename Below W6.heap.size W6 (World.alloc _ _) ∧ _ => HSS
            have HS7 := hid HSS.1
            clear HSS
            go_meet
            case rel => exact ⟨rfl, _, rfl, HS7.out, alloc_new _ _⟩
          case rest =>
          obtain ⟨rfl, HQ⟩ := hcut
          rename World => W7
          obtain ⟨q, rfl, hbq, hsq⟩ := HQ.out
          have HBQ := hid hbq
          have HSQ := hid hsq
          have zq := (Array.getElem?_eq_some_iff.1 hsq).1
          clear HQ hbq hsq x0 x1 x2 x3
          have hjl : (join [f.name, Fa.tNumber, Lx.dec f.lo.toNat, Fa.tTo, Lx.dec f.hi.toNat] [32]).length ≤ 60 := by have h1 := HFL.out; rw [HFT.out, List.length_append] at h1; omega
          have HJ : Hid (Calls Tryz.prog 48 #[.slice (some ⟨q, 0, none⟩) 5 5, .string ⟨#[32]⟩] W7 (Gives (.string (bs (join [f.name, Fa.tNumber, Lx.dec f.lo.toNat, Fa.tTo, Lx.dec f.hi.toNat] [32]))) W7)) := join_any q 0 5 [f.name, Fa.tNumber, Lx.dec f.lo.toNat, Fa.tTo, Lx.dec f.hi.toNat] [32] W7 (fun j x hj => by
            match j, hj with
            | 0, hj => simp at hj; subst hj; simp [World.cell?, HSQ.out]
            | 1, hj => simp at hj; subst hj; simp [World.cell?, HSQ.out]; rfl
            | 2, hj => simp at hj; subst hj; simp [World.cell?, HSQ.out]
            | 3, hj => simp at hj; subst hj; simp [World.cell?, HSQ.out]; rfl
            | 4, hj => simp at hj; subst hj; simp [World.cell?, HSQ.out]
            | j + 5, hj => simp at hj) zq (by simp) (by simp) (by omega)
          obtain ⟨J, hJ⟩ : ∃ J, J = join [f.name, Fa.tNumber, Lx.dec f.lo.toNat, Fa.tTo, Lx.dec f.hi.toNat] [32] := ⟨_, rfl⟩
          rw [← hJ] at HJ hjl HFT
          have hjs : (bs J).size ≤ 60 := by rw [bs_size]; exact hjl
          have HBW := hid ((HK.out.below HB6.out).below HBQ.out)
          clear hJ hjl hlo1 hhi0 q2 q3 q4
          go_wp2_with fail
          refine (HJ.out).mono ?_
          rintro e w7 ⟨rfl, hb7⟩
          have HB7 := hid (HR.out.trans ((Below.step (Below.step HB6.out HBQ.out) hb7).mono HR.out.size))
          have HBW7 := hid (HBW.out.below hb7)
          have HWR := hid (write_any w2.heap.size w2.heap.size _ (bs J ++ ⟨#[59, 10]⟩) w7 HBW7.out (by rw [ByteArray.size_append]; show _ + (_ + 2) ≤ _; omega) HB7.out.size)
          have hns : ¬ 9223372036854775807 < (bs J).size + 2 := by omega
          clear hb7
          go_wp2_with fail
          refine (HWR.out).mono ?_
          rintro e w8 ⟨rfl, hw8, hb8⟩
          have HW8 : Hid (Bldr w8 w2.heap.size w2.heap.size (txTo d (k + 1))) := by
            show Bldr w8 w2.heap.size w2.heap.size (txTo d (k + 1))
            rw [HST.out, HFT.out]
            rw [app_bs] at hw8
            exact hw8
          have HB8 := hid (HB7.out.trans hb8)
          clear hw8 hb8
          go_wp2_with fail
          go_roundw
          case rel => exact ⟨k + 1, by omega, by go_num, HW8, HB8⟩
          case measure => simp [RowKit.intOf]; omega
      · have hke : k = d.length := by omega
        have HEE := hid (show Fa.text d = txTo d k by rw [HE.out, hke]; unfold txTo; rw [List.take_length])
        clear hke
        have HTX := hid (text_any w2.heap.size w2.heap.size _ wr HK.out HR.out.size)
        go_wp2_with fail
        refine (HTX.out).mono ?_
        rintro e w3 ⟨rfl, hb4⟩
        have HB4 := hid (HBR.out.trans (hb4.mono HB2.out.size))
        clear hb4
        go_wp2_with fail
        go_ret
        rw [HEE.out]
        exact ⟨rfl, HB4.out⟩

end Go.Proofs.YteogmlgmodeajaaGreatDoor
