/-
  The law file's helpers: booking, filled, balances. Conditions: lengths.
-/
import Derived.Test.YtfkcphflcmpenaaDoorZLed4
import Derived.Test.YtfkcphflcmpenaaDoorZLed6
import Derived.Test.YtfkcphflcmpenaaDoorZLed7
namespace Go.Proofs.YtfkcphflcmpenaaDoor
open Go.RowKit Go.Lib Go.Maps

/-- a bit of a number -/
def bitV (c : Int) (i : Nat) : Int := bits BinOp.and IntKind.u16 (c / 2 ^ i) 1
def bitB (c : Int) (i : Nat) : Bool := bitV c i == 1

def intC (i : Int) : List Value := [.int .i64 i]

/-- what filled ends in -/
def FilledPost (S : Lg.S) (w : World) (e : Ending) (w' : World) : Prop :=
  ∃ (p : Nat) (O : Nat → Prop), e = .returned (.pointer (some ⟨p, 0, none⟩)) ∧ Led w' p S O ∧ Below w.heap.size w w' ∧ ∀ k, O k → w.heap.size ≤ k

set_option maxRecDepth 100000 in
set_option maxHeartbeats 8000000 in
theorem filled_any (w : World) (va vl : Value) (c : Nat) (ns : List ByteArray) (bs : List (Lg.Bk × Value)) (ha : SlOf w va 1 strC ns) (hl : SlOf w vl 3 bookC bs) (hp : ∀ q ∈ bs, SlOf w q.2 2 postC q.1.posts) (hf : Lg.fewB ns (bs.map Prod.fst) = true) (_hc : c < 65536) :
    Calls Tryd.prog 24 #[va, .int .u16 c, vl] w (FilledPost (Lg.filled ns (bitB c) (bs.map Prod.fst)) w) := by
  obtain ⟨f1, f2, f3, f4⟩ := Lg.fewB_posts hf
  have HVA := hid ha
  have HVL := hid hl
  obtain ⟨aa, ca, rfl, a1, a2, a3⟩ := ha
  obtain ⟨la, lc, rfl, l1, l2, l3⟩ := hl
  have HA := hid a3
  have HL := hid l3
  have HP := hid hp
  have H1 := hid f1
  have H2 := hid f2
  rw [List.length_map] at f4
  clear a3 l3 hp f1 f2 hf
  go_enter Tryd.func24, Tryd.ntmps24
  go_wp2_with fail
  refine (new_any w).mono ?_
  rintro e w1 ⟨p, O, rfl, hL1, hb1, hO1⟩
  have HL1 := hid (And.intro hL1 (And.intro hb1 hO1))
  clear hL1 hb1 hO1
  go_wp2_with fail
  go_loopw [8] (fun i wr => ∃ k : Nat, k ≤ ns.length ∧ i = .int .i64 k ∧ Hid (∃ O, Led wr p (Lg.openN ns (bitB c) k) O ∧ Below w.heap.size w wr ∧ ∀ x, O x → w.heap.size ≤ x)) (fun i _ => ns.length - (RowKit.intOf i).toNat)
  case atStart => exact ⟨0, Nat.zero_le _, rfl, O, HL1.out.1, HL1.out.2.1, HL1.out.2.2⟩
  case round =>
    obtain ⟨k, hk, rfl, HK⟩ := hrel
    by_cases hlt : k < ns.length
    · obtain ⟨g, o, rfl, hr⟩ := HA.out (by omega)
      obtain ⟨x, hx⟩ : ∃ x, ns[k]? = some x := ⟨_, List.getElem?_eq_getElem hlt⟩
      obtain ⟨Ok, hLk, hbk, hOk⟩ := HK.out
      have c0 := (hr.below hbk).2 k x hx 0 _ rfl
      rw [Nat.add_zero, Nat.mul_one] at c0
      have hg := (hr.below hbk).1
      have hk0 : (0 : Int) ≤ (k : Int) := by omega
      have hk1 : (k : Int) < (ns.length : Int) := by omega
      have hk16 : (k : Int) < 64 := by omega
      have HX := hid hx
      have hxs := H1.out x (List.mem_of_getElem? hx)
      have HLk := hid (And.intro hLk (And.intro hbk hOk))
      have hn := Lg.openN_len ns (bitB c) k
      clear hr hx hLk hbk hOk
      go_wp2_with fail
      go_region_with (go_at_call 13; refine (open_any _ p _ Ok x _ (HLk.out.1.below (Below.refl _ _).drew) (by omega) (by omega)).mono ?_; rintro e w2 ⟨rfl, O2, hL2, hT2, hO2⟩)
      have HN := hid (show Led w2 p (Lg.openN ns (bitB c) (k + 1)) O2 ∧ Below w.heap.size w w2 ∧ ∀ x, O2 x → w.heap.size ≤ x from by
        obtain ⟨h1, h2, h3⟩ := HLk.out
        refine ⟨by rw [Lg.openN_step HX.out]; exact hL2, h2.drew.trans (hT2.below (show w.heap.size ≤ wr.heap.size from h2.size) h3), fun x hx => ?_⟩
        rcases hO2 x hx with h | h
        · exact h3 x h
        · exact Nat.le_trans (show w.heap.size ≤ wr.heap.size from h2.size) h)
      clear hL2 hT2 hO2
      go_wp2_with fail
      go_roundw
      case rel => exact ⟨k + 1, by omega, by go_num, O2, HN.out⟩
      case measure => simp [RowKit.intOf]; omega
    · have hke : k = ns.length := by omega
      subst hke
      go_wp2_with fail
      go_loopw [9] (fun i wr => ∃ k : Nat, k ≤ bs.length ∧ i = .int .i64 k ∧ Hid (∃ O, Led wr p (Lg.bookN (Lg.openN ns (bitB c) ns.length) (bs.map Prod.fst) k) O ∧ Below w.heap.size w wr ∧ ∀ x, O x → w.heap.size ≤ x)) (fun i _ => bs.length - (RowKit.intOf i).toNat)
      case atStart => exact ⟨0, Nat.zero_le _, rfl, HK.out⟩
      case round =>
        obtain ⟨k, hk, rfl, HK⟩ := hrel
        by_cases hlt : k < bs.length
        · obtain ⟨g, o, rfl, hr⟩ := HL.out (by omega)
          obtain ⟨q, hq⟩ : ∃ q, bs[k]? = some q := ⟨_, List.getElem?_eq_getElem hlt⟩
          have hx : (bs.map Prod.fst)[k]? = some q.1 := by rw [List.getElem?_map, hq]; rfl
          obtain ⟨Ok, hLk, hbk, hOk⟩ := HK.out
          have hqm := List.mem_of_getElem? hq
          have hsl := (HP.out q hqm).below hbk
          obtain ⟨pa, pc, hpv, -, -, -⟩ := HP.out q hqm
          have hc := (hr.below hbk).2 k q hq
          have c0 := hc 0 _ rfl
          have c1 := hc 1 _ rfl
          have c2 := hc 2 _ rfl
          rw [Nat.add_zero] at c0
          rw [hpv] at c2
          have hg := (hr.below hbk).1
          have hk0 : (0 : Int) ≤ (k : Int) := by omega
          have hk1 : (k : Int) < (bs.length : Int) := by omega
          obtain ⟨z1, z2, z3⟩ := H2.out q.1 (List.mem_map_of_mem hqm)
          have hbn := Lg.bookN_len (Lg.openN ns (bitB c) ns.length) (bs.map Prod.fst) k
          rw [Lg.openN_books] at hbn
          have hbn' : (Lg.bookN (Lg.openN ns (bitB c) ns.length) (bs.map Prod.fst) k).books.length < 1000 := by simp at hbn; omega
          have HB := hid (book_any wr p _ Ok q.1 q.2 hLk hsl (by omega) (fun x hx => by have := z3 x hx; omega) hbn')
          unfold bookV at HB
          rw [hpv] at HB
          have HX := hid hx
          have HLk := hid (And.intro hLk (And.intro hbk hOk))
          clear hc hr hx hq hLk hbk hOk hsl hpv hbn hbn' hqm z1 z2 z3
          go_wp2_with fail
          refine (HB.out).mono ?_
          rintro e w2 ⟨rfl, O2, hL2, hT2, hO2⟩
          have HN := hid (show Led w2 p (Lg.bookN (Lg.openN ns (bitB c) ns.length) (bs.map Prod.fst) (k + 1)) O2 ∧ Below w.heap.size w w2 ∧ ∀ x, O2 x → w.heap.size ≤ x from by
            obtain ⟨h1, h2, h3⟩ := HLk.out
            refine ⟨by rw [Lg.bookN_step HX.out]; exact hL2, h2.trans (hT2.below h2.size h3), fun x hx => ?_⟩
            rcases hO2 x hx with h | h
            · exact h3 x h
            · exact Nat.le_trans h2.size h)
          clear hL2 hT2 hO2
          go_wp2_with fail
          go_roundw
          case rel => exact ⟨k + 1, by omega, by go_num, O2, HN.out⟩
          case measure => simp [RowKit.intOf]; omega
        · have hke : k = bs.length := by omega
          have HFI := hid (show Lg.filled ns (bitB c) (bs.map Prod.fst) = Lg.bookN (Lg.openN ns (bitB c) ns.length) (bs.map Prod.fst) k by
            unfold Lg.filled; rw [hke, List.length_map])
          clear hke
          go_wp2_with fail
          go_ret
          rw [HFI.out]
          obtain ⟨O2, h1, h2, h3⟩ := HK.out
          exact ⟨p, O2, rfl, h1, h2, h3⟩

/-- balances of accounts -/
def BalsPost (S : Lg.S) (ns : List ByteArray) (t : Int) (w : World) (e : Ending) (w' : World) : Prop :=
  ∃ v, e = .returned v ∧ w'.ownsRow w.heap.size 3 1 v ns.length ((ns.map fun a => Lg.balAt S a t).flatMap intC) ∧ Below w.heap.size w w'

theorem Tryd.infoInt : (Tryd.prog.info? 3).map (fun i => (i.zero, i.size, i.bytes)) = some (some (.int .i64 0), 1, 8) := by kernel_rfl

set_option maxRecDepth 100000 in
set_option maxHeartbeats 4000000 in
theorem balances_any (w : World) (p : Nat) (S : Lg.S) (O : Nat → Prop) (va : Value) (ns : List ByteArray) (t : Int) (h : Led w p S O) (ha : SlOf w va 1 strC ns) (hs : ∀ a ∈ ns, a.size ≤ 60) (hn : ns.length ≤ 12) :
    Calls Tryd.prog 25 #[.pointer (some ⟨p, 0, none⟩), va, .int .i64 t] w (BalsPost S ns t w) := by
  obtain ⟨i0, hi, hz0, hz1, hz2⟩ := info_parts Tryd.infoInt
  have HLD := hid h
  have HS := hid hs
  obtain ⟨aa, ca, rfl, a1, a2, a3⟩ := ha
  have HA := hid a3
  clear h hs a3
  go_enter Tryd.func25, Tryd.ntmps25
  go_wp2_with fail
  go_loopw [7, 8] (fun v i wr => ∃ k : Nat, k ≤ ns.length ∧ i = .int .i64 k ∧ wr.ownsRow w.heap.size 3 1 v k (((ns.take k).map fun a => Lg.balAt S a t).flatMap intC) ∧ Below w.heap.size w wr) (fun _ i _ => ns.length - (RowKit.intOf i).toNat)
  case atStart => exact ⟨0, Nat.zero_le _, rfl, World.ownsRow_nil _ _ _ _, Below.refl _ _⟩
  case round =>
    obtain ⟨k, hk, rfl, hown, hb⟩ := hrel
    by_cases hlt : k < ns.length
    · obtain ⟨g, o, rfl, hr⟩ := HA.out (by omega)
      obtain ⟨x, hx⟩ : ∃ x, ns[k]? = some x := ⟨_, List.getElem?_eq_getElem hlt⟩
      have c0 := (hr.below hb).2 k x hx 0 _ rfl
      rw [Nat.add_zero, Nat.mul_one] at c0
      have hg := (hr.below hb).1
      have hk0 : (0 : Int) ≤ (k : Int) := by omega
      have hk1 : (k : Int) < (ns.length : Int) := by omega
      have hxs := HS.out x (List.mem_of_getElem? hx)
      have HAT := hid (ledAt_any wr p S O x t (HLD.out.below hb) (by unfold maxLen; omega))
      have HX := hid hx
      have HW := hid (And.intro hown hb)
      clear hr hx hown hb hxs
      go_wp2_with fail
      refine (HAT.out).mono ?_
      rintro e w2 ⟨rfl, hb2⟩
      have hown2 := ownsRow_below HW.out.1 hb2
      have hbw2 := HW.out.2.trans (hb2.mono HW.out.2.size)
      have hz2w := hbw2.size
      have hown3 := (hown2.alloc (.cells #[.int .i64 (Lg.balAt S x t)] 3))
      have HBW2 := hid hbw2
      have hsn : ((ns.take (k + 1)).map fun a => Lg.balAt S a t).flatMap intC = ((ns.take k).map fun a => Lg.balAt S a t).flatMap intC ++ [.int .i64 (Lg.balAt S x t)] := by
        obtain ⟨h1, h2⟩ := List.getElem?_eq_some_iff.1 HX.out
        rw [List.take_succ_eq_append_getElem h1, h2]
        simp [intC]
      have HSN := hid hsn
      clear hb2 hsn hbw2
      go_wp2_with (at_builtin; refine wpList_append_own _ rfl _ _ 44 rfl w.heap.size 3 i0 (.int .i64 0) 1 8 Tryd.underlying44 hi hz0 hz1 hz2 rfl (by decide) _ _ _ rfl hown3 ⟨w2.heap.size, 0, none⟩ 1 1 [.int .i64 (Lg.balAt S x t)] rfl rfl (cell_one_new _ _ _) (by simp [Value.oneCell']) (by unfold maxLen; omega) (by omega) (by simp; omega) ?_; intro v' w4 ho4 hg4 _)
      go_roundw
      case rel =>
        refine ⟨k + 1, by omega, by go_num, by rw [HSN.out]; exact ho4, Below.appended (HBW2.out.alloc hz2w _) hg4 (by simp; omega) hown3⟩
      case measure => simp [RowKit.intOf]; omega
    · have hke : k = ns.length := by omega
      subst hke
      rw [List.take_length] at hown
      have HW := hid (And.intro hown hb)
      obtain ⟨ra, rc, hrv⟩ := ownsRow_slice hown
      clear hown hb
      subst hrv
      go_wp2_with fail
      go_ret
      exact ⟨_, rfl, HW.out.1, HW.out.2⟩

end Go.Proofs.YtfkcphflcmpenaaDoor
