/-
  script.Parse. Conditions: lengths; the library's tables.
-/
import Derived.Test.YtidkmhokolknbaaGreatDoorZMLiT
import Derived.Test.YtidkmhokolknbaaGreatDoorZMBase
import Derived.Outline
import Derived.WalkMore
namespace Go.Proofs.YtidkmhokolknbaaGreatDoor
open Go.RowKit Go.Lib Go.Maps

attribute [local go_sem] Oper.semAt_some

/-- what script.Parse returns: the name with the text, its words the call's own; or an error -/
def SParseP (t : List UInt8) (w : World) (e : Ending) (w' : World) : Prop :=
  ∃ (k : Int) (v : Value) (er off : Int), e = .returned (.tuple #[.agg #[.int .i64 k, v], .int .i64 er, .int .i64 off]) ∧ Below w.heap.size w w' ∧
    match Li.nameP t with
    | some n => er = 0 ∧ k = n.script ∧ w'.ownsRow w.heap.size 9 1 v n.words.length (n.words.flatMap strC) ∧ shortN n
    | none => er ≠ 0 ∧ v = .slice none 0 0

set_option maxRecDepth 100000 in
set_option maxHeartbeats 20000000 in
theorem sParse_any (t : ByteArray) (w : World) (hs : t.size ≤ 1000000) (hT : Tabs w) : Calls Tryz.prog 51 #[.string t] w (SParseP t.data.toList w) := by
  have hmm := @run_makeMap Tryz.prog
  have HTT := hid hT
  obtain ⟨W1, hW1⟩ : ∃ W1, W1 = ((w.alloc (.cells #[.int .i64 0, .slice none 0 0] 73)).alloc (.cells #[.int .i64 0] 32)).alloc (.cells #[.int .i64 0] 3) := ⟨_, rfl⟩
  clear hT
  refine (callsIn_wide (n := 9)).1 ?_
  refine callsIn_of_wp_marks Tryz.func51 rfl trivial ?_ rfl
  simp only [Tryz.ntmps51, List.size_toArray, List.length_cons, List.length_nil, Nat.reduceAdd, Nat.reduceSub, Array.replicate_succ, Array.replicate_zero, List.push_toArray, List.append_toArray, List.nil_append, List.cons_append]
  refine wpIn_wide.2 ?_
  go_upto_region 1 with (fail)
  rw [← hW1]
  have hz10 : W1.heap.size = w.heap.size + 3 := by rw [hW1, World.size_alloc, World.size_alloc, World.size_alloc]
  have hd1 : W1.heap[w.heap.size]? = some (.cells #[.int .i64 0, .slice none 0 0] 73 (0, 0)) := by
    rw [hW1]
    exact (Below.heap_alloc _ _ _ (by rw [World.size_alloc, World.size_alloc]; omega)).trans ((Below.heap_alloc _ _ _ (by rw [World.size_alloc]; omega)).trans (World.alloc_heap_new w _))
  have he1 : W1.heap[w.heap.size + 1]? = some (.cells #[.int .i64 0] 32 (0, 0)) := by
    have := World.alloc_heap_new (w.alloc (.cells #[.int .i64 0, .slice none 0 0] 73)) (.cells #[.int .i64 0] 32)
    rw [World.size_alloc] at this
    rw [hW1]
    exact (Below.heap_alloc _ _ _ (by rw [World.size_alloc, World.size_alloc]; omega)).trans this
  have ho1 : W1.heap[w.heap.size + 2]? = some (.cells #[.int .i64 0] 3 (0, 0)) := by
    have := World.alloc_heap_new ((w.alloc (.cells #[.int .i64 0, .slice none 0 0] 73)).alloc (.cells #[.int .i64 0] 32)) (.cells #[.int .i64 0] 3)
    rw [World.size_alloc, World.size_alloc] at this
    rw [hW1]
    exact this
  have hb10 : Below w.heap.size w W1 := by rw [hW1]; exact (((Below.refl _ w).alloc (Nat.le_refl _) _).alloc (by rw [World.size_alloc]; omega) _).alloc (by rw [World.size_alloc, World.size_alloc]; omega) _
  have HRES := hid (show ∀ X, Below W1.heap.size W1 X → X.heap[w.heap.size]? = some (.cells #[.int .i64 0, .slice none 0 0] 73 (0, 0)) ∧ X.heap[w.heap.size + 1]? = some (.cells #[.int .i64 0] 32 (0, 0)) ∧ X.heap[w.heap.size + 2]? = some (.cells #[.int .i64 0] 3 (0, 0)) ∧ Below w.heap.size w X ∧ w.heap.size + 3 ≤ X.heap.size from fun X hX =>
    ⟨(hX.block _ (Array.getElem?_eq_some_iff.1 hd1).1).trans hd1, (hX.block _ (Array.getElem?_eq_some_iff.1 he1).1).trans he1, (hX.block _ (Array.getElem?_eq_some_iff.1 ho1).1).trans ho1, hb10.trans (hX.mono hb10.size), by have := hX.size; omega⟩)
  clear hW1 hz10 hd1 he1 ho1 hb10
  by_cases hlong : 20000 < t.size
  · have hl1 : (20000 : Int) < (t.size : Int) := by omega
    have HNO := hid (Li.nameP_long (t := t.data.toList) (by show 20000 < t.size; exact hlong))
    go_step3
    obtain ⟨hd, he, ho, hbx, hzx⟩ := HRES.out W1 (Below.refl _ _)
    have fd0 : W1.frozen? ⟨w.heap.size, 0, none⟩ = false := by simp [World.frozen?, hd]
    have fd1 : W1.frozen? ⟨w.heap.size, 1, none⟩ = false := by simp [World.frozen?, hd]
    have cd0 : W1.cell? ⟨w.heap.size, 0, none⟩ = some (.int .i64 0) := by simp [World.cell?, hd]
    have cd1 : W1.cell? ⟨w.heap.size, 1, none⟩ = some (.slice none 0 0) := by simp [World.cell?, hd]
    obtain ⟨ce, fe⟩ := cell_blk he
    obtain ⟨co, fo⟩ : W1.cell? ⟨w.heap.size + 1 + 1, 0, none⟩ = some (.int .i64 0) ∧ W1.frozen? ⟨w.heap.size + 1 + 1, 0, none⟩ = false := cell_blk ho
    have zd : w.heap.size < W1.heap.size := by omega
    have ze : w.heap.size + 1 < W1.heap.size := by omega
    have zo : w.heap.size + 1 + 1 < W1.heap.size := by omega
    have HX := hid (And.intro hd (And.intro he (And.intro ho hbx)))
    clear hd he ho hbx hzx
    go_wp2_with fail
    try rw [Exit.noGoto_ret]
    obtain ⟨W9, hW9⟩ : ∃ W9, W9 = (((W1.setCell ⟨w.heap.size, 0, none⟩ (.int .i64 0)).setCell ⟨w.heap.size, 1, none⟩ (.slice none 0 0)).setCell ⟨w.heap.size + 1, 0, none⟩ (.int .i64 2)).setCell ⟨w.heap.size + 1 + 1, 0, none⟩ (.int .i64 (-1)) := ⟨_, rfl⟩
    have hR : SpR w 0 (.slice none 0 0) 2 (-1) [] W9 := by
      rw [hW9]
      obtain ⟨hd, he, ho, hbx⟩ := HX.out
      exact spR_stored hd he ho hbx List.nodup_nil (fun X hX => by cases hX)
    rw [← hW9]
    have hR2 := hR
    refine leaves_marks [] _ List.nodup_nil (fun X hX => by cases hX) (fun W' hW' => ?_)
    have h3 := hR2.but hW'
    refine ⟨_, spR_results rfl rfl rfl rfl h3, _, _, _, _, rfl, h3.below, ?_⟩
    rw [HNO.out]
    exact ⟨show (2 : Int) ≠ 0 by decide, rfl⟩
  · have hl1 : ¬ (20000 : Int) < (t.size : Int) := by omega
    have hl2 : (t.size : Int) ≤ 20000 := by omega
    go_step3
    obtain ⟨mb, hmb⟩ : ∃ mb, mb = W1.heap.size := ⟨_, rfl⟩
    obtain ⟨W2, hW2⟩ : ∃ W2, W2 = W1.alloc (.map #[] 0) := ⟨_, rfl⟩
    have hM2 : MapF W2 Tryz.prog 9 mb 0 (titF 0) := by rw [hW2, titF_nil, hmb]; exact MapF.made W1 _ _
    have HM2 := hid hM2
    have HMB := hid hmb
    have HB2 := hid (show Below W1.heap.size W1 W2 by rw [hW2]; exact (Below.refl _ W1).alloc (Nat.le_refl _) _)
    clear hM2
    go_wp2_with fail
    rw [← hW2, ← hmb]
    clear hW2 hmb
    refine (titles_any W2).mono ?_
    rintro e W3 ⟨rfl, hb3⟩
    have HB3 := hid hb3
    have HM3 := hid (HM2.out.below hb3)
    clear hb3
    go_wp2_with fail
    go_loopw [22] (fun iv wr => ∃ k : Nat, k ≤ 5 ∧ iv = .int .i64 k ∧ Hid (MapF wr Tryz.prog 9 mb k (titF k) ∧ Tch (fun x => x = mb) W3 wr)) (fun iv _ => 5 - (RowKit.intOf iv).toNat)
    case atStart => exact ⟨0, Nat.zero_le _, rfl, HM3.out, Tch.refl _ _⟩
    case round =>
      obtain ⟨k, hk, rfl, HK⟩ := hrel
      by_cases hlt : k < 5
      · have hk1 : (k : Int) < 5 := by omega
        have hix := tit_at hlt wr
        have hst := titF_step k
        have hsz : (bs (titlesL.getD k [])).size ≤ maxLen := by
          have : k = 0 ∨ k = 1 ∨ k = 2 ∨ k = 3 ∨ k = 4 := by omega
          rcases this with rfl | rfl | rfl | rfl | rfl <;> decide
        obtain ⟨T, hT⟩ : ∃ T, T = titlesL.getD k [] := ⟨_, rfl⟩
        rw [← hT] at hix hst hsz
        clear hT
        obtain ⟨W5, hput, hM5, hg5⟩ := HK.out.1.put str_keyed Tryz.underlying61 (by unfold maxLen; omega) (str_key (s := bs T) hsz) hst.1 hst.2
        have H5 := hid (show MapF W5 Tryz.prog 9 mb (k + 1) (titF (k + 1)) ∧ Tch (fun x => x = mb) W3 W5 from ⟨hM5, HK.out.2.grown hg5 (fun r e => by cases e; exact .inl rfl)⟩)
        clear hst hM5 hg5
        go_wp2_with fail
        go_roundw
        case rel => exact ⟨k + 1, by omega, by go_num, H5⟩
        case measure => simp [RowKit.intOf]; omega
      · have hk1 : ¬ (k : Int) < 5 := by omega
        have hke : k = 5 := by omega
        subst hke
        have HBR := hid (show Below W1.heap.size W1 wr from (Below.step HB2.out HB3.out).trans (HK.out.2.below (Nat.le_trans HB2.out.size HB3.out.size) (fun x (e : x = mb) => by rw [e, HMB.out]; exact Nat.le_refl _)))
        go_wp2_with fail
        refine (cut_any t wr hs).mono ?_
        rintro e W4 ⟨rfl, hb4⟩
        have HB4 := hid (Below.step HBR.out hb4)
        have hM4 := HK.out.1.below hb4
        cases hsp : Li.split58 t.data.toList with
        | none =>
          have hcc : cutC t.data.toList = (t.data.toList, [], false) := by unfold cutC; rw [hsp]
          rw [hcc]
          have HNO := hid (Li.nameP_none hsp)
          have htt : bs t.data.toList = t := rfl
          have hlk := hM4.get str_keyed Tryz.underlying61 (zero_int W4) (str_key (s := bs t.data.toList) (by rw [htt]; unfold maxLen; omega))
          rw [titF_end] at hlk
          obtain ⟨sc, hsc⟩ : ∃ sc, sc = Li.scriptOf t.data.toList := ⟨_, rfl⟩
          rw [← hsc] at hlk
          rw [htt] at hlk ⊢
          clear hsp hcc hb4 hM4 hsc htt
          obtain ⟨hd, he, ho, hbx, hzx⟩ := HRES.out W4 HB4.out
          have fd0 : W4.frozen? ⟨w.heap.size, 0, none⟩ = false := by simp [World.frozen?, hd]
          have fd1 : W4.frozen? ⟨w.heap.size, 1, none⟩ = false := by simp [World.frozen?, hd]
          have cd0 : W4.cell? ⟨w.heap.size, 0, none⟩ = some (.int .i64 0) := by simp [World.cell?, hd]
          have cd1 : W4.cell? ⟨w.heap.size, 1, none⟩ = some (.slice none 0 0) := by simp [World.cell?, hd]
          obtain ⟨ce, fe⟩ := cell_blk he
          obtain ⟨co, fo⟩ : W4.cell? ⟨w.heap.size + 1 + 1, 0, none⟩ = some (.int .i64 0) ∧ W4.frozen? ⟨w.heap.size + 1 + 1, 0, none⟩ = false := cell_blk ho
          have zd : w.heap.size < W4.heap.size := by omega
          have ze : w.heap.size + 1 < W4.heap.size := by omega
          have zo : w.heap.size + 1 + 1 < W4.heap.size := by omega
          have HX := hid (And.intro hd (And.intro he (And.intro ho hbx)))
          clear hd he ho hbx hzx
          go_wp2_with fail
          try rw [Exit.noGoto_ret]
          obtain ⟨W9, hW9⟩ : ∃ W9, W9 = (((W4.setCell ⟨w.heap.size, 0, none⟩ (.int .i64 0)).setCell ⟨w.heap.size, 1, none⟩ (.slice none 0 0)).setCell ⟨w.heap.size + 1, 0, none⟩ (.int .i64 5)).setCell ⟨w.heap.size + 1 + 1, 0, none⟩ (.int .i64 0) := ⟨_, rfl⟩
          have hR : SpR w 0 (.slice none 0 0) 5 0 [] W9 := by
            rw [hW9]
            obtain ⟨hd, he, ho, hbx⟩ := HX.out
            exact spR_stored hd he ho hbx List.nodup_nil (fun X hX => by cases hX)
          rw [← hW9]
          have hR2 := hR.grown (World.grownBy_alloc W9 (.cells #[.int .i64 sc, .slice none 0 0] 73) none) (fun r e => by cases e)
          refine leaves_marks [] _ List.nodup_nil (fun X hX => by cases hX) (fun W' hW' => ?_)
          have h3 := hR2.but hW'
          refine ⟨_, spR_results rfl rfl rfl rfl h3, _, _, _, _, rfl, h3.below, ?_⟩
          rw [HNO.out]
          exact ⟨show (5 : Int) ≠ 0 by decide, rfl⟩
        | some p =>
          have hcc : cutC t.data.toList = (p.1, p.2, true) := by unfold cutC; rw [hsp]
          rw [hcc]
          have hpl : p.1.length + 1 + p.2.length = t.data.toList.length := by
            have := index_split t.data.toList
            rw [hsp] at this
            rw [this.2]
            simp
            omega
          have hts : t.data.toList.length = t.size := rfl
          have hp1 := bs_len p.1
          have hlk := hM4.get str_keyed Tryz.underlying61 (zero_int W4) (str_key (s := bs p.1) (by rw [bs_len]; unfold maxLen; omega))
          rw [titF_end] at hlk
          obtain ⟨sc, hsc⟩ : ∃ sc, sc = Li.scriptOf p.1 := ⟨_, rfl⟩
          rw [← hsc] at hlk
          have HSP := hid (And.intro hsp hsc)
          have HPL := hid (And.intro hpl hts)
          clear hsp hsc hcc hpl hts hb4 hM4
          obtain ⟨t1, r1⟩ := p
          simp only at hlk HSP HPL hp1 ⊢
          by_cases hs0 : sc = 0
          · have HNO := hid (show Li.nameP t.data.toList = none from Li.nameP_zero HSP.out.1 (by rw [← HSP.out.2]; exact hs0))
            subst hs0
            obtain ⟨hd, he, ho, hbx, hzx⟩ := HRES.out W4 HB4.out
            have fd0 : W4.frozen? ⟨w.heap.size, 0, none⟩ = false := by simp [World.frozen?, hd]
            have fd1 : W4.frozen? ⟨w.heap.size, 1, none⟩ = false := by simp [World.frozen?, hd]
            have cd0 : W4.cell? ⟨w.heap.size, 0, none⟩ = some (.int .i64 0) := by simp [World.cell?, hd]
            have cd1 : W4.cell? ⟨w.heap.size, 1, none⟩ = some (.slice none 0 0) := by simp [World.cell?, hd]
            obtain ⟨ce, fe⟩ := cell_blk he
            obtain ⟨co, fo⟩ : W4.cell? ⟨w.heap.size + 1 + 1, 0, none⟩ = some (.int .i64 0) ∧ W4.frozen? ⟨w.heap.size + 1 + 1, 0, none⟩ = false := cell_blk ho
            have zd : w.heap.size < W4.heap.size := by omega
            have ze : w.heap.size + 1 < W4.heap.size := by omega
            have zo : w.heap.size + 1 + 1 < W4.heap.size := by omega
            have HX := hid (And.intro hd (And.intro he (And.intro ho hbx)))
            clear hd he ho hbx hzx
            go_wp2_with fail
            try rw [Exit.noGoto_ret]
            obtain ⟨W9, hW9⟩ : ∃ W9, W9 = (((W4.setCell ⟨w.heap.size, 0, none⟩ (.int .i64 0)).setCell ⟨w.heap.size, 1, none⟩ (.slice none 0 0)).setCell ⟨w.heap.size + 1, 0, none⟩ (.int .i64 5)).setCell ⟨w.heap.size + 1 + 1, 0, none⟩ (.int .i64 0) := ⟨_, rfl⟩
            have hR : SpR w 0 (.slice none 0 0) 5 0 [] W9 := by
              rw [hW9]
              obtain ⟨hd, he, ho, hbx⟩ := HX.out
              exact spR_stored hd he ho hbx List.nodup_nil (fun X hX => by cases hX)
            rw [← hW9]
            have hR2 := hR.grown (World.grownBy_alloc W9 (.cells #[.int .i64 0, .slice none 0 0] 73) none) (fun r e => by cases e)
            refine leaves_marks [] _ List.nodup_nil (fun X hX => by cases hX) (fun W' hW' => ?_)
            have h3 := hR2.but hW'
            refine ⟨_, spR_results rfl rfl rfl rfl h3, _, _, _, _, rfl, h3.below, ?_⟩
            rw [HNO.out]
            exact ⟨show (5 : Int) ≠ 0 by decide, rfl⟩
          · have hsb : (sc == 0) = false := by rw [beq_eq_false_iff_ne]; exact hs0
            have hl5 : t1.length ≤ 20000 := by have := HPL.out; omega
            have hl6 : ¬ 9223372036854775807 < (bs t1).size + 1 := by rw [bs_len]; omega
            clear hp1
            go_wp2_with fail
            go_step3
            go_wp2_with fail
            obtain ⟨W6, hW6⟩ : ∃ W6, W6 = (W4.alloc (.cells #[.int .i64 sc, .slice none 0 0] 73)).alloc (.cells #[.int .i64 ((bs t1).size + 1)] 3) := ⟨_, rfl⟩
            have HS0 := hid (show SpW w W4.heap.size sc [] (t1.length + 1) [] W6.heap.size W6 by
              obtain ⟨hd, he, ho, hbx, hzx⟩ := HRES.out W4 HB4.out
              have hb6 : Below W4.heap.size W4 W6 := by rw [hW6]; exact ((Below.refl _ W4).alloc (Nat.le_refl _) _).alloc (by rw [World.size_alloc]; omega) _
              refine ⟨(hb6.block _ (by omega)).trans hd, (hb6.block _ (by omega)).trans he, (hb6.block _ (by omega)).trans ho, ⟨.slice none 0 0, ?_, World.ownsRow_nil _ _ _ _, fun g hg => by cases hg⟩, ?_, hzx, hbx.trans (hb6.mono hbx.size), List.nodup_nil, fun X hX => by cases hX⟩
              · rw [hW6]
                exact (Below.heap_alloc _ _ _ (by rw [World.size_alloc]; omega)).trans (World.alloc_heap_new W4 _)
              · have := World.alloc_heap_new (W4.alloc (.cells #[.int .i64 sc, .slice none 0 0] 73)) (.cells #[.int .i64 ((bs t1).size + 1)] 3)
                rw [World.size_alloc, ← hW6, bs_len] at this
                exact this)
            rw [← hW6]
            clear hW6
            have HWL0 := hid (show w.heap.size ≤ W4.heap.size from (HRES.out W4 HB4.out).2.2.2.1.size)
            obtain ⟨T, hT⟩ : ∃ T : Value → Value → Value → Value → Value → Value → Value → Value → Value → Value → Value → Value → Value → Value → Value → Value → Value → Value → Value → Value → Value → Value → Value → Value → Value → Value → Value → Value → Value → Value → Value → Value → Value → Value → Value → Value → Value → Value → Value → Value → Value → Value → Value → Value → Value → Value → Value → Value → Value → Value → Value → Value → Value → Value → Value → Value → Array Value, T = fun x13 x14 x15 x51 x52 x53 x54 x55 x56 x57 x58 x59 x60 x61 x62 x63 x64 x65 x66 x67 x68 x69 x70 x71 x72 x73 x74 x75 x76 x77 x78 x79 x80 x81 x82 x83 x84 x85 x86 x87 x88 x89 x90 x91 x92 x93 x94 x95 x96 x97 x98 x99 x100 x101 x102 x103 => #[.string t, undef, .pointer (some ⟨w.heap.size, 0, none⟩), .pointer (some ⟨w.heap.size + 1, 0, none⟩), .pointer (some ⟨w.heap.size + 1 + 1, 0, none⟩), .map (some mb), u6, u7, .string (bs t1), .string (bs r1), .bool true, .pointer (some ⟨W4.heap.size, 0, none⟩), .pointer (some ⟨W4.heap.size + 1, 0, none⟩), x13, x14, x15, .string t, .int .i64 t.size, .bool false, undef, .map (some mb),
                .agg #[.string ⟨#[]⟩, .string ⟨#[112, 108, 97, 105, 110]⟩, .string ⟨#[99, 97, 115, 101, 100]⟩, .string ⟨#[97, 98, 106, 97, 100]⟩, .string ⟨#[115, 121, 108, 108, 97, 98]⟩], .int .i64 5, .bool false, u24, u25, u26, u27, u28, u29, .tuple #[.string (bs t1), .string (bs r1), .bool true], .string t, .tuple #[.string (bs t1), .string (bs r1), .bool true], .string (bs t1), .string (bs r1), .bool true, .map (some mb), .string (bs t1), .int .i64 sc,
                .agg #[.int .i64 sc, .slice none 0 0], .bool true, .bool false, .bool false, .pointer (some ⟨W4.heap.size, 0, none⟩), .int .i64 sc, .bool false, .bool false, undef, .string (bs t1), .int .i64 (bs t1).size, .int .i64 ((bs t1).size + 1), x51, x52, x53, x54, x55, x56, x57, x58, x59, x60, x61, x62, x63, x64, x65, x66, x67, x68, x69, x70, x71, x72, x73, x74, x75, x76, x77, x78, x79, x80, x81, x82, x83, x84, x85, x86, x87, x88, x89, x90, x91, x92, x93, x94, x95, x96, x97, x98, x99, x100, x101, x102, x103, undef, undef, undef, undef, undef, undef, undef, undef] := ⟨_, rfl⟩
            refine wp_loop_ghost_k (fun k A wr => ∃ (x13 x14 x15 x51 x52 x53 x54 x55 x56 x57 x58 x59 x60 x61 x62 x63 x64 x65 x66 x67 x68 x69 x70 x71 x72 x73 x74 x75 x76 x77 x78 x79 x80 x81 x82 x83 x84 x85 x86 x87 x88 x89 x90 x91 x92 x93 x94 x95 x96 x97 x98 x99 x100 x101 x102 x103 : Value) (Ds : List Nat) (ws : List (List UInt8)) (i : Nat), A = { tmps := T x13 x14 x15 x51 x52 x53 x54 x55 x56 x57 x58 x59 x60 x61 x62 x63 x64 x65 x66 x67 x68 x69 x70 x71 x72 x73 x74 x75 x76 x77 x78 x79 x80 x81 x82 x83 x84 x85 x86 x87 x88 x89 x90 x91 x92 x93 x94 x95 x96 x97 x98 x99 x100 x101 x102 x103, defers := Ds.map mark } ∧ k = t.data.toList.length - i ∧ i ≤ t.data.toList.length ∧ Hid (SpW w W4.heap.size sc ws i Ds wr.heap.size wr ∧ Li.RestP t.data.toList sc i ws ∧ ws.length ≤ 6 ∧ ∀ x ∈ ws, x.length ≤ 1000000)) (t.data.toList.length - (t1.length + 1)) ?_ ?_
            · exact ⟨undef, undef, undef, undef, undef, undef, undef, undef, undef, undef, undef, undef, undef, undef, undef, undef, undef, undef, undef, undef, undef, undef, undef, undef, undef, undef, undef, undef, undef, undef, undef, undef, undef, undef, undef, undef, undef, undef, undef, undef, undef, undef, undef, undef, undef, undef, undef, undef, undef, undef, undef, undef, undef, undef, undef, undef, [], [], t1.length + 1, by rw [hT]; rfl, rfl, by have := HPL.out; omega, HS0.out, by rw [HSP.out.2]; exact Li.rest_start (by rw [HPL.out.2]; exact hlong) HSP.out.1 (by rw [← HSP.out.2]; exact hs0), by simp, by simp⟩
            · rintro k A wr ⟨x13, x14, x15, x51, x52, x53, x54, x55, x56, x57, x58, x59, x60, x61, x62, x63, x64, x65, x66, x67, x68, x69, x70, x71, x72, x73, x74, x75, x76, x77, x78, x79, x80, x81, x82, x83, x84, x85, x86, x87, x88, x89, x90, x91, x92, x93, x94, x95, x96, x97, x98, x99, x100, x101, x102, x103, Ds, ws, i, rfl, hk, hi, HS⟩ J Kx hJ hKx
              rw [hT]
              have HT7 := hid hT
              have HK := hid (And.intro hk hi)
              clear hT hk hi
              obtain ⟨a0, f0⟩ := cell_blk HS.out.1.a
              have hz1 := HS.out.1.lt
              by_cases hlt : i < t.size
              · have hl9 : (i : Int) < (t.size : Int) := by omega
                have hl8 : (i : Int) ≤ (t.size : Int) := by omega
                have hl7 : (0 : Int) ≤ (i : Int) := by omega
                have hsz := bs_len (t.data.toList.drop i)
                obtain ⟨cb, hcb⟩ : ∃ cb, cb = wr.heap.size := ⟨_, rfl⟩
                obtain ⟨W7, hW7⟩ : ∃ W7, W7 = wr.alloc (.cells #[.int .i64 0] 3) := ⟨_, rfl⟩
                have hb7 : Below wr.heap.size wr W7 := by rw [hW7]; exact (Below.refl _ wr).alloc (Nat.le_refl _) _
                have hs7 := HS.out.1.step hb7
                have hc7 : W7.heap[cb]? = some (.cells #[.int .i64 0] 3 (0, 0)) := by rw [hW7, hcb]; exact alloc_new wr _
                have hz7 : W7.heap.size = cb + 1 := by rw [hW7, hcb, World.size_alloc]
                have H7 := hid (And.intro hs7 (And.intro hc7 (And.intro hz7 hcb)))
                obtain ⟨na7, hn7, -, -⟩ := hs7.n
                have n0 : W7.cell? ⟨W4.heap.size, 0, none⟩ = some (.int .i64 sc) := by simp [World.cell?, hn7]
                have a7 := (cell_blk hs7.a).1
                have zn7 := (Array.getElem?_eq_some_iff.1 hn7).1
                have za7 := (Array.getElem?_eq_some_iff.1 hs7.a).1
                have x2 : t.extract i t.size = bs (t.data.toList.drop i) := by
                  rw [extract_bs, List.take_of_length_le (by rw [List.length_drop]; have : t.data.toList.length = t.size := rfl; omega)]
                clear hs7 hc7 hz7 hn7 hb7 hsz
                go_upto_region 16 with (fail)
                rw [← hW7, ← hcb]
                clear hW7 hcb a0 f0 hz1
                refine wp_heldS (S := StillAt W7) (by kernel_rfl) ?_
                simp only [List.size_toArray, List.length_cons, List.length_nil, Nat.reduceAdd]
                intro hc
                have S0 : StillAt W7 (Array.replicate 6 false) W7.drew := (Below.refl _ _).drew
                refine wpAnyS_take (i := 0) (v := .pointer (some ⟨W4.heap.size, 0, none⟩)) rfl (by kernel_rfl) (by kernel_rfl) (by kernel_rfl) (fun _ _ _ h => leavesM_put rfl (i := 56) (by decide) h) (fun _ _ => Iff.rfl) hc (by first | rfl | simp [Region.wanted]) (fun wx hx => ?_) S0 (fun hc S0 => ?_)
                · go_simp
                try simp only [List.getElem_toArray, List.getElem_cons_zero, Act.put, List.setIfInBounds_toArray, List.set_cons_zero, List.set_cons_succ]
                refine wpAnyS_take (i := 1) (v := .int .i64 sc) rfl (by kernel_rfl) (by kernel_rfl) (by kernel_rfl) (fun _ _ _ h => leavesM_put rfl (i := 57) (by decide) h) (fun _ _ => Iff.rfl) hc (by first | rfl | simp [Region.wanted]) (fun wx hx => ?_) S0 (fun hc S0 => ?_)
                · have g := (hx.still.cell (p := ⟨W4.heap.size, 0, none⟩) zn7).trans n0
                  go_simp
                try simp only [List.getElem_toArray, List.getElem_cons_succ, List.getElem_cons_zero, Act.put, List.setIfInBounds_toArray, List.set_cons_zero, List.set_cons_succ]
                refine wpAnyS_take (i := 2) (v := .string t) rfl (by kernel_rfl) (by kernel_rfl) (by kernel_rfl) (fun _ _ _ h => leavesM_put rfl (i := 58) (by decide) h) (fun _ _ => Iff.rfl) hc (by first | rfl | simp [Region.wanted]) (fun wx hx => ?_) S0 (fun hc S0 => ?_)
                · go_simp
                try simp only [List.getElem_toArray, List.getElem_cons_succ, List.getElem_cons_zero, Act.put, List.setIfInBounds_toArray, List.set_cons_zero, List.set_cons_succ]
                refine wpAnyS_take (i := 3) (v := .int .i64 i) rfl (by kernel_rfl) (by kernel_rfl) (by kernel_rfl) (fun _ _ _ h => leavesM_put rfl (i := 59) (by decide) h) (fun _ _ => Iff.rfl) hc (by first | rfl | simp [Region.wanted]) (fun wx hx => ?_) S0 (fun hc S0 => ?_)
                · have g := (hx.still.cell (p := ⟨W4.heap.size + 1, 0, none⟩) za7).trans a7
                  go_simp
                try simp only [List.getElem_toArray, List.getElem_cons_succ, List.getElem_cons_zero, Act.put, List.setIfInBounds_toArray, List.set_cons_zero, List.set_cons_succ]
                refine wpAnyS_take (i := 4) (v := .string (bs (t.data.toList.drop i))) rfl (by kernel_rfl) (by kernel_rfl) (by kernel_rfl) (fun _ _ _ h => leavesM_put rfl (i := 60) (by decide) h) (fun _ _ => Iff.rfl) hc (by first | rfl | simp [Region.wanted]) (fun wx hx => ?_) S0 (fun hc S0 => ?_)
                · go_simp
                try simp only [List.getElem_toArray, List.getElem_cons_succ, List.getElem_cons_zero, Act.put, List.setIfInBounds_toArray, List.set_cons_zero, List.set_cons_succ]
                refine wpAnyS_one (i := 5) rfl (by kernel_rfl) (by rfl) hc (fun K' hK => ?_)
                go_simp
                refine (letters_mk sc (bs (t.data.toList.drop i)) W7.drew).mono ?_
                rintro e W8 ⟨rfl, hW8⟩
                have hb8 : Below W7.heap.size W7 W8 := by rw [hW8]; exact ((Below.refl _ W7).drew.alloc (Nat.le_refl _) _).alloc (by rw [World.size_alloc]; exact Nat.le_succ _) _
                have hz8 : W8.heap.size = cb + 3 := by rw [hW8, World.size_alloc, World.size_alloc]; show W7.heap.size + 1 + 1 = _; rw [H7.out.2.2.1]
                have k8 : W8.heap[cb + 1]? = some (.cells #[.int .i64 sc] 3 (0, 0)) := by
                  rw [← H7.out.2.2.1, hW8]
                  exact (Below.heap_alloc _ _ _ (by rw [World.size_alloc]; exact Nat.lt_succ_self _)).trans (World.alloc_heap_new W7.drew _)
                have s8 : W8.heap[cb + 2]? = some (.cells #[.string (bs (t.data.toList.drop i))] 9 (0, 0)) := by
                  have := World.alloc_heap_new (W7.drew.alloc (.cells #[.int .i64 sc] 3)) (.cells #[.string (bs (t.data.toList.drop i))] 9)
                  rw [World.size_alloc, ← hW8, show W7.drew.heap.size + 1 = cb + 2 by show W7.heap.size + 1 = _; rw [H7.out.2.2.1]] at this
                  exact this
                have H8 := hid (And.intro (H7.out.1.step hb8) (And.intro ((hb8.block _ (Array.getElem?_eq_some_iff.1 H7.out.2.1).1).trans H7.out.2.1) (And.intro hz8 (And.intro k8 s8))))
                have hz70 := H7.out.2.2.1
                clear hW8 hz8 k8 s8
                refine hK.out _ _ hb8 (fun hc => ?_)
                clear hK K'
                have S0 : StillAt W7 #[] W8 := hb8
                try simp only [List.getElem_toArray, List.getElem_cons_succ, List.getElem_cons_zero, Act.put, List.setIfInBounds_toArray, List.set_cons_zero, List.set_cons_succ]
                refine wpAnyS_done (by kernel_rfl) ?_ _
                clear hc S0
                rw [show W7.drew.heap.size = cb + 1 from hz70]
                clear hz70 hb8 n0 a7 zn7 za7 x2
                have HDS := hid (show ∀ D ∈ Ds, D < cb by rw [H7.out.2.2.2]; exact HS.out.1.ds)
                have HCB := hid (show W4.heap.size + 2 ≤ cb by rw [H7.out.2.2.2]; have := HS.out.1.lt; omega)
                have HWL := hid (show w.heap.size + 3 ≤ W4.heap.size from HS.out.1.le)
                go_wp2_with fail
                refine (wpIn_wide (n := 9)).1 (wp_iter (own := some (cb + 2)) rfl (by omega) (gf := 98) (lb := #[.pointer (some ⟨cb + 1, 0, none⟩), .pointer (some ⟨cb + 2, 0, none⟩)]) rfl trivial (enters_of Tryz.func98 (by kernel_rfl) rfl)
                  (letters_iter sc (cb + 1) (cb + 2) (by omega) 8 (by omega)) (t.data.toList.drop i) (fun r e => by cases e; rw [H8.out.2.2.1]; omega)
                  (fun A hA => ?st) (fun b vals b' h => ?ps) (fun h1 h2 => h1.trans h2) (fun A l o o' hl => letKeep_rec _ _ A l o o' (by rw [H8.out.2.2.1] at hl; omega) (by rw [H8.out.2.2.1] at hl; omega))
                  (SpI w W4.heap.size sc ws i t.data.toList Ds cb) (SpX w t.data.toList Ds) ?hI ?hIx ?h0 ?hround ?hdone ?hstop)
                case st =>
                  obtain ⟨h1, h2, h3, h4, h5⟩ := H8.out
                  exact ⟨(hA.block _ (by rw [h3]; omega)).trans h4, (hA.block _ (by rw [h3]; omega)).trans h5, HTT.out.below (h1.below.trans (hA.mono h1.below.size)), by rw [List.length_drop]; have : t.data.toList.length = t.size := rfl; omega⟩
                case ps =>
                  unfold nxLetter at h
                  split at h
                  · cases h
                  · cases h; rfl
                case hI => rw [H8.out.2.2.1]; exact spI_stays _ _ _ _ _ _ _ _ HDS.out HCB.out
                case hIx => intro c; rw [H8.out.2.2.1]; exact spX_stays _ _ _ _ _ HDS.out (by have := HCB.out; have := HWL.out; omega)
                case h0 =>
                  obtain ⟨h1, h2, -⟩ := H8.out
                  refine ⟨[], rfl, by simp, by simp, by simp, by simpa using HK.out.2, ?_, h2⟩
                  rw [← H7.out.2.2.2] at h1
                  simpa using h1
                case hround =>
                  intro l b vals b' W hl hlo hnx hi
                  rw [H8.out.2.2.1] at hl
                  have hi3 := fun W3 hg => spI_stays _ _ _ _ _ _ _ _ HDS.out HCB.out b W W3 (some l) hi hg (fun r e => by cases e; exact .inr ⟨by omega, hlo⟩)
                  have hz : Sc.len sc b ≠ 0 := by
                    intro h
                    unfold nxLetter at hnx
                    rw [if_pos h] at hnx
                    cases hnx
                  unfold nxLetter at hnx
                  rw [if_neg hz] at hnx
                  obtain ⟨rfl, rfl⟩ : #[Value.string (bs (b.take (Sc.len sc b)))] = vals ∧ b.drop (Sc.len sc b) = b' := by
                    have := Option.some.inj hnx
                    exact ⟨congrArg Prod.fst this, congrArg Prod.snd this⟩
                  have hml := Sc.len_le sc b
                  obtain ⟨m, hm⟩ : ∃ m, m = Sc.len sc b := ⟨_, rfl⟩
                  rw [← hm] at hz hml ⊢
                  have HM := hid hm
                  clear hnx hi hm
                  gi_wp2
                  refine ⟨KeepsFrom.refl _ _, ⟨Nat.le_refl _, rfl, rfl, fun h => h⟩, fun W3 hg3 => ?_⟩
                  obtain ⟨ls, e1, e2, e3, e4, e5, e6, e7⟩ := hi3 W3 hg3
                  clear hi3
                  obtain ⟨v, n1, n2, n3⟩ := e6.n
                  obtain ⟨va, vc, rfl⟩ := ownsRow_slice n2
                  obtain ⟨j, hj⟩ : ∃ j, j = i + ls.flatten.length := ⟨_, rfl⟩
                  rw [← hj] at e4 e5 e6
                  obtain ⟨cc, fc⟩ := cell_blk e7
                  obtain ⟨ca, fa⟩ := cell_blk e6.a
                  have cn : W3.cell? ⟨W4.heap.size, 1, none⟩ = some (.slice va ws.length vc) := by simp [World.cell?, n1]
                  have hd := e6.d
                  have fd0 : W3.frozen? ⟨w.heap.size, 0, none⟩ = false := by simp [World.frozen?, hd]
                  have fd1 : W3.frozen? ⟨w.heap.size, 1, none⟩ = false := by simp [World.frozen?, hd]
                  have cd0 : W3.cell? ⟨w.heap.size, 0, none⟩ = some (.int .i64 0) := by simp [World.cell?, hd]
                  have cd1 : W3.cell? ⟨w.heap.size, 1, none⟩ = some (.slice none 0 0) := by simp [World.cell?, hd]
                  obtain ⟨ce, fe⟩ := cell_blk e6.e
                  obtain ⟨co, fo⟩ : W3.cell? ⟨w.heap.size + 1 + 1, 0, none⟩ = some (.int .i64 0) ∧ W3.frozen? ⟨w.heap.size + 1 + 1, 0, none⟩ = false := cell_blk e6.o
                  have zd := (Array.getElem?_eq_some_iff.1 hd).1
                  have ze := (Array.getElem?_eq_some_iff.1 e6.e).1
                  have zo : w.heap.size + 1 + 1 < W3.heap.size := (Array.getElem?_eq_some_iff.1 e6.o).1
                  have za := (Array.getElem?_eq_some_iff.1 e6.a).1
                  have zc := (Array.getElem?_eq_some_iff.1 e7).1
                  have hwl := HWL.out
                  have hcb := HCB.out
                  have htl : t.data.toList.length = t.size := rfl
                  have hjl : j ≤ 20000 := by omega
                  have hbl : b.length = t.data.toList.length - j := by rw [← e4, List.length_drop]
                  have hm1 : (bs (b.take m)).size = m := by rw [bs_len, List.length_take]; omega
                  have hm2 : m ≤ 20000 := by omega
                  have hls : ls.length ≤ 12 := e2
                  have hw1 : IntKind.i64.wrap ((j : Int) + (m : Int)) = (j : Int) + (m : Int) := IntWalk.i64_in _ (by omega)
                  have hw2 : IntKind.i64.wrap ((ls.length : Int) + 1) = (ls.length : Int) + 1 := IntWalk.i64_in _ (by omega)
                  have HE := hid (And.intro e1 (And.intro e3 (And.intro e4 (And.intro e5 (And.intro e6 (And.intro e7 hj))))))
                  have HZ := hid hz
                  have HB := hid (And.intro hbl hml)
                  clear e1 e2 e3 e4 e5 e6 e7 hj n1 n2 n3 hd hbl hml hz
                  by_cases hbad : ls.length = 12 ∨ ws.length = 6
                  · have hnone := hid (show Li.nameP t.data.toList = none by
                      refine Li.rest_bad HS.out.2.1 (by rw [htl]; exact hlt) ?_
                      rw [HE.out.1]
                      have hne : (Sc.cuts sc b).1 ≠ [] := by rw [Sc.cuts_step (by rw [← HM.out]; exact HZ.out)]; simp
                      have := List.length_pos_iff.2 hne
                      rcases hbad with h | h
                      · left; simp only [List.length_append]; omega
                      · right; exact ⟨by simp [hne], h⟩)
                    have hsc : ∀ (X : World) (b o : Nat) (v : Value), b ≠ W4.heap.size + 1 → (X.setCell ⟨b, o, none⟩ v).cell? ⟨W4.heap.size + 1, 0, none⟩ = X.cell? ⟨W4.heap.size + 1, 0, none⟩ := fun X b o v h => World.cell?_setCell_other _ _ _ _ (by intro e; simp only [Addr.mk.injEq] at e; omega)
                    have hdr : ∀ (X : World) (p : Addr), X.drew.cell? p = X.cell? p := fun _ _ => rfl
                    by_cases h12 : ls.length = 12
                    · have q1 : ((ls.length : Int) == 12) = true := by rw [beq_iff_eq]; omega
                      clear hbad h12
                      gi_wp2_with fail
                      refine round_heldS (S := fun _ X => X.cell? ⟨W4.heap.size + 1, 0, none⟩ = some (.int .i64 j)) (by kernel_rfl) (by kernel_rfl) (fun ⟨_, _, h⟩ => h) ?_
                      simp only [List.size_toArray, List.length_cons, List.length_nil, Nat.reduceAdd]
                      intro hc
                      have S0 : (fun (_ : Array Bool) (X : World) => X.cell? ⟨W4.heap.size + 1, 0, none⟩ = some (.int .i64 j)) (Array.replicate 5 false) W3.drew := ca
                      refine wpAnyS_take (i := 0) (v := .agg #[.int .i64 0, .slice none 0 0]) rfl (by kernel_rfl) (by kernel_rfl) (by kernel_rfl) (fun _ _ _ h => h) (fun _ _ => Iff.rfl) hc (by first | rfl | simp [Region.wanted]) (fun wx hx => ?_) S0 (fun hc S0 => ?_)
                      · go_simp
                      try simp only [List.getElem_toArray, List.getElem_cons_zero, Act.put, List.setIfInBounds_toArray, List.set_cons_zero, List.set_cons_succ]
                      refine wpAnyS_take (i := 1) (v := .int .i64 j) rfl (by kernel_rfl) (by kernel_rfl) (by kernel_rfl) (fun _ _ _ h => h) (fun _ _ => Iff.rfl) hc (by first | rfl | simp [Region.wanted]) (fun wx hx => ?_) S0 (fun hc S0 => ?_)
                      · obtain ⟨_, _, _, g⟩ := hx
                        go_simp
                      try simp only [List.getElem_toArray, List.getElem_cons_succ, List.getElem_cons_zero, Act.put, List.setIfInBounds_toArray, List.set_cons_zero, List.set_cons_succ]
                      refine wpAnyS_one (i := 2) rfl (by kernel_rfl) (by rfl) hc (fun K' hK => ?_)
                      go_simp
                      refine hK.out _ _ (by rw [hdr]; (repeat rw [hsc _ _ _ _ (by omega)]); exact ca) (fun hc => ?_)
                      clear hK K'
                      try simp only [List.getElem_toArray, List.getElem_cons_succ, List.getElem_cons_zero, Act.put, List.setIfInBounds_toArray, List.set_cons_zero, List.set_cons_succ]
                      refine wpAnyS_one (i := 3) rfl (by kernel_rfl) (by rfl) hc (fun K' hK => ?_)
                      go_simp
                      refine hK.out _ _ (by rw [hdr]; (repeat rw [hsc _ _ _ _ (by omega)]); exact ca) (fun hc => ?_)
                      clear hK K'
                      try simp only [List.getElem_toArray, List.getElem_cons_succ, List.getElem_cons_zero, Act.put, List.setIfInBounds_toArray, List.set_cons_zero, List.set_cons_succ]
                      refine wpAnyS_one (i := 4) rfl (by kernel_rfl) (by rfl) hc (fun K' hK => ?_)
                      go_simp
                      refine hK.out _ _ (by rw [hdr]; (repeat rw [hsc _ _ _ _ (by omega)]); exact ca) (fun hc => ?_)
                      clear hK K'
                      try simp only [List.getElem_toArray, List.getElem_cons_succ, List.getElem_cons_zero, Act.put, List.setIfInBounds_toArray, List.set_cons_zero, List.set_cons_succ]
                      refine wpAnyS_done (by kernel_rfl) ?_ _
                      clear hc S0
                      obtain ⟨W9, hW9⟩ : ∃ W9, W9 = (((W3.setCell ⟨w.heap.size, 0, none⟩ (.int .i64 0)).setCell ⟨w.heap.size, 1, none⟩ (.slice none 0 0)).setCell ⟨w.heap.size + 1, 0, none⟩ (.int .i64 2)).setCell ⟨w.heap.size + 1 + 1, 0, none⟩ (.int .i64 j) := ⟨_, rfl⟩
                      rw [← hW9]
                      have HR9 := hid (show SpR w 0 (.slice none 0 0) 2 j Ds W9 by
                        rw [hW9]
                        obtain ⟨-, -, -, -, e6, -, -⟩ := HE.out
                        exact spR_stored e6.d e6.e e6.o e6.below e6.once (fun X hX => ⟨by have := (e6.marks X hX).1; omega, (e6.marks X hX).2⟩))
                      have HK9 := hid (show KeepsFrom W8.heap.size W3 W9 by
                        rw [hW9]
                        obtain ⟨-, -, -, -, e6, -, -⟩ := HE.out
                        refine keepsFrom_sets (b1 := w.heap.size) (b2 := w.heap.size + 1) (b3 := w.heap.size + 2) (fun b hb => ?_) (by simp [World.setCell]) (fun q h1 h2 h3 => ?_)
                        · rcases hb with rfl | rfl | rfl
                          · exact ⟨_, _, _, e6.d⟩
                          · exact ⟨_, _, _, e6.e⟩
                          · exact ⟨_, _, _, e6.o⟩
                        · rw [Below.heap_setCell _ ⟨w.heap.size + 1 + 1, 0, none⟩ _ q (by show q ≠ w.heap.size + 1 + 1; omega), Below.heap_setCell _ ⟨w.heap.size + 1, 0, none⟩ _ q h2, Below.heap_setCell _ ⟨w.heap.size, 1, none⟩ _ q h1, Below.heap_setCell _ ⟨w.heap.size, 0, none⟩ _ q h1])
                      clear hW9
                      gi_wp2_with fail
                      exact ⟨KeepsFrom.after HK9.out (keepsFrom_below (by first | exact Below.refl _ _ | exact (Below.refl _ _).drew)), rfl, hnone.out, 2, j, by decide, by first | exact HR9.out | exact HR9.out.grown (Below.grows (Below.refl _ _).drew none) (fun r e => by cases e)⟩
                    · have q1 : ((ls.length : Int) == 12) = false := by rw [beq_eq_false_iff_ne]; omega
                      have q2 : ((ws.length : Int) == 6) = true := by rw [beq_iff_eq]; omega
                      clear hbad h12
                      gi_wp2_with fail
                      refine round_heldS (S := fun _ X => X.cell? ⟨W4.heap.size + 1, 0, none⟩ = some (.int .i64 j)) (by kernel_rfl) (by kernel_rfl) (fun ⟨_, _, h⟩ => h) ?_
                      simp only [List.size_toArray, List.length_cons, List.length_nil, Nat.reduceAdd]
                      intro hc
                      have S0 : (fun (_ : Array Bool) (X : World) => X.cell? ⟨W4.heap.size + 1, 0, none⟩ = some (.int .i64 j)) (Array.replicate 5 false) W3.drew := ca
                      refine wpAnyS_take (i := 0) (v := .agg #[.int .i64 0, .slice none 0 0]) rfl (by kernel_rfl) (by kernel_rfl) (by kernel_rfl) (fun _ _ _ h => h) (fun _ _ => Iff.rfl) hc (by first | rfl | simp [Region.wanted]) (fun wx hx => ?_) S0 (fun hc S0 => ?_)
                      · go_simp
                      try simp only [List.getElem_toArray, List.getElem_cons_zero, Act.put, List.setIfInBounds_toArray, List.set_cons_zero, List.set_cons_succ]
                      refine wpAnyS_take (i := 1) (v := .int .i64 j) rfl (by kernel_rfl) (by kernel_rfl) (by kernel_rfl) (fun _ _ _ h => h) (fun _ _ => Iff.rfl) hc (by first | rfl | simp [Region.wanted]) (fun wx hx => ?_) S0 (fun hc S0 => ?_)
                      · obtain ⟨_, _, _, g⟩ := hx
                        go_simp
                      try simp only [List.getElem_toArray, List.getElem_cons_succ, List.getElem_cons_zero, Act.put, List.setIfInBounds_toArray, List.set_cons_zero, List.set_cons_succ]
                      refine wpAnyS_one (i := 2) rfl (by kernel_rfl) (by rfl) hc (fun K' hK => ?_)
                      go_simp
                      refine hK.out _ _ (by rw [hdr]; (repeat rw [hsc _ _ _ _ (by omega)]); exact ca) (fun hc => ?_)
                      clear hK K'
                      try simp only [List.getElem_toArray, List.getElem_cons_succ, List.getElem_cons_zero, Act.put, List.setIfInBounds_toArray, List.set_cons_zero, List.set_cons_succ]
                      refine wpAnyS_one (i := 3) rfl (by kernel_rfl) (by rfl) hc (fun K' hK => ?_)
                      go_simp
                      refine hK.out _ _ (by rw [hdr]; (repeat rw [hsc _ _ _ _ (by omega)]); exact ca) (fun hc => ?_)
                      clear hK K'
                      try simp only [List.getElem_toArray, List.getElem_cons_succ, List.getElem_cons_zero, Act.put, List.setIfInBounds_toArray, List.set_cons_zero, List.set_cons_succ]
                      refine wpAnyS_one (i := 4) rfl (by kernel_rfl) (by rfl) hc (fun K' hK => ?_)
                      go_simp
                      refine hK.out _ _ (by rw [hdr]; (repeat rw [hsc _ _ _ _ (by omega)]); exact ca) (fun hc => ?_)
                      clear hK K'
                      try simp only [List.getElem_toArray, List.getElem_cons_succ, List.getElem_cons_zero, Act.put, List.setIfInBounds_toArray, List.set_cons_zero, List.set_cons_succ]
                      refine wpAnyS_done (by kernel_rfl) ?_ _
                      clear hc S0
                      obtain ⟨W9, hW9⟩ : ∃ W9, W9 = (((W3.setCell ⟨w.heap.size, 0, none⟩ (.int .i64 0)).setCell ⟨w.heap.size, 1, none⟩ (.slice none 0 0)).setCell ⟨w.heap.size + 1, 0, none⟩ (.int .i64 2)).setCell ⟨w.heap.size + 1 + 1, 0, none⟩ (.int .i64 j) := ⟨_, rfl⟩
                      rw [← hW9]
                      have HR9 := hid (show SpR w 0 (.slice none 0 0) 2 j Ds W9 by
                        rw [hW9]
                        obtain ⟨-, -, -, -, e6, -, -⟩ := HE.out
                        exact spR_stored e6.d e6.e e6.o e6.below e6.once (fun X hX => ⟨by have := (e6.marks X hX).1; omega, (e6.marks X hX).2⟩))
                      have HK9 := hid (show KeepsFrom W8.heap.size W3 W9 by
                        rw [hW9]
                        obtain ⟨-, -, -, -, e6, -, -⟩ := HE.out
                        refine keepsFrom_sets (b1 := w.heap.size) (b2 := w.heap.size + 1) (b3 := w.heap.size + 2) (fun b hb => ?_) (by simp [World.setCell]) (fun q h1 h2 h3 => ?_)
                        · rcases hb with rfl | rfl | rfl
                          · exact ⟨_, _, _, e6.d⟩
                          · exact ⟨_, _, _, e6.e⟩
                          · exact ⟨_, _, _, e6.o⟩
                        · rw [Below.heap_setCell _ ⟨w.heap.size + 1 + 1, 0, none⟩ _ q (by show q ≠ w.heap.size + 1 + 1; omega), Below.heap_setCell _ ⟨w.heap.size + 1, 0, none⟩ _ q h2, Below.heap_setCell _ ⟨w.heap.size, 1, none⟩ _ q h1, Below.heap_setCell _ ⟨w.heap.size, 0, none⟩ _ q h1])
                      clear hW9
                      gi_wp2_with fail
                      exact ⟨KeepsFrom.after HK9.out (keepsFrom_below (by first | exact Below.refl _ _ | exact (Below.refl _ _).drew)), rfl, hnone.out, 2, j, by decide, by first | exact HR9.out | exact HR9.out.grown (Below.grows (Below.refl _ _).drew none) (fun r e => by cases e)⟩
                  · have q1 : ((ls.length : Int) == 12) = false := by rw [beq_eq_false_iff_ne]; omega
                    have q2 : ((ws.length : Int) == 6) = false := by rw [beq_eq_false_iff_ne]; omega
                    have hlsl : ls.length < 12 := by omega
                    have HBD := hid hbad
                    clear hbad
                    gi_wp2_with fail
                    refine round_heldS (S := TwoS 6 7 (fun X => X.cell? ⟨W4.heap.size + 1, 0, none⟩ = some (.int .i64 j)) (fun X => X.cell? ⟨cb, 0, none⟩ = some (.int .i64 ls.length))) (by kernel_rfl) (by kernel_rfl) (fun ⟨_, _, h⟩ => h) ?_
                    simp only [List.size_toArray, List.length_cons, List.length_nil, Nat.reduceAdd]
                    intro hc
                    have S0 : TwoS 6 7 (fun X => X.cell? ⟨W4.heap.size + 1, 0, none⟩ = some (.int .i64 j)) (fun X => X.cell? ⟨cb, 0, none⟩ = some (.int .i64 ls.length)) (Array.replicate 8 false) W3.drew := ⟨.inr ca, .inr cc⟩
                    refine wpAnyS_take (i := 0) (v := .int .i64 j) rfl (by kernel_rfl) (by kernel_rfl) (by kernel_rfl) (fun _ _ _ h => h) (fun _ _ => TwoS.set_ (by decide) (by decide) _ _) hc (by first | rfl | simp [Region.wanted]) (fun wx hx => ?_) S0 (fun hc S0 => ?_)
                    · have g := hx.left (by kernel_rfl)
                      go_simp
                    try simp only [List.getElem_toArray, List.getElem_cons_zero, Act.put, List.setIfInBounds_toArray, List.set_cons_zero, List.set_cons_succ]
                    refine wpAnyS_take (i := 1) (v := .string (bs (b.take m))) rfl (by kernel_rfl) (by kernel_rfl) (by kernel_rfl) (fun _ _ _ h => h) (fun _ _ => TwoS.set_ (by decide) (by decide) _ _) hc (by first | rfl | simp [Region.wanted]) (fun wx hx => ?_) S0 (fun hc S0 => ?_)
                    · go_simp
                    try simp only [List.getElem_toArray, List.getElem_cons_succ, List.getElem_cons_zero, Act.put, List.setIfInBounds_toArray, List.set_cons_zero, List.set_cons_succ]
                    refine wpAnyS_take (i := 2) (v := .int .i64 m) rfl (by kernel_rfl) (by kernel_rfl) (by kernel_rfl) (fun _ _ _ h => h) (fun _ _ => TwoS.set_ (by decide) (by decide) _ _) hc (by first | rfl | simp [Region.wanted]) (fun wx hx => ?_) S0 (fun hc S0 => ?_)
                    · go_simp
                    try simp only [List.getElem_toArray, List.getElem_cons_succ, List.getElem_cons_zero, Act.put, List.setIfInBounds_toArray, List.set_cons_zero, List.set_cons_succ]
                    refine wpAnyS_take (i := 3) (v := .int .i64 ((j : Int) + (m : Int))) rfl (by kernel_rfl) (by kernel_rfl) (by kernel_rfl) (fun _ _ _ h => h) (fun _ _ => TwoS.set_ (by decide) (by decide) _ _) hc (by first | rfl | simp [Region.wanted]) (fun wx hx => ?_) S0 (fun hc S0 => ?_)
                    · go_simp
                    try simp only [List.getElem_toArray, List.getElem_cons_succ, List.getElem_cons_zero, Act.put, List.setIfInBounds_toArray, List.set_cons_zero, List.set_cons_succ]
                    refine wpAnyS_take (i := 4) (v := .int .i64 ls.length) rfl (by kernel_rfl) (by kernel_rfl) (by kernel_rfl) (fun _ _ _ h => h) (fun _ _ => TwoS.set_ (by decide) (by decide) _ _) hc (by first | rfl | simp [Region.wanted]) (fun wx hx => ?_) S0 (fun hc S0 => ?_)
                    · have g := hx.right (by kernel_rfl)
                      go_simp
                    try simp only [List.getElem_toArray, List.getElem_cons_succ, List.getElem_cons_zero, Act.put, List.setIfInBounds_toArray, List.set_cons_zero, List.set_cons_succ]
                    refine wpAnyS_take (i := 5) (v := .int .i64 ((ls.length : Int) + 1)) rfl (by kernel_rfl) (by kernel_rfl) (by kernel_rfl) (fun _ _ _ h => h) (fun _ _ => TwoS.set_ (by decide) (by decide) _ _) hc (by first | rfl | simp [Region.wanted]) (fun wx hx => ?_) S0 (fun hc S0 => ?_)
                    · go_simp
                    try simp only [List.getElem_toArray, List.getElem_cons_succ, List.getElem_cons_zero, Act.put, List.setIfInBounds_toArray, List.set_cons_zero, List.set_cons_succ]
                    refine wpAnyS_one (i := 6) rfl (by kernel_rfl) (by rfl) hc (fun K' hK => ?_)
                    go_simp
                    have cc2 : (W3.setCell ⟨W4.heap.size + 1, 0, none⟩ (.int .i64 ((j : Int) + (m : Int)))).cell? ⟨cb, 0, none⟩ = some (.int .i64 ls.length) := by
                      rw [World.cell?_setCell_other _ _ _ _ (by intro h; simp only [Addr.mk.injEq] at h; omega)]; exact cc
                    refine hK.out _ _ ⟨.inl rfl, .inr cc2⟩ (fun hc => ?_)
                    clear hK K'
                    try simp only [List.getElem_toArray, List.getElem_cons_succ, List.getElem_cons_zero, Act.put, List.setIfInBounds_toArray, List.set_cons_zero, List.set_cons_succ]
                    refine wpAnyS_one (i := 7) rfl (by kernel_rfl) (by rfl) hc (fun K' hK => ?_)
                    go_simp
                    refine hK.out _ _ ⟨.inl rfl, .inl rfl⟩ (fun hc => ?_)
                    clear hK K'
                    try simp only [List.getElem_toArray, List.getElem_cons_succ, List.getElem_cons_zero, Act.put, List.setIfInBounds_toArray, List.set_cons_zero, List.set_cons_succ]
                    refine wpAnyS_done (by kernel_rfl) ?_ _
                    clear hc S0 cc2
                    obtain ⟨W9, hW9⟩ : ∃ W9, W9 = (W3.setCell ⟨W4.heap.size + 1, 0, none⟩ (.int .i64 ((j : Int) + (m : Int)))).setCell ⟨cb, 0, none⟩ (.int .i64 ((ls.length : Int) + 1)) := ⟨_, rfl⟩
                    rw [← hW9]
                    have HK9 := hid (show KeepsFrom W8.heap.size W3 W9 by
                      rw [hW9]
                      obtain ⟨-, -, -, -, e6, e7, -⟩ := HE.out
                      refine keepsFrom_sets (b1 := W4.heap.size + 1) (b2 := cb) (b3 := cb) (fun b hb => ?_) (by simp [World.setCell]) (fun q h1 h2 h3 => ?_)
                      · rcases hb with rfl | rfl | rfl
                        · exact ⟨_, _, _, e6.a⟩
                        · exact ⟨_, _, _, e7⟩
                        · exact ⟨_, _, _, e7⟩
                      · rw [Below.heap_setCell _ ⟨cb, 0, none⟩ _ q h2, Below.heap_setCell _ ⟨W4.heap.size + 1, 0, none⟩ _ q h1])
                    have HS9 := hid (show SpW w W4.heap.size sc ws (j + m) Ds cb W9 ∧ W9.heap[cb]? = some (.cells #[.int .i64 ((ls.length : Int) + 1)] 3 (0, 0)) by
                      obtain ⟨-, -, -, -, e6, e7, -⟩ := HE.out
                      have h1 := e6.move (j + m)
                      have h2 : (W3.setCell ⟨W4.heap.size + 1, 0, none⟩ (.int .i64 ((j : Int) + (m : Int)))).heap[cb]? = some (.cells #[.int .i64 ls.length] 3 (0, 0)) := (Below.heap_setCell _ ⟨W4.heap.size + 1, 0, none⟩ _ cb (by show cb ≠ W4.heap.size + 1; omega)).trans e7
                      rw [hW9]
                      exact ⟨h1.grown (set_grown _ cb _) (fun r e => by cases e; exact ⟨HCB.out, fun h => Nat.lt_irrefl _ (HDS.out _ h), .inl (Nat.le_refl _)⟩), set_blk h2⟩)
                    have HL9 := hid (show LetKeep (cb + 1) (cb + 2) W3 W9 from ⟨HK9.out.size, by
                        rw [hW9, Below.heap_setCell _ ⟨cb, 0, none⟩ _ _ (by show cb + 1 ≠ cb; omega), Below.heap_setCell _ ⟨W4.heap.size + 1, 0, none⟩ _ _ (by show cb + 1 ≠ W4.heap.size + 1; omega)], by
                        rw [hW9, Below.heap_setCell _ ⟨cb, 0, none⟩ _ _ (by show cb + 2 ≠ cb; omega), Below.heap_setCell _ ⟨W4.heap.size + 1, 0, none⟩ _ _ (by show cb + 2 ≠ W4.heap.size + 1; omega)], fun _ => HTT.out.below HS9.out.1.below⟩)
                    clear hW9
                    gi_wp2_with fail
                    have hbd : ∀ X, X = W9 ∨ X = W9.drew → Below W9.heap.size W9 X := fun X h => by
                      rcases h with rfl | rfl
                      · exact Below.refl _ _
                      · exact (Below.refl _ _).drew
                    have hfin : ∀ X, Below W9.heap.size W9 X → KeepsFrom W8.heap.size W3 X ∧ LetKeep (cb + 1) (cb + 2) W3 X ∧ SpI w W4.heap.size sc ws i t.data.toList Ds cb (b.drop m) X := fun X hX => by
                      obtain ⟨e1, e3, e4, e5, e6, e7, hj⟩ := HE.out
                      obtain ⟨hbl, hml⟩ := HB.out
                      have hc9 := (Array.getElem?_eq_some_iff.1 HS9.out.2).1
                      have hkk : ∀ q, q < W9.heap.size → X.heap[q]? = W9.heap[q]? := fun q hq => hX.block q hq
                      have hk1 : cb + 1 < W9.heap.size := by
                        have h1 := hl
                        obtain ⟨o, ho, -⟩ := hlo
                        have h2 := (Array.getElem?_eq_some_iff.1 ho).1
                        have h3 := hg3.size
                        have h4 := HK9.out.size
                        omega
                      have hk2 : cb + 2 < W9.heap.size := by
                        have h1 := hl
                        obtain ⟨o, ho, -⟩ := hlo
                        have h2 := (Array.getElem?_eq_some_iff.1 ho).1
                        have h3 := hg3.size
                        have h4 := HK9.out.size
                        omega
                      refine ⟨KeepsFrom.after HK9.out (keepsFrom_below hX), ⟨Nat.le_trans HL9.out.size hX.size, (hkk _ hk1).trans HL9.out.k, (hkk _ hk2).trans HL9.out.s, fun h => (HL9.out.tabs h).below hX⟩, ls ++ [b.take m], ?_, by simp; omega, fun _ => fun h => HBD.out (.inr h), ?_, ?_, ?_, ?_⟩
                      · rw [e1, Sc.cuts_step (by rw [← HM.out]; exact HZ.out), ← HM.out]; simp
                      · rw [List.flatten_append, List.length_append, ← Nat.add_assoc, ← hj, ← List.drop_drop, e4]
                        simp [Nat.min_eq_left hml]
                      · rw [List.flatten_append, List.length_append, ← Nat.add_assoc, ← hj]
                        simp [Nat.min_eq_left hml]
                        have : t.data.toList.length = t.size := rfl
                        simp at this hbl e5
                        omega
                      · rw [List.flatten_append, List.length_append, ← Nat.add_assoc, ← hj]
                        have : [b.take m].flatten.length = m := by simp [Nat.min_eq_left hml]
                        rw [this]
                        exact HS9.out.1.step hX
                      · rw [List.length_append]
                        exact (hkk _ hc9).trans HS9.out.2
                    exact hfin _ (hbd _ (by first | exact .inl rfl | exact .inr rfl))
                case hdone =>
                  intro D b W hD hnx hi hK
                  rw [H8.out.2.2.1] at hD
                  have hz : Sc.len sc b = 0 := by
                    unfold nxLetter at hnx
                    split at hnx
                    · assumption
                    · cases hnx
                  obtain ⟨ls, e1, e2, e3, e4, e5, e6, e7⟩ := hi
                  rw [Sc.cuts_stop hz, List.append_nil] at e1
                  have hDn : D ∉ Ds := fun h => by have := HDS.out D h; omega
                  have hM := e6.mark (D := D) (by have := HCB.out; omega) hDn hK
                  obtain ⟨v, n1, n2, n3⟩ := hM.n
                  obtain ⟨va, vc, rfl⟩ := ownsRow_slice n2
                  obtain ⟨j, hj⟩ : ∃ j, j = i + ls.flatten.length := ⟨_, rfl⟩
                  rw [← hj] at e4 e5 hM
                  have htl : t.data.toList.length = t.size := rfl
                  obtain ⟨cc, fc⟩ := cell_blk e7
                  obtain ⟨ca, fa⟩ := cell_blk hM.a
                  have cn : W.cell? ⟨W4.heap.size, 1, none⟩ = some (.slice va ws.length vc) := by simp [World.cell?, n1]
                  have fn1 : W.frozen? ⟨W4.heap.size, 1, none⟩ = false := by simp [World.frozen?, n1]
                  have zn := (Array.getElem?_eq_some_iff.1 n1).1
                  have za := (Array.getElem?_eq_some_iff.1 hM.a).1
                  have zc := (Array.getElem?_eq_some_iff.1 e7).1
                  have hls : ls.length ≤ 12 := e2
                  have hbad : ¬ (12 < (Sc.cuts sc (t.data.toList.drop i)).1.length ∨ ((Sc.cuts sc (t.data.toList.drop i)).1 ≠ [] ∧ ws.length = 6)) := by
                    rw [e1]
                    rintro (h | ⟨h1, h2⟩)
                    · simp only at h; omega
                    · exact e3 h1 h2
                  have hrest := Li.rest_step HS.out.2.1 (by rw [htl]; exact hlt) hbad
                  have hwsP : Li.wsP sc (t.data.toList.drop i) ws = if ls = [] then ws else ws ++ [ls.flatten] := by unfold Li.wsP; rw [e1]
                  obtain ⟨ws', hws'⟩ : ∃ ws', ws' = Li.wsP sc (t.data.toList.drop i) ws := ⟨_, rfl⟩
                  rw [← hws'] at hrest hwsP
                  have hshort : ws'.length ≤ 6 ∧ ∀ x ∈ ws', x.length ≤ 1000000 := by
                    rw [hwsP]
                    split
                    · exact HS.out.2.2
                    · rename_i hne
                      refine ⟨?_, fun x hx => ?_⟩
                      · have := HS.out.2.2.1
                        have := e3 hne
                        simp; omega
                      · rcases List.mem_append.1 hx with hx | hx
                        · exact HS.out.2.2.2 x hx
                        · simp only [List.mem_singleton] at hx
                          subst hx
                          omega
                  have HR := hid (show (b = [] → Li.nameP t.data.toList = Li.outP sc (some ws')) ∧ (∀ c r, b = c :: r → c ≠ 32 → Li.nameP t.data.toList = none) ∧ (∀ j r, b = 32 :: r → t.data.toList.drop (j + 1) = r → Li.RestP t.data.toList sc (j + 1) ws') by
                    rw [e1] at hrest
                    exact hrest)
                  have HSH := hid hshort
                  have HM := hid hM
                  have HN := hid (And.intro n1 n2)
                  have HJ := hid (And.intro e4 (And.intro e5 hj))
                  have HWP := hid hwsP
                  have hcut : (bs (t.data.toList.drop i)).size = t.size - i := by rw [bs_len, List.length_drop, htl]
                  have hfl : ls.flatten = (t.data.toList.drop i).take (j - i) := by
                    have := Sc.cuts_join sc _ (t.data.toList.drop i) (Nat.le_refl _)
                    rw [e1] at this
                    simp only at this
                    rw [← this, hj, Nat.add_sub_cancel_left, List.take_left' rfl]
                  have x2 : t.extract i j = bs ls.flatten := by rw [extract_bs, hfl]
                  have hij : (i : Int) ≤ (j : Int) := by omega
                  have hjt : (j : Int) ≤ (t.size : Int) := by omega
                  have hw6 : ws.length ≤ 6 := HS.out.2.2.1
                  have HW4 := hid (show W4.heap.size + 2 ≤ W.heap.size by have := HCB.out; omega)
                  have HD := hid hD
                  clear hz hnx e1 e2 e3 e4 e5 e6 e7 hK hM n1 n2 n3 hbad hrest hwsP hws' hshort hcut hfl hj hDn hD
                  go_upto_if 80 with (fail)
                  go_cut [] from 51 to 103 (fun wx => Hid (SpW w W4.heap.size sc ws' j (D :: Ds) wx.heap.size wx))
                  case first =>
                    by_cases hl0 : ls.length = 0
                    · have hlb : ¬ (0 : Int) < (ls.length : Int) := by omega
                      have HE := hid (show ws' = ws by rw [HWP.out, if_pos (List.length_eq_zero_iff.1 hl0)])
                      clear hl0
                      go_wp2_with fail
                      go_meet
                      case rel =>
                        show SpW w W4.heap.size sc ws' j (D :: Ds) W.heap.size W
                        rw [HE.out]
                        exact HM.out.tops
                    · have hlb : (0 : Int) < (ls.length : Int) := by omega
                      have HE := hid (show ws' = ws ++ [ls.flatten] by rw [HWP.out, if_neg (fun e => hl0 (by rw [e]; rfl))])
                      clear hl0
                      obtain ⟨i0, hi0, hz0, hz1, hz2⟩ := info_parts Tryz.infoStr
                      go_wp2_with fail
                      refine wp_heldS (S := TwoS 9 9 (fun X => X.cell? ⟨W4.heap.size, 1, none⟩ = some (.slice va ws.length vc)) (fun X => X.cell? ⟨W4.heap.size + 1, 0, none⟩ = some (.int .i64 j))) (by kernel_rfl) ?_
                      simp only [List.size_toArray, List.length_cons, List.length_nil, Nat.reduceAdd]
                      intro hc
                      have S0 : TwoS 9 9 (fun X => X.cell? ⟨W4.heap.size, 1, none⟩ = some (.slice va ws.length vc)) (fun X => X.cell? ⟨W4.heap.size + 1, 0, none⟩ = some (.int .i64 j)) (Array.replicate 10 false) W.drew := ⟨.inr cn, .inr ca⟩
                      refine wpAnyS_take (i := 0) (v := .pointer (some ⟨W4.heap.size, 1, none⟩)) rfl (by kernel_rfl) (by kernel_rfl) (by kernel_rfl) (fun _ _ _ h => leavesM_put rfl (i := 81) (by decide) h) (fun _ _ => TwoS.set_ (by decide) (by decide) _ _) hc (by first | rfl | simp [Region.wanted]) (fun wx hx => ?_) S0 (fun hc S0 => ?_)
                      · go_simp
                      try simp only [List.getElem_toArray, List.getElem_cons_zero, Act.put, List.setIfInBounds_toArray, List.set_cons_zero, List.set_cons_succ]
                      refine wpAnyS_take (i := 1) (v := .slice va ws.length vc) rfl (by kernel_rfl) (by kernel_rfl) (by kernel_rfl) (fun _ _ _ h => leavesM_put rfl (i := 82) (by decide) h) (fun _ _ => TwoS.set_ (by decide) (by decide) _ _) hc (by first | rfl | simp [Region.wanted]) (fun wx hx => ?_) S0 (fun hc S0 => ?_)
                      · have g := hx.left (by kernel_rfl)
                        go_simp
                      try simp only [List.getElem_toArray, List.getElem_cons_succ, List.getElem_cons_zero, Act.put, List.setIfInBounds_toArray, List.set_cons_zero, List.set_cons_succ]
                      refine wpAnyS_take (i := 2) (v := .string t) rfl (by kernel_rfl) (by kernel_rfl) (by kernel_rfl) (fun _ _ _ h => leavesM_put rfl (i := 83) (by decide) h) (fun _ _ => TwoS.set_ (by decide) (by decide) _ _) hc (by first | rfl | simp [Region.wanted]) (fun wx hx => ?_) S0 (fun hc S0 => ?_)
                      · go_simp
                      try simp only [List.getElem_toArray, List.getElem_cons_succ, List.getElem_cons_zero, Act.put, List.setIfInBounds_toArray, List.set_cons_zero, List.set_cons_succ]
                      refine wpAnyS_take (i := 3) (v := .int .i64 i) rfl (by kernel_rfl) (by kernel_rfl) (by kernel_rfl) (fun _ _ _ h => leavesM_put rfl (i := 84) (by decide) h) (fun _ _ => TwoS.set_ (by decide) (by decide) _ _) hc (by first | rfl | simp [Region.wanted]) (fun wx hx => ?_) S0 (fun hc S0 => ?_)
                      · go_simp
                      try simp only [List.getElem_toArray, List.getElem_cons_succ, List.getElem_cons_zero, Act.put, List.setIfInBounds_toArray, List.set_cons_zero, List.set_cons_succ]
                      refine wpAnyS_take (i := 4) (v := .int .i64 j) rfl (by kernel_rfl) (by kernel_rfl) (by kernel_rfl) (fun _ _ _ h => leavesM_put rfl (i := 85) (by decide) h) (fun _ _ => TwoS.set_ (by decide) (by decide) _ _) hc (by first | rfl | simp [Region.wanted]) (fun wx hx => ?_) S0 (fun hc S0 => ?_)
                      · have g := hx.right (by kernel_rfl)
                        go_simp
                      try simp only [List.getElem_toArray, List.getElem_cons_succ, List.getElem_cons_zero, Act.put, List.setIfInBounds_toArray, List.set_cons_zero, List.set_cons_succ]
                      refine wpAnyS_take (i := 5) (v := .string (bs ls.flatten)) rfl (by kernel_rfl) (by kernel_rfl) (by kernel_rfl) (fun _ _ _ h => leavesM_put rfl (i := 86) (by decide) h) (fun _ _ => TwoS.set_ (by decide) (by decide) _ _) hc (by first | rfl | simp [Region.wanted]) (fun wx hx => ?_) S0 (fun hc S0 => ?_)
                      · go_simp
                      try simp only [List.getElem_toArray, List.getElem_cons_succ, List.getElem_cons_zero, Act.put, List.setIfInBounds_toArray, List.set_cons_zero, List.set_cons_succ]
                      refine wpAnyS_one (i := 6) rfl (by kernel_rfl) (by rfl) hc (fun K' hK => ?_)
                      go_simp
                      have q1 := (World.cell?_alloc_lt W (.cells #[.string (bs ls.flatten)] 9) ⟨W4.heap.size, 1, none⟩ zn).trans cn
                      have q2 := (World.cell?_alloc_lt W (.cells #[.string (bs ls.flatten)] 9) ⟨W4.heap.size + 1, 0, none⟩ za).trans ca
                      refine hK.out _ _ ⟨.inr q1, .inr q2⟩ (fun hc => ?_)
                      clear hK K'
                      try simp only [List.getElem_toArray, List.getElem_cons_succ, List.getElem_cons_zero, Act.put, List.setIfInBounds_toArray, List.set_cons_zero, List.set_cons_succ]
                      have hown := (HN.out.2.alloc (.cells #[.string (bs ls.flatten)] 9)).drew
                      refine wpAnyS_one (i := 7) rfl (by kernel_rfl) (by rfl) hc (fun K' hK => ?_)
                      refine wp_append_own _ _ _ 68 rfl (W4.heap.size + 2) 9 i0 (.string ⟨#[]⟩) 1 16 Tryz.underlying68 hi0 hz0 hz1 hz2 rfl (by decide) _ _ _ rfl hown ⟨W.heap.size, 0, none⟩ 1 1 [.string (bs ls.flatten)] rfl rfl (cell_one_new _ _ _) (by simp [Value.oneCell']) (by unfold maxLen; omega) (by omega) (by have := HW4.out; show _ ≤ (W.alloc _).heap.size; rw [World.size_alloc]; omega) ?_
                      intro v' w8 ho8 hg8 _
                      obtain ⟨v8, c8, rfl⟩ := ownsRow_slice ho8
                      have far8 : ∀ (x : Nat) (o : Obj), x < W4.heap.size + 2 → W.heap[x]? = some o → w8.heap[x]? = some o := fun x o hx ho =>
                        (hg8.block x (by show x < (W.alloc _).heap.size; rw [World.size_alloc]; have := (Array.getElem?_eq_some_iff.1 ho).1; omega) (fun e => by
                          have := (own_cells HN.out.2 e.symm).1
                          omega)).trans ((Below.heap_alloc W _ x (Array.getElem?_eq_some_iff.1 ho).1).trans ho)
                      have n8 := far8 _ _ (by omega) HN.out.1
                      have a8 := far8 _ _ (by omega) HM.out.a
                      have c81 : w8.cell? ⟨W4.heap.size, 1, none⟩ = some (.slice va ws.length vc) := by simp [World.cell?, n8]
                      have f81 : w8.frozen? ⟨W4.heap.size, 1, none⟩ = false := by simp [World.frozen?, n8]
                      have z81 := (Array.getElem?_eq_some_iff.1 n8).1
                      have HA8 := hid (HM.out.append (ws' := ws ++ [ls.flatten]) (((Below.refl _ W).alloc (Nat.le_refl _) (.cells #[.string (bs ls.flatten)] 9)).drew) HN.out.1 HN.out.2 hg8 (by rw [List.length_append, List.flatMap_append]; exact ho8))
                      have c8a := (cell_blk a8).1
                      refine hK.out _ _ ⟨.inr c81, .inr c8a⟩ (fun hc => ?_)
                      clear hK K' hown ho8 hg8 far8 n8 a8 q1 q2
                      try simp only [List.getElem_toArray, List.getElem_cons_succ, List.getElem_cons_zero, Act.put, List.setIfInBounds_toArray, List.set_cons_zero, List.set_cons_succ]
                      refine wpAnyS_one (i := 8) rfl (by kernel_rfl) (by rfl) hc (fun K' hK => ?_)
                      go_simp
                      refine hK.out _ _ ⟨.inr c81, .inr c8a⟩ (fun hc => ?_)
                      clear hK K'
                      try simp only [List.getElem_toArray, List.getElem_cons_succ, List.getElem_cons_zero, Act.put, List.setIfInBounds_toArray, List.set_cons_zero, List.set_cons_succ]
                      refine wpAnyS_one (i := 9) rfl (by kernel_rfl) (by rfl) hc (fun K' hK => ?_)
                      go_simp
                      refine hK.out _ _ ⟨.inl rfl, .inl rfl⟩ (fun hc => ?_)
                      clear hK K'
                      try simp only [List.getElem_toArray, List.getElem_cons_succ, List.getElem_cons_zero, Act.put, List.setIfInBounds_toArray, List.set_cons_zero, List.set_cons_succ]
                      refine wpAnyS_done (by kernel_rfl) ?_ _
                      clear hc S0
                      go_wp2_with fail
                      go_meet
                      case rel =>
                        rw [HE.out]
                        exact HA8.out
                  case rest =>
                  rename World => wz
                  have HSZ := hid (show SpW w W4.heap.size sc ws' j (D :: Ds) wz.heap.size wz from hcut)
                  clear hcut cc fc ca fa cn fn1 zn za zc x2
                  obtain ⟨ca, fa⟩ := cell_blk HSZ.out.a
                  have za := (Array.getElem?_eq_some_iff.1 HSZ.out.a).1
                  have hw6' := HSH.out.1
                  by_cases hje : j = t.size
                  · have hjb : ((j : Int) == (t.size : Int)) = true := by rw [beq_iff_eq]; omega
                    have HNP := hid (show Li.nameP t.data.toList = Li.outP sc (some ws') from HR.out.1 (by
                      obtain ⟨e4, e5, -⟩ := HJ.out
                      rw [← e4, hje]
                      exact List.drop_eq_nil_of_le (by rw [htl]; exact Nat.le_refl _)))
                    clear hje
                    obtain ⟨v, n1, n2, -⟩ := HSZ.out.n
                    obtain ⟨va, vc, rfl⟩ := ownsRow_slice n2
                    have n0' : wz.cell? ⟨W4.heap.size, 0, none⟩ = some (.int .i64 sc) := by simp [World.cell?, n1]
                    have n1' : wz.cell? ⟨W4.heap.size, 1, none⟩ = some (.slice va (ws').length vc) := by simp [World.cell?, n1]
                    have zn' := (Array.getElem?_eq_some_iff.1 n1).1
                    have hd := HSZ.out.d
                    have fd0 : wz.frozen? ⟨w.heap.size, 0, none⟩ = false := by simp [World.frozen?, hd]
                    have fd1 : wz.frozen? ⟨w.heap.size, 1, none⟩ = false := by simp [World.frozen?, hd]
                    have cd0 : wz.cell? ⟨w.heap.size, 0, none⟩ = some (.int .i64 0) := by simp [World.cell?, hd]
                    have cd1 : wz.cell? ⟨w.heap.size, 1, none⟩ = some (.slice none 0 0) := by simp [World.cell?, hd]
                    obtain ⟨ce, fe⟩ := cell_blk HSZ.out.e
                    obtain ⟨co, fo⟩ : wz.cell? ⟨w.heap.size + 1 + 1, 0, none⟩ = some (.int .i64 0) ∧ wz.frozen? ⟨w.heap.size + 1 + 1, 0, none⟩ = false := cell_blk HSZ.out.o
                    have zd := (Array.getElem?_eq_some_iff.1 hd).1
                    have ze := (Array.getElem?_eq_some_iff.1 HSZ.out.e).1
                    have zo : w.heap.size + 1 + 1 < wz.heap.size := (Array.getElem?_eq_some_iff.1 HSZ.out.o).1
                    have HOWN := hid n2
                    have hw6 := HSH.out.1
                    clear n1 n2 hd
                    by_cases hw0 : (ws').length = 0
                    · have hlb : (((ws').length : Int) == 0) = true := by rw [beq_iff_eq]; omega
                      have hnn := hid (show Li.nameP t.data.toList = none by
                        rw [HNP.out]
                        unfold Li.outP
                        simp only
                        rw [if_pos (List.length_eq_zero_iff.1 hw0)])
                      clear hw0
                      go_wp2_with fail
                      try rw [Exit.noGoto_ret]
                      obtain ⟨W9, hW9⟩ : ∃ W9, W9 = (((wz.setCell ⟨w.heap.size, 0, none⟩ (.int .i64 0)).setCell ⟨w.heap.size, 1, none⟩ (.slice none 0 0)).setCell ⟨w.heap.size + 1, 0, none⟩ (.int .i64 6)).setCell ⟨w.heap.size + 1 + 1, 0, none⟩ (.int .i64 t.size) := ⟨_, rfl⟩
                      rw [← hW9]
                      have hR : SpR w 0 (.slice none 0 0) 6 t.size (D :: Ds) W9 := by
                        rw [hW9]
                        have e6 := HSZ.out
                        exact spR_stored e6.d e6.e e6.o e6.below e6.once (fun X hX => ⟨by have := (e6.marks X hX).1; have := e6.le; omega, (e6.marks X hX).2⟩)
                      refine leaves_marks (D :: Ds) W9 hR.once (fun X hX => (hR.marks X hX).2) (fun W' hW' => ?_)
                      have h3 := hR.but hW'
                      refine ⟨_, spR_results rfl rfl rfl rfl h3, _, _, _, _, rfl, h3.below, ?_⟩
                      rw [hnn.out]
                      exact ⟨show (6 : Int) ≠ 0 by decide, rfl⟩
                    · have hlb : (((ws').length : Int) == 0) = false := by rw [beq_eq_false_iff_ne]; omega
                      have hnn := hid (show Li.nameP t.data.toList = some ⟨sc, ws'⟩ by
                        rw [HNP.out]
                        unfold Li.outP
                        simp only
                        rw [if_neg (fun e => hw0 (by rw [e]; rfl))])
                      clear hw0
                      go_wp2_with fail
                      try rw [Exit.noGoto_ret]
                      obtain ⟨W9, hW9⟩ : ∃ W9, W9 = (((wz.setCell ⟨w.heap.size, 0, none⟩ (.int .i64 sc)).setCell ⟨w.heap.size, 1, none⟩ (.slice va (ws').length vc)).setCell ⟨w.heap.size + 1, 0, none⟩ (.int .i64 0)).setCell ⟨w.heap.size + 1 + 1, 0, none⟩ (.int .i64 0) := ⟨_, rfl⟩
                      rw [← hW9]
                      have hR : SpR w sc (.slice va (ws').length vc) 0 0 (D :: Ds) W9 := by
                        rw [hW9]
                        have e6 := HSZ.out
                        exact spR_stored e6.d e6.e e6.o e6.below e6.once (fun X hX => ⟨by have := (e6.marks X hX).1; have := e6.le; omega, (e6.marks X hX).2⟩)
                      have ho9 : W9.ownsRow (W4.heap.size + 2) 9 1 (.slice va (ws').length vc) (ws').length ((ws').flatMap strC) := ownsRow_far HOWN.out fun g o hg ho _ => by
                        have hle := HSZ.out.le
                        rw [hW9, Below.heap_setCell _ ⟨w.heap.size + 1 + 1, 0, none⟩ _ g (by show g ≠ w.heap.size + 1 + 1; omega), Below.heap_setCell _ ⟨w.heap.size + 1, 0, none⟩ _ g (by show g ≠ w.heap.size + 1; omega), Below.heap_setCell _ ⟨w.heap.size, 1, none⟩ _ g (by show g ≠ w.heap.size; omega), Below.heap_setCell _ ⟨w.heap.size, 0, none⟩ _ g (by show g ≠ w.heap.size; omega)]
                        exact ho
                      refine leaves_marks (D :: Ds) W9 hR.once (fun X hX => (hR.marks X hX).2) (fun W' hW' => ?_)
                      have h3 := hR.but hW'
                      refine ⟨_, spR_results rfl rfl rfl rfl h3, _, _, _, _, rfl, h3.below, ?_⟩
                      rw [hnn.out]
                      refine ⟨rfl, rfl, ?_, HSH.out.2⟩
                      have hle := HWL0.out
                      exact ownsRow_base (ownsRow_far ho9 fun g o hg ho hc => (hW'.block g (fun hm => by have := (hR.marks g hm).2; rw [ho] at this; cases this; cases hc)).trans ho) (by omega)
                  · have hjb : ((j : Int) == (t.size : Int)) = false := by rw [beq_eq_false_iff_ne]; omega
                    have hjl : j < t.size := by omega
                    have hjl' : (j : Int) < (t.size : Int) := by omega
                    have hj0 : (0 : Int) ≤ (j : Int) := by omega
                    have hbc : b = t[j] :: t.data.toList.drop (j + 1) := by
                      rw [← HJ.out.1, List.drop_eq_getElem_cons (by rw [htl]; exact hjl)]
                      rfl
                    clear hje
                    by_cases h32 : t[j] = 32
                    · have hne : (((t[j].toNat : Nat) : Int) != 32) = false := by rw [h32]; rfl
                      have HR2 := hid (HR.out.2.2 j (t.data.toList.drop (j + 1)) (by rw [hbc, h32]) rfl)
                      clear h32 hbc
                      have hw9 : IntKind.i64.wrap ((j : Int) + 1) = (j : Int) + 1 := IntWalk.i64_in _ (by omega)
                      go_wp2_with fail
                      refine ⟨t.data.toList.length - (j + 1), by
                        have h1 := HK.out.1
                        have h2 := HJ.out.2.2
                        have h3 := HPL.out.2
                        omega, hJ _ _ _ ⟨_, _, _, _, _, _, _, _, _, _, _, _, _, _, _, _, _, _, _, _, _, _, _, _, _, _, _, _, _, _, _, _, _, _, _, _, _, _, _, _, _, _, _, _, _, _, _, _, _, _, _, _, _, _, _, _, D :: Ds, ws', j + 1, by rw [HT7.out]; rfl, rfl, by rw [htl]; omega, ?_, HR2.out, HSH.out.1, HSH.out.2⟩⟩
                      exact (HSZ.out.move (j + 1)).tops
                    · have hne : (((t[j].toNat : Nat) : Int) != 32) = true := by
                        rw [bne_iff_ne]
                        intro e
                        apply h32
                        have : t[j].toNat = 32 := by omega
                        exact UInt8.toNat_inj.1 this
                      have HNP := hid (HR.out.2.1 _ _ hbc h32)
                      clear h32 hbc
                      have hd := HSZ.out.d
                      have fd0 : wz.frozen? ⟨w.heap.size, 0, none⟩ = false := by simp [World.frozen?, hd]
                      have fd1 : wz.frozen? ⟨w.heap.size, 1, none⟩ = false := by simp [World.frozen?, hd]
                      have cd0 : wz.cell? ⟨w.heap.size, 0, none⟩ = some (.int .i64 0) := by simp [World.cell?, hd]
                      have cd1 : wz.cell? ⟨w.heap.size, 1, none⟩ = some (.slice none 0 0) := by simp [World.cell?, hd]
                      obtain ⟨ce, fe⟩ := cell_blk HSZ.out.e
                      obtain ⟨co, fo⟩ : wz.cell? ⟨w.heap.size + 1 + 1, 0, none⟩ = some (.int .i64 0) ∧ wz.frozen? ⟨w.heap.size + 1 + 1, 0, none⟩ = false := cell_blk HSZ.out.o
                      have zd := (Array.getElem?_eq_some_iff.1 hd).1
                      have ze := (Array.getElem?_eq_some_iff.1 HSZ.out.e).1
                      have zo : w.heap.size + 1 + 1 < wz.heap.size := (Array.getElem?_eq_some_iff.1 HSZ.out.o).1
                      have hle := HSZ.out.le
                      clear hd
                      go_wp2_with fail
                      have hsc : ∀ (X : World) (b o : Nat) (v : Value), b ≠ W4.heap.size + 1 → (X.setCell ⟨b, o, none⟩ v).cell? ⟨W4.heap.size + 1, 0, none⟩ = X.cell? ⟨W4.heap.size + 1, 0, none⟩ := fun X b o v h => World.cell?_setCell_other _ _ _ _ (by intro e; simp only [Addr.mk.injEq] at e; omega)
                      have hdr : ∀ (X : World) (p : Addr), X.drew.cell? p = X.cell? p := fun _ _ => rfl
                      refine wp_heldS (S := fun _ X => X.cell? ⟨W4.heap.size + 1, 0, none⟩ = some (.int .i64 j)) (by kernel_rfl) ?_
                      simp only [List.size_toArray, List.length_cons, List.length_nil, Nat.reduceAdd]
                      intro hc
                      have S0 : (fun (_ : Array Bool) (X : World) => X.cell? ⟨W4.heap.size + 1, 0, none⟩ = some (.int .i64 j)) (Array.replicate 5 false) wz.drew := ca
                      refine wpAnyS_take (i := 0) (v := .agg #[.int .i64 0, .slice none 0 0]) rfl (by kernel_rfl) (by kernel_rfl) (by kernel_rfl) (fun _ _ _ h => leavesM_put rfl (i := 100) (by decide) h) (fun _ _ => Iff.rfl) hc (by first | rfl | simp [Region.wanted]) (fun wx hx => ?_) S0 (fun hc S0 => ?_)
                      · go_simp
                      try simp only [List.getElem_toArray, List.getElem_cons_zero, Act.put, List.setIfInBounds_toArray, List.set_cons_zero, List.set_cons_succ]
                      refine wpAnyS_take (i := 1) (v := .int .i64 j) rfl (by kernel_rfl) (by kernel_rfl) (by kernel_rfl) (fun _ _ _ h => leavesM_put rfl (i := 101) (by decide) h) (fun _ _ => Iff.rfl) hc (by first | rfl | simp [Region.wanted]) (fun wx hx => ?_) S0 (fun hc S0 => ?_)
                      · obtain ⟨_, _, _, g⟩ := hx
                        go_simp
                      try simp only [List.getElem_toArray, List.getElem_cons_succ, List.getElem_cons_zero, Act.put, List.setIfInBounds_toArray, List.set_cons_zero, List.set_cons_succ]
                      refine wpAnyS_one (i := 2) rfl (by kernel_rfl) (by rfl) hc (fun K' hK => ?_)
                      go_simp
                      refine hK.out _ _ (by rw [hdr]; (repeat rw [hsc _ _ _ _ (by omega)]); exact ca) (fun hc => ?_)
                      clear hK K'
                      try simp only [List.getElem_toArray, List.getElem_cons_succ, List.getElem_cons_zero, Act.put, List.setIfInBounds_toArray, List.set_cons_zero, List.set_cons_succ]
                      refine wpAnyS_one (i := 3) rfl (by kernel_rfl) (by rfl) hc (fun K' hK => ?_)
                      go_simp
                      refine hK.out _ _ (by rw [hdr]; (repeat rw [hsc _ _ _ _ (by omega)]); exact ca) (fun hc => ?_)
                      clear hK K'
                      try simp only [List.getElem_toArray, List.getElem_cons_succ, List.getElem_cons_zero, Act.put, List.setIfInBounds_toArray, List.set_cons_zero, List.set_cons_succ]
                      refine wpAnyS_one (i := 4) rfl (by kernel_rfl) (by rfl) hc (fun K' hK => ?_)
                      go_simp
                      refine hK.out _ _ (by rw [hdr]; (repeat rw [hsc _ _ _ _ (by omega)]); exact ca) (fun hc => ?_)
                      clear hK K'
                      try simp only [List.getElem_toArray, List.getElem_cons_succ, List.getElem_cons_zero, Act.put, List.setIfInBounds_toArray, List.set_cons_zero, List.set_cons_succ]
                      refine wpAnyS_done (by kernel_rfl) ?_ _
                      clear hc S0
                      obtain ⟨W9, hW9⟩ : ∃ W9, W9 = (((wz.setCell ⟨w.heap.size, 0, none⟩ (.int .i64 0)).setCell ⟨w.heap.size, 1, none⟩ (.slice none 0 0)).setCell ⟨w.heap.size + 1, 0, none⟩ (.int .i64 3)).setCell ⟨w.heap.size + 1 + 1, 0, none⟩ (.int .i64 j) := ⟨_, rfl⟩
                      rw [← hW9]
                      have hR9 : SpR w 0 (.slice none 0 0) 3 j (D :: Ds) W9 := by
                        rw [hW9]
                        have e6 := HSZ.out
                        exact spR_stored e6.d e6.e e6.o e6.below e6.once (fun X hX => ⟨by have := (e6.marks X hX).1; have := e6.le; omega, (e6.marks X hX).2⟩)
                      have HR9 := hid (hR9.grown (Below.grows (Below.refl _ _).drew none) (fun r e => by cases e))
                      clear hW9 hR9
                      go_wp2_with fail
                      try rw [Exit.noGoto_ret]
                      refine leaves_marks (D :: Ds) _ HR9.out.once (fun X hX => (HR9.out.marks X hX).2) (fun W' hW' => ?_)
                      have h3 := HR9.out.but hW'
                      refine ⟨_, spR_results rfl rfl rfl rfl h3, _, _, _, _, rfl, h3.below, ?_⟩
                      rw [HNP.out]
                      exact ⟨show (3 : Int) ≠ 0 by decide, rfl⟩
                case hstop =>
                  intro D c b W hD hx hK
                  obtain ⟨rfl, hnone, er, off, hne, hR⟩ := hx
                  refine wpIn_wide.2 ?_
                  have HX := hid (And.intro hnone (And.intro hne (And.intro hR hK)))
                  rw [H8.out.2.2.1] at hD
                  have HD := hid hD
                  clear hnone hne hR hK hD
                  go_wp2_with fail
                  try rw [Exit.noGoto_ret]
                  obtain ⟨hnone, hne, hR, hK⟩ := HX.out
                  have hR2 := hR.mark (D := D) (by have := HD.out; have := HCB.out; have := HWL.out; omega) (fun h => by have := HDS.out D h; have := HD.out; omega) hK
                  refine leaves_marks (D :: Ds) W hR2.once (fun X hX => (hR2.marks X hX).2) (fun W' hW' => ?_)
                  have h3 := hR2.but hW'
                  refine ⟨_, spR_results rfl rfl rfl rfl h3, _, _, _, _, rfl, h3.below, ?_⟩
                  rw [hnone]
                  exact ⟨hne, rfl⟩
              · have hl9 : ¬ (i : Int) < (t.size : Int) := by omega
                have HS1 := hid HS.out.1
                have HS2 := hid HS.out.2.2
                have HNE := hid (Li.rest_end HS.out.2.1 (by have : t.data.toList.length = t.size := rfl; omega))
                obtain ⟨v, n1, n2, -⟩ := HS1.out.n
                obtain ⟨va, vc, rfl⟩ := ownsRow_slice n2
                have n0' : wr.cell? ⟨W4.heap.size, 0, none⟩ = some (.int .i64 sc) := by simp [World.cell?, n1]
                have n1' : wr.cell? ⟨W4.heap.size, 1, none⟩ = some (.slice va (ws).length vc) := by simp [World.cell?, n1]
                have zn' := (Array.getElem?_eq_some_iff.1 n1).1
                have hd := HS1.out.d
                have fd0 : wr.frozen? ⟨w.heap.size, 0, none⟩ = false := by simp [World.frozen?, hd]
                have fd1 : wr.frozen? ⟨w.heap.size, 1, none⟩ = false := by simp [World.frozen?, hd]
                have cd0 : wr.cell? ⟨w.heap.size, 0, none⟩ = some (.int .i64 0) := by simp [World.cell?, hd]
                have cd1 : wr.cell? ⟨w.heap.size, 1, none⟩ = some (.slice none 0 0) := by simp [World.cell?, hd]
                obtain ⟨ce, fe⟩ := cell_blk HS1.out.e
                obtain ⟨co, fo⟩ : wr.cell? ⟨w.heap.size + 1 + 1, 0, none⟩ = some (.int .i64 0) ∧ wr.frozen? ⟨w.heap.size + 1 + 1, 0, none⟩ = false := cell_blk HS1.out.o
                have zd := (Array.getElem?_eq_some_iff.1 hd).1
                have ze := (Array.getElem?_eq_some_iff.1 HS1.out.e).1
                have zo : w.heap.size + 1 + 1 < wr.heap.size := (Array.getElem?_eq_some_iff.1 HS1.out.o).1
                have HOWN := hid n2
                have hw6 := HS2.out.1
                clear n1 n2 hd
                by_cases hw0 : (ws).length = 0
                · have hlb : (((ws).length : Int) == 0) = true := by rw [beq_iff_eq]; omega
                  have hnn := hid (show Li.nameP t.data.toList = none by
                    rw [HNE.out]
                    unfold Li.outP
                    simp only
                    rw [if_pos (List.length_eq_zero_iff.1 hw0)])
                  clear hw0
                  go_wp2_with fail
                  try rw [Exit.noGoto_ret]
                  obtain ⟨W9, hW9⟩ : ∃ W9, W9 = (((wr.setCell ⟨w.heap.size, 0, none⟩ (.int .i64 0)).setCell ⟨w.heap.size, 1, none⟩ (.slice none 0 0)).setCell ⟨w.heap.size + 1, 0, none⟩ (.int .i64 6)).setCell ⟨w.heap.size + 1 + 1, 0, none⟩ (.int .i64 t.size) := ⟨_, rfl⟩
                  rw [← hW9]
                  have hR : SpR w 0 (.slice none 0 0) 6 t.size (Ds) W9 := by
                    rw [hW9]
                    have e6 := HS1.out
                    exact spR_stored e6.d e6.e e6.o e6.below e6.once (fun X hX => ⟨by have := (e6.marks X hX).1; have := e6.le; omega, (e6.marks X hX).2⟩)
                  refine leaves_marks (Ds) W9 hR.once (fun X hX => (hR.marks X hX).2) (fun W' hW' => ?_)
                  have h3 := hR.but hW'
                  refine ⟨_, spR_results rfl rfl rfl rfl h3, _, _, _, _, rfl, h3.below, ?_⟩
                  rw [hnn.out]
                  exact ⟨show (6 : Int) ≠ 0 by decide, rfl⟩
                · have hlb : (((ws).length : Int) == 0) = false := by rw [beq_eq_false_iff_ne]; omega
                  have hnn := hid (show Li.nameP t.data.toList = some ⟨sc, ws⟩ by
                    rw [HNE.out]
                    unfold Li.outP
                    simp only
                    rw [if_neg (fun e => hw0 (by rw [e]; rfl))])
                  clear hw0
                  go_wp2_with fail
                  try rw [Exit.noGoto_ret]
                  obtain ⟨W9, hW9⟩ : ∃ W9, W9 = (((wr.setCell ⟨w.heap.size, 0, none⟩ (.int .i64 sc)).setCell ⟨w.heap.size, 1, none⟩ (.slice va (ws).length vc)).setCell ⟨w.heap.size + 1, 0, none⟩ (.int .i64 0)).setCell ⟨w.heap.size + 1 + 1, 0, none⟩ (.int .i64 0) := ⟨_, rfl⟩
                  rw [← hW9]
                  have hR : SpR w sc (.slice va (ws).length vc) 0 0 (Ds) W9 := by
                    rw [hW9]
                    have e6 := HS1.out
                    exact spR_stored e6.d e6.e e6.o e6.below e6.once (fun X hX => ⟨by have := (e6.marks X hX).1; have := e6.le; omega, (e6.marks X hX).2⟩)
                  have ho9 : W9.ownsRow (W4.heap.size + 2) 9 1 (.slice va (ws).length vc) (ws).length ((ws).flatMap strC) := ownsRow_far HOWN.out fun g o hg ho _ => by
                    have hle := HS1.out.le
                    rw [hW9, Below.heap_setCell _ ⟨w.heap.size + 1 + 1, 0, none⟩ _ g (by show g ≠ w.heap.size + 1 + 1; omega), Below.heap_setCell _ ⟨w.heap.size + 1, 0, none⟩ _ g (by show g ≠ w.heap.size + 1; omega), Below.heap_setCell _ ⟨w.heap.size, 1, none⟩ _ g (by show g ≠ w.heap.size; omega), Below.heap_setCell _ ⟨w.heap.size, 0, none⟩ _ g (by show g ≠ w.heap.size; omega)]
                    exact ho
                  refine leaves_marks (Ds) W9 hR.once (fun X hX => (hR.marks X hX).2) (fun W' hW' => ?_)
                  have h3 := hR.but hW'
                  refine ⟨_, spR_results rfl rfl rfl rfl h3, _, _, _, _, rfl, h3.below, ?_⟩
                  rw [hnn.out]
                  refine ⟨rfl, rfl, ?_, HS2.out.2⟩
                  have hle := HWL0.out
                  exact ownsRow_base (ownsRow_far ho9 fun g o hg ho hc => (hW'.block g (fun hm => by have := (hR.marks g hm).2; rw [ho] at this; cases this; cases hc)).trans ho) (by omega)

end Go.Proofs.YtidkmhokolknbaaGreatDoor
