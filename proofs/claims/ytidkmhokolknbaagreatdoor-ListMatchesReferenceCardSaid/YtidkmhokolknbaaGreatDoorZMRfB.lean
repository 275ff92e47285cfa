/-
  Several texts in one: ZRf7, ZRf8, ZRf9, ZRf10, ZRf11, ZRf12. Conditions: as each law says.
-/
import Derived.Test.YtidkmhokolknbaaGreatDoorZMRfA
import Derived.Test.YtidkmhokolknbaaGreatDoorZMLiB
import Derived.IntWalk
import Derived.Test.YtidkmhokolknbaaGreatDoorZLiT3
import Derived.Test.YtidkmhokolknbaaGreatDoorZFlat
import Derived.Test.YtidkmhokolknbaaGreatDoorZMBase
namespace Go.Proofs.YtidkmhokolknbaaGreatDoor
open Go.RowKit Go.Lib Go.Maps

set_option maxRecDepth 100000 in
set_option maxHeartbeats 8000000 in
theorem rat_any (ps : List (Li.Ls × Value)) (v : Value) (t : Int) (w : World) (h : LssAt w v ps) (hd : ps.length ≤ 5000) : Calls Tryz.prog 27 #[v, .int .i64 t] w (AtP (ps.map Prod.fst) t w) := by
  obtain ⟨i0, hi, hz0, hz1, hz2⟩ := info_parts Tryz.infoEn
  have HL := hid h
  have HV := hid (rvalidL_any ps v w h)
  obtain ⟨⟨va, cap, rfl, k1, k2, -⟩, -, -⟩ := h
  have hwl : ps.length ≤ 9223372036854775807 := by omega
  have HIS := hid (fun W => rIs_any t W)
  obtain ⟨vb, hvb⟩ : ∃ b, b = Li.properL (ps.map Prod.fst) := ⟨_, rfl⟩
  rw [← hvb] at HV
  have HVB := hid hvb
  clear k1 k2 hvb
  go_enter Tryz.func27, Tryz.ntmps27
  go_wp2_with fail
  refine (HV.out).mono ?_
  rintro e w1 ⟨rfl, hb1⟩
  have HB1 := hid hb1
  clear hb1
  cases vb with
  | false =>
    have HE := hid (show Li.at_ (ps.map Prod.fst) t = [] by unfold Li.at_; rw [← HVB.out]; rfl)
    go_wp2_with fail
    go_ret
    exact ⟨_, [], rfl, HE.out.symm, ⟨SlOf.nil _ _ _, fun p hp => by (cases hp), fun p hp => by (cases hp)⟩, HB1.out⟩
  | true =>
    obtain ⟨tb, htb⟩ : ∃ b, b = Li.inst t := ⟨_, rfl⟩
    rw [← htb] at HIS
    have HTB := hid htb
    clear htb
    go_wp2_with fail
    refine (HIS.out _).mono ?_
    rintro e wx ⟨rfl, rfl⟩
    cases tb with
    | false =>
      have HE := hid (show Li.at_ (ps.map Prod.fst) t = [] by unfold Li.at_; rw [← HVB.out, ← HTB.out]; rfl)
      go_wp2_with fail
      go_ret
      exact ⟨_, [], rfl, HE.out.symm, ⟨SlOf.nil _ _ _, fun p hp => by (cases hp), fun p hp => by (cases hp)⟩, HB1.out⟩
    | true =>
      have HE0 := hid (show Li.at_ (ps.map Prod.fst) t = (lvs t ps).map Prod.fst by unfold Li.at_; rw [← HVB.out, ← HTB.out, lvs_fst]; rfl)
      go_wp2_with fail
      go_loopw [5, 6] (fun ov iv wr => ∃ (k : Nat) (mv : Value), k ≤ ps.length ∧ iv = .int .i64 k ∧ mv = ov ∧ Hid (wr.ownsRow w.heap.size 25 2 mv (lvs t (ps.take k)).length ((lvs t (ps.take k)).flatMap enC)) ∧ Hid (Below w.heap.size w wr)) (fun _ iv _ => ps.length - (RowKit.intOf iv).toNat)
      case atStart => exact ⟨0, _, Nat.zero_le _, rfl, rfl, World.ownsRow_nil _ _ _ _, HB1.out⟩
      case round =>
        obtain ⟨k, ov, hk, rfl, rfl, HO, HBR⟩ := hrel
        obtain ⟨oa, oc, rfl⟩ := ownsRow_slice HO.out
        by_cases hlt : k < ps.length
        · obtain ⟨y, hy⟩ : ∃ y, ps[k]? = some y := ⟨_, List.getElem?_eq_getElem hlt⟩
          have HLR := hid (HL.out.below HBR.out)
          obtain ⟨g6, o6, rfl, hr6⟩ : ∃ g o, va = some ⟨g, o, none⟩ ∧ RowOf wr g o 5 lsC ps := by
            obtain ⟨a', cap', ev, -, -, hr⟩ := HLR.out.sl
            cases ev
            exact hr (by omega)
          have HQ6 := hid (HLR.out.nm y (List.mem_of_getElem? hy))
          have HST := hid (lvs_step (t := t) hy)
          have hc6 := hr6.2 k _ hy
          have e60 := hc6 0 _ rfl
          have e61 := hc6 1 _ rfl
          have e62 := hc6 2 _ rfl
          have e63 := hc6 3 _ rfl
          have e64 := hc6 4 _ rfl
          have hz6 := hr6.1
          obtain ⟨⟨⟨i6, n6⟩, f6, t6, b6⟩, u6⟩ := y
          obtain ⟨xa, xc, hu6⟩ := HQ6.out.slice
          simp only at hu6 e60 e61 e62 e63 e64 HQ6 HST
          subst hu6
          rw [Nat.add_zero] at e60
          have hk0 : (0 : Int) ≤ (k : Int) := by omega
          have hk1 : (k : Int) < (ps.length : Int) := by omega
          clear hc6 hr6 hy
          cases b6 with
          | true =>
            have HLV := hid (show Li.live t ⟨⟨i6, n6⟩, f6, t6, true⟩ = false by unfold Li.live; rfl)
            have HE := hid (show lvs t (ps.take (k + 1)) = lvs t (ps.take k) by rw [HST.out, if_neg (by rw [HLV.out]; decide), List.append_nil])
            clear HLV
            go_wp2_with fail
            go_roundw
            case rel => exact ⟨k + 1, _, by omega, by go_num, rfl, by rw [HE.out]; exact HO.out, HBR⟩
            case measure => simp [RowKit.intOf]; omega
          | false =>
            by_cases h1 : f6 ≤ t
            · have q1 : decide (f6 ≤ t) = true := decide_eq_true h1
              by_cases h2 : t6 = -1
              · have q2 : (t6 == -1) = true := by rw [h2]; rfl
                have HLV := hid (show Li.live t ⟨⟨i6, n6⟩, f6, t6, false⟩ = true by unfold Li.live; rw [decide_eq_true h1, decide_eq_true h2]; rfl)
                clear h1 h2
                have HE := hid (show lvs t (ps.take (k + 1)) = lvs t (ps.take k) ++ [(⟨i6, n6⟩, .slice xa n6.length xc)] by rw [HST.out, if_pos HLV.out])
                have hown5 := HO.out.alloc (.cells #[.string (bs i6), .slice xa n6.length xc] 25)
                have hz5 := HBR.out.size
                have hn2 : (lvs t (ps.take k)).length ≤ 5000 := by have := lvs_len t (ps.take k); rw [List.length_take] at this; omega
                obtain ⟨n, hn⟩ : ∃ n, n = (lvs t (ps.take k)).length := ⟨_, rfl⟩
                rw [← hn] at hown5 hn2 ⊢
                have HN := hid hn
                clear hn HLV
                go_wp2_with (at_builtin; refine wpList_append_own _ rfl _ _ 45 rfl w.heap.size 25 i0 (.agg #[.string ⟨#[]⟩, .slice none 0 0]) 2 40 Tryz.underlying45 hi hz0 hz1 hz2 rfl (by decide) _ _ _ rfl hown5 ⟨wr.heap.size, 0, none⟩ 1 1 [.string (bs i6), .slice xa n6.length xc] rfl rfl (cells_new rfl) (by simp [Value.oneCell']) (by unfold maxLen; omega) (by omega) (by simp; omega) ?_; intro v' w4 ho4 hg4 _)
                go_roundw
                case rel =>
                  refine ⟨k + 1, _, by omega, by go_num, rfl, ?_, Below.appended (HBR.out.alloc hz5 _) hg4 (by simp; omega) hown5⟩
                  rw [HE.out, List.length_append, List.flatMap_append, ← HN.out]
                  exact ho4
                case measure => simp [RowKit.intOf]; omega
              · have q2 : (t6 == -1) = false := beq_eq_false_iff_ne.2 h2
                by_cases h3 : t < t6
                · have q3 : decide (t < t6) = true := decide_eq_true h3
                  have HLV := hid (show Li.live t ⟨⟨i6, n6⟩, f6, t6, false⟩ = true by unfold Li.live; rw [decide_eq_true h1, decide_eq_true h3]; simp)
                  clear h1 h2 h3
                  have HE := hid (show lvs t (ps.take (k + 1)) = lvs t (ps.take k) ++ [(⟨i6, n6⟩, .slice xa n6.length xc)] by rw [HST.out, if_pos HLV.out])
                  have hown5 := HO.out.alloc (.cells #[.string (bs i6), .slice xa n6.length xc] 25)
                  have hz5 := HBR.out.size
                  have hn2 : (lvs t (ps.take k)).length ≤ 5000 := by have := lvs_len t (ps.take k); rw [List.length_take] at this; omega
                  obtain ⟨n, hn⟩ : ∃ n, n = (lvs t (ps.take k)).length := ⟨_, rfl⟩
                  rw [← hn] at hown5 hn2 ⊢
                  have HN := hid hn
                  clear hn HLV
                  go_wp2_with (at_builtin; refine wpList_append_own _ rfl _ _ 45 rfl w.heap.size 25 i0 (.agg #[.string ⟨#[]⟩, .slice none 0 0]) 2 40 Tryz.underlying45 hi hz0 hz1 hz2 rfl (by decide) _ _ _ rfl hown5 ⟨wr.heap.size, 0, none⟩ 1 1 [.string (bs i6), .slice xa n6.length xc] rfl rfl (cells_new rfl) (by simp [Value.oneCell']) (by unfold maxLen; omega) (by omega) (by simp; omega) ?_; intro v' w4 ho4 hg4 _)
                  go_roundw
                  case rel =>
                    refine ⟨k + 1, _, by omega, by go_num, rfl, ?_, Below.appended (HBR.out.alloc hz5 _) hg4 (by simp; omega) hown5⟩
                    rw [HE.out, List.length_append, List.flatMap_append, ← HN.out]
                    exact ho4
                  case measure => simp [RowKit.intOf]; omega
                · have q3 : decide (t < t6) = false := decide_eq_false h3
                  have HLV := hid (show Li.live t ⟨⟨i6, n6⟩, f6, t6, false⟩ = false by unfold Li.live; rw [decide_eq_false h2, decide_eq_false h3]; simp)
                  clear h1 h2 h3
                  have HE := hid (show lvs t (ps.take (k + 1)) = lvs t (ps.take k) by rw [HST.out, if_neg (by rw [HLV.out]; decide), List.append_nil])
                  clear HLV
                  go_wp2_with fail
                  go_roundw
                  case rel => exact ⟨k + 1, _, by omega, by go_num, rfl, by rw [HE.out]; exact HO.out, HBR⟩
                  case measure => simp [RowKit.intOf]; omega
            · have q1 : decide (f6 ≤ t) = false := decide_eq_false h1
              have HLV := hid (show Li.live t ⟨⟨i6, n6⟩, f6, t6, false⟩ = false by unfold Li.live; rw [decide_eq_false h1]; rfl)
              clear h1
              have HE := hid (show lvs t (ps.take (k + 1)) = lvs t (ps.take k) by rw [HST.out, if_neg (by rw [HLV.out]; decide), List.append_nil])
              clear HLV
              go_wp2_with fail
              go_roundw
              case rel => exact ⟨k + 1, _, by omega, by go_num, rfl, by rw [HE.out]; exact HO.out, HBR⟩
              case measure => simp [RowKit.intOf]; omega
        · have hk1 : ¬ (k : Int) < (ps.length : Int) := by omega
          have HKE := hid (show ps.take k = ps from List.take_of_length_le (by omega))
          go_wp2_with fail
          go_ret
          have ho := HO.out
          rw [HKE.out] at ho ⊢
          refine ⟨_, lvs t ps, rfl, HE0.out.symm, ⟨SlOf.own ho (fun _ _ => rfl), fun p hp => ?_, fun p hp => ?_⟩, HBR.out⟩
          · obtain ⟨q, hq, rfl⟩ := lvs_mem hp
            exact (HL.out.nm q hq).below HBR.out
          · obtain ⟨q, hq, rfl⟩ := lvs_mem hp
            exact HL.out.id q hq

end Go.Proofs.YtidkmhokolknbaaGreatDoor

namespace Go.Proofs.YtidkmhokolknbaaGreatDoor
open Go.RowKit Go.Lib Go.Maps

theorem digit10 {n : Nat} (h : n < 10) : (⟨#[48, 49, 50, 51, 52, 53, 54, 55, 56, 57]⟩ : ByteArray).extract n (n + 1) = bs (Lx.dec n) := by
  refine bs_ext ?_
  rw [extract_list, Lx.dec_small h]
  match n, h with
  | 0, _ => rfl
  | 1, _ => rfl
  | 2, _ => rfl
  | 3, _ => rfl
  | 4, _ => rfl
  | 5, _ => rfl
  | 6, _ => rfl
  | 7, _ => rfl
  | 8, _ => rfl
  | 9, _ => rfl
theorem bs_append (a b : List UInt8) : bs a ++ bs b = bs (a ++ b) := bs_ext (by simp [bs])
/-- what digits stand behind the first ones -/
def DigAt (n m : Nat) (s : List UInt8) : Prop := Lx.dec n = (if m = 0 then [] else Lx.dec m) ++ s
theorem DigAt.start (n : Nat) : DigAt n (n / 10) (Lx.dec (n % 10)) := by
  unfold DigAt
  by_cases h : n < 10
  · rw [if_pos (by omega), Nat.mod_eq_of_lt h]; rfl
  · rw [if_neg (by omega), Lx.dec_big h]
theorem DigAt.step {n m : Nat} {s : List UInt8} (h : DigAt n m s) (hm : 0 < m) : DigAt n (m / 10) (Lx.dec (m % 10) ++ s) := by
  unfold DigAt at h ⊢
  rw [h, if_neg (by omega)]
  by_cases h1 : m < 10
  · rw [if_pos (by omega), Nat.mod_eq_of_lt h1]; rfl
  · rw [if_neg (by omega), Lx.dec_big h1, List.append_assoc]
theorem DigAt.done {n : Nat} {s : List UInt8} (h : DigAt n 0 s) : Lx.dec n = s := by unfold DigAt at h; simpa using h

set_option maxRecDepth 100000 in
set_option maxHeartbeats 4000000 in
theorem digits_any (n : Nat) (hn : n ≤ 1000000000) (w : World) : Calls Tryz.prog 69 #[.int .u64 n] w (Same (.string (bs (Lx.dec n))) w) := by
  obtain ⟨r, hr, hr1⟩ : ∃ r : Nat, (n : Int) % 10 = (r : Int) ∧ r = n % 10 := ⟨n % 10, by omega, rfl⟩
  obtain ⟨q, hq, hq1⟩ : ∃ q : Nat, (n : Int) / 10 = (q : Int) ∧ q = n / 10 := ⟨n / 10, by omega, rfl⟩
  have hr10 : r < 10 := by omega
  have e3 := digit10 hr10
  have e5 : IntKind.u64.wrap ((r : Int) + 1) = (r : Int) + 1 := IntWalk.u64_in _ (by omega)
  have e6 : ((r : Int) + 1).toNat = r + 1 := by omega
  have e7 : (r : Int) + 1 ≤ 10 := by omega
  have HD := hid (DigAt.start n)
  rw [← hr1, ← hq1] at HD
  have HDL := hid (show (Lx.dec n).length ≤ 10 from Fa.dec_len 10 (by decide) (by omega))
  have HQ := hid (show q ≤ 1000000000 by omega)
  clear hr1 hq1
  go_enter Tryz.func69, Tryz.ntmps69
  go_wp2_with fail
  go_loop [0, 3] (fun nv sv => ∃ (m : Nat) (s : List UInt8), m ≤ 1000000000 ∧ nv = .int .u64 m ∧ sv = .string (bs s) ∧ Hid (DigAt n m s)) (fun nv _ => (RowKit.intOf nv).toNat)
  case atStart => exact ⟨q, Lx.dec r, HQ.out, rfl, rfl, HD⟩
  case round =>
    clear e3 e5 e6 e7 hr hq
    obtain ⟨m, s, hm, rfl, rfl, HK⟩ := hrel
    by_cases h0 : 0 < m
    · have HK2 := hid (HK.out.step h0)
      have HSL := hid (show s.length ≤ 10 by
        have h1 := HK.out
        unfold DigAt at h1
        have h2 := congrArg List.length h1
        have h3 := HDL.out
        rw [List.length_append] at h2
        omega)
      obtain ⟨r2, hr, hr1⟩ : ∃ r2 : Nat, (m : Int) % 10 = (r2 : Int) ∧ r2 = m % 10 := ⟨m % 10, by omega, rfl⟩
      obtain ⟨q2, hq, hq1⟩ : ∃ q2 : Nat, (m : Int) / 10 = (q2 : Int) ∧ q2 = m / 10 := ⟨m / 10, by omega, rfl⟩
      have hr210 : r2 < 10 := by omega
      have e3 := digit10 hr210
      have e5 : IntKind.u64.wrap ((r2 : Int) + 1) = (r2 : Int) + 1 := IntWalk.u64_in _ (by omega)
      have e6 : ((r2 : Int) + 1).toNat = r2 + 1 := by omega
      have e7 : (r2 : Int) + 1 ≤ 10 := by omega
      have hz1 : (bs (Lx.dec r2)).size ≤ 10 := by rw [bs_len]; exact Fa.dec_len 10 (by decide) (by omega)
      have hz2 : (bs s).size ≤ 10 := by rw [bs_len]; exact HSL.out
      have hm0 : (0 : Int) < (m : Int) := by omega
      have HA := hid (bs_append (Lx.dec r2) s)
      have HQ2 := hid (show q2 ≤ 1000000000 ∧ q2 < m by omega)
      rw [← hr1, ← hq1] at HK2
      clear hr1 hq1 h0
      go_wp2_with fail
      go_round
      case rel => exact ⟨q2, Lx.dec r2 ++ s, HQ2.out.1, rfl, by rw [HA.out], HK2⟩
      case measure => simp [RowKit.intOf]; exact HQ2.out.2
    · have hm0 : m = 0 := by omega
      subst hm0
      have HE := hid HK.out.done
      go_wp2_with fail
      go_ret
      exact ⟨by rw [HE.out]; rfl, rfl⟩

set_option maxRecDepth 100000 in
set_option maxHeartbeats 4000000 in
theorem decimal1_any (n : Int) (h0 : 0 ≤ n) (hn : n ≤ 144001439) (w : World) : Calls Tryz.prog 47 #[.int .i64 n] w (Same (.string (bs (Lx.dec n.toNat))) w) := by
  have HD := hid (digits_any n.toNat (by omega) w)
  rw [Int.toNat_of_nonneg h0] at HD
  have e1 : IntKind.u64.wrap n = n := IntWalk.u64_in _ (by omega)
  have e2 : decide (n < 0) = false := decide_eq_false (by omega)
  go_enter Tryz.func47, Tryz.ntmps47
  go_wp2_with fail
  refine (HD.out).mono ?_
  rintro e w2 ⟨rfl, rfl⟩
  go_wp2_with fail
  go_ret
  exact ⟨rfl, rfl⟩

end Go.Proofs.YtidkmhokolknbaaGreatDoor

namespace Go.Proofs.YtidkmhokolknbaaGreatDoor
open Go.RowKit Go.Lib Go.Maps

/-- what stands ahead of the names -/
def pre (c : Li.Ch) : List UInt8 := Li.kindWord c.kind ++ ([32] ++ (c.id ++ (if Li.dated c then 32 :: Lx.dec c.at_.toNat else [])))
theorem pre_body (c : Li.Ch) : Li.body c = pre c ++ (c.en.names.flatMap Li.quoted ++ [59]) := by
  unfold Li.body pre
  simp
theorem pre_len {c : Li.Ch} (h : Li.formed c = true) : (pre c).length ≤ 60 := by
  have h1 := Li.formed_parts h
  have h2 := Li.kind_word h1.2.1 h1.2.2.1
  have h3 : c.id.length ≤ 24 := by
    have := h1.1
    unfold Li.ident at this
    simp only [Bool.and_eq_true, decide_eq_true_eq] at this
    exact this.1.2
  have h4 := (Li.formed_names h).2.2.2.2
  have h5 : (Lx.dec c.at_.toNat).length ≤ 10 := Fa.dec_len 10 (by decide) (by omega)
  unfold pre
  simp only [List.length_append, List.length_cons, List.length_nil]
  split
  · simp only [List.length_cons]; omega
  · simp only [List.length_nil]; omega

set_option maxRecDepth 100000 in
set_option maxHeartbeats 16000000 in
theorem rtextC_any (c : Li.Ch) (u : Value) (w : World) (h : NmsIn w u c.en.names) (hs : c.id.length ≤ 5000) (hs2 : c.en.id.length ≤ 5000) : Calls Tryz.prog 19 #[.agg #[.int .i64 c.kind, .string (bs c.id), .string (bs c.en.id), u, .int .i64 c.at_]] w (TextP c w) := by
  have HN := hid h
  obtain ⟨l, hln, hA⟩ := h
  have HA := hid hA
  have HLN := hid hln
  obtain ⟨va, cap, rfl, k1, k2, -⟩ := hA.sl
  have hwl : l.length ≤ 9223372036854775807 := by unfold maxLen at k2; omega
  obtain ⟨W1, hW1⟩ : ∃ W1, W1 = w.alloc (.cells #[.int .i64 c.kind, .string (bs c.id), .string (bs c.en.id), .slice va l.length cap, .int .i64 c.at_] 27) := ⟨_, rfl⟩
  have HX := hid (ChBox.new hW1)
  have HB1 := hid HX.out.below
  have HC : Hid (∀ W, Below W1.heap.size W1 W → W.cell? ⟨w.heap.size, 0, none⟩ = some (.int .i64 c.kind) ∧ W.cell? ⟨w.heap.size, 1, none⟩ = some (.string (bs c.id)) ∧ W.cell? ⟨w.heap.size, 2, none⟩ = some (.string (bs c.en.id)) ∧ W.cell? ⟨w.heap.size, 3, none⟩ = some (.slice va l.length cap) ∧ W.cell? ⟨w.heap.size, 4, none⟩ = some (.int .i64 c.at_) ∧ w.heap.size < W.heap.size) := fun W hW => by
    obtain ⟨c0, c1, c2, c3, c4, z1, -⟩ := HX.out.step hW
    exact ⟨c0, c1, c2, c3, c4, z1⟩
  have HF := hid (rformed_any c _ W1 (HN.out.below HB1.out) hs hs2)
  obtain ⟨fb, hfb⟩ : ∃ b, b = Li.formed c := ⟨_, rfl⟩
  rw [← hfb] at HF
  have HFB := hid hfb
  obtain ⟨f0, f1, f2, f3, f4, zf⟩ := HC.out W1 (Below.refl _ _)
  clear k1 k2 hA hln hfb
  go_enter Tryz.func19, Tryz.ntmps19
  go_upto_region 1 with (fail)
  rw [← hW1]
  clear hW1
  go_wp2_with fail
  refine (HF.out).mono ?_
  rintro e w2 ⟨rfl, hb2⟩
  have HB2 := hid hb2
  clear f0 f1 f2 f3 f4 zf hb2
  obtain ⟨f0, f1, f2, f3, f4, zf⟩ := HC.out w2 HB2.out
  cases fb with
  | false =>
    have HE := hid (show Li.text c = none by unfold Li.text; rw [← HFB.out]; rfl)
    go_wp2_with fail
    go_ret2
    exact ⟨by rw [HE.out, ← HFB.out]; rfl, Below.step HB1.out HB2.out⟩
  | true =>
    have HPT := hid (Li.formed_parts HFB.out.symm)
    have HFN := hid (Li.formed_names HFB.out.symm)
    have HOK : Hid (∀ n ∈ l.map Prod.fst, Li.nmOk n = true) := by rw [HLN.out]; exact HFN.out.1
    have HL8 : Hid (l.length ≤ 8) := by have := HFN.out.2.1; rw [← HLN.out, List.length_map] at this; exact this
    have HPL := hid (pre_len HFB.out.symm)
    have HTX : Hid ((Li.text c).getD [] = pre c ++ ((l.map Prod.fst).flatMap Li.quoted ++ [59])) := by
      unfold Li.text
      rw [if_pos HFB.out.symm, HLN.out]
      exact pre_body c
    have hil : (bs c.id).size ≤ 24 := by
      rw [bs_len]
      have := HPT.out.1
      unfold Li.ident at this
      simp only [Bool.and_eq_true, decide_eq_true_eq] at this
      exact this.1.2
    have hkk : c.kind = 1 ∨ c.kind = 2 ∨ c.kind = 3 ∨ c.kind = 4 := by have := HPT.out.2.1; have := HPT.out.2.2.1; omega
    rcases hkk with hk | hk | hk | hk
    · have q1 : (c.kind == 1) = true := by rw [hk]; rfl
      have q2 : (c.kind == 2) = false := by rw [hk]; rfl
      have q3 : (c.kind == 3) = false := by rw [hk]; rfl
      have q4 : (c.kind == 4) = false := by rw [hk]; rfl
      have HD := hid (show Li.inst c.at_ = true from HPT.out.2.2.2.2.2.1 (by unfold Li.dated; rw [hk]; rfl))
      have hin := HD.out
      unfold Li.inst at hin
      simp only [Bool.and_eq_true, decide_eq_true_eq] at hin
      have HDC := hid (fun W => decimal1_any c.at_ hin.1 hin.2 W)
      have hdl : (bs (Lx.dec c.at_.toNat)).size ≤ 10 := by rw [bs_len]; exact Fa.dec_len 10 (by decide) (by omega)
      have HPRE := hid (show (⟨#[97, 100, 100, 32]⟩ : ByteArray) ++ bs c.id ++ ⟨#[32]⟩ ++ bs (Lx.dec c.at_.toNat) = bs (pre c) by
        rw [show (⟨#[97, 100, 100, 32]⟩ : ByteArray) = bs (Li.kindWord c.kind ++ [32]) by rw [hk]; rfl, show (⟨#[32]⟩ : ByteArray) = bs [32] from rfl, bs_app, bs_app, bs_app]
        unfold pre Li.dated
        rw [hk]
        simp)
      clear hk hin
      have x1 : 4 + (bs c.id).size ≤ 9223372036854775807 := by omega
      have x2 : 4 + (bs c.id).size + 1 ≤ 9223372036854775807 := by omega
      have x3 : 4 + (bs c.id).size + 1 + (bs (Lx.dec c.at_.toNat)).size ≤ 9223372036854775807 := by omega
      go_wp2_with fail
      refine wp_heldS (S := StillAt w2) (by kernel_rfl) ?_
      simp only [List.size_toArray, List.length_cons, List.length_nil, Nat.reduceAdd]
      intro hc
      have S0 : StillAt w2 (Array.replicate 9 false) w2.drew := (Below.refl _ _).drew
      refine wpAnyS_take (i := 0) (v := .pointer (some ⟨w.heap.size, 1, none⟩)) rfl (by kernel_rfl) (by kernel_rfl) (by kernel_rfl) (fun _ _ _ h => h) (fun _ _ => Iff.rfl) hc (by first | rfl | simp [Region.wanted]) (fun wx hx => ?_) S0 (fun hc S0 => ?_)
      · go_simp
      try simp only [List.getElem_toArray, List.getElem_cons_zero, Act.put, List.setIfInBounds_toArray, List.set_cons_zero, List.set_cons_succ]
      refine wpAnyS_take (i := 1) (v := .string (bs c.id)) rfl (by kernel_rfl) (by kernel_rfl) (by kernel_rfl) (fun _ _ _ h => h) (fun _ _ => Iff.rfl) hc (by first | rfl | simp [Region.wanted]) (fun wx hx => ?_) S0 (fun hc S0 => ?_)
      · have g := (hx.still.cell (p := ⟨w.heap.size, 1, none⟩) zf).trans f1
        go_simp
      try simp only [List.getElem_toArray, List.getElem_cons_succ, List.getElem_cons_zero, Act.put, List.setIfInBounds_toArray, List.set_cons_zero, List.set_cons_succ]
      refine wpAnyS_take (i := 2) (v := .string (⟨#[97, 100, 100, 32]⟩ ++ bs c.id)) rfl (by kernel_rfl) (by kernel_rfl) (by kernel_rfl) (fun _ _ _ h => h) (fun _ _ => Iff.rfl) hc (by first | rfl | simp [Region.wanted]) (fun wx hx => ?_) S0 (fun hc S0 => ?_)
      · go_simp
      try simp only [List.getElem_toArray, List.getElem_cons_succ, List.getElem_cons_zero, Act.put, List.setIfInBounds_toArray, List.set_cons_zero, List.set_cons_succ]
      refine wpAnyS_take (i := 3) (v := .string (⟨#[97, 100, 100, 32]⟩ ++ bs c.id ++ ⟨#[32]⟩)) rfl (by kernel_rfl) (by kernel_rfl) (by kernel_rfl) (fun _ _ _ h => h) (fun _ _ => Iff.rfl) hc (by first | rfl | simp [Region.wanted]) (fun wx hx => ?_) S0 (fun hc S0 => ?_)
      · go_simp
      try simp only [List.getElem_toArray, List.getElem_cons_succ, List.getElem_cons_zero, Act.put, List.setIfInBounds_toArray, List.set_cons_zero, List.set_cons_succ]
      refine wpAnyS_take (i := 4) (v := .pointer (some ⟨w.heap.size, 4, none⟩)) rfl (by kernel_rfl) (by kernel_rfl) (by kernel_rfl) (fun _ _ _ h => h) (fun _ _ => Iff.rfl) hc (by first | rfl | simp [Region.wanted]) (fun wx hx => ?_) S0 (fun hc S0 => ?_)
      · go_simp
      try simp only [List.getElem_toArray, List.getElem_cons_succ, List.getElem_cons_zero, Act.put, List.setIfInBounds_toArray, List.set_cons_zero, List.set_cons_succ]
      refine wpAnyS_take (i := 5) (v := .int .i64 c.at_) rfl (by kernel_rfl) (by kernel_rfl) (by kernel_rfl) (fun _ _ _ h => h) (fun _ _ => Iff.rfl) hc (by first | rfl | simp [Region.wanted]) (fun wx hx => ?_) S0 (fun hc S0 => ?_)
      · have g := (hx.still.cell (p := ⟨w.heap.size, 4, none⟩) zf).trans f4
        go_simp
      try simp only [List.getElem_toArray, List.getElem_cons_succ, List.getElem_cons_zero, Act.put, List.setIfInBounds_toArray, List.set_cons_zero, List.set_cons_succ]
      refine wpAnyS_one (i := 6) rfl (by kernel_rfl) (by rfl) hc (fun K' hK => ?_)
      go_simp
      refine (HDC.out _).mono ?_
      rintro e w7 ⟨rfl, hw7⟩
      have hb7 : Below w2.heap.size w2 w7 := by rw [hw7]; exact (Below.refl _ _).drew
      clear hw7
      refine hK.out _ _ hb7 (fun hc => ?_)
      clear hK K'
      have S0 : StillAt w2 #[] w7 := hb7
      try simp only [List.getElem_toArray, List.getElem_cons_succ, List.getElem_cons_zero, Act.put, List.setIfInBounds_toArray, List.set_cons_zero, List.set_cons_succ]
      refine wpAnyS_take (i := 7) (v := .string (⟨#[97, 100, 100, 32]⟩ ++ bs c.id ++ ⟨#[32]⟩ ++ bs (Lx.dec c.at_.toNat))) rfl (by kernel_rfl) (by kernel_rfl) (by kernel_rfl) (fun _ _ _ h => h) (fun _ _ => Iff.rfl) hc (by first | rfl | simp [Region.wanted]) (fun wx hx => ?_) S0 (fun hc S0 => ?_)
      · go_simp
      try simp only [List.getElem_toArray, List.getElem_cons_succ, List.getElem_cons_zero, Act.put, List.setIfInBounds_toArray, List.set_cons_zero, List.set_cons_succ]
      refine wpAnyS_one (i := 8) rfl (by kernel_rfl) (by rfl) hc (fun K' hK => ?_)
      go_simp
      refine hK.out _ _ hb7 (fun hc => ?_)
      clear hK K'
      have S0 : StillAt w2 #[] w7 := hb7
      try simp only [List.getElem_toArray, List.getElem_cons_succ, List.getElem_cons_zero, Act.put, List.setIfInBounds_toArray, List.set_cons_zero, List.set_cons_succ]
      refine wpAnyS_done (by kernel_rfl) ?_ _
      clear hc S0
      have HBC := hid (Below.step HB2.out hb7)
      have HC7 := hid (HC.out w7 HBC.out)
      clear hb7 f0 f1 f2 f3 f4 zf
      obtain ⟨f0, f1, f2, f3, f4, zf⟩ := HC7.out
      go_upto_region 11 with (fail)
      rw [HPRE.out]
      clear q1 q2 q3 q4
      go_loopw [4, 5] (fun ov iv wr => ∃ k : Nat, k ≤ l.length ∧ iv = .int .i64 k ∧ ov = .string (bs (pre c ++ ((l.map Prod.fst).take k).flatMap Li.quoted)) ∧ Hid (Below W1.heap.size W1 wr)) (fun _ iv _ => l.length - (RowKit.intOf iv).toNat)
      case atStart => exact ⟨0, Nat.zero_le _, rfl, by rw [List.take_zero, List.flatMap_nil, List.append_nil], HBC.out⟩
      case round =>
        obtain ⟨k, hk, rfl, rfl, HR⟩ := hrel
        obtain ⟨f0, f1, f2, f3, f4, zf⟩ := HC.out wr HR.out
        by_cases hlt : k < l.length
        · obtain ⟨y, hy⟩ : ∃ y, l[k]? = some y := ⟨_, List.getElem?_eq_getElem hlt⟩
          have HAR := hid ((HA.out.below HB1.out).below HR.out)
          obtain ⟨g, o, rfl, hr⟩ : ∃ g o, va = some ⟨g, o, none⟩ ∧ RowOf wr g o 2 nmC l := by
            obtain ⟨a', cap', ev, -, -, hr⟩ := HAR.out.sl
            cases ev
            exact hr (by omega)
          have e0 := hr.2 k y hy 0 _ rfl
          have e1 := hr.2 k y hy 1 _ rfl
          have hg := hr.1
          have hmem := List.mem_of_getElem? hy
          have HT := hid (rtext_any y.1.script y.1.words y.2 wr (HAR.out.at_ y hmem) (fun x hx => by have := HAR.out.short y hmem x hx; omega))
          obtain ⟨wa, wc, hwv, -⟩ := HAR.out.at_ y hmem
          have hok : Li.nmOk y.1 = true := HOK.out y.1 (List.mem_map_of_mem hmem)
          have hnl := Li.nameText_len hok
          have hql : (((l.map Prod.fst).take k).flatMap Li.quoted).length ≤ 163 * 8 := by
            have h1 := Li.names_len ((l.map Prod.fst).take k) (fun n hn => HOK.out n (List.mem_of_mem_take hn))
            rw [List.length_take, List.length_map] at h1
            have := HL8.out
            omega
          have HST := hid (show ((l.map Prod.fst).take (k + 1)).flatMap Li.quoted = ((l.map Prod.fst).take k).flatMap Li.quoted ++ Li.quoted y.1 by
            rw [List.take_add_one, List.getElem?_map, hy, List.flatMap_append]; simp)
          have hk0 : (0 : Int) ≤ (k : Int) := by omega
          have hk1 : (k : Int) < (l.length : Int) := by omega
          rw [Nat.add_zero] at e0
          obtain ⟨⟨sc, ws⟩, u⟩ := y
          simp only at hwv e0 e1 HT hok hnl HST
          subst hwv
          unfold RTxP at HT
          simp only [hok, if_true] at HT
          obtain ⟨nt, hnt⟩ : ∃ nt, nt = Li.nameText ⟨sc, ws⟩ := ⟨_, rfl⟩
          rw [← hnt] at HT hnl
          have HNT := hid hnt
          obtain ⟨acc, hacc⟩ : ∃ a, a = pre c ++ ((l.map Prod.fst).take k).flatMap Li.quoted := ⟨_, rfl⟩
          have hal : (bs acc).size ≤ 1500 := by rw [bs_len, hacc, List.length_append]; have := HPL.out; omega
          have hnl2 : (bs nt).size ≤ 160 := by rw [bs_len]; exact hnl
          rw [← hacc]
          have HACC := hid hacc
          clear hr hy hmem hok hnl hql hnt hacc
          go_wp2_with fail
          refine (HT.out).mono ?_
          rintro e w9 ⟨rfl, hb9⟩
          have HB9 := hid (Below.step HR.out hb9)
          clear hb9
          go_wp2_with fail
          go_roundw
          case rel =>
            refine ⟨k + 1, by omega, by go_num, ?_, HB9⟩
            rw [HST.out, show (⟨#[32, 34]⟩ : ByteArray) = bs [32, 34] from rfl, show (⟨#[34]⟩ : ByteArray) = bs [34] from rfl, bs_app, bs_app, bs_app, ← List.append_assoc, ← HACC.out]
            unfold Li.quoted
            rw [← HNT.out]
            simp
          case measure => simp [RowKit.intOf]; omega
        · have hk1 : ¬ (k : Int) < (l.length : Int) := by omega
          have HKE := hid (show (l.map Prod.fst).take k = l.map Prod.fst from List.take_of_length_le (by rw [List.length_map]; omega))
          have hql := Li.names_len (l.map Prod.fst) HOK.out
          rw [List.length_map] at hql
          obtain ⟨acc, hacc⟩ : ∃ a, a = pre c ++ ((l.map Prod.fst).take k).flatMap Li.quoted := ⟨_, rfl⟩
          have hal : (bs acc).size ≤ 1500 := by rw [bs_len, hacc, HKE.out, List.length_append]; have := HPL.out; have := HL8.out; omega
          rw [← hacc]
          have HACC := hid hacc
          clear hacc hql
          go_wp2_with fail
          go_ret2
          refine ⟨?_, Below.step HB1.out HR.out⟩
          rw [HTX.out, if_pos HFB.out.symm, show (⟨#[59]⟩ : ByteArray) = bs [59] from rfl, bs_app, HACC.out, HKE.out, List.append_assoc]
          rfl
    · have q1 : (c.kind == 1) = false := by rw [hk]; rfl
      have q2 : (c.kind == 2) = true := by rw [hk]; rfl
      have q3 : (c.kind == 3) = false := by rw [hk]; rfl
      have q4 : (c.kind == 4) = false := by rw [hk]; rfl
      have HD := hid (show Li.inst c.at_ = true from HPT.out.2.2.2.2.2.1 (by unfold Li.dated; rw [hk]; rfl))
      have hin := HD.out
      unfold Li.inst at hin
      simp only [Bool.and_eq_true, decide_eq_true_eq] at hin
      have HDC := hid (fun W => decimal1_any c.at_ hin.1 hin.2 W)
      have hdl : (bs (Lx.dec c.at_.toNat)).size ≤ 10 := by rw [bs_len]; exact Fa.dec_len 10 (by decide) (by omega)
      have HPRE := hid (show (⟨#[114, 101, 109, 111, 118, 101, 32]⟩ : ByteArray) ++ bs c.id ++ ⟨#[32]⟩ ++ bs (Lx.dec c.at_.toNat) = bs (pre c) by
        rw [show (⟨#[114, 101, 109, 111, 118, 101, 32]⟩ : ByteArray) = bs (Li.kindWord c.kind ++ [32]) by rw [hk]; rfl, show (⟨#[32]⟩ : ByteArray) = bs [32] from rfl, bs_app, bs_app, bs_app]
        unfold pre Li.dated
        rw [hk]
        simp)
      clear hk hin
      have x1 : 7 + (bs c.id).size ≤ 9223372036854775807 := by omega
      have x2 : 7 + (bs c.id).size + 1 ≤ 9223372036854775807 := by omega
      have x3 : 7 + (bs c.id).size + 1 + (bs (Lx.dec c.at_.toNat)).size ≤ 9223372036854775807 := by omega
      go_wp2_with fail
      refine wp_heldS (S := StillAt w2) (by kernel_rfl) ?_
      simp only [List.size_toArray, List.length_cons, List.length_nil, Nat.reduceAdd]
      intro hc
      have S0 : StillAt w2 (Array.replicate 9 false) w2.drew := (Below.refl _ _).drew
      refine wpAnyS_take (i := 0) (v := .pointer (some ⟨w.heap.size, 1, none⟩)) rfl (by kernel_rfl) (by kernel_rfl) (by kernel_rfl) (fun _ _ _ h => h) (fun _ _ => Iff.rfl) hc (by first | rfl | simp [Region.wanted]) (fun wx hx => ?_) S0 (fun hc S0 => ?_)
      · go_simp
      try simp only [List.getElem_toArray, List.getElem_cons_zero, Act.put, List.setIfInBounds_toArray, List.set_cons_zero, List.set_cons_succ]
      refine wpAnyS_take (i := 1) (v := .string (bs c.id)) rfl (by kernel_rfl) (by kernel_rfl) (by kernel_rfl) (fun _ _ _ h => h) (fun _ _ => Iff.rfl) hc (by first | rfl | simp [Region.wanted]) (fun wx hx => ?_) S0 (fun hc S0 => ?_)
      · have g := (hx.still.cell (p := ⟨w.heap.size, 1, none⟩) zf).trans f1
        go_simp
      try simp only [List.getElem_toArray, List.getElem_cons_succ, List.getElem_cons_zero, Act.put, List.setIfInBounds_toArray, List.set_cons_zero, List.set_cons_succ]
      refine wpAnyS_take (i := 2) (v := .string (⟨#[114, 101, 109, 111, 118, 101, 32]⟩ ++ bs c.id)) rfl (by kernel_rfl) (by kernel_rfl) (by kernel_rfl) (fun _ _ _ h => h) (fun _ _ => Iff.rfl) hc (by first | rfl | simp [Region.wanted]) (fun wx hx => ?_) S0 (fun hc S0 => ?_)
      · go_simp
      try simp only [List.getElem_toArray, List.getElem_cons_succ, List.getElem_cons_zero, Act.put, List.setIfInBounds_toArray, List.set_cons_zero, List.set_cons_succ]
      refine wpAnyS_take (i := 3) (v := .string (⟨#[114, 101, 109, 111, 118, 101, 32]⟩ ++ bs c.id ++ ⟨#[32]⟩)) rfl (by kernel_rfl) (by kernel_rfl) (by kernel_rfl) (fun _ _ _ h => h) (fun _ _ => Iff.rfl) hc (by first | rfl | simp [Region.wanted]) (fun wx hx => ?_) S0 (fun hc S0 => ?_)
      · go_simp
      try simp only [List.getElem_toArray, List.getElem_cons_succ, List.getElem_cons_zero, Act.put, List.setIfInBounds_toArray, List.set_cons_zero, List.set_cons_succ]
      refine wpAnyS_take (i := 4) (v := .pointer (some ⟨w.heap.size, 4, none⟩)) rfl (by kernel_rfl) (by kernel_rfl) (by kernel_rfl) (fun _ _ _ h => h) (fun _ _ => Iff.rfl) hc (by first | rfl | simp [Region.wanted]) (fun wx hx => ?_) S0 (fun hc S0 => ?_)
      · go_simp
      try simp only [List.getElem_toArray, List.getElem_cons_succ, List.getElem_cons_zero, Act.put, List.setIfInBounds_toArray, List.set_cons_zero, List.set_cons_succ]
      refine wpAnyS_take (i := 5) (v := .int .i64 c.at_) rfl (by kernel_rfl) (by kernel_rfl) (by kernel_rfl) (fun _ _ _ h => h) (fun _ _ => Iff.rfl) hc (by first | rfl | simp [Region.wanted]) (fun wx hx => ?_) S0 (fun hc S0 => ?_)
      · have g := (hx.still.cell (p := ⟨w.heap.size, 4, none⟩) zf).trans f4
        go_simp
      try simp only [List.getElem_toArray, List.getElem_cons_succ, List.getElem_cons_zero, Act.put, List.setIfInBounds_toArray, List.set_cons_zero, List.set_cons_succ]
      refine wpAnyS_one (i := 6) rfl (by kernel_rfl) (by rfl) hc (fun K' hK => ?_)
      go_simp
      refine (HDC.out _).mono ?_
      rintro e w7 ⟨rfl, hw7⟩
      have hb7 : Below w2.heap.size w2 w7 := by rw [hw7]; exact (Below.refl _ _).drew
      clear hw7
      refine hK.out _ _ hb7 (fun hc => ?_)
      clear hK K'
      have S0 : StillAt w2 #[] w7 := hb7
      try simp only [List.getElem_toArray, List.getElem_cons_succ, List.getElem_cons_zero, Act.put, List.setIfInBounds_toArray, List.set_cons_zero, List.set_cons_succ]
      refine wpAnyS_take (i := 7) (v := .string (⟨#[114, 101, 109, 111, 118, 101, 32]⟩ ++ bs c.id ++ ⟨#[32]⟩ ++ bs (Lx.dec c.at_.toNat))) rfl (by kernel_rfl) (by kernel_rfl) (by kernel_rfl) (fun _ _ _ h => h) (fun _ _ => Iff.rfl) hc (by first | rfl | simp [Region.wanted]) (fun wx hx => ?_) S0 (fun hc S0 => ?_)
      · go_simp
      try simp only [List.getElem_toArray, List.getElem_cons_succ, List.getElem_cons_zero, Act.put, List.setIfInBounds_toArray, List.set_cons_zero, List.set_cons_succ]
      refine wpAnyS_one (i := 8) rfl (by kernel_rfl) (by rfl) hc (fun K' hK => ?_)
      go_simp
      refine hK.out _ _ hb7 (fun hc => ?_)
      clear hK K'
      have S0 : StillAt w2 #[] w7 := hb7
      try simp only [List.getElem_toArray, List.getElem_cons_succ, List.getElem_cons_zero, Act.put, List.setIfInBounds_toArray, List.set_cons_zero, List.set_cons_succ]
      refine wpAnyS_done (by kernel_rfl) ?_ _
      clear hc S0
      have HBC := hid (Below.step HB2.out hb7)
      have HC7 := hid (HC.out w7 HBC.out)
      clear hb7 f0 f1 f2 f3 f4 zf
      obtain ⟨f0, f1, f2, f3, f4, zf⟩ := HC7.out
      go_upto_region 11 with (fail)
      rw [HPRE.out]
      clear q1 q2 q3 q4
      go_loopw [4, 5] (fun ov iv wr => ∃ k : Nat, k ≤ l.length ∧ iv = .int .i64 k ∧ ov = .string (bs (pre c ++ ((l.map Prod.fst).take k).flatMap Li.quoted)) ∧ Hid (Below W1.heap.size W1 wr)) (fun _ iv _ => l.length - (RowKit.intOf iv).toNat)
      case atStart => exact ⟨0, Nat.zero_le _, rfl, by rw [List.take_zero, List.flatMap_nil, List.append_nil], HBC.out⟩
      case round =>
        obtain ⟨k, hk, rfl, rfl, HR⟩ := hrel
        obtain ⟨f0, f1, f2, f3, f4, zf⟩ := HC.out wr HR.out
        by_cases hlt : k < l.length
        · obtain ⟨y, hy⟩ : ∃ y, l[k]? = some y := ⟨_, List.getElem?_eq_getElem hlt⟩
          have HAR := hid ((HA.out.below HB1.out).below HR.out)
          obtain ⟨g, o, rfl, hr⟩ : ∃ g o, va = some ⟨g, o, none⟩ ∧ RowOf wr g o 2 nmC l := by
            obtain ⟨a', cap', ev, -, -, hr⟩ := HAR.out.sl
            cases ev
            exact hr (by omega)
          have e0 := hr.2 k y hy 0 _ rfl
          have e1 := hr.2 k y hy 1 _ rfl
          have hg := hr.1
          have hmem := List.mem_of_getElem? hy
          have HT := hid (rtext_any y.1.script y.1.words y.2 wr (HAR.out.at_ y hmem) (fun x hx => by have := HAR.out.short y hmem x hx; omega))
          obtain ⟨wa, wc, hwv, -⟩ := HAR.out.at_ y hmem
          have hok : Li.nmOk y.1 = true := HOK.out y.1 (List.mem_map_of_mem hmem)
          have hnl := Li.nameText_len hok
          have hql : (((l.map Prod.fst).take k).flatMap Li.quoted).length ≤ 163 * 8 := by
            have h1 := Li.names_len ((l.map Prod.fst).take k) (fun n hn => HOK.out n (List.mem_of_mem_take hn))
            rw [List.length_take, List.length_map] at h1
            have := HL8.out
            omega
          have HST := hid (show ((l.map Prod.fst).take (k + 1)).flatMap Li.quoted = ((l.map Prod.fst).take k).flatMap Li.quoted ++ Li.quoted y.1 by
            rw [List.take_add_one, List.getElem?_map, hy, List.flatMap_append]; simp)
          have hk0 : (0 : Int) ≤ (k : Int) := by omega
          have hk1 : (k : Int) < (l.length : Int) := by omega
          rw [Nat.add_zero] at e0
          obtain ⟨⟨sc, ws⟩, u⟩ := y
          simp only at hwv e0 e1 HT hok hnl HST
          subst hwv
          unfold RTxP at HT
          simp only [hok, if_true] at HT
          obtain ⟨nt, hnt⟩ : ∃ nt, nt = Li.nameText ⟨sc, ws⟩ := ⟨_, rfl⟩
          rw [← hnt] at HT hnl
          have HNT := hid hnt
          obtain ⟨acc, hacc⟩ : ∃ a, a = pre c ++ ((l.map Prod.fst).take k).flatMap Li.quoted := ⟨_, rfl⟩
          have hal : (bs acc).size ≤ 1500 := by rw [bs_len, hacc, List.length_append]; have := HPL.out; omega
          have hnl2 : (bs nt).size ≤ 160 := by rw [bs_len]; exact hnl
          rw [← hacc]
          have HACC := hid hacc
          clear hr hy hmem hok hnl hql hnt hacc
          go_wp2_with fail
          refine (HT.out).mono ?_
          rintro e w9 ⟨rfl, hb9⟩
          have HB9 := hid (Below.step HR.out hb9)
          clear hb9
          go_wp2_with fail
          go_roundw
          case rel =>
            refine ⟨k + 1, by omega, by go_num, ?_, HB9⟩
            rw [HST.out, show (⟨#[32, 34]⟩ : ByteArray) = bs [32, 34] from rfl, show (⟨#[34]⟩ : ByteArray) = bs [34] from rfl, bs_app, bs_app, bs_app, ← List.append_assoc, ← HACC.out]
            unfold Li.quoted
            rw [← HNT.out]
            simp
          case measure => simp [RowKit.intOf]; omega
        · have hk1 : ¬ (k : Int) < (l.length : Int) := by omega
          have HKE := hid (show (l.map Prod.fst).take k = l.map Prod.fst from List.take_of_length_le (by rw [List.length_map]; omega))
          have hql := Li.names_len (l.map Prod.fst) HOK.out
          rw [List.length_map] at hql
          obtain ⟨acc, hacc⟩ : ∃ a, a = pre c ++ ((l.map Prod.fst).take k).flatMap Li.quoted := ⟨_, rfl⟩
          have hal : (bs acc).size ≤ 1500 := by rw [bs_len, hacc, HKE.out, List.length_append]; have := HPL.out; have := HL8.out; omega
          rw [← hacc]
          have HACC := hid hacc
          clear hacc hql
          go_wp2_with fail
          go_ret2
          refine ⟨?_, Below.step HB1.out HR.out⟩
          rw [HTX.out, if_pos HFB.out.symm, show (⟨#[59]⟩ : ByteArray) = bs [59] from rfl, bs_app, HACC.out, HKE.out, List.append_assoc]
          rfl
    · have q1 : (c.kind == 1) = false := by rw [hk]; rfl
      have q2 : (c.kind == 2) = false := by rw [hk]; rfl
      have q3 : (c.kind == 3) = true := by rw [hk]; rfl
      have q4 : (c.kind == 4) = false := by rw [hk]; rfl
      have HPRE := hid (show (⟨#[99, 111, 114, 114, 101, 99, 116, 32]⟩ : ByteArray) ++ bs c.id = bs (pre c) by
        rw [show (⟨#[99, 111, 114, 114, 101, 99, 116, 32]⟩ : ByteArray) = bs (Li.kindWord c.kind ++ [32]) by rw [hk]; rfl, bs_app]
        unfold pre Li.dated
        rw [hk]
        simp)
      have HBC := HB2
      clear hk
      go_upto_region 11 with (fail)
      rw [HPRE.out]
      clear q1 q2 q3 q4
      go_loopw [4, 5] (fun ov iv wr => ∃ k : Nat, k ≤ l.length ∧ iv = .int .i64 k ∧ ov = .string (bs (pre c ++ ((l.map Prod.fst).take k).flatMap Li.quoted)) ∧ Hid (Below W1.heap.size W1 wr)) (fun _ iv _ => l.length - (RowKit.intOf iv).toNat)
      case atStart => exact ⟨0, Nat.zero_le _, rfl, by rw [List.take_zero, List.flatMap_nil, List.append_nil], HBC.out⟩
      case round =>
        obtain ⟨k, hk, rfl, rfl, HR⟩ := hrel
        obtain ⟨f0, f1, f2, f3, f4, zf⟩ := HC.out wr HR.out
        by_cases hlt : k < l.length
        · obtain ⟨y, hy⟩ : ∃ y, l[k]? = some y := ⟨_, List.getElem?_eq_getElem hlt⟩
          have HAR := hid ((HA.out.below HB1.out).below HR.out)
          obtain ⟨g, o, rfl, hr⟩ : ∃ g o, va = some ⟨g, o, none⟩ ∧ RowOf wr g o 2 nmC l := by
            obtain ⟨a', cap', ev, -, -, hr⟩ := HAR.out.sl
            cases ev
            exact hr (by omega)
          have e0 := hr.2 k y hy 0 _ rfl
          have e1 := hr.2 k y hy 1 _ rfl
          have hg := hr.1
          have hmem := List.mem_of_getElem? hy
          have HT := hid (rtext_any y.1.script y.1.words y.2 wr (HAR.out.at_ y hmem) (fun x hx => by have := HAR.out.short y hmem x hx; omega))
          obtain ⟨wa, wc, hwv, -⟩ := HAR.out.at_ y hmem
          have hok : Li.nmOk y.1 = true := HOK.out y.1 (List.mem_map_of_mem hmem)
          have hnl := Li.nameText_len hok
          have hql : (((l.map Prod.fst).take k).flatMap Li.quoted).length ≤ 163 * 8 := by
            have h1 := Li.names_len ((l.map Prod.fst).take k) (fun n hn => HOK.out n (List.mem_of_mem_take hn))
            rw [List.length_take, List.length_map] at h1
            have := HL8.out
            omega
          have HST := hid (show ((l.map Prod.fst).take (k + 1)).flatMap Li.quoted = ((l.map Prod.fst).take k).flatMap Li.quoted ++ Li.quoted y.1 by
            rw [List.take_add_one, List.getElem?_map, hy, List.flatMap_append]; simp)
          have hk0 : (0 : Int) ≤ (k : Int) := by omega
          have hk1 : (k : Int) < (l.length : Int) := by omega
          rw [Nat.add_zero] at e0
          obtain ⟨⟨sc, ws⟩, u⟩ := y
          simp only at hwv e0 e1 HT hok hnl HST
          subst hwv
          unfold RTxP at HT
          simp only [hok, if_true] at HT
          obtain ⟨nt, hnt⟩ : ∃ nt, nt = Li.nameText ⟨sc, ws⟩ := ⟨_, rfl⟩
          rw [← hnt] at HT hnl
          have HNT := hid hnt
          obtain ⟨acc, hacc⟩ : ∃ a, a = pre c ++ ((l.map Prod.fst).take k).flatMap Li.quoted := ⟨_, rfl⟩
          have hal : (bs acc).size ≤ 1500 := by rw [bs_len, hacc, List.length_append]; have := HPL.out; omega
          have hnl2 : (bs nt).size ≤ 160 := by rw [bs_len]; exact hnl
          rw [← hacc]
          have HACC := hid hacc
          clear hr hy hmem hok hnl hql hnt hacc
          go_wp2_with fail
          refine (HT.out).mono ?_
          rintro e w9 ⟨rfl, hb9⟩
          have HB9 := hid (Below.step HR.out hb9)
          clear hb9
          go_wp2_with fail
          go_roundw
          case rel =>
            refine ⟨k + 1, by omega, by go_num, ?_, HB9⟩
            rw [HST.out, show (⟨#[32, 34]⟩ : ByteArray) = bs [32, 34] from rfl, show (⟨#[34]⟩ : ByteArray) = bs [34] from rfl, bs_app, bs_app, bs_app, ← List.append_assoc, ← HACC.out]
            unfold Li.quoted
            rw [← HNT.out]
            simp
          case measure => simp [RowKit.intOf]; omega
        · have hk1 : ¬ (k : Int) < (l.length : Int) := by omega
          have HKE := hid (show (l.map Prod.fst).take k = l.map Prod.fst from List.take_of_length_le (by rw [List.length_map]; omega))
          have hql := Li.names_len (l.map Prod.fst) HOK.out
          rw [List.length_map] at hql
          obtain ⟨acc, hacc⟩ : ∃ a, a = pre c ++ ((l.map Prod.fst).take k).flatMap Li.quoted := ⟨_, rfl⟩
          have hal : (bs acc).size ≤ 1500 := by rw [bs_len, hacc, HKE.out, List.length_append]; have := HPL.out; have := HL8.out; omega
          rw [← hacc]
          have HACC := hid hacc
          clear hacc hql
          go_wp2_with fail
          go_ret2
          refine ⟨?_, Below.step HB1.out HR.out⟩
          rw [HTX.out, if_pos HFB.out.symm, show (⟨#[59]⟩ : ByteArray) = bs [59] from rfl, bs_app, HACC.out, HKE.out, List.append_assoc]
          rfl
    · have q1 : (c.kind == 1) = false := by rw [hk]; rfl
      have q2 : (c.kind == 2) = false := by rw [hk]; rfl
      have q3 : (c.kind == 3) = false := by rw [hk]; rfl
      have q4 : (c.kind == 4) = true := by rw [hk]; rfl
      have HPRE := hid (show (⟨#[118, 111, 105, 100, 32]⟩ : ByteArray) ++ bs c.id = bs (pre c) by
        rw [show (⟨#[118, 111, 105, 100, 32]⟩ : ByteArray) = bs (Li.kindWord c.kind ++ [32]) by rw [hk]; rfl, bs_app]
        unfold pre Li.dated
        rw [hk]
        simp)
      have HBC := HB2
      clear hk
      go_upto_region 11 with (fail)
      rw [HPRE.out]
      clear q1 q2 q3 q4
      go_loopw [4, 5] (fun ov iv wr => ∃ k : Nat, k ≤ l.length ∧ iv = .int .i64 k ∧ ov = .string (bs (pre c ++ ((l.map Prod.fst).take k).flatMap Li.quoted)) ∧ Hid (Below W1.heap.size W1 wr)) (fun _ iv _ => l.length - (RowKit.intOf iv).toNat)
      case atStart => exact ⟨0, Nat.zero_le _, rfl, by rw [List.take_zero, List.flatMap_nil, List.append_nil], HBC.out⟩
      case round =>
        obtain ⟨k, hk, rfl, rfl, HR⟩ := hrel
        obtain ⟨f0, f1, f2, f3, f4, zf⟩ := HC.out wr HR.out
        by_cases hlt : k < l.length
        · obtain ⟨y, hy⟩ : ∃ y, l[k]? = some y := ⟨_, List.getElem?_eq_getElem hlt⟩
          have HAR := hid ((HA.out.below HB1.out).below HR.out)
          obtain ⟨g, o, rfl, hr⟩ : ∃ g o, va = some ⟨g, o, none⟩ ∧ RowOf wr g o 2 nmC l := by
            obtain ⟨a', cap', ev, -, -, hr⟩ := HAR.out.sl
            cases ev
            exact hr (by omega)
          have e0 := hr.2 k y hy 0 _ rfl
          have e1 := hr.2 k y hy 1 _ rfl
          have hg := hr.1
          have hmem := List.mem_of_getElem? hy
          have HT := hid (rtext_any y.1.script y.1.words y.2 wr (HAR.out.at_ y hmem) (fun x hx => by have := HAR.out.short y hmem x hx; omega))
          obtain ⟨wa, wc, hwv, -⟩ := HAR.out.at_ y hmem
          have hok : Li.nmOk y.1 = true := HOK.out y.1 (List.mem_map_of_mem hmem)
          have hnl := Li.nameText_len hok
          have hql : (((l.map Prod.fst).take k).flatMap Li.quoted).length ≤ 163 * 8 := by
            have h1 := Li.names_len ((l.map Prod.fst).take k) (fun n hn => HOK.out n (List.mem_of_mem_take hn))
            rw [List.length_take, List.length_map] at h1
            have := HL8.out
            omega
          have HST := hid (show ((l.map Prod.fst).take (k + 1)).flatMap Li.quoted = ((l.map Prod.fst).take k).flatMap Li.quoted ++ Li.quoted y.1 by
            rw [List.take_add_one, List.getElem?_map, hy, List.flatMap_append]; simp)
          have hk0 : (0 : Int) ≤ (k : Int) := by omega
          have hk1 : (k : Int) < (l.length : Int) := by omega
          rw [Nat.add_zero] at e0
          obtain ⟨⟨sc, ws⟩, u⟩ := y
          simp only at hwv e0 e1 HT hok hnl HST
          subst hwv
          unfold RTxP at HT
          simp only [hok, if_true] at HT
          obtain ⟨nt, hnt⟩ : ∃ nt, nt = Li.nameText ⟨sc, ws⟩ := ⟨_, rfl⟩
          rw [← hnt] at HT hnl
          have HNT := hid hnt
          obtain ⟨acc, hacc⟩ : ∃ a, a = pre c ++ ((l.map Prod.fst).take k).flatMap Li.quoted := ⟨_, rfl⟩
          have hal : (bs acc).size ≤ 1500 := by rw [bs_len, hacc, List.length_append]; have := HPL.out; omega
          have hnl2 : (bs nt).size ≤ 160 := by rw [bs_len]; exact hnl
          rw [← hacc]
          have HACC := hid hacc
          clear hr hy hmem hok hnl hql hnt hacc
          go_wp2_with fail
          refine (HT.out).mono ?_
          rintro e w9 ⟨rfl, hb9⟩
          have HB9 := hid (Below.step HR.out hb9)
          clear hb9
          go_wp2_with fail
          go_roundw
          case rel =>
            refine ⟨k + 1, by omega, by go_num, ?_, HB9⟩
            rw [HST.out, show (⟨#[32, 34]⟩ : ByteArray) = bs [32, 34] from rfl, show (⟨#[34]⟩ : ByteArray) = bs [34] from rfl, bs_app, bs_app, bs_app, ← List.append_assoc, ← HACC.out]
            unfold Li.quoted
            rw [← HNT.out]
            simp
          case measure => simp [RowKit.intOf]; omega
        · have hk1 : ¬ (k : Int) < (l.length : Int) := by omega
          have HKE := hid (show (l.map Prod.fst).take k = l.map Prod.fst from List.take_of_length_le (by rw [List.length_map]; omega))
          have hql := Li.names_len (l.map Prod.fst) HOK.out
          rw [List.length_map] at hql
          obtain ⟨acc, hacc⟩ : ∃ a, a = pre c ++ ((l.map Prod.fst).take k).flatMap Li.quoted := ⟨_, rfl⟩
          have hal : (bs acc).size ≤ 1500 := by rw [bs_len, hacc, HKE.out, List.length_append]; have := HPL.out; have := HL8.out; omega
          rw [← hacc]
          have HACC := hid hacc
          clear hacc hql
          go_wp2_with fail
          go_ret2
          refine ⟨?_, Below.step HB1.out HR.out⟩
          rw [HTX.out, if_pos HFB.out.symm, show (⟨#[59]⟩ : ByteArray) = bs [59] from rfl, bs_app, HACC.out, HKE.out, List.append_assoc]
          rfl

end Go.Proofs.YtidkmhokolknbaaGreatDoor

namespace Go.Proofs.YtidkmhokolknbaaGreatDoor
open Go.RowKit Go.Lib Go.Maps

section
variable {P : Program}
theorem run_append_owned_nil (w : World) (base : Nat) (t ty e : TypeId) (i : TypeInfo) (size : Nat) (ht : P.underlying t = some (.slice e)) (hi : P.info? e = some i)
    (v : Value) (n : Nat) (xs : List Value) (hown : w.ownsRow base e size v n xs) (c : Nat) : (Builtin.append_ #[t, t] ty #[v, .slice none 0 c]).run P w = .ok v w := by
  rcases hown.2 with ⟨rfl, rfl⟩ | ⟨g, cap, cur, rfl, _, _, hnc, _⟩
  · simp [Builtin.append_, run_underlying ht, sizeOf, typeInfo, hi, Builtin.lenOf, Builtin.firstCells]
  · simp [Builtin.append_, run_underlying ht, sizeOf, typeInfo, hi, Builtin.lenOf, Builtin.firstCells, hnc, storeCells]

/-- append of a slice that reads as a list to a row of the call's own, at the operation -/
theorem wp_append_list {α : Type} {sz : Nat} {cells : α → List Value} {l : List α} {w : World} {o : Oper} {a : Act} {K : Act → World → Prop} {Q : Exit → Act → World → Prop} (s x : Operand) (t : TypeId)
    (ho : o.op = .call { callee := .builtin .append, args := #[s, x], argTypes := #[t, t] })
    (base : Nat) (e : TypeId) (i : TypeInfo) (z : Value) (bytes : Nat) (ht : P.underlying t = some (.slice e)) (hi : P.info? e = some i) (hz : i.zero = some z)
    (hsize : i.size = sz) (hby : i.bytes = bytes) (hzs : z.cells.size = sz) (hsz : 0 < sz)
    (v : Value) (n : Nat) (xs : List Value) (hs : a.eval s = v) (hown : w.ownsRow base e sz v n xs)
    (u : Value) (hx : a.eval x = u) (hr : SlOf w u sz cells l) (hcl : ∀ x, (cells x).length = sz) (h1 : ∀ u ∈ l.flatMap cells, u.oneCell' = true)
    (h63 : n + l.length ≤ maxLen) (hbytes : (n + l.length) * bytes ≤ 140737488355328) (hbase : base ≤ w.heap.size)
    (h : ∀ v' w', w'.ownsRow base e sz v' (n + l.length) (xs ++ l.flatMap cells) → w.grownBy w' v.ownBlock → (v'.ownBlock = v.ownBlock ∨ v'.ownBlock = some w.heap.size) → K (a.put o.dst v') w') : o.wp P a w K Q := by
  obtain ⟨ad, cap, rfl, k1, k2, k3⟩ := hr
  cases ad with
  | some b =>
    have hnews : ∀ j u, (l.flatMap cells)[j]? = some u → w.cell? (b.add j) = some u := by
      intro j u hu
      by_cases h0 : 0 < l.length
      · obtain ⟨g, o, e2, hr⟩ := k3 h0
        cases e2
        exact flatCells hcl hr j u hu
      · have : l = [] := List.eq_nil_of_length_eq_zero (by omega)
        subst this
        simp at hu
    obtain ⟨v', w', hr, h2, h3, _, h5⟩ := run_append_own_at (P := P) w base t o.type e i z sz bytes ht hi hz hsize hby hzs hsz v n xs hown b l.length cap (l.flatMap cells) (flatLen l hcl) hnews h1 h63 hbytes hbase
    unfold Oper.wp execOp
    simp only [ho, resolve, invoke, builtin, Sem.run_bind, Sem.run_pure, Result.andThen_ok, List.map_toArray, List.map_cons, List.map_nil, hs, hx, hr]
    exact h v' w' h2 h3 h5
  | none =>
    have h0 : l = [] := by
      rcases Nat.eq_zero_or_pos l.length with h | h
      · exact List.eq_nil_of_length_eq_zero h
      · obtain ⟨g, o, e2, _⟩ := k3 h
        cases e2
    subst h0
    have hrun := run_append_owned_nil (P := P) w base t o.type e i sz ht hi v n xs hown cap
    unfold Oper.wp
    simp [execOp, ho, resolve, invoke, builtin, hs, hx, hrun, Result.andThen]
    exact h v w (by simpa using hown) (World.grownBy.refl w _) (.inl rfl)
end


theorem flat_set1 {l : List (Li.Ls × Value)} {k j : Nat} {q q' : Li.Ls × Value} {u : Value} (hq : l[k]? = some q) (hj : j < 5) (hc : (lsC q).set j u = lsC q') : (l.flatMap lsC).set (k * 5 + j) u = (l.set k q').flatMap lsC := by
  induction l generalizing k with
  | nil => simp at hq
  | cons y l ih =>
    cases k with
    | zero =>
      simp at hq
      subst hq
      rw [List.set_cons_zero, List.flatMap_cons, List.flatMap_cons, Nat.zero_mul, Nat.zero_add, List.set_append_left _ _ (by simp [lsC]; omega), hc]
    | succ k =>
      simp at hq
      rw [List.set_cons_succ, List.flatMap_cons, List.flatMap_cons, List.set_append_right _ _ (by simp [lsC]; omega), ← ih hq]
      congr 2
      simp [lsC]
      omega
theorem findI_none {l : List Li.Ls} {a : List UInt8} (h : Li.find l a = none) : findI l a = -1 := by unfold findI; rw [h]
theorem findI_at {l : List Li.Ls} {a : List UInt8} {k : Nat} (h : Li.find l a = some k) : findI l a = (k : Int) := by unfold findI; rw [h]

end Go.Proofs.YtidkmhokolknbaaGreatDoor

namespace Go.Proofs.YtidkmhokolknbaaGreatDoor
open Go.RowKit Go.Lib Go.Maps

set_option maxRecDepth 100000 in
set_option maxHeartbeats 16000000 in
theorem rapply_any (c : Li.Ch) (u : Value) (ps : List (Li.Ls × Value)) (v : Value) (w : World) (h : LssAt w v ps) (hd : ps.length ≤ 5000) (hn : NmsIn w u c.en.names) (hs : c.id.length ≤ 5000) (hs2 : c.en.id.length ≤ 5000) :
    Calls Tryz.prog 15 #[v, .agg #[.int .i64 c.kind, .string (bs c.id), .string (bs c.en.id), u, .int .i64 c.at_]] w (ApplyP ps u c w) := by
  obtain ⟨i0, hi, hz0, hz1, hz2⟩ := info_parts Tryz.infoLs
  have HLS := hid h
  have HN := hid hn
  obtain ⟨na, nc, rfl⟩ := hn.slice
  have HONE := hid (ls_one ps (fun p hp => (h.nm p hp).one))
  obtain ⟨W1, hW1⟩ : ∃ W1, W1 = w.alloc (.cells #[.int .i64 c.kind, .string (bs c.id), .string (bs c.en.id), .slice na c.en.names.length nc, .int .i64 c.at_] 27) := ⟨_, rfl⟩
  have HX := hid (ChBox.new hW1)
  have HB1 := hid HX.out.below
  have HV := hid (rvalidL_any ps v W1 (h.below HB1.out))
  obtain ⟨⟨va, cap, rfl, -, -, -⟩, -, -⟩ := h
  have hwl : ps.length ≤ 9223372036854775807 := by omega
  obtain ⟨vb, hvb⟩ : ∃ b, b = Li.properL (ps.map Prod.fst) := ⟨_, rfl⟩
  rw [← hvb] at HV
  have HVB := hid hvb
  clear hvb hn
  go_enter Tryz.func15, Tryz.ntmps15
  go_upto_region 1 with (fail)
  rw [← hW1]
  clear hW1
  go_wp2_with fail
  refine (HV.out).mono ?_
  rintro e w2 ⟨rfl, hb2⟩
  have HB2 := hid (Below.step HB1.out hb2)
  have HX2 := hid (HX.out.step hb2)
  clear hb2
  cases vb with
  | false =>
    have HE2 := hid (Li.apply_args (l := ps.map Prod.fst) (c := c) (by rw [← HVB.out]; rfl))
    go_wp2_with fail
    go_ret2
    exact ApplyP.err HE2.out HB2.out
  | true =>
    have HF := hid (rformed_any c _ w2 (HN.out.below HB2.out) hs hs2)
    obtain ⟨fb, hfb⟩ : ∃ b, b = Li.formed c := ⟨_, rfl⟩
    rw [← hfb] at HF
    have HFB := hid hfb
    obtain ⟨c0, c1, c2, c3, c4, z1, -⟩ := HX2.out
    clear hfb
    go_wp2_with fail
    refine (HF.out).mono ?_
    rintro e w3 ⟨rfl, hb3⟩
    have HB3 := hid (Below.step HB2.out hb3)
    have HX3 := hid (HX2.out.step hb3)
    clear hb3 c0 c1 c2 c3 c4 z1
    cases fb with
    | false =>
      have HE2 := hid (Li.apply_args (l := ps.map Prod.fst) (c := c) (by rw [← HVB.out, ← HFB.out]; rfl))
      go_wp2_with fail
      go_ret2
      exact ApplyP.err HE2.out HB3.out
    | true =>
      have HFD := hid (fun W (hW : Below w.heap.size w W) => rFind_any ps _ c.id W (HLS.out.sl.below hW))
      obtain ⟨c0, c1, c2, c3, c4, z1, -⟩ := HX3.out
      obtain ⟨fi, hfi⟩ : ∃ fi, fi = findI (ps.map Prod.fst) c.id := ⟨_, rfl⟩
      have HFI := hid hfi
      rw [← hfi] at HFD
      clear hfi
      go_wp2_with fail
      refine (HFD.out _ HB3.out).mono ?_
      rintro e w4 ⟨rfl, hw4⟩
      have HB4 := hid (show Below w.heap.size w w4 by rw [hw4]; exact HB3.out)
      have HX4 := hid (show ChBox w w4 c.kind c.id c.en.id (.slice na c.en.names.length nc) c.at_ by rw [hw4]; exact HX3.out)
      clear hw4 c0 c1 c2 c3 c4 z1
      have hown : (w4.alloc (.cells #[] 50)).ownsRow w.heap.size 50 5 (.slice (some ⟨w4.heap.size, 0, none⟩) 0 0) 0 [] := World.ownsRow_made w4 #[] 0 HB4.out.size (by unfold maxLen; omega) rfl
      have hsl : SlOf (w4.alloc (.cells #[] 50)) (.slice va ps.length cap) 5 lsC ps := HLS.out.sl.below (HB4.out.alloc HB4.out.size _)
      have hz4 := HB4.out.size
      go_upto_region 5 with (at_builtin; refine wpList_plain rfl fun _ hK => ?_; refine wp_append_list _ _ 22 rfl w.heap.size 50 i0 (.agg #[.string ⟨#[]⟩, .slice none 0 0, .int .i64 0, .int .i64 0, .bool false]) 64 Tryz.underlying22 hi hz0 hz1 hz2 rfl (by decide) _ 0 [] rfl hown _ rfl hsl (fun _ => rfl) HONE.out (by unfold maxLen; omega) (by omega) (by simp; omega) ?_; intro v5 w5 ho5 hg5 _; refine hK _ _ ?_)
      rw [Nat.zero_add, List.nil_append] at ho5
      have hb45 : Below w4.heap.size w4 w5 := ((Below.refl _ w4).alloc (Nat.le_refl _) _).grown hg5 (by simp) (fun r e => by cases e; simp)
      have HB5 := hid (Below.step HB4.out hb45)
      have HX5 := hid (HX4.out.step hb45)
      have HO5 := hid ho5
      clear hown hsl hz4 ho5 hg5 hb45
      obtain ⟨c0, c1, c2, c3, c4, z1, -⟩ := HX5.out
      obtain ⟨a5, k5, rfl⟩ := ownsRow_slice HO5.out
      have HVB' := hid HVB.out.symm
      have HFB' := hid HFB.out.symm
      by_cases hk1 : c.kind = 1
      · have q1 : (c.kind == 1) = true := by rw [hk1]; rfl
        have HK := hid hk1
        clear hk1
        cases hfi : Li.find (ps.map Prod.fst) c.id with
        | some j =>
          have HE2 := hid (show Li.apply (ps.map Prod.fst) c = ([], 9) by rw [Li.apply_one HVB'.out HFB'.out HK.out, hfi])
          have hfj := HFI.out.trans (findI_at hfi)
          have g0 : decide ((0 : Int) ≤ fi) = true := decide_eq_true (by omega)
          clear hfi hfj
          go_wp2_with fail
          go_ret2
          exact ApplyP.err HE2.out HB5.out
        | none =>
          have hfj := HFI.out.trans (findI_none hfi)
          have g0 : decide ((0 : Int) ≤ fi) = false := decide_eq_false (by omega)
          have hl4 := (Li.properL_parts HVB'.out).2.2
          rw [List.length_map] at hl4
          by_cases h4 : ps.length = 400
          · have HE2 := hid (show Li.apply (ps.map Prod.fst) c = ([], 2) by
              rw [Li.apply_one HVB'.out HFB'.out HK.out, hfi]
              simp only
              rw [if_pos (by rw [List.length_map]; exact h4)])
            have g4 : decide ((400 : Int) ≤ (ps.length : Int)) = true := decide_eq_true (by omega)
            have g4' : decide (400 ≤ ps.length) = true := decide_eq_true (by omega)
            clear hfi hfj h4 hl4
            go_wp2_with fail
            go_ret2
            exact ApplyP.err HE2.out HB5.out
          · have HE2 := hid (show Li.apply (ps.map Prod.fst) c = (ps.map Prod.fst ++ [⟨c.en, c.at_, -1, false⟩], 0) by
              rw [Li.apply_one HVB'.out HFB'.out HK.out, hfi]
              simp only
              rw [if_neg (by rw [List.length_map]; exact h4)])
            have g4 : decide ((400 : Int) ≤ (ps.length : Int)) = false := decide_eq_false (by omega)
            have g4' : decide (400 ≤ ps.length) = false := decide_eq_false (by omega)
            have hown6 := HO5.out.alloc (.cells #[.string (bs c.en.id), .slice na c.en.names.length nc, .int .i64 c.at_, .int .i64 (-1), .bool false] 50)
            have hz5 := HB5.out.size
            clear hfi hfj h4 hl4
            go_wp2_with (at_builtin; refine wpList_append_own _ rfl _ _ 22 rfl w.heap.size 50 i0 (.agg #[.string ⟨#[]⟩, .slice none 0 0, .int .i64 0, .int .i64 0, .bool false]) 5 64 Tryz.underlying22 hi hz0 hz1 hz2 rfl (by decide) _ _ _ rfl hown6 ⟨w5.heap.size, 0, none⟩ 1 1 [.string (bs c.en.id), .slice na c.en.names.length nc, .int .i64 c.at_, .int .i64 (-1), .bool false] rfl rfl (cells_new rfl) (by simp [Value.oneCell']) (by unfold maxLen; omega) (by omega) (by simp; omega) ?_; intro v8 w8 ho8 hg8 _)
            go_ret2
            refine ⟨v8, ps ++ [(⟨c.en, c.at_, -1, false⟩, .slice na c.en.names.length nc)], by rw [HE2.out]; rfl, by rw [HE2.out]; simp, by rw [List.length_append, List.flatMap_append]; exact ho8, fun N h1 h2 p hp => ?_, Below.appended (HB5.out.alloc hz5 _) hg8 (by simp; omega) hown6⟩
            rcases List.mem_append.1 hp with hp | hp
            · exact h1 p hp
            · simp only [List.mem_singleton] at hp
              subst hp
              exact h2
      · have q1 : (c.kind == 1) = false := beq_eq_false_iff_ne.2 hk1
        have HK := hid hk1
        clear hk1
        cases hfi : Li.find (ps.map Prod.fst) c.id with
        | none =>
          have HE2 := hid (Li.apply_none HVB'.out HFB'.out HK.out hfi)
          have hfj := HFI.out.trans (findI_none hfi)
          have g0 : decide (fi < 0) = true := decide_eq_true (by omega)
          clear hfi hfj
          go_wp2_with fail
          go_ret2
          exact ApplyP.err HE2.out HB5.out
        | some k =>
          obtain ⟨x, hx, hxid⟩ := Li.find_some hfi
          have HE := hid (Li.apply_some HVB'.out HFB'.out HK.out hfi hx)
          obtain rfl : fi = (k : Int) := HFI.out.trans (findI_at hfi)
          have hk : k < ps.length := by have := (List.getElem?_eq_some_iff.1 hx).1; rwa [List.length_map] at this
          obtain ⟨q, hq⟩ : ∃ q, ps[k]? = some q := ⟨_, List.getElem?_eq_getElem hk⟩
          have hqx : q.1 = x := by
            rw [List.getElem?_map, hq] at hx
            exact Option.some.inj hx
          subst hqx
          have HXI := hid hxid
          obtain ⟨ma, mc, hv⟩ := (HLS.out.nm q (List.mem_of_getElem? hq)).slice
          obtain ⟨g, o, rfl, hr⟩ : ∃ g o, va = some ⟨g, o, none⟩ ∧ RowOf w5 g o 5 lsC ps := by
            obtain ⟨a', cap', ev, -, -, hr⟩ := HLS.out.sl.below HB5.out
            cases ev
            exact hr (by omega)
          obtain ⟨g7, rfl⟩ : ∃ g, a5 = some ⟨g, 0, none⟩ := by
            rcases HO5.out.2 with ⟨_, h0⟩ | ⟨g, cap', cur, h0, _⟩
            · omega
            · exact ⟨g, (Value.slice.inj h0).1⟩
          have hr7 : ∀ (j : Nat) (v : Value), (lsC q)[j]? = some v → w5.cell? ⟨g7, 0 + k * 5 + j, none⟩ = some v := by
            obtain ⟨a', cap', ev, -, -, hr⟩ := SlOf.own HO5.out (fun _ _ => rfl)
            have ev2 := (Value.slice.inj ev).1
            obtain ⟨g, o, ea, hr⟩ := hr (by omega)
            rw [← ev2] at ea
            cases ea
            exact hr.2 k _ hq
          have hcc := hr.2 k q hq
          have e0 := hcc 0 _ rfl
          have e1 := hcc 1 _ rfl
          have e2 := hcc 2 _ rfl
          have e3 := hcc 3 _ rfl
          have e4 := hcc 4 _ rfl
          have y1 := hr7 1 _ rfl
          have y3 := hr7 3 _ rfl
          have y4 := hr7 4 _ rfl
          rw [Nat.zero_add] at y1 y3 y4
          have hg := hr.1
          have hg7 : g7 < w5.heap.size := (HO5.out.lt g7 rfl).2
          have r1 := HO5.out.frozenAt (k * 5 + 1)
          have r3 := HO5.out.frozenAt (k * 5 + 3)
          have r4 := HO5.out.frozenAt (k * 5 + 4)
          have HQ := hid hq
          have hk0 : (0 : Int) ≤ (k : Int) := by omega
          have hkl : (k : Int) < (ps.length : Int) := by omega
          have hkz : decide ((k : Int) < 0) = false := decide_eq_false (by omega)
          clear hcc hr hr7 hq hx hxid hfi
          obtain ⟨⟨⟨xid, xns⟩, fr, tt, vd⟩, xu⟩ := q
          simp only at hv e0 e1 e2 e3 e4 y1 y3 y4 HE HXI
          subst hv
          rw [Nat.add_zero] at e0
          have hrv : Li.refusal ⟨⟨xid, xns⟩, fr, tt, vd⟩ c = if vd = true ∨ (c.kind = 2 ∧ tt ≠ -1) then 12 else if c.kind = 2 ∧ c.at_ ≤ fr then 14 else 0 := rfl
          have HRV := hid hrv
          have HKK := hid (show c.kind = 2 ∨ c.kind = 3 ∨ c.kind = 4 by have := (Li.formed_parts HFB'.out).2.1; have := (Li.formed_parts HFB'.out).2.2.1; have := HK.out; omega)
          clear hrv
          cases vd with
          | true =>
            have HE2 := hid (show Li.apply (ps.map Prod.fst) c = ([], 12) by rw [HE.out, HRV.out]; simp)
            go_wp2_with fail
            go_ret2
            exact ApplyP.err HE2.out HB5.out
          | false =>
            rcases HKK.out with hk2 | hk3 | hk4
            · have q2 : (c.kind == 2) = true := by rw [hk2]; rfl
              have q3 : (c.kind == 3) = false := by rw [hk2]; rfl
              have q4 : (c.kind == 4) = false := by rw [hk2]; rfl
              by_cases ht : tt = -1
              · have t1 : (tt != -1) = false := by rw [ht]; rfl
                by_cases hle : c.at_ ≤ fr
                · have p1 : decide (c.at_ ≤ fr) = true := decide_eq_true hle
                  have HE2 := hid (show Li.apply (ps.map Prod.fst) c = ([], 14) by
                    rw [HE.out, HRV.out]
                    simp [hk2, ht, hle])
                  clear hk2 ht hle
                  go_upto_region 16 with (fail)
                  refine wp_heldS (S := StillAt w5) (by kernel_rfl) ?_
                  simp only [List.size_toArray, List.length_cons, List.length_nil, Nat.reduceAdd]
                  intro hc
                  have S0 : StillAt w5 (Array.replicate 8 false) w5.drew := (Below.refl _ _).drew
                  refine wpAnyS_take (i := 0) (v := .pointer (some ⟨w.heap.size, 4, none⟩)) rfl (by kernel_rfl) (by kernel_rfl) (by kernel_rfl) (fun _ _ _ h => h) (fun _ _ => Iff.rfl) hc (by first | rfl | simp [Region.wanted]) (fun wx hx => ?_) S0 (fun hc S0 => ?_)
                  · go_simp
                  try simp only [List.getElem_toArray, List.getElem_cons_zero, Act.put, List.setIfInBounds_toArray, List.set_cons_zero, List.set_cons_succ]
                  refine wpAnyS_take (i := 1) (v := .int .i64 c.at_) rfl (by kernel_rfl) (by kernel_rfl) (by kernel_rfl) (fun _ _ _ h => h) (fun _ _ => Iff.rfl) hc (by first | rfl | simp [Region.wanted]) (fun wx hx => ?_) S0 (fun hc S0 => ?_)
                  · have g := (hx.still.cell (p := ⟨w.heap.size, 4, none⟩) z1).trans c4
                    go_simp
                  try simp only [List.getElem_toArray, List.getElem_cons_succ, List.getElem_cons_zero, Act.put, List.setIfInBounds_toArray, List.set_cons_zero, List.set_cons_succ]
                  refine wpAnyS_take (i := 2) (v := .slice (some ⟨g, o, none⟩) ps.length cap) rfl (by kernel_rfl) (by kernel_rfl) (by kernel_rfl) (fun _ _ _ h => h) (fun _ _ => Iff.rfl) hc (by first | rfl | simp [Region.wanted]) (fun wx hx => ?_) S0 (fun hc S0 => ?_)
                  · go_simp
                  try simp only [List.getElem_toArray, List.getElem_cons_succ, List.getElem_cons_zero, Act.put, List.setIfInBounds_toArray, List.set_cons_zero, List.set_cons_succ]
                  refine wpAnyS_take (i := 3) (v := .int .i64 k) rfl (by kernel_rfl) (by kernel_rfl) (by kernel_rfl) (fun _ _ _ h => h) (fun _ _ => Iff.rfl) hc (by first | rfl | simp [Region.wanted]) (fun wx hx => ?_) S0 (fun hc S0 => ?_)
                  · go_simp
                  try simp only [List.getElem_toArray, List.getElem_cons_succ, List.getElem_cons_zero, Act.put, List.setIfInBounds_toArray, List.set_cons_zero, List.set_cons_succ]
                  refine wpAnyS_take (i := 4) (v := .pointer (some ⟨g, o + k * 5, none⟩)) rfl (by kernel_rfl) (by kernel_rfl) (by kernel_rfl) (fun _ _ _ h => h) (fun _ _ => Iff.rfl) hc (by first | rfl | simp [Region.wanted]) (fun wx hx => ?_) S0 (fun hc S0 => ?_)
                  · go_simp
                  try simp only [List.getElem_toArray, List.getElem_cons_succ, List.getElem_cons_zero, Act.put, List.setIfInBounds_toArray, List.set_cons_zero, List.set_cons_succ]
                  refine wpAnyS_take (i := 5) (v := .pointer (some ⟨g, o + k * 5 + 2, none⟩)) rfl (by kernel_rfl) (by kernel_rfl) (by kernel_rfl) (fun _ _ _ h => h) (fun _ _ => Iff.rfl) hc (by first | rfl | simp [Region.wanted]) (fun wx hx => ?_) S0 (fun hc S0 => ?_)
                  · go_simp
                  try simp only [List.getElem_toArray, List.getElem_cons_succ, List.getElem_cons_zero, Act.put, List.setIfInBounds_toArray, List.set_cons_zero, List.set_cons_succ]
                  refine wpAnyS_take (i := 6) (v := .int .i64 fr) rfl (by kernel_rfl) (by kernel_rfl) (by kernel_rfl) (fun _ _ _ h => h) (fun _ _ => Iff.rfl) hc (by first | rfl | simp [Region.wanted]) (fun wx hx => ?_) S0 (fun hc S0 => ?_)
                  · have g' := (hx.still.cell (p := ⟨g, o + k * 5 + 2, none⟩) hg).trans e2
                    go_simp
                  try simp only [List.getElem_toArray, List.getElem_cons_succ, List.getElem_cons_zero, Act.put, List.setIfInBounds_toArray, List.set_cons_zero, List.set_cons_succ]
                  refine wpAnyS_one (i := 7) rfl (by kernel_rfl) (by rfl) hc (fun K' hK => ?_)
                  go_simp
                  refine hK.out _ _ (Below.refl _ _).drew (fun hc => ?_)
                  clear hK K'
                  have S0 : StillAt w5 #[] w5.drew := (Below.refl _ _).drew
                  try simp only [List.getElem_toArray, List.getElem_cons_succ, List.getElem_cons_zero, Act.put, List.setIfInBounds_toArray, List.set_cons_zero, List.set_cons_succ]
                  refine wpAnyS_done (by kernel_rfl) ?_ _
                  clear hc S0
                  obtain ⟨w6, hw6⟩ : ∃ w6, w6 = w5.drew := ⟨_, rfl⟩
                  rw [← hw6]
                  have HB56 := hid (show Below w5.heap.size w5 w6 by rw [hw6]; exact (Below.refl _ _).drew)
                  have HB6 := hid (Below.step HB5.out HB56.out)
                  have HO6 := hid (ownsRow_below HO5.out HB56.out)
                  have HX6 := hid (HX5.out.step HB56.out)
                  have y3' := (HB56.out.cell (p := ⟨g7, k * 5 + 3, none⟩) hg7).trans y3
                  have hg7' := Nat.lt_of_lt_of_le hg7 HB56.out.size
                  have r3' := HO6.out.frozenAt (k * 5 + 3)
                  clear hw6 c0 c1 c2 c3 c4 z1 e0 e1 e2 e3 e4 y1 y3 y4 r1 r3 r4 hg hg7
                  obtain ⟨c0, c1, c2, c3, c4, z1, -⟩ := HX6.out
                  go_wp2_with fail
                  go_ret2
                  exact ApplyP.err HE2.out HB6.out
                · have p1 : decide (c.at_ ≤ fr) = false := decide_eq_false hle
                  have HE2 := hid (show Li.apply (ps.map Prod.fst) c = ((ps.map Prod.fst).set k ⟨⟨xid, xns⟩, fr, c.at_, false⟩, 0) by
                    rw [HE.out, HRV.out]
                    simp [Li.upd, hk2, ht, hle])
                  clear hk2 ht hle
                  go_upto_region 16 with (fail)
                  refine wp_heldS (S := StillAt w5) (by kernel_rfl) ?_
                  simp only [List.size_toArray, List.length_cons, List.length_nil, Nat.reduceAdd]
                  intro hc
                  have S0 : StillAt w5 (Array.replicate 8 false) w5.drew := (Below.refl _ _).drew
                  refine wpAnyS_take (i := 0) (v := .pointer (some ⟨w.heap.size, 4, none⟩)) rfl (by kernel_rfl) (by kernel_rfl) (by kernel_rfl) (fun _ _ _ h => h) (fun _ _ => Iff.rfl) hc (by first | rfl | simp [Region.wanted]) (fun wx hx => ?_) S0 (fun hc S0 => ?_)
                  · go_simp
                  try simp only [List.getElem_toArray, List.getElem_cons_zero, Act.put, List.setIfInBounds_toArray, List.set_cons_zero, List.set_cons_succ]
                  refine wpAnyS_take (i := 1) (v := .int .i64 c.at_) rfl (by kernel_rfl) (by kernel_rfl) (by kernel_rfl) (fun _ _ _ h => h) (fun _ _ => Iff.rfl) hc (by first | rfl | simp [Region.wanted]) (fun wx hx => ?_) S0 (fun hc S0 => ?_)
                  · have g := (hx.still.cell (p := ⟨w.heap.size, 4, none⟩) z1).trans c4
                    go_simp
                  try simp only [List.getElem_toArray, List.getElem_cons_succ, List.getElem_cons_zero, Act.put, List.setIfInBounds_toArray, List.set_cons_zero, List.set_cons_succ]
                  refine wpAnyS_take (i := 2) (v := .slice (some ⟨g, o, none⟩) ps.length cap) rfl (by kernel_rfl) (by kernel_rfl) (by kernel_rfl) (fun _ _ _ h => h) (fun _ _ => Iff.rfl) hc (by first | rfl | simp [Region.wanted]) (fun wx hx => ?_) S0 (fun hc S0 => ?_)
                  · go_simp
                  try simp only [List.getElem_toArray, List.getElem_cons_succ, List.getElem_cons_zero, Act.put, List.setIfInBounds_toArray, List.set_cons_zero, List.set_cons_succ]
                  refine wpAnyS_take (i := 3) (v := .int .i64 k) rfl (by kernel_rfl) (by kernel_rfl) (by kernel_rfl) (fun _ _ _ h => h) (fun _ _ => Iff.rfl) hc (by first | rfl | simp [Region.wanted]) (fun wx hx => ?_) S0 (fun hc S0 => ?_)
                  · go_simp
                  try simp only [List.getElem_toArray, List.getElem_cons_succ, List.getElem_cons_zero, Act.put, List.setIfInBounds_toArray, List.set_cons_zero, List.set_cons_succ]
                  refine wpAnyS_take (i := 4) (v := .pointer (some ⟨g, o + k * 5, none⟩)) rfl (by kernel_rfl) (by kernel_rfl) (by kernel_rfl) (fun _ _ _ h => h) (fun _ _ => Iff.rfl) hc (by first | rfl | simp [Region.wanted]) (fun wx hx => ?_) S0 (fun hc S0 => ?_)
                  · go_simp
                  try simp only [List.getElem_toArray, List.getElem_cons_succ, List.getElem_cons_zero, Act.put, List.setIfInBounds_toArray, List.set_cons_zero, List.set_cons_succ]
                  refine wpAnyS_take (i := 5) (v := .pointer (some ⟨g, o + k * 5 + 2, none⟩)) rfl (by kernel_rfl) (by kernel_rfl) (by kernel_rfl) (fun _ _ _ h => h) (fun _ _ => Iff.rfl) hc (by first | rfl | simp [Region.wanted]) (fun wx hx => ?_) S0 (fun hc S0 => ?_)
                  · go_simp
                  try simp only [List.getElem_toArray, List.getElem_cons_succ, List.getElem_cons_zero, Act.put, List.setIfInBounds_toArray, List.set_cons_zero, List.set_cons_succ]
                  refine wpAnyS_take (i := 6) (v := .int .i64 fr) rfl (by kernel_rfl) (by kernel_rfl) (by kernel_rfl) (fun _ _ _ h => h) (fun _ _ => Iff.rfl) hc (by first | rfl | simp [Region.wanted]) (fun wx hx => ?_) S0 (fun hc S0 => ?_)
                  · have g' := (hx.still.cell (p := ⟨g, o + k * 5 + 2, none⟩) hg).trans e2
                    go_simp
                  try simp only [List.getElem_toArray, List.getElem_cons_succ, List.getElem_cons_zero, Act.put, List.setIfInBounds_toArray, List.set_cons_zero, List.set_cons_succ]
                  refine wpAnyS_one (i := 7) rfl (by kernel_rfl) (by rfl) hc (fun K' hK => ?_)
                  go_simp
                  refine hK.out _ _ (Below.refl _ _).drew (fun hc => ?_)
                  clear hK K'
                  have S0 : StillAt w5 #[] w5.drew := (Below.refl _ _).drew
                  try simp only [List.getElem_toArray, List.getElem_cons_succ, List.getElem_cons_zero, Act.put, List.setIfInBounds_toArray, List.set_cons_zero, List.set_cons_succ]
                  refine wpAnyS_done (by kernel_rfl) ?_ _
                  clear hc S0
                  obtain ⟨w6, hw6⟩ : ∃ w6, w6 = w5.drew := ⟨_, rfl⟩
                  rw [← hw6]
                  have HB56 := hid (show Below w5.heap.size w5 w6 by rw [hw6]; exact (Below.refl _ _).drew)
                  have HB6 := hid (Below.step HB5.out HB56.out)
                  have HO6 := hid (ownsRow_below HO5.out HB56.out)
                  have HX6 := hid (HX5.out.step HB56.out)
                  have y3' := (HB56.out.cell (p := ⟨g7, k * 5 + 3, none⟩) hg7).trans y3
                  have hg7' := Nat.lt_of_lt_of_le hg7 HB56.out.size
                  have r3' := HO6.out.frozenAt (k * 5 + 3)
                  clear hw6 c0 c1 c2 c3 c4 z1 e0 e1 e2 e3 e4 y1 y3 y4 r1 r3 r4 hg hg7
                  obtain ⟨c0, c1, c2, c3, c4, z1, -⟩ := HX6.out
                  have hst := flat_set1 (j := 3) (u := .int .i64 c.at_) (q' := (⟨⟨xid, xns⟩, fr, c.at_, false⟩, .slice ma xns.length mc)) HQ.out (by decide) rfl
                  have HST := hid hst
                  clear hst
                  go_wp2_with fail
                  obtain ⟨W8, hW8⟩ : ∃ W8, W8 = w6.setCell ⟨g7, k * 5 + 3, none⟩ (.int .i64 c.at_) := ⟨_, rfl⟩
                  rw [← hW8]
                  have H8 := hid (show W8.ownsRow w.heap.size 50 5 (.slice (some ⟨g7, 0, none⟩) ps.length k5) (ps.set k (⟨⟨xid, xns⟩, fr, c.at_, false⟩, .slice ma xns.length mc)).length ((ps.set k (⟨⟨xid, xns⟩, fr, c.at_, false⟩, .slice ma xns.length mc)).flatMap lsC) by
                    rw [hW8, List.length_set, ← HST.out]
                    exact (HO6.out.stored (k * 5 + 3) _).1)
                  have HB8 := hid (show Below w.heap.size w W8 by rw [hW8]; exact HB6.out.setCell (p := ⟨g7, k * 5 + 3, none⟩) (HO6.out.lt g7 rfl).1 _)
                  clear hW8
                  go_ret2
                  have HE3 := HE2.out
                  refine ⟨_, _, by rw [HE3]; rfl, by rw [HE3, List.map_set], H8.out, fun N h1 h2 p hp => ?_, HB8.out⟩
                  rcases List.mem_or_eq_of_mem_set hp with hp | hp
                  · exact h1 p hp
                  · subst hp
                    exact h1 (⟨⟨xid, xns⟩, fr, tt, false⟩, .slice ma xns.length mc) (List.mem_of_getElem? HQ.out)
              · have t1 : (tt != -1) = true := by rw [bne_iff_ne]; exact ht
                have HE2 := hid (show Li.apply (ps.map Prod.fst) c = ([], 12) by
                  rw [HE.out, HRV.out]
                  simp [hk2, ht])
                clear hk2 ht
                go_wp2_with fail
                go_ret2
                exact ApplyP.err HE2.out HB5.out
            · have q2 : (c.kind == 2) = false := by rw [hk3]; rfl
              have q3 : (c.kind == 3) = true := by rw [hk3]; rfl
              have q4 : (c.kind == 4) = false := by rw [hk3]; rfl
              have HEN := hid (show c.en = ⟨xid, c.en.names⟩ by
                have h1 := ((Li.formed_parts HFB'.out).2.2.2.1 (by unfold Li.withEntry; rw [hk3]; rfl)).1
                rw [HXI.out, ← h1])
              have HE2 := hid (show Li.apply (ps.map Prod.fst) c = ((ps.map Prod.fst).set k ⟨⟨xid, c.en.names⟩, fr, tt, false⟩, 0) by
                rw [HE.out, HRV.out]
                simp [Li.upd, hk3]
                exact congrArg (fun z => (ps.map Prod.fst).set k (⟨z, fr, tt, false⟩ : Li.Ls)) HEN.out)
              clear hk3
              have hst := flat_set1 (j := 1) (u := .slice na c.en.names.length nc) (q' := (⟨⟨xid, c.en.names⟩, fr, tt, false⟩, .slice na c.en.names.length nc)) HQ.out (by decide) rfl
              have HST := hid hst
              clear hst
              go_wp2_with fail
              obtain ⟨W8, hW8⟩ : ∃ W8, W8 = w5.setCell ⟨g7, k * 5 + 1, none⟩ (.slice na c.en.names.length nc) := ⟨_, rfl⟩
              rw [← hW8]
              have H8 := hid (show W8.ownsRow w.heap.size 50 5 (.slice (some ⟨g7, 0, none⟩) ps.length k5) (ps.set k (⟨⟨xid, c.en.names⟩, fr, tt, false⟩, .slice na c.en.names.length nc)).length ((ps.set k (⟨⟨xid, c.en.names⟩, fr, tt, false⟩, .slice na c.en.names.length nc)).flatMap lsC) by
                rw [hW8, List.length_set, ← HST.out]
                exact (HO5.out.stored (k * 5 + 1) _).1)
              have HB8 := hid (show Below w.heap.size w W8 by rw [hW8]; exact HB5.out.setCell (p := ⟨g7, k * 5 + 1, none⟩) (HO5.out.lt g7 rfl).1 _)
              clear hW8
              go_ret2
              have HE3 := HE2.out
              refine ⟨_, _, by rw [HE3]; rfl, by rw [HE3, List.map_set], H8.out, fun N h1 h2 p hp => ?_, HB8.out⟩
              rcases List.mem_or_eq_of_mem_set hp with hp | hp
              · exact h1 p hp
              · subst hp
                have h3 := h2
                rw [HEN.out] at h3
                exact h3
            · have q2 : (c.kind == 2) = false := by rw [hk4]; rfl
              have q3 : (c.kind == 3) = false := by rw [hk4]; rfl
              have q4 : (c.kind == 4) = true := by rw [hk4]; rfl
              have HE2 := hid (show Li.apply (ps.map Prod.fst) c = ((ps.map Prod.fst).set k ⟨⟨xid, xns⟩, fr, tt, true⟩, 0) by
                rw [HE.out, HRV.out]
                simp [Li.upd, hk4])
              clear hk4
              have hst := flat_set1 (j := 4) (u := .bool true) (q' := (⟨⟨xid, xns⟩, fr, tt, true⟩, .slice ma xns.length mc)) HQ.out (by decide) rfl
              have HST := hid hst
              clear hst
              go_wp2_with fail
              obtain ⟨W8, hW8⟩ : ∃ W8, W8 = w5.setCell ⟨g7, k * 5 + 4, none⟩ (.bool true) := ⟨_, rfl⟩
              rw [← hW8]
              have H8 := hid (show W8.ownsRow w.heap.size 50 5 (.slice (some ⟨g7, 0, none⟩) ps.length k5) (ps.set k (⟨⟨xid, xns⟩, fr, tt, true⟩, .slice ma xns.length mc)).length ((ps.set k (⟨⟨xid, xns⟩, fr, tt, true⟩, .slice ma xns.length mc)).flatMap lsC) by
                rw [hW8, List.length_set, ← HST.out]
                exact (HO5.out.stored (k * 5 + 4) _).1)
              have HB8 := hid (show Below w.heap.size w W8 by rw [hW8]; exact HB5.out.setCell (p := ⟨g7, k * 5 + 4, none⟩) (HO5.out.lt g7 rfl).1 _)
              clear hW8
              go_ret2
              have HE3 := HE2.out
              refine ⟨_, _, by rw [HE3]; rfl, by rw [HE3, List.map_set], H8.out, fun N h1 h2 p hp => ?_, HB8.out⟩
              rcases List.mem_or_eq_of_mem_set hp with hp | hp
              · exact h1 p hp
              · subst hp
                exact h1 (⟨⟨xid, xns⟩, fr, tt, false⟩, .slice ma xns.length mc) (List.mem_of_getElem? HQ.out)

end Go.Proofs.YtidkmhokolknbaaGreatDoor

namespace Go.Proofs.YtidkmhokolknbaaGreatDoor
open Go.RowKit Go.Lib Go.Maps

set_option maxRecDepth 100000 in
set_option maxHeartbeats 4000000 in
theorem rrun_any (cs : List (Li.Ch × Value)) (v : Value) (w : World) (h : ChsAt w v cs) (hd : cs.length ≤ 5000) :
    Calls Tryz.prog 17 #[v] w (RunP (cs.map Prod.fst) w) := by
  obtain ⟨i0, hi, hz0, hz1, hz2⟩ := info_parts Tryz.infoErr
  have HCS := hid h
  obtain ⟨⟨va, cap, rfl, k1, k2, -⟩, -, -⟩ := h
  have hl1 : cs.length ≤ 9223372036854775807 := by omega
  obtain ⟨L, hL⟩ : ∃ L, L = cs.map Prod.fst := ⟨_, rfl⟩
  have HL := hid hL
  rw [← hL]
  clear k1 k2 hL
  go_enter Tryz.func17, Tryz.ntmps17
  go_wp2_with fail
  go_loopw [4, 5, 6] (fun ov ev iv wr => ∃ (k : Nat) (lv mv : Value), k ≤ cs.length ∧ iv = .int .i64 k ∧ lv = ov ∧ mv = ev ∧ Hid (RW L k w lv mv wr)) (fun _ _ iv _ => cs.length - (RowKit.intOf iv).toNat)
  case atStart => exact ⟨0, _, _, Nat.zero_le _, rfl, rfl, rfl, ⟨[], World.ownsRow_nil _ _ _ _, rfl, fun p hp => by cases hp⟩, World.ownsRow_nil _ _ _ _, Below.refl _ _⟩
  case round =>
    obtain ⟨k, ov, ev, hk, rfl, rfl, rfl, HR⟩ := hrel
    obtain ⟨ea, ec, rfl⟩ := ownsRow_slice HR.out.er
    by_cases hlt : k < cs.length
    · obtain ⟨q, hq⟩ : ∃ q, cs[k]? = some q := ⟨_, List.getElem?_eq_getElem hlt⟩
      have hqm := List.mem_of_getElem? hq
      have hLk : L[k]? = some q.1 := by rw [HL.out, List.getElem?_map, hq]; rfl
      have hnm := (HCS.out.nm q hqm).below HR.out.below
      have hidl := HCS.out.id q hqm
      obtain ⟨na, nc, hv⟩ := hnm.slice
      obtain ⟨g, o, rfl, hr⟩ : ∃ g o, va = some ⟨g, o, none⟩ ∧ RowOf wr g o 5 chC cs := by
        obtain ⟨a', cap', ev, -, -, hr⟩ := HCS.out.sl.below HR.out.below
        cases ev
        exact hr (by omega)
      have hc := hr.2 k q hq
      have e0 := hc 0 _ rfl
      have e1 := hc 1 _ rfl
      have e2 := hc 2 _ rfl
      have e3 := hc 3 _ rfl
      have e4 := hc 4 _ rfl
      have hg := hr.1
      clear hc hr hq
      have hn0 := HCS.out.nm q hqm
      clear hqm
      obtain ⟨⟨kd, id, ⟨eid, ns⟩, at_⟩, u⟩ := q
      simp only at hnm hidl hv e0 e1 e2 e3 e4 hLk hn0
      subst hv
      rw [Nat.add_zero] at e0
      have hk0 : (0 : Int) ≤ (k : Int) := by omega
      have hk1 : (k : Int) < (cs.length : Int) := by omega
      have HB5 := hid (Below.step HR.out.below (Below.refl wr.heap.size wr))
      obtain ⟨ps, hpo, hpm, hpn⟩ := HR.out.ls
      have hps : LssAt wr ov ps := ⟨SlOf.own hpo (fun _ _ => rfl), fun p hp => (hpn p hp).1.below HR.out.below, fun p hp => (hpn p hp).2⟩
      have hpl : ps.length ≤ 400 := by
        have := Li.run_short (L.take k) [] (by simp)
        rw [← hpm, List.length_map] at this
        exact this
      have HAP : Hid (Calls Tryz.prog 15 #[ov, .agg #[.int .i64 kd, .string (bs id), .string (bs eid), .slice na ns.length nc, .int .i64 at_]] wr (ApplyP ps (.slice na ns.length nc) ⟨kd, id, ⟨eid, ns⟩, at_⟩ wr)) := rapply_any ⟨kd, id, ⟨eid, ns⟩, at_⟩ _ ps ov wr (hps.below (Below.refl wr.heap.size wr)) (by omega) (hnm.below (Below.refl wr.heap.size wr)) hidl.1 hidl.2
      have HPS := hid (And.intro hpm hpn)
      obtain ⟨c, hc⟩ : ∃ c, c = (⟨kd, id, ⟨eid, ns⟩, at_⟩ : Li.Ch) := ⟨_, rfl⟩
      rw [← hc] at HAP hLk
      have HLK := hid hLk
      have HN0 := hid (show NmsIn w (.slice na ns.length nc) c.en.names ∧ c.en.id.length ≤ 5000 by rw [hc]; exact ⟨hn0, hidl.2⟩)
      have HPO0 := hid hpo
      clear hps hpm hpl hLk hnm hidl hc hpo hpn hn0
      go_wp2_with fail
      refine (HAP.out).mono ?_
      rintro e w6 ⟨nv, ps', rfl, hm6, hl6, hN6, hb6⟩
      obtain ⟨rc, hrc⟩ : ∃ rc, rc = (Li.apply (ps.map Prod.fst) c).2 := ⟨_, rfl⟩
      rw [← hrc]
      have HB6 := hid (Below.step HB5.out hb6)
      have H6 := hid (And.intro hm6 (And.intro (ownsRow_base hl6 HB5.out.size) (fun N => hN6 N)))
      have HRC := hid hrc
      have HPO := hid (ownsRow_below HPO0.out (Below.step (Below.refl wr.heap.size wr) hb6))
      have HO6 := hid (ownsRow_below HR.out.er (Below.step (Below.refl wr.heap.size wr) hb6))
      have hown6 := HO6.out.alloc (.cells #[.int .i64 rc] 32)
      have HLEN := hid (show (Li.run [] (L.take k)).2.length = k by rw [Li.run_errs, List.length_take, HL.out, List.length_map]; omega)
      have hll := HLEN.out
      rw [hll] at hown6 ⊢
      have hn2 : k ≤ 5000 := by omega
      have hz6 := HB6.out.size
      clear hm6 hl6 hN6 hrc hb6 e0 e1 e2 e3 e4 hll
      have HSN := hid (Li.run_snoc c (L.take k) [])
      cases h0 : (rc == 0) with
      | true =>
        go_wp2_with (at_builtin; refine wpList_append_own _ rfl _ _ 35 rfl w.heap.size 32 i0 (.int .i64 0) 1 8 Tryz.underlying35 hi hz0 hz1 hz2 rfl (by decide) _ _ _ rfl hown6 ⟨w6.heap.size, 0, none⟩ 1 1 [.int .i64 rc] rfl rfl (cells_new rfl) (by simp [Value.oneCell']) (by unfold maxLen; omega) (by omega) (by simp; omega) ?_; intro v' w7 ho7 hg7 _)
        go_roundw
        case rel =>
          refine ⟨k + 1, _, _, by omega, by go_num, rfl, rfl, ?_⟩
          have hst := HSN.out
          rw [← HPS.out.1, ← HRC.out] at hst
          have htk := take_snoc HLK.out
          refine ⟨⟨ps', ?_, ?_, ?_⟩, ?_, Below.appended (HB6.out.alloc hz6 _) hg7 (by simp; omega) hown6⟩
          · refine (H6.out.2.1.alloc (.cells #[.int .i64 rc] 32)).kept hg7 ?_
            cases hv : Value.ownBlock _ with
            | none => exact .inl rfl
            | some r =>
              refine .inr (fun e => ?_)
              obtain ⟨_, cs1, h3⟩ := own_cells (H6.out.2.1.alloc (.cells #[.int .i64 rc] 32)) hv
              obtain ⟨_, cs2, h4⟩ := own_cells hown6 e.symm
              rw [h3] at h4
              cases h4
          · rw [htk, hst]
            rw [if_pos (by simpa using h0)]
            exact H6.out.1
          · exact H6.out.2.2 (fun v en => NmsIn w v en.names ∧ en.id.length ≤ 5000) HPS.out.2 HN0.out
          · rw [htk, hst]
            simp only [List.length_append, List.length_cons, List.length_nil, List.flatMap_append]
            rw [HLEN.out]
            exact ho7
        case measure => simp [RowKit.intOf]; omega
      | false =>
        go_wp2_with (at_builtin; refine wpList_append_own _ rfl _ _ 35 rfl w.heap.size 32 i0 (.int .i64 0) 1 8 Tryz.underlying35 hi hz0 hz1 hz2 rfl (by decide) _ _ _ rfl hown6 ⟨w6.heap.size, 0, none⟩ 1 1 [.int .i64 rc] rfl rfl (cells_new rfl) (by simp [Value.oneCell']) (by unfold maxLen; omega) (by omega) (by simp; omega) ?_; intro v' w7 ho7 hg7 _)
        go_roundw
        case rel =>
          refine ⟨k + 1, _, _, by omega, by go_num, rfl, rfl, ?_⟩
          have hst := HSN.out
          rw [← HPS.out.1, ← HRC.out] at hst
          have htk := take_snoc HLK.out
          refine ⟨⟨ps, ?_, ?_, ?_⟩, ?_, Below.appended (HB6.out.alloc hz6 _) hg7 (by simp; omega) hown6⟩
          · refine (HPO.out.alloc (.cells #[.int .i64 rc] 32)).kept hg7 ?_
            cases hv : Value.ownBlock _ with
            | none => exact .inl rfl
            | some r =>
              refine .inr (fun e => ?_)
              obtain ⟨_, cs1, h3⟩ := own_cells (HPO.out.alloc (.cells #[.int .i64 rc] 32)) hv
              obtain ⟨_, cs2, h4⟩ := own_cells hown6 e.symm
              rw [h3] at h4
              cases h4
          · rw [htk, hst]
            rw [if_neg (by simpa using h0)]
          · exact HPS.out.2
          · rw [htk, hst]
            simp only [List.length_append, List.length_cons, List.length_nil, List.flatMap_append]
            rw [HLEN.out]
            exact ho7
        case measure => simp [RowKit.intOf]; omega
    · have hke : k = cs.length := by omega
      have HE := hid (show L.take k = L by rw [List.take_of_length_le]; rw [HL.out, List.length_map]; omega)
      have HLEN := hid (show (Li.run [] (L.take k)).2.length = k by rw [Li.run_errs, List.length_take, HL.out, List.length_map]; omega)
      have hll := HLEN.out
      clear hke
      go_wp2_with fail
      go_ret2
      obtain ⟨ps, h1, h2, h3⟩ := HR.out.ls
      have e2 : (Li.run [] L).2 = (Li.run [] (L.take k)).2 := by rw [HE.out]
      refine ⟨_, _, ps, rfl, by rw [h2, HE.out], ⟨SlOf.own h1 (fun _ _ => rfl), fun p hp => (h3 p hp).1.below HR.out.below, fun p hp => (h3 p hp).2⟩, ?_, HR.out.below⟩
      rw [e2]
      exact SlOf.own HR.out.er (fun _ _ => rfl)

end Go.Proofs.YtidkmhokolknbaaGreatDoor
