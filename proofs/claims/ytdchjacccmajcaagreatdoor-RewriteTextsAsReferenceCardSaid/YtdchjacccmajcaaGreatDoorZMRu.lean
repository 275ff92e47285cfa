/-
 Several texts in one: ZRu0, ZRu1. Conditions: as each law says.
-/
import Derived.Test.YtdchjacccmajcaaGreatDoorZMRr
import Derived.Test.YtdchjacccmajcaaGreatDoorZRn5
import Derived.IntWalk
namespace Go.Proofs.YtdchjacccmajcaaGreatDoor
open Go.RowKit Go.Lib Go.Maps

theorem digit10 {n : Nat} (h : n < 10) : (⟨#[48, 49, 50, 51, 52, 53, 54, 55, 56, 57]⟩ : ByteArray).extract n (n + 1) = bs (Lx.dec n) := by
 refine bs_ext ?_
 rw [extract_list, Lx.dec_small h]
 match n, h with
 | 0, _ => rfl
 | 1, _ => rfl
 | 2, _ => rfl
 | 3, _ => rfl
 | 4, _ => rfl
 | 5, _ => rfl
 | 6, _ => rfl
 | 7, _ => rfl
 | 8, _ => rfl
 | 9, _ => rfl
theorem bs_append (a b : List UInt8) : bs a ++ bs b = bs (a ++ b) := bs_ext (by simp [bs])
/-- what digits stand behind the first ones -/
def DigAt (n m : Nat) (s : List UInt8) : Prop := Lx.dec n = (if m = 0 then [] else Lx.dec m) ++ s
theorem DigAt.start (n : Nat) : DigAt n (n / 10) (Lx.dec (n % 10)) := by
 unfold DigAt
 by_cases h : n < 10
 ·rw [if_pos (by omega), Nat.mod_eq_of_lt h]; rfl
 ·rw [if_neg (by omega), Lx.dec_big h]
theorem DigAt.step {n m : Nat} {s : List UInt8} (h : DigAt n m s) (hm : 0 < m) : DigAt n (m / 10) (Lx.dec (m % 10) ++ s) := by
 unfold DigAt at h ⊢
 rw [h, if_neg (by omega)]
 by_cases h1 : m < 10
 ·rw [if_pos (by omega), Nat.mod_eq_of_lt h1]; rfl
 ·rw [if_neg (by omega), Lx.dec_big h1, List.append_assoc]
theorem DigAt.done {n : Nat} {s : List UInt8} (h : DigAt n 0 s) : Lx.dec n = s := by unfold DigAt at h; simpa using h

set_option maxRecDepth 100000 in
set_option maxHeartbeats 4000000 in
theorem digits_any (n : Nat) (hn : n ≤ 1000000000) (w : World) : Calls Tryz.prog 88 #[.int .u64 n] w (Same (.string (bs (Lx.dec n))) w) := by
 obtain ⟨r, hr, hr1⟩ : ∃ r : Nat, (n : Int) % 10 = (r : Int) ∧ r = n % 10 := ⟨n % 10, by omega, rfl⟩
 obtain ⟨q, hq, hq1⟩ : ∃ q : Nat, (n : Int) / 10 = (q : Int) ∧ q = n / 10 := ⟨n / 10, by omega, rfl⟩
 have hr10 : r < 10 := by omega
 have e3 := digit10 hr10
 have e5 : IntKind.u64.wrap ((r : Int) + 1) = (r : Int) + 1 := IntWalk.u64_in _ (by omega)
 have e6 : ((r : Int) + 1).toNat = r + 1 := by omega
 have e7 : (r : Int) + 1 ≤ 10 := by omega
 have HD := hid (DigAt.start n)
 rw [← hr1, ← hq1] at HD
 have HDL := hid (show (Lx.dec n).length ≤ 10 from (Lx.dec_facts _).2.2.2 10 (by decide) (by omega))
 have HQ := hid (show q ≤ 1000000000 by omega)
 clear hr1 hq1
 go_enter Tryz.func88, Tryz.ntmps88
 go_wp2_with fail
 go_loop [0, 3] (fun nv sv => ∃ (m : Nat) (s : List UInt8), m ≤ 1000000000 ∧ nv = .int .u64 m ∧ sv = .string (bs s) ∧ Hid (DigAt n m s)) (fun nv _ => (RowKit.intOf nv).toNat)
 case atStart => exact ⟨q, Lx.dec r, HQ.out, rfl, rfl, HD⟩
 case round =>
  clear e3 e5 e6 e7 hr hq
  obtain ⟨m, s, hm, rfl, rfl, HK⟩ := hrel
  by_cases h0 : 0 < m
  ·have HK2 := hid (HK.out.step h0)
   have HSL := hid (show s.length ≤ 10 by
    have h1 := HK.out
    unfold DigAt at h1
    have h2 := congrArg List.length h1
    have h3 := HDL.out
    rw [List.length_append] at h2
    omega)
   obtain ⟨r2, hr, hr1⟩ : ∃ r2 : Nat, (m : Int) % 10 = (r2 : Int) ∧ r2 = m % 10 := ⟨m % 10, by omega, rfl⟩
   obtain ⟨q2, hq, hq1⟩ : ∃ q2 : Nat, (m : Int) / 10 = (q2 : Int) ∧ q2 = m / 10 := ⟨m / 10, by omega, rfl⟩
   have hr210 : r2 < 10 := by omega
   have e3 := digit10 hr210
   have e5 : IntKind.u64.wrap ((r2 : Int) + 1) = (r2 : Int) + 1 := IntWalk.u64_in _ (by omega)
   have e6 : ((r2 : Int) + 1).toNat = r2 + 1 := by omega
   have e7 : (r2 : Int) + 1 ≤ 10 := by omega
   have hz1 : (bs (Lx.dec r2)).size ≤ 10 := by rw [bs_len]; exact (Lx.dec_facts _).2.2.2 10 (by decide) (by omega)
   have hz2 : (bs s).size ≤ 10 := by rw [bs_len]; exact HSL.out
   have hm0 : (0 : Int) < (m : Int) := by omega
   have HA := hid (bs_append (Lx.dec r2) s)
   have HQ2 := hid (show q2 ≤ 1000000000 ∧ q2 < m by omega)
   rw [← hr1, ← hq1] at HK2
   clear hr1 hq1 h0
   go_wp2_with fail
   go_round
   case rel => exact ⟨q2, Lx.dec r2 ++ s, HQ2.out.1, rfl, by rw [HA.out], HK2⟩
   case measure => simp [RowKit.intOf]; exact HQ2.out.2
  ·have hm0 : m = 0 := by omega
   subst hm0
   have HE := hid HK.out.done
   go_wp2_with fail
   go_ret
   exact ⟨by rw [HE.out]; rfl, rfl⟩

set_option maxRecDepth 100000 in
set_option maxHeartbeats 4000000 in
theorem decimal1_any (n : Int) (h0 : 0 ≤ n) (hn : n ≤ 144001439) (w : World) : Calls Tryz.prog 59 #[.int .i64 n] w (Same (.string (bs (Lx.dec n.toNat))) w) := by
 have HD := hid (digits_any n.toNat (by omega) w)
 rw [Int.toNat_of_nonneg h0] at HD
 have e1 : IntKind.u64.wrap n = n := IntWalk.u64_in _ (by omega)
 have e2 : decide (n < 0) = false := decide_eq_false (by omega)
 go_enter Tryz.func59, Tryz.ntmps59
 go_wp2_with fail
 refine (HD.out).mono ?_
 rintro e w2 ⟨rfl, rfl⟩
 go_wp2_with fail
 go_ret
 exact ⟨rfl, rfl⟩

end Go.Proofs.YtdchjacccmajcaaGreatDoor

namespace Go.Proofs.YtdchjacccmajcaaGreatDoor
open Go.RowKit Go.Lib Go.Maps

set_option maxRecDepth 100000 in
theorem rnames_any (W : World) : Calls Tryz.prog 58 #[] W (fun e W' => e = .returned (.slice (some ⟨W.heap.size, 0, none⟩) 5 5) ∧ W' = W.alloc (.cells fiveT 9)) := by
 go_enter Tryz.func58, Tryz.ntmps58
 go_wp2_with fail
 go_ret
 exact ⟨rfl, rfl⟩

theorem rule_line (r : Rw.Rule) : [114, 117, 108, 101, 32] ++ Rw.scrT r.script ++ [32, 34] ++ r.from_ ++ [34, 32, 116, 111, 32, 34] ++ r.to_ ++ [34, 32, 99, 111, 115, 116, 32] ++ Lx.dec r.cost.toNat ++ [59, 10] = Rw.ruleT r := by
 simp [Rw.ruleT, Rw.lineOf, Rw.spaced, Rw.ruleWs, Rw.quo, Rw.tRule, Rw.tTo, Rw.tCost]
theorem drop_line (d : Rw.Drop) : [100, 114, 111, 112, 32] ++ Rw.scrT d.script ++ [32, 34] ++ d.word ++ [34, 32] ++ Lx.dec d.cost.toNat ++ [59, 10] = Rw.dropT Rw.tDrop d := by
 simp [Rw.dropT, Rw.lineOf, Rw.spaced, Rw.dropWs, Rw.quo, Rw.tDrop]
theorem end_line (d : Rw.Drop) : [101, 110, 100, 32] ++ Rw.scrT d.script ++ [32, 34] ++ d.word ++ [34, 32] ++ Lx.dec d.cost.toNat ++ [59, 10] = Rw.dropT Rw.tEnd d := by
 simp [Rw.dropT, Rw.lineOf, Rw.spaced, Rw.dropWs, Rw.quo, Rw.tEnd]
theorem cost_line (t : Rw.Table) : [99, 111, 115, 116, 115, 32] ++ Lx.dec t.drop.toNat ++ [32] ++ Lx.dec t.order.toNat ++ [32] ++ Lx.dec t.initial.toNat ++ [59, 10] = Rw.lineOf (Rw.costWs t) := by
 simp [Rw.lineOf, Rw.spaced, Rw.costWs, Rw.tCosts]

end Go.Proofs.YtdchjacccmajcaaGreatDoor
