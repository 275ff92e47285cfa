/-
 The reference's Few, SameForms, SameVariants, At of chapter 10. Conditions: lengths.
-/
import Derived.Test.YtdghfenbfbdijaaGreatDoorZMAlB
import Derived.Test.YtdghfenbfbdijaaGreatDoorZMFo
import Derived.Test.YtdghfenbfbdijaaGreatDoorZMBase
namespace Rw
def fewB (t : Table) : Bool :=
 decide (t.rules.length ≤ 90) && decide (t.drops.length ≤ 45) && decide (t.ends.length ≤ 45) && t.rules.all (fun r => decide (r.from_.length ≤ 60) && decide (r.to_.length ≤ 60)) &&
  t.drops.all (fun d => decide (d.word.length ≤ 60)) && t.ends.all (fun d => decide (d.word.length ≤ 60))
end Rw
namespace Go.Proofs.YtdghfenbfbdijaaGreatDoor
open Go.RowKit Go.Lib Go.Maps
theorem TableRaw.few10 {w : World} {t : Rw.Table} {v : Value} (h : TableRaw w t v) (hf : Rw.fewB t = true) : TableAt w t v := by
 unfold Rw.fewB at hf
 simp only [Bool.and_eq_true,decide_eq_true_eq,List.all_eq_true] at hf
 obtain ⟨⟨⟨⟨⟨f1,f2⟩,f3⟩,f4⟩,f5⟩,f6⟩ := hf
 exact ⟨h.at_,fun r hr => ⟨(h.rules r hr).1,by have := f4 r hr; omega,by have := f4 r hr; omega⟩,fun d hd => ⟨(h.drops d hd).1,by have := f5 d hd; omega⟩,fun d hd => ⟨(h.ends d hd).1,by have := f6 d hd; omega⟩,by omega,by omega,by omega⟩
set_option maxRecDepth 100000 in
set_option maxHeartbeats 8000000 in
theorem few10_any (t : Rw.Table) (tv : Value) (W : World) (ht : TableRaw W t tv) : Calls Tryz.prog 29 #[tv] W (Gives (.bool (Rw.fewB t)) W) := by
 have HT := hid ht
 obtain ⟨⟨vr,vd,ve,rfl,⟨ar,cr,rfl,r1,r2,r3⟩,⟨ad,cd,rfl,d1,d2,d3⟩,⟨ae,ce,rfl,e1,e2,e3⟩⟩,-,-,-⟩ := ht
 unfold maxLen at r2 d2 e2
 have R3 := hid r3
 have D3 := hid d3
 have E3 := hid e3
 clear r3 d3 e3
 obtain ⟨W1,hW1⟩ := exq (W.alloc (.cells #[.slice ar t.rules.length cr,.slice ad t.drops.length cd,.slice ae t.ends.length ce,.int .i64 t.drop,.int .i64 t.order,.int .i64 t.initial] 25))
 have hb1 := bnew hW1
 have ht1 : W1.heap[W.heap.size]? = some (.cells #[.slice ar t.rules.length cr,.slice ad t.drops.length cd,.slice ae t.ends.length ce,.int .i64 t.drop,.int .i64 t.order,.int .i64 t.initial] 25 (0,0)) := by rw [hW1]; exact World.alloc_heap_new W _
 have x0 : W1.cell? ⟨W.heap.size,0,none⟩ = some (.slice ar t.rules.length cr) := by simp [World.cell?,ht1]
 have x1 : W1.cell? ⟨W.heap.size,1,none⟩ = some (.slice ad t.drops.length cd) := by simp [World.cell?,ht1]
 have x2 : W1.cell? ⟨W.heap.size,2,none⟩ = some (.slice ae t.ends.length ce) := by simp [World.cell?,ht1]
 have HB := hid hb1
 have fin : Hid (∀ r : Bool,r = Rw.fewB t → Gives (.bool (Rw.fewB t)) W (.returned (.bool r)) W1) := fun r hr => ⟨ret_bool hr,HB.out⟩
 clear hb1 ht1
 have FB := hid (show ∀ p1 p2 p3 p4 p5 p6 : Bool,p1 = decide (t.rules.length ≤ 90) → p2 = decide (t.drops.length ≤ 45) → p3 = decide (t.ends.length ≤ 45) → p4 = t.rules.all (fun r => decide (r.from_.length ≤ 60) && decide (r.to_.length ≤ 60)) →
   p5 = t.drops.all (fun d => decide (d.word.length ≤ 60)) → p6 = t.ends.all (fun d => decide (d.word.length ≤ 60)) → Rw.fewB t = (p1 && p2 && p3 && p4 && p5 && p6) from
  fun _ _ _ _ _ _ h1 h2 h3 h4 h5 h6 => by rw [h1,h2,h3,h4,h5,h6]; rfl)
 by_cases hr : t.rules.length ≤ 90
 case neg =>
  have hr' : (90 : Int) < (t.rules.length : Int) := by omega
  have hk := hid (show false = Rw.fewB t by rw [FB.out _ _ _ _ _ _ rfl rfl rfl rfl rfl rfl,decide_eq_false hr]; simp)
  clear hr
  go_enter Tryz.func29,Tryz.ntmps29
  go_wp2_with fail
  go_ret
  rw [← hW1]
  exact fin.out _ hk.out
 by_cases hd : t.drops.length ≤ 45
 case neg =>
  have hr' : ¬ (90 : Int) < (t.rules.length : Int) := by omega
  have hd' : (45 : Int) < (t.drops.length : Int) := by omega
  have hk := hid (show false = Rw.fewB t by rw [FB.out _ _ _ _ _ _ rfl rfl rfl rfl rfl rfl,decide_eq_false hd]; simp)
  clear hr hd
  go_enter Tryz.func29,Tryz.ntmps29
  go_wp2_with fail
  go_ret
  rw [← hW1]
  exact fin.out _ hk.out
 by_cases he : t.ends.length ≤ 45
 case neg =>
  have hr' : ¬ (90 : Int) < (t.rules.length : Int) := by omega
  have hd' : ¬ (45 : Int) < (t.drops.length : Int) := by omega
  have he' : (45 : Int) < (t.ends.length : Int) := by omega
  have hk := hid (show false = Rw.fewB t by rw [FB.out _ _ _ _ _ _ rfl rfl rfl rfl rfl rfl,decide_eq_false he]; simp)
  clear hr hd he
  go_enter Tryz.func29,Tryz.ntmps29
  go_wp2_with fail
  go_ret
  rw [← hW1]
  exact fin.out _ hk.out
 have hr' : ¬ (90 : Int) < (t.rules.length : Int) := by omega
 have hd' : ¬ (45 : Int) < (t.drops.length : Int) := by omega
 have he' : ¬ (45 : Int) < (t.ends.length : Int) := by omega
 go_enter Tryz.func29,Tryz.ntmps29
 go_wp2_with fail
 rw [← hW1]
 clear hW1
 go_loop [3] (fun i => ∃ n : Nat,n ≤ t.rules.length ∧ i = .int .i64 n ∧ (t.rules.take n).all (fun r => decide (r.from_.length ≤ 60) && decide (r.to_.length ≤ 60)) = true) (fun i => t.rules.length - (intOf i).toNat)
 case atStart => exact ⟨0,Nat.zero_le _,rfl,by simp⟩
 case round =>
  obtain ⟨n,hn,rfl,ha⟩ := hrel
  by_cases hlt : n < t.rules.length
  ·obtain ⟨g,o,rfl,hrow⟩ := R3.out (by omega)
   obtain ⟨r,hx⟩ : ∃ r,t.rules[n]? = some r := ⟨_,List.getElem?_eq_getElem hlt⟩
   have c1 := (hrow.below HB.out).2 n r hx 1 _ rfl
   have c2 := (hrow.below HB.out).2 n r hx 2 _ rfl
   have hm := (HT.out.rules r (List.mem_of_getElem? hx)).2
   have z1 : (bs r.from_).size ≤ 9223372036854775807 := by rw [bs_len]; have := hm.1; unfold maxLen at this; exact this
   have z2 : (bs r.to_).size ≤ 9223372036854775807 := by rw [bs_len]; have := hm.2; unfold maxLen at this; exact this
   have hn0 : (0 : Int) ≤ (n : Int) := by omega
   have hn1 : (n : Int) < (t.rules.length : Int) := by omega
   have hst := hid (all_step ha hx)
   have HA := hid ha
   clear hrow hx hm ha
   by_cases h1 : r.from_.length ≤ 60
   ·have h1' : ¬ (60 : Int) < ((bs r.from_).size : Int) := by rw [bs_len]; omega
    by_cases h2 : r.to_.length ≤ 60
    ·have h2' : ¬ (60 : Int) < ((bs r.to_).size : Int) := by rw [bs_len]; omega
     have hgo := hid (hst.out.trans (by rw [decide_eq_true h1,decide_eq_true h2,Bool.true_and]))
     clear h1 h2
     go_wp2_with fail
     go_round
     case rel => exact ⟨n + 1,by omega,by go_num,hgo.out⟩
     case measure => simp [intOf]; omega
    ·have h2' : (60 : Int) < ((bs r.to_).size : Int) := by rw [bs_len]; omega
     have hgo := hid (all_stop (hst.out.trans (by rw [decide_eq_true h1,decide_eq_false h2]; rfl)))
     have hk := hid (show false = Rw.fewB t by rw [FB.out _ _ _ _ _ _ rfl rfl rfl hgo.out.symm rfl rfl]; simp)
     clear h1 h2
     go_wp2_with fail
     go_ret
     exact fin.out _ hk.out
   ·have h1' : (60 : Int) < ((bs r.from_).size : Int) := by rw [bs_len]; omega
    have hgo := hid (all_stop (hst.out.trans (by rw [decide_eq_false h1,Bool.false_and])))
    have hk := hid (show false = Rw.fewB t by rw [FB.out _ _ _ _ _ _ rfl rfl rfl hgo.out.symm rfl rfl]; simp)
    clear h1
    go_wp2_with fail
    go_ret
    exact fin.out _ hk.out
  ·have hne : n = t.rules.length := by omega
   subst hne
   rw [List.take_length] at ha
   have A4 := hid ha
   clear ha
   go_wp2_with fail
   go_loop [4] (fun i => ∃ n : Nat,n ≤ t.drops.length ∧ i = .int .i64 n ∧ (t.drops.take n).all (fun d => decide (d.word.length ≤ 60)) = true) (fun i => t.drops.length - (intOf i).toNat)
   case atStart => exact ⟨0,Nat.zero_le _,rfl,by simp⟩
   case round =>
    obtain ⟨n,hn,rfl,ha⟩ := hrel
    by_cases hlt : n < t.drops.length
    ·obtain ⟨g,o,rfl,hrow⟩ := D3.out (by omega)
     obtain ⟨d,hx⟩ : ∃ d,t.drops[n]? = some d := ⟨_,List.getElem?_eq_getElem hlt⟩
     have c1 := (hrow.below HB.out).2 n d hx 1 _ rfl
     have z1 : (bs d.word).size ≤ 9223372036854775807 := by rw [bs_len]; have := (HT.out.drops d (List.mem_of_getElem? hx)).2; unfold maxLen at this; exact this
     have hn0 : (0 : Int) ≤ (n : Int) := by omega
     have hn1 : (n : Int) < (t.drops.length : Int) := by omega
     have hst := hid (all_step ha hx)
     have HA := hid ha
     clear hrow hx ha
     by_cases h1 : d.word.length ≤ 60
     ·have h1' : ¬ (60 : Int) < ((bs d.word).size : Int) := by rw [bs_len]; omega
      have hgo := hid (hst.out.trans (by rw [decide_eq_true h1]))
      clear h1
      go_wp2_with fail
      go_round
      case rel => exact ⟨n + 1,by omega,by go_num,hgo.out⟩
      case measure => simp [intOf]; omega
     ·have h1' : (60 : Int) < ((bs d.word).size : Int) := by rw [bs_len]; omega
      have hgo := hid (all_stop (hst.out.trans (by rw [decide_eq_false h1])))
      have hk := hid (show false = Rw.fewB t by rw [FB.out _ _ _ _ _ _ rfl rfl rfl rfl hgo.out.symm rfl]; simp)
      clear h1
      go_wp2_with fail
      go_ret
      exact fin.out _ hk.out
    ·have hne : n = t.drops.length := by omega
     subst hne
     rw [List.take_length] at ha
     have A5 := hid ha
     clear ha
     go_wp2_with fail
     go_loop [5] (fun i => ∃ n : Nat,n ≤ t.ends.length ∧ i = .int .i64 n ∧ (t.ends.take n).all (fun d => decide (d.word.length ≤ 60)) = true) (fun i => t.ends.length - (intOf i).toNat)
     case atStart => exact ⟨0,Nat.zero_le _,rfl,by simp⟩
     case round =>
      obtain ⟨n,hn,rfl,ha⟩ := hrel
      by_cases hlt : n < t.ends.length
      ·obtain ⟨g,o,rfl,hrow⟩ := E3.out (by omega)
       obtain ⟨d,hx⟩ : ∃ d,t.ends[n]? = some d := ⟨_,List.getElem?_eq_getElem hlt⟩
       have c1 := (hrow.below HB.out).2 n d hx 1 _ rfl
       have z1 : (bs d.word).size ≤ 9223372036854775807 := by rw [bs_len]; have := (HT.out.ends d (List.mem_of_getElem? hx)).2; unfold maxLen at this; exact this
       have hn0 : (0 : Int) ≤ (n : Int) := by omega
       have hn1 : (n : Int) < (t.ends.length : Int) := by omega
       have hst := hid (all_step ha hx)
       have HA := hid ha
       clear hrow hx ha
       by_cases h1 : d.word.length ≤ 60
       ·have h1' : ¬ (60 : Int) < ((bs d.word).size : Int) := by rw [bs_len]; omega
        have hgo := hid (hst.out.trans (by rw [decide_eq_true h1]))
        clear h1
        go_wp2_with fail
        go_round
        case rel => exact ⟨n + 1,by omega,by go_num,hgo.out⟩
        case measure => simp [intOf]; omega
       ·have h1' : (60 : Int) < ((bs d.word).size : Int) := by rw [bs_len]; omega
        have hgo := hid (all_stop (hst.out.trans (by rw [decide_eq_false h1])))
        have hk := hid (show false = Rw.fewB t by rw [FB.out _ _ _ _ _ _ rfl rfl rfl rfl rfl hgo.out.symm]; simp)
        clear h1
        go_wp2_with fail
        go_ret
        exact fin.out _ hk.out
      ·have hne : n = t.ends.length := by omega
       subst hne
       rw [List.take_length] at ha
       have A6 := hid ha
       clear ha
       go_wp2_with fail
       go_ret
       refine fin.out _ ?_
       unfold Rw.fewB
       rw [A4.out,A5.out,A6.out,decide_eq_true hr,decide_eq_true hd,decide_eq_true he]
       rfl
end Go.Proofs.YtdghfenbfbdijaaGreatDoor
