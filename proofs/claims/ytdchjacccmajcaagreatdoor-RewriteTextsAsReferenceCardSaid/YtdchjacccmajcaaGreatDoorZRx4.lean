/-
 The reference's reader of tables: number, script. Conditions: lengths.
-/
import Derived.Test.YtdchjacccmajcaaGreatDoorZRx3
import Derived.Test.YtdchjacccmajcaaGreatDoorZMRu
import Derived.Test.YtdchjacccmajcaaGreatDoorZMRr
namespace Go.Proofs.YtdchjacccmajcaaGreatDoor
open Go.RowKit Go.Maps Go.Lib

theorem rtok_lit (kdI : Int) (kd : Nat) (s : ByteArray) (x : List UInt8) (h1 : kdI = kd) (h2 : s = bs x) (w : World) (p : Nat) (l : List Fa.T) (e : Nat) (R : Rw.RS) (v : Value) (h : RdX w p l e R v) :
  Calls Tryz.prog 68 #[.pointer (some ⟨p, 0, none⟩), .int .i64 kdI, .string s] w (RdXP w p l e (R.tok l e kd x).2 v (.returned (tkvP (R.tok l e kd x).1))) := by
 subst h1; subst h2
 exact rtoken_any10 kd x w p l e R v h
theorem cost_nat (n : Nat) : Rw.isCost (n : Int) = !decide (1000 < n) := by
 unfold Rw.isCost
 by_cases h : 1000 < n
 ·rw [decide_eq_true h, decide_eq_false (show ¬ ((n : Int) ≤ 1000) by omega)]; simp
 ·rw [decide_eq_false h, decide_eq_true (show ((n : Int) ≤ 1000) by omega), decide_eq_true (show (0 : Int) ≤ (n : Int) by omega)]; rfl

set_option maxRecDepth 100000 in
set_option maxHeartbeats 4000000 in
theorem rnumber_any10 (w : World) (p : Nat) (l : List Fa.T) (e : Nat) (R : Rw.RS) (v : Value) (h : RdX w p l e R v) :
  Calls Tryz.prog 69 #[.pointer (some ⟨p, 0, none⟩)] w (RdXP w p l e (R.tokC l e 2 [] (fun t => 1000 < t.2.n) 10).2 v (.returned (.int .i64 (R.tokC l e 2 [] (fun t => 1000 < t.2.n) 10).1.2.n))) := by
 have HT := hid (rtok_lit 2 2 ⟨#[]⟩ [] rfl rfl w p l e R v h)
 have HTK := hid (fun h : (R.tok l e 2 []).2.er = 0 => Rw.RS.tok_k h)
 have HC := hid (show R.tokC l e 2 [] (fun t => 1000 < t.2.n) 10 = ((R.tok l e 2 []).1, if 1000 < (R.tok l e 2 []).1.2.n then (R.tok l e 2 []).2.fail l 10 else (R.tok l e 2 []).2) from rfl)
 have hpw := h.lt
 obtain ⟨q, hq⟩ : ∃ q, q = R.tok l e 2 [] := ⟨_, rfl⟩
 rw [← hq] at HT HTK HC
 obtain ⟨t, R1⟩ := q
 simp only at HT HTK HC
 clear h hq
 go_enter Tryz.func69, Tryz.ntmps69
 go_wp2_with fail
 refine (HT.out).mono ?_
 rintro en w1 ⟨rfl, hr1, ht1⟩
 obtain ⟨W2, hW2⟩ : ∃ W2, W2 = w1.alloc (.cells #[.int .i64 t.2.kind, .int .i64 t.1, .int .i64 t.2.n, .string (bs t.2.text)] 116) := ⟨_, rfl⟩
 have hb2 : Below w1.heap.size w1 W2 := by rw [hW2]; exact (Below.refl _ w1).alloc (Nat.le_refl _) _
 have HR2 := hid (hr1.below hb2)
 have HT2 := hid (ht1.step hb2)
 have HK2 := hid (show tokX W2 w1.heap.size t by rw [hW2]; exact tokX.mk w1 t)
 have hp1 := hr1.lt
 clear hr1 ht1 hb2 HT
 unfold tkvP
 go_upto_region 2 with (fail)
 rw [← hW2]
 clear hW2
 obtain ⟨-, -, t2, -, tl, -⟩ := HK2.out.cells
 have HCO := hid (rcost_any (t.2.n : Int) W2)
 rw [cost_nat] at HCO
 have HKN : Hid (∀ W, Tch (fun b => b = p) W2 W → W.cell? ⟨w1.heap.size, 2, none⟩ = some (.int .i64 t.2.n) ∧ w1.heap.size < W.heap.size) := fun W hW => by
  obtain ⟨-, -, t2, -, tl, -⟩ := (HK2.out.tch hW (by show ¬ w1.heap.size = p; omega)).cells
  exact ⟨t2, tl⟩
 by_cases hn : 1000 < t.2.n
 ·have HE := hid (show R.tokC l e 2 [] (fun t => 1000 < t.2.n) 10 = (t, R1.fail l 10) by rw [HC.out, if_pos hn])
  rw [decide_eq_true hn] at HCO
  clear hn HC
  go_wp2_with fail
  refine (HCO.out).mono ?_
  rintro en w3 ⟨rfl, hb3⟩
  have HR3 := hid (HR2.out.below hb3)
  have HT3 := hid (Tch.of_below hb3 (fun b => b = p))
  have HF := hid (rfailAlso_any10 10 w3 p l e R1 v HR3.out HTK.out)
  clear hb3 t2 tl HCO
  go_wp2_with fail
  refine (HF.out).mono ?_
  rintro en w4 ⟨rfl, hr4, ht4⟩
  have hT4 := HT3.out.trans ht4 (fun k hk _ => hk)
  obtain ⟨t2, tl⟩ := HKN.out _ hT4
  have HX := hid (And.intro hr4 (HT2.out.trans hT4 (fun k hk _ => hk)))
  clear hr4 ht4 hT4 HF
  go_wp2_with fail
  go_ret
  rw [HE.out]
  exact ⟨rfl, HX.out.1, HX.out.2⟩
 ·have HE := hid (show R.tokC l e 2 [] (fun t => 1000 < t.2.n) 10 = (t, R1) by rw [HC.out, if_neg hn])
  rw [decide_eq_false hn] at HCO
  clear hn HC
  go_wp2_with fail
  refine (HCO.out).mono ?_
  rintro en w3 ⟨rfl, hb3⟩
  have hT3 := Tch.of_below hb3 (fun b => b = p)
  have HX := hid (And.intro (HR2.out.below hb3) (HT2.out.step hb3))
  clear t2 tl HCO
  obtain ⟨t2, tl⟩ := HKN.out _ hT3
  clear hb3 hT3
  go_wp2_with fail
  go_ret
  rw [HE.out]
  exact ⟨rfl, HX.out.1, HX.out.2⟩

set_option maxRecDepth 100000 in
set_option maxHeartbeats 4000000 in
theorem rscript_any10 (w : World) (p : Nat) (l : List Fa.T) (e : Nat) (R : Rw.RS) (v : Value) (h : RdX w p l e R v) :
  Calls Tryz.prog 101 #[.pointer (some ⟨p, 0, none⟩)] w (RdXP w p l e (R.tokC l e 1 [] (fun t => Rw.scrI t.2.text = 0) 5).2 v (.returned (.int .i64 (Rw.scrI (R.tokC l e 1 [] (fun t => Rw.scrI t.2.text = 0) 5).1.2.text)))) := by
 have HT := hid (rtok_lit 1 1 ⟨#[]⟩ [] rfl rfl w p l e R v h)
 have HTK := hid (fun h : (R.tok l e 1 []).2.er = 0 => Rw.RS.tok_k h)
 have HC := hid (show R.tokC l e 1 [] (fun t => Rw.scrI t.2.text = 0) 5 = ((R.tok l e 1 []).1, if Rw.scrI (R.tok l e 1 []).1.2.text = 0 then (R.tok l e 1 []).2.fail l 5 else (R.tok l e 1 []).2) from rfl)
 have hpw := h.lt
 obtain ⟨q, hq⟩ : ∃ q, q = R.tok l e 1 [] := ⟨_, rfl⟩
 rw [← hq] at HT HTK HC
 obtain ⟨t, R1⟩ := q
 simp only at HT HTK HC
 clear h hq
 go_enter Tryz.func101, Tryz.ntmps101
 go_wp2_with fail
 refine (HT.out).mono ?_
 rintro en w1 ⟨rfl, hr1, ht1⟩
 obtain ⟨W2, hW2⟩ : ∃ W2, W2 = w1.alloc (.cells #[.int .i64 t.2.kind, .int .i64 t.1, .int .i64 t.2.n, .string (bs t.2.text)] 116) := ⟨_, rfl⟩
 have hb2 : Below w1.heap.size w1 W2 := by rw [hW2]; exact (Below.refl _ w1).alloc (Nat.le_refl _) _
 have HR2 := hid (hr1.below hb2)
 have HT2 := hid (ht1.step hb2)
 have HK2 := hid (show tokX W2 w1.heap.size t by rw [hW2]; exact tokX.mk w1 t)
 have hp1 := hr1.lt
 clear hr1 ht1 hb2 HT
 unfold tkvP
 go_upto_region 2 with (fail)
 rw [← hW2]
 clear hW2
 go_upto_region 3 with (fail)
 go_loopw [4] (fun kv wr => ∃ m : Nat, 1 ≤ m ∧ m ≤ 5 ∧ kv = .int .i64 m ∧ Hid (∀ j : Nat, 1 ≤ j → j < m → ¬ t.2.text = Rw.scrT j) ∧ Hid (Below W2.heap.size W2 wr)) (fun kv _ => 5 - (RowKit.intOf kv).toNat)
 case atStart => exact ⟨1, by omega, by omega, rfl, fun j h1 h2 => by omega, Below.refl _ _⟩
 case round =>
  obtain ⟨m, hm1, hm5, rfl, HN, HB⟩ := hrel
  obtain ⟨A1, hA1⟩ : ∃ A1, A1 = wr.alloc (.cells fiveT 9) := ⟨_, rfl⟩
  have HA1 := hid (show Below W2.heap.size W2 A1 by rw [hA1]; exact Below.step HB.out ((Below.refl _ wr).alloc (Nat.le_refl _) _))
  have HNA := hid (rnames_any wr)
  rw [← hA1] at HNA
  clear hA1
  by_cases hlt : m < 5
  ·have d1 : decide ((m : Int) < 5) = true := decide_eq_true (by omega)
   obtain ⟨-, -, -, t3, tl, -⟩ := (HK2.out.tch (Tch.of_below HA1.out (fun _ => False)) (fun e => e)).cells
   have hk0 : (0 : Int) ≤ (m : Int) := by omega
   have hk5 : (m : Int) < 5 := by omega
   obtain ⟨nb, hnb⟩ : ∃ nb, nb = A1.drew.heap.size := ⟨_, rfl⟩
   have HNB := hid (show Calls Tryz.prog 58 #[] A1.drew (fun e w' => e = .returned (.slice (some ⟨nb, 0, none⟩) 5 5) ∧ Below A1.drew.heap.size A1.drew w' ∧ w'.heap[nb]? = some (.cells fiveT 9 (0, 0))) by
    rw [hnb]
    refine (rnames_any A1.drew).mono ?_
    rintro e w' ⟨rfl, rfl⟩
    exact ⟨rfl, (Below.refl _ _).alloc (Nat.le_refl _) _, alloc_new _ _⟩)
   clear hnb
   obtain ⟨b, hb⟩ : ∃ b, b = decide (t.2.text = Rw.scrT m) := ⟨_, rfl⟩
   have d2 := text_beq t.2.text (Rw.scrT m)
   rw [← hb] at d2
   have HBQ := hid hb
   clear hb
   go_wp2_with fail
   refine (HNA.out).mono ?_
   rintro en wq ⟨rfl, hwq⟩
   rw [hwq]
   clear hwq
   go_upto_region 5 with (fail)
   refine wp_heldS (S := StillAt A1) (by kernel_rfl) ?_
   simp only [List.size_toArray, List.length_cons, List.length_nil, Nat.reduceAdd]
   intro hc
   have S0 : StillAt A1 (Array.replicate 7 false) A1.drew := (Below.refl _ _).drew
   refine wpAnyS_take (i := 0) (v := .pointer (some ⟨w1.heap.size, 3, none⟩)) rfl (by kernel_rfl) (by kernel_rfl) (by kernel_rfl) (fun _ _ _ h => h) (fun _ _ => Iff.rfl) hc (by first | rfl | simp [Region.wanted]) (fun wx hx => ?_) S0 (fun hc S0 => ?_)
   ·go_simp
   try simp only [tk1, tk3, Act.put, tk4, tk5, tk6]
   refine wpAnyS_take (i := 1) (v := .string (bs t.2.text)) rfl (by kernel_rfl) (by kernel_rfl) (by kernel_rfl) (fun _ _ _ h => h) (fun _ _ => Iff.rfl) hc (by first | rfl | simp [Region.wanted]) (fun wx hx => ?_) S0 (fun hc S0 => ?_)
   ·have q := (hx.still.cell (p := ⟨w1.heap.size, 3, none⟩) tl).trans t3
    go_simp
   try simp only [tk1, tk2, tk3, Act.put, tk4, tk5, tk6]
   refine wpAnyS_take (i := 3) (v := .int .i64 m) rfl (by kernel_rfl) (by kernel_rfl) (by kernel_rfl) (fun _ _ _ h => h) (fun _ _ => Iff.rfl) hc (by first | rfl | simp [Region.wanted]) (fun wx hx => ?_) S0 (fun hc S0 => ?_)
   ·go_simp
   try simp only [tk1, tk2, tk3, Act.put, tk4, tk5, tk6]
   refine wpAnyS_one (i := 2) rfl (by kernel_rfl) (by rfl) hc (fun K' hK => ?_)
   go_simp
   refine (HNB.out).mono ?_
   rintro e X1 ⟨rfl, hb, hfive⟩
   have DX1 := hid (Below.step (Below.refl _ A1).drew hb)
   obtain ⟨nl, nc⟩ := five_cell hfive hm1 (by omega)
   clear hb hfive
   refine hK.out _ _ DX1.out (fun hc => ?_)
   clear hK K'
   have S0 : StillAt A1 #[] X1 := DX1.out
   try simp only [tk1, tk2, tk3, Act.put, tk4, tk5, tk6]
   refine wpAnyS_more (S2 := StillAt X1) (fun _ _ h => Below.step DX1.out h) _ _ _ _ ?_
   have S0 : StillAt X1 #[] X1 := Below.refl _ _
   refine wpAnyS_take (i := 4) (v := .pointer (some ⟨nb, m, none⟩)) rfl (by kernel_rfl) (by kernel_rfl) (by kernel_rfl) (fun _ _ _ h => h) (fun _ _ => Iff.rfl) hc (by first | rfl | simp [Region.wanted]) (fun wx hx => ?_) S0 (fun hc S0 => ?_)
   ·go_simp
   try simp only [tk1, tk2, tk3, Act.put, tk4, tk5, tk6]
   refine wpAnyS_take (i := 5) (v := .string (bs (Rw.scrT m))) rfl (by kernel_rfl) (by kernel_rfl) (by kernel_rfl) (fun _ _ _ h => h) (fun _ _ => Iff.rfl) hc (by first | rfl | simp [Region.wanted]) (fun wx hx => ?_) S0 (fun hc S0 => ?_)
   ·have q := (hx.still.cell (p := ⟨nb, m, none⟩) nl).trans nc
    go_simp
   try simp only [tk1, tk2, tk3, Act.put, tk4, tk5, tk6]
   refine wpAnyS_take (i := 6) (v := .bool b) rfl (by kernel_rfl) (by kernel_rfl) (by kernel_rfl) (fun _ _ _ h => h) (fun _ _ => Iff.rfl) hc (by first | rfl | simp [Region.wanted]) (fun wx hx => ?_) S0 (fun hc S0 => ?_)
   ·rw [← d2]
    go_simp
   try simp only [tk1, tk2, tk3, Act.put, tk4, tk5, tk6]
   refine wpAnyS_done (by kernel_rfl) ?_ _
   clear hc S0
   have HX1 := hid (show Below W2.heap.size W2 X1 from Below.step HA1.out DX1.out)
   clear d1 d2 t3 tl nl nc
   cases b with
   | true =>
    have HE := hid (show Rw.scrI t.2.text = (m : Int) from Rw.scr_found hm1 (by omega) (of_decide_eq_true HBQ.out.symm))
    have HE2 := hid (show R.tokC l e 1 [] (fun t => Rw.scrI t.2.text = 0) 5 = (t, R1) by rw [HC.out, if_neg (by rw [HE.out]; omega)])
    go_wp2_with fail
    go_ret
    rw [HE2.out]
    exact ⟨ret_int HE.out.symm, HR2.out.below HX1.out, HT2.out.step HX1.out⟩
   | false =>
    have HN2 := hid (show ∀ j : Nat, 1 ≤ j → j < m + 1 → ¬ t.2.text = Rw.scrT j from fun j h1 h2 => by
     by_cases hj : j = m
     ·subst hj; exact of_decide_eq_false HBQ.out.symm
     ·exact HN.out j h1 (by omega))
    go_wp2_with fail
    go_roundw
    case rel => exact ⟨m + 1, by omega, by omega, by go_num, HN2, HX1⟩
    case measure => simp [RowKit.intOf]; omega
  ·have hm : m = 5 := by omega
   subst hm
   have HE := hid (show Rw.scrI t.2.text = 0 from Rw.scr_none HN.out)
   have HE2 := hid (show R.tokC l e 1 [] (fun t => Rw.scrI t.2.text = 0) 5 = (t, R1.fail l 5) by rw [HC.out, if_pos HE.out])
   have HR3 := hid (HR2.out.below HA1.out)
   have HT3 := hid (HT2.out.step HA1.out)
   have HF := hid (rfailAlso_any10 5 A1 p l e R1 v HR3.out HTK.out)
   go_wp2_with fail
   refine (HNA.out).mono ?_
   rintro en wq ⟨rfl, hwq⟩
   rw [hwq]
   clear hwq
   go_wp2_with fail
   refine (HF.out).mono ?_
   rintro en w4 ⟨rfl, hr4, ht4⟩
   have HX := hid (And.intro hr4 (HT3.out.trans ht4 (fun k hk _ => hk)))
   clear hr4 ht4 HF
   go_wp2_with fail
   go_ret
   rw [HE2.out]
   exact ⟨ret_int HE.out.symm, HX.out.1, HX.out.2⟩

end Go.Proofs.YtdchjacccmajcaaGreatDoor
