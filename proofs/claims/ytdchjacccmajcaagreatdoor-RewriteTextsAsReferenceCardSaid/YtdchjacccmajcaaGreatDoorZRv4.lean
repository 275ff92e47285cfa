/-
 rewrite's parser of tables: drops. Conditions: lengths; the library's tables.
-/
import Derived.Test.YtdchjacccmajcaaGreatDoorZRv3
import Derived.Test.YtdchjacccmajcaaGreatDoorZMRp
import Derived.Test.YtdchjacccmajcaaGreatDoorZMRew
namespace Rw
theorem dropsOk_snoc {most : Int} {out : List Drop} {d : Drop} (h : DropsW most out) (hd : dropOk most d = true) (hl : out.length < 40) : dropsOk (out ++ [d]) most = decide (d.key ∉ out.map Drop.key) := by
 have h1 : allOk (dropOk most) Drop.key out [] = true := allOk_iff.2 ⟨h.1, h.2.1, by simp⟩
 unfold dropsOk
 rw [allOk_append, h1, decide_eq_true (by rw [List.length_append, List.length_singleton]; omega)]
 simp only [allOk, hd, Bool.true_and, Bool.and_true, List.nil_append]
 rw [List.contains_eq_mem]
 by_cases hk : d.key ∈ out.map Drop.key <;> simp [hk]
end Rw
namespace Go.Proofs.YtdchjacccmajcaaGreatDoor
open Go.RowKit Go.Maps Go.Lib

variable {B : Nat}

theorem Tryz.infoDropT : (Tryz.prog.info? 58).map (fun i => (i.zero, i.size, i.bytes)) = some (some (.agg #[.int .i64 0, .string ⟨#[]⟩, .int .i64 0]), 3, 32) := by kernel_rfl
/-- tokens that are left -/
def tokLeft (p : Nat) (w : World) : Nat := match w.cell? ⟨p, 0, none⟩ with | some (.slice _ n _) => n | _ => 0
theorem PsW.left {w : World} {p e a : Nat} {l : List Fa.T} (h : PsW B w p l e a) : tokLeft p w = l.length := by
 obtain ⟨ts, ⟨va, cap, rfl, -⟩, h2, -⟩ := h
 unfold tokLeft
 simp [World.cell?, h2]
theorem PsW.at_ {w : World} {p e a : Nat} {l : List Fa.T} (h : PsW B w p l e a) : w.cell? ⟨p, 2, none⟩ = some (.int .i64 a) ∧ p < w.heap.size := by
 obtain ⟨ts, -, h2, -⟩ := h
 exact ⟨by simp [World.cell?, h2], (Array.getElem?_eq_some_iff.1 h2).1⟩
/-- drops read -/
def DrpW (B : Nat) (w : World) (p e : Nat) (r : Except Fa.Fail (List Rw.Drop × List Fa.T)) (en : Ending) (w' : World) : Prop :=
 match r with
 | .ok (ds, l) => ∃ v, en = .returned v ∧ w'.ownsRow w.heap.size 58 3 v ds.length (ds.flatMap dropCells) ∧ (∃ a, PsW B w' p l e a) ∧ Tch (fun b => b = p) w w'
 | .error x => ThrowsP w p x en w'

set_option maxRecDepth 100000 in
set_option maxHeartbeats 20000000 in
theorem drops_any10 (x : List UInt8) (most : Int) (w : World) (p : Nat) (l : List Fa.T) (e a : Nat) (h : PsW B w p l e a) (hl : l.length ≤ 5000) (hs : ∀ t ∈ l, t.2.text.length ≤ 400) (Wz : World) (hT : Tabs Wz) (hbz : Below Wz.heap.size Wz w) (hzp : Wz.heap.size ≤ p) :
  Calls Tryz.prog 96 #[.pointer (some ⟨p, 0, none⟩), .string (bs x), .int .i64 most] w (DrpW B w p e (Rw.dropsT x most [] e l)) := by
 have HP0 := hid h
 have HTT := hid (show ∀ X, Tch (fun b => b = p) w X → Tabs X from fun X hX => hT.below (hbz.trans (hX.below hbz.size (fun k hk => by omega))))
 have hpz : p < w.heap.size := h.at_.2
 obtain ⟨R, hR⟩ : ∃ R, R = Rw.dropsT x most [] e l := ⟨_, rfl⟩
 have HR0 := hid hR
 rw [← hR]
 clear h hT hR
 go_enter Tryz.func96, Tryz.ntmps96
 go_wp2_with fail
 go_loopw [7] (fun ov wr => ∃ (out : List Rw.Drop) (mv : Value) (ls : List Fa.T) (b : Nat), mv = ov ∧ Hid (R = Rw.dropsT x most out e ls ∧ Rw.DropsW most out ∧ ls.length ≤ 5000 ∧ ∀ t ∈ ls, t.2.text.length ≤ 400) ∧ Hid (wr.ownsRow w.heap.size 58 3 mv out.length (out.flatMap dropCells) ∧ PsW B wr p ls e b ∧ Tch (fun b => b = p) w wr)) (fun _ wr => tokLeft p wr)
 case atStart => exact ⟨[], _, l, a, rfl, ⟨HR0.out, ⟨by simp, by simp, by simp⟩, hl, hs⟩, World.ownsRow_nil _ _ _ _, HP0.out, Tch.refl _ _⟩
 case round =>
  obtain ⟨out, ov, ls, b, rfl, HQ, HW⟩ := hrel
  have hleft := HW.out.2.1.left
  have HLF := hid hleft
  clear hleft
  have HIS := hid (is_any10 x wr p ls e b HW.out.2.1 HQ.out.2.2.1)
  have HEQ := hid (HQ.out.1.trans (Rw.dropsT_eq x most out e ls))
  obtain ⟨oa, oc, rfl⟩ := ownsRow_slice HW.out.1
  obtain ⟨fw, hfw⟩ : ∃ fw, fw = Rw.isW x ls := ⟨_, rfl⟩
  rw [← hfw] at HIS HEQ
  clear hfw
  go_wp2_with fail
  refine (HIS.out).mono ?_
  rintro en w1 ⟨rfl, hb1⟩
  have HO1 := hid (ownsRow_below HW.out.1 hb1)
  have HP1 := hid (HW.out.2.1.below hb1)
  have HT1 := hid (HW.out.2.2.step hb1)
  clear hb1 HIS
  cases fw with
  | false =>
   have HE := hid (show R = .ok (out, ls) by rw [HEQ.out]; rfl)
   go_wp2_with fail
   go_ret
   rw [HE.out]
   exact ⟨_, rfl, HO1.out, ⟨_, HP1.out⟩, HT1.out⟩
  | true =>
  have HE := hid (show R = match Rw.dropP x most out e ls with | .error x => .error x | .ok (d, r) => Rw.dropsT x most (out ++ [d]) e r by rw [HEQ.out]; rfl)
  clear HEQ
  have C1 := hid (take_tok10 1 1 (bs x) x rfl rfl w1 p ls e b HP1.out HQ.out.2.2.1)
  cases h1 : Fa.take 1 x e ls with
  | error y =>
   have HX := hid (show R = .error y by rw [HE.out]; unfold Rw.dropP; rw [h1])
   rw [h1] at C1
   clear h1
   go_wp2_with fail
   refine (C1.out).mono ?_
   rintro en w2 ⟨rfl, ht2⟩
   unfold thrownP
   go_wp2_with fail
   refine ⟨rfl, ?_⟩
   rw [HX.out]
   exact ⟨rfl, HT1.out.trans ht2 (fun k hk _ => hk)⟩
  | ok u =>
  obtain ⟨t0, r0⟩ := u
  rw [h1] at C1
  have HL0 := hid (show r0.length < ls.length from Rw.take_less h1)
  have H1 := hid h1
  clear h1
  go_wp2_with fail
  refine (C1.out).mono ?_
  rintro en w2 ⟨rfl, hP2, ht2⟩
  have HP2 := hid hP2
  have HO2 := hid (ownsRow_tch HO1.out ht2 (fun g hg e => by have := (HO1.out.lt g hg).1; omega))
  have HT2 := hid (HT1.out.trans ht2 (fun k hk _ => hk))
  obtain ⟨c2, cl⟩ := hP2.at_
  clear hP2 ht2 C1 HO1 HT1 HP1
  by_cases h40 : out.length < 40
  rotate_left
  ·have g1 : decide ((out.length : Int) < 40) = false := decide_eq_false (by omega)
   have HX := hid (show R = .error (2, t0.1) by rw [HE.out]; unfold Rw.dropP; rw [H1.out]; simp only; rw [if_pos (by omega)])
   have HN := hid (need_no 2 t0.1 w2)
   clear h40
   go_wp2_with fail
   refine (HN.out).mono ?_
   rintro en w3 ⟨rfl, hb3⟩
   unfold thrownP
   go_wp2_with fail
   refine ⟨rfl, ?_⟩
   rw [HX.out]
   exact ⟨rfl, HT2.out.step hb3⟩
  have g1 : decide ((out.length : Int) < 40) = true := decide_eq_true (by omega)
  have HN := hid (need_yes 2 t0.1 w2)
  go_wp2_with fail
  refine (HN.out).mono ?_
  rintro en w3 ⟨rfl, hb3⟩
  have HO3 := hid (ownsRow_below HO2.out hb3)
  have HP3 := hid (HP2.out.below hb3)
  have HT3 := hid (HT2.out.step hb3)
  clear hb3 HN g1 c2 cl HO2 HT2 HP2
  have C2 := hid (script_any10 w3 p r0 e t0.1 HP3.out (by have := HL0.out; have := HQ.out.2.2.1; omega))
  cases h2 : Rw.scriptP e r0 with
  | error y =>
   have HX := hid (show R = .error y by rw [HE.out]; unfold Rw.dropP; rw [H1.out]; simp only; rw [if_neg (by omega), h2])
   rw [h2] at C2
   clear h2
   go_wp2_with fail
   refine (C2.out).mono ?_
   rintro en w4 ⟨rfl, ht4⟩
   unfold thrownP
   go_wp2_with fail
   refine ⟨rfl, ?_⟩
   rw [HX.out]
   exact ⟨rfl, HT3.out.trans ht4 (fun k hk _ => hk)⟩
  | ok u =>
  obtain ⟨k, r1⟩ := u
  rw [h2] at C2
  have HL1 := hid (show r1.length < ls.length from by have := Rw.scriptP_less h2; have := HL0.out; omega)
  have H2 := hid h2
  clear h2
  go_wp2_with fail
  refine (C2.out).mono ?_
  rintro en w4 ⟨rfl, ⟨b4, hP4⟩, ht4⟩
  obtain ⟨W5, hW5⟩ : ∃ W5, W5 = w4.alloc (.cells #[.int .i64 k, .string ⟨#[]⟩, .int .i64 0] 58) := ⟨_, rfl⟩
  have hb5 : Below w4.heap.size w4 W5 := by rw [hW5]; exact (Below.refl _ w4).alloc (Nat.le_refl _) _
  have HS5 := hid (show W5.heap[w4.heap.size]? = some (.cells #[.int .i64 k, .string ⟨#[]⟩, .int .i64 0] 58 (0, 0)) by rw [hW5]; exact alloc_new w4 _)
  have HP5 := hid (hP4.below hb5)
  have hO4 := ownsRow_tch HO3.out ht4 (fun g hg e => by have := (HO3.out.lt g hg).1; omega)
  have HO5 := hid (ownsRow_below hO4 hb5)
  have hT4 := HT3.out.trans ht4 (fun k hk _ => hk)
  have HT5 := hid (hT4.step hb5)
  have HZ4 := hid (show p < w4.heap.size ∧ (∀ g, (Value.slice oa out.length oc).ownBlock = some g → g < w4.heap.size) ∧ w.heap.size ≤ w4.heap.size from ⟨hP4.at_.2, fun g hg => (hO4.lt g hg).2, hT4.size⟩)
  clear hP4 ht4 hb5 C2 HO3 HT3 HP3 hO4 hT4
  go_upto_region 6 with (fail)
  rw [← hW5]
  clear hW5
  have C3 := hid (take_tok10 3 3 ⟨#[]⟩ [] rfl rfl W5 p r1 e b4 HP5.out (by have := HL1.out; have := HQ.out.2.2.1; omega))
  cases h3 : Fa.take 3 [] e r1 with
  | error y =>
   have HX := hid (show R = .error y by rw [HE.out]; unfold Rw.dropP; rw [H1.out]; simp only; rw [if_neg (by omega), H2.out]; simp only; rw [h3])
   rw [h3] at C3
   clear h3
   go_wp2_with fail
   refine (C3.out).mono ?_
   rintro en w6 ⟨rfl, ht6⟩
   unfold thrownP
   go_wp2_with fail
   refine ⟨rfl, ?_⟩
   rw [HX.out]
   exact ⟨rfl, HT5.out.trans ht6 (fun k hk _ => hk)⟩
  | ok u =>
  obtain ⟨s, r2⟩ := u
  rw [h3] at C3
  have HL2 := hid (show r2.length < ls.length from by have := Rw.take_less h3; have := HL1.out; omega)
  have H3 := hid h3
  have hfd : ∀ X : World, (Instr.field 116 (.agg #[.int .i64 s.2.kind, .int .i64 s.1, .int .i64 s.2.n, .string (bs s.2.text)]) 3).run Tryz.prog X = .ok (.string (bs s.2.text)) X := fun _ => by kernel_rfl
  clear h3
  go_wp2_with (fail)
  refine (C3.out).mono ?_
  rintro en w6 ⟨rfl, hP6, ht6⟩
  have hne : ¬ w4.heap.size = p := by have := HZ4.out.1; omega
  have hs6 := (ht6.block _ (Array.getElem?_eq_some_iff.1 HS5.out).1 hne).trans HS5.out
  have d1 : w6.cell? ⟨w4.heap.size, 1, none⟩ = some (.string ⟨#[]⟩) := by simp [World.cell?, hs6]
  have df : w6.frozen? ⟨w4.heap.size, 1, none⟩ = false := frozen_of_row w6 _ 1 _ _ hs6
  have dl : w4.heap.size < w6.heap.size := (Array.getElem?_eq_some_iff.1 hs6).1
  have hO6 := ownsRow_tch HO5.out ht6 (fun g hg e => by have := (HO5.out.lt g hg).1; omega)
  have hT6 := HT5.out.trans ht6 (fun k hk _ => hk)
  obtain ⟨W7, hW7⟩ : ∃ W7, W7 = w6.setCell ⟨w4.heap.size, 1, none⟩ (.string (bs s.2.text)) := ⟨_, rfl⟩
  have HS7 := hid (show W7.heap[w4.heap.size]? = some (.cells #[.int .i64 k, .string (bs s.2.text), .int .i64 0] 58 (0, 0)) by rw [hW7]; exact blk_setP hs6 1 _)
  have hT67 : Tch (fun b => b = w4.heap.size) w6 W7 := by rw [hW7]; exact (Tch.refl (fun b => b = w4.heap.size) w6).setCell (a := ⟨w4.heap.size, 1, none⟩) (.inl rfl) _
  have HP7 := hid (hP6.tch hT67 (fun b _ hb e => by have := HZ4.out.1; omega))
  have HO7 := hid (ownsRow_tch hO6 hT67 (fun g hg e => by have := HZ4.out.2.1 g hg; omega))
  have HT7 := hid (hT6.trans hT67 (fun k hk hlt => by have := HZ4.out.2.2; omega))
  clear hs6 hO6 hT6 hP6 ht6 hT67 C3 HO5 HT5 HP5
  unfold tkvP
  go_upto_region 7 with (fail)
  rw [← hW7]
  clear hW7 d1 df dl hfd
  obtain ⟨c2, cl⟩ := HP7.out.at_
  have x0 : W7.cell? ⟨w4.heap.size, 0, none⟩ = some (.int .i64 k) := by simp [World.cell?, HS7.out]
  have x1 : W7.cell? ⟨w4.heap.size, 1, none⟩ = some (.string (bs s.2.text)) := by simp [World.cell?, HS7.out]
  have xl : w4.heap.size < W7.heap.size := (Array.getElem?_eq_some_iff.1 HS7.out).1
  obtain ⟨fb, hfb⟩ : ∃ fb, fb = Rw.folded k s.2.text most := ⟨_, rfl⟩
  have HTK := hid (show s.2.text.length ≤ 1000000 from by have := HQ.out.2.2.2 s (((Rw.scriptP_suf H2.out).trans (Rw.take_suf H1.out)).subset (Rw.take_mem H3.out)); omega)
  have HF := hid (folded_any k (bs s.2.text) most W7.drew (by rw [bs_len]; exact HTK.out) (HTT.out _ (HT7.out.step (Below.refl _ _).drew)))
  rw [bs_list, ← hfb] at HF
  have HFB := hid hfb
  clear hfb
  refine wp_heldS (S := StillAt W7) (by kernel_rfl) ?_
  simp only [List.size_toArray, List.length_cons, List.length_nil, Nat.reduceAdd]
  intro hc
  have S0 : StillAt W7 (Array.replicate 11 false) W7.drew := (Below.refl _ _).drew
  refine wpAnyS_take (i := 0) (v := .pointer (some ⟨w4.heap.size, 0, none⟩)) rfl (by kernel_rfl) (by kernel_rfl) (by kernel_rfl) (fun _ _ _ h => h) (fun _ _ => Iff.rfl) hc (by first | rfl | simp [Region.wanted]) (fun wx hx => ?_) S0 (fun hc S0 => ?_)
  ·go_simp
  try simp only [tk1, tk3, Act.put, tk4, tk5, tk6]
  refine wpAnyS_take (i := 1) (v := .int .i64 k) rfl (by kernel_rfl) (by kernel_rfl) (by kernel_rfl) (fun _ _ _ h => h) (fun _ _ => Iff.rfl) hc (by first | rfl | simp [Region.wanted]) (fun wx hx => ?_) S0 (fun hc S0 => ?_)
  ·have q := (hx.still.cell (p := ⟨w4.heap.size, 0, none⟩) xl).trans x0
   go_simp
  try simp only [tk1, tk2, tk3, Act.put, tk4, tk5, tk6]
  refine wpAnyS_take (i := 2) (v := .pointer (some ⟨w4.heap.size, 1, none⟩)) rfl (by kernel_rfl) (by kernel_rfl) (by kernel_rfl) (fun _ _ _ h => h) (fun _ _ => Iff.rfl) hc (by first | rfl | simp [Region.wanted]) (fun wx hx => ?_) S0 (fun hc S0 => ?_)
  ·go_simp
  try simp only [tk1, tk2, tk3, Act.put, tk4, tk5, tk6]
  refine wpAnyS_take (i := 3) (v := .string (bs s.2.text)) rfl (by kernel_rfl) (by kernel_rfl) (by kernel_rfl) (fun _ _ _ h => h) (fun _ _ => Iff.rfl) hc (by first | rfl | simp [Region.wanted]) (fun wx hx => ?_) S0 (fun hc S0 => ?_)
  ·have q := (hx.still.cell (p := ⟨w4.heap.size, 1, none⟩) xl).trans x1
   go_simp
  try simp only [tk1, tk2, tk3, Act.put, tk4, tk5, tk6]
  refine wpAnyS_take (i := 4) (v := .int .i64 most) rfl (by kernel_rfl) (by kernel_rfl) (by kernel_rfl) (fun _ _ _ h => h) (fun _ _ => Iff.rfl) hc (by first | rfl | simp [Region.wanted]) (fun wx hx => ?_) S0 (fun hc S0 => ?_)
  ·go_simp
  try simp only [tk1, tk2, tk3, Act.put, tk4, tk5, tk6]
  refine wpAnyS_take (i := 6) (v := .pointer (some ⟨p, 0, none⟩)) rfl (by kernel_rfl) (by kernel_rfl) (by kernel_rfl) (fun _ _ _ h => h) (fun _ _ => Iff.rfl) hc (by first | rfl | simp [Region.wanted]) (fun wx hx => ?_) S0 (fun hc S0 => ?_)
  ·go_simp
  try simp only [tk1, tk2, tk3, Act.put, tk4, tk5, tk6]
  refine wpAnyS_take (i := 7) (v := .pointer (some ⟨p, 0, none⟩)) rfl (by kernel_rfl) (by kernel_rfl) (by kernel_rfl) (fun _ _ _ h => h) (fun _ _ => Iff.rfl) hc (by first | rfl | simp [Region.wanted]) (fun wx hx => ?_) S0 (fun hc S0 => ?_)
  ·go_simp
  try simp only [tk1, tk2, tk3, Act.put, tk4, tk5, tk6]
  refine wpAnyS_take (i := 8) (v := .pointer (some ⟨p, 2, none⟩)) rfl (by kernel_rfl) (by kernel_rfl) (by kernel_rfl) (fun _ _ _ h => h) (fun _ _ => Iff.rfl) hc (by first | rfl | simp [Region.wanted]) (fun wx hx => ?_) S0 (fun hc S0 => ?_)
  ·go_simp
  try simp only [tk1, tk2, tk3, Act.put, tk4, tk5, tk6]
  refine wpAnyS_take (i := 9) (v := .int .i64 s.1) rfl (by kernel_rfl) (by kernel_rfl) (by kernel_rfl) (fun _ _ _ h => h) (fun _ _ => Iff.rfl) hc (by first | rfl | simp [Region.wanted]) (fun wx hx => ?_) S0 (fun hc S0 => ?_)
  ·have q := (hx.still.cell (p := ⟨p, 2, none⟩) cl).trans c2
   go_simp
  try simp only [tk1, tk2, tk3, Act.put, tk4, tk5, tk6]
  refine wpAnyS_one (i := 5) rfl (by kernel_rfl) (by rfl) hc (fun K' hK => ?_)
  go_simp
  refine (HF.out).mono ?_
  rintro en X1 ⟨rfl, hbX⟩
  have HBX := hid (Below.step (Below.refl _ W7).drew hbX)
  clear hbX
  refine hK.out _ _ HBX.out (fun hc => ?_)
  clear hK K'
  have S0 : StillAt W7 #[] X1 := HBX.out
  try simp only [tk1, tk2, tk3, Act.put, tk4, tk5, tk6]
  refine wpAnyS_one (i := 10) rfl (by kernel_rfl) (by rfl) hc (fun K' hK => ?_)
  go_simp
  cases fb with
  | false =>
   have HX := hid (show R = .error (1, s.1) by rw [HE.out]; unfold Rw.dropP; rw [H1.out]; simp only; rw [if_neg (by omega), H2.out]; simp only; rw [H3.out]; simp only; rw [if_pos HFB.out.symm])
   refine ((need_no 1 s.1 X1)).mono ?_
   rintro en X2 ⟨rfl, hb⟩
   unfold thrownP
   go_wp2_with fail
   refine ⟨rfl, ?_⟩
   rw [HX.out]
   exact ⟨rfl, (HT7.out.step HBX.out).step hb⟩
  | true =>
  refine ((need_yes 1 s.1 X1)).mono ?_
  rintro en X2 ⟨rfl, hb⟩
  have HBY := hid (Below.step HBX.out hb)
  clear hb
  refine hK.out _ _ HBY.out (fun hc => ?_)
  clear hK K'
  have S0 : StillAt W7 #[] X2 := HBY.out
  try simp only [tk1, tk2, tk3, Act.put, tk4, tk5, tk6]
  refine wpAnyS_done (by kernel_rfl) ?_ _
  clear hc S0
  have HP8 := hid (HP7.out.below HBY.out)
  have HS8 := hid ((HBY.out.block _ xl).trans HS7.out)
  have HO8 := hid (ownsRow_below HO7.out HBY.out)
  have HT8 := hid (HT7.out.step HBY.out)
  clear HF HBX HBY HP7 HS7 HO7 HT7 x0 x1 xl c2 cl
  have C4 := hid (cost_any10 X2 p r2 e s.1 HP8.out (by have := HL2.out; have := HQ.out.2.2.1; omega))
  cases h4 : Rw.costP e r2 with
  | error y =>
   have HX := hid (show R = .error y by rw [HE.out]; unfold Rw.dropP; rw [H1.out]; simp only; rw [if_neg (by omega), H2.out]; simp only; rw [H3.out]; simp only; rw [← HFB.out, if_neg (by decide), h4])
   rw [h4] at C4
   clear h4
   go_wp2_with fail
   refine (C4.out).mono ?_
   rintro en w8 ⟨rfl, ht8⟩
   unfold thrownP
   go_wp2_with fail
   refine ⟨rfl, ?_⟩
   rw [HX.out]
   exact ⟨rfl, HT8.out.trans ht8 (fun k hk _ => hk)⟩
  | ok u =>
  obtain ⟨c, r3⟩ := u
  rw [h4] at C4
  have HL3 := hid (show r3.length < ls.length from by have := Rw.costP_less h4; have := HL2.out; omega)
  have H4 := hid h4
  clear h4
  go_wp2_with fail
  refine (C4.out).mono ?_
  rintro en w8 ⟨rfl, ⟨b8, hP8⟩, ht8⟩
  have hs8 := (ht8.block _ (Array.getElem?_eq_some_iff.1 HS8.out).1 hne).trans HS8.out
  have d2 : w8.cell? ⟨w4.heap.size, 2, none⟩ = some (.int .i64 0) := by simp [World.cell?, hs8]
  have df : w8.frozen? ⟨w4.heap.size, 2, none⟩ = false := frozen_of_row w8 _ 2 _ _ hs8
  have dl : w4.heap.size < w8.heap.size := (Array.getElem?_eq_some_iff.1 hs8).1
  have hO8 := ownsRow_tch HO8.out ht8 (fun g hg e => by have := (HO8.out.lt g hg).1; omega)
  have hT8 := HT8.out.trans ht8 (fun k hk _ => hk)
  obtain ⟨W9, hW9⟩ : ∃ W9, W9 = w8.setCell ⟨w4.heap.size, 2, none⟩ (.int .i64 c) := ⟨_, rfl⟩
  have HS9 := hid (show W9.heap[w4.heap.size]? = some (.cells #[.int .i64 k, .string (bs s.2.text), .int .i64 c] 58 (0, 0)) by rw [hW9]; exact blk_setP hs8 2 _)
  have hT89 : Tch (fun b => b = w4.heap.size) w8 W9 := by rw [hW9]; exact (Tch.refl (fun b => b = w4.heap.size) w8).setCell (a := ⟨w4.heap.size, 2, none⟩) (.inl rfl) _
  have HP9 := hid (hP8.tch hT89 (fun b _ hb e => by have := HZ4.out.1; omega))
  have HO9 := hid (ownsRow_tch hO8 hT89 (fun g hg e => by have := HZ4.out.2.1 g hg; omega))
  have HT9 := hid (hT8.trans hT89 (fun k hk hlt => by have := HZ4.out.2.2; omega))
  clear hs8 hO8 hT8 hP8 ht8 hT89 C4 HO8 HT8 HP8
  go_upto_region 9 with (fail)
  rw [← hW9]
  clear hW9 d2 df dl
  have C5 := hid (take_tok10 4 4 ⟨#[59]⟩ [59] rfl rfl W9 p r3 e b8 HP9.out (by have := HL3.out; have := HQ.out.2.2.1; omega))
  cases h5 : Fa.take 4 [59] e r3 with
  | error y =>
   have HX := hid (show R = .error y by rw [HE.out]; unfold Rw.dropP; rw [H1.out]; simp only; rw [if_neg (by omega), H2.out]; simp only; rw [H3.out]; simp only; rw [← HFB.out, if_neg (by decide), H4.out]; simp only; rw [h5])
   rw [h5] at C5
   clear h5
   go_wp2_with fail
   refine (C5.out).mono ?_
   rintro en w10 ⟨rfl, ht10⟩
   unfold thrownP
   go_wp2_with fail
   refine ⟨rfl, ?_⟩
   rw [HX.out]
   exact ⟨rfl, HT9.out.trans ht10 (fun k hk _ => hk)⟩
  | ok u =>
  obtain ⟨z, r4⟩ := u
  rw [h5] at C5
  have HL4 := hid (show r4.length < ls.length from by have := Rw.take_less h5; have := HL3.out; omega)
  obtain ⟨d, hd⟩ : ∃ d : Rw.Drop, d = ⟨k, s.2.text, c⟩ := ⟨_, rfl⟩
  have HD := hid (show Rw.dropP x most out e ls = if d.key ∈ out.map Rw.Drop.key then .error (9, z.1) else .ok (d, r4) by
   unfold Rw.dropP; rw [H1.out]; simp only; rw [if_neg (by omega), H2.out]; simp only; rw [H3.out]; simp only; rw [← HFB.out, if_neg (by decide), H4.out]; simp only; rw [h5, hd])
  have HSF := hid (show r4 <:+ ls from (Rw.take_suf h5).trans ((Rw.costP_suf H4.out).trans ((Rw.take_suf H3.out).trans ((Rw.scriptP_suf H2.out).trans (Rw.take_suf H1.out)))))
  have HOK := hid (show Rw.dropOk most d = true by
   unfold Rw.dropOk
   rw [hd]
   simp only [Bool.and_eq_true]
   refine ⟨HFB.out.symm, ?_⟩
   have h4 := H4.out
   unfold Rw.costP at h4
   cases g : Fa.take 2 [] e r2 with
   | error y => rw [g] at h4; cases h4
   | ok q =>
    obtain ⟨t9, r9⟩ := q
    rw [g] at h4
    simp only at h4
    split at h4
    ·cases h4
    ·cases h4
     unfold Rw.isCost
     simp only [Bool.and_eq_true, decide_eq_true_eq]
     omega)
  have HCE := hid (show dropCells d = [.int .i64 k, .string (bs s.2.text), .int .i64 c] by rw [hd]; rfl)
  clear h5 hd
  go_wp2_with fail
  refine (C5.out).mono ?_
  rintro en w10 ⟨rfl, hP10, ht10⟩
  have hs10 := (ht10.block _ (Array.getElem?_eq_some_iff.1 HS9.out).1 hne).trans HS9.out
  have x0 : w10.cell? ⟨w4.heap.size, 0, none⟩ = some (.int .i64 k) := by simp [World.cell?, hs10]
  have x1 : w10.cell? ⟨w4.heap.size, 1, none⟩ = some (.string (bs s.2.text)) := by simp [World.cell?, hs10]
  have x2 : w10.cell? ⟨w4.heap.size, 2, none⟩ = some (.int .i64 c) := by simp [World.cell?, hs10]
  have xl : w4.heap.size < w10.heap.size := (Array.getElem?_eq_some_iff.1 hs10).1
  have hO10 := ownsRow_tch HO9.out ht10 (fun g hg e => by have := (HO9.out.lt g hg).1; omega)
  have hT10 := HT9.out.trans ht10 (fun k hk _ => hk)
  have hown := hO10.alloc (.cells #[.int .i64 k, .string (bs s.2.text), .int .i64 c] 58)
  have hbA : Below w10.heap.size w10 (w10.alloc (.cells #[.int .i64 k, .string (bs s.2.text), .int .i64 c] 58)) := (Below.refl _ w10).alloc (Nat.le_refl _) _
  have hzA : w.heap.size ≤ w10.heap.size := hT10.size
  have HPA := hid (hP10.below hbA)
  have HTA := hid (hT10.step hbA)
  have HLO := hid (show ∀ g, (Value.slice oa out.length oc).ownBlock = some g → w.heap.size ≤ g from fun g hg => (hO10.lt g hg).1)
  obtain ⟨i6, hi6, hz6, hs6, hy6⟩ := info_parts Tryz.infoDropT
  clear hs10 hO10 hT10 hP10 ht10 C5 HO9 HT9 HP9
  go_upto_region 11 with (at_builtin; refine wpList_append_own _ rfl _ _ 23 rfl w.heap.size 58 i6 (.agg #[.int .i64 0, .string ⟨#[]⟩, .int .i64 0]) 3 32 Tryz.underlying23 hi6 hz6 hs6 hy6 rfl (by decide) _ _ _ rfl hown ⟨w10.heap.size, 0, none⟩ 1 1 [.int .i64 k, .string (bs s.2.text), .int .i64 c] rfl rfl (cells_new rfl) (by simp [Value.oneCell']) (by unfold maxLen; omega) (by omega) (by simp; omega) ?_; intro v' w11 ho11 hg11 _)
  have hT11 := HTA.out.grown hg11 (fun r e => .inr (HLO.out r e))
  have HT11 := hid hT11
  have HP11 := hid (HPA.out.tch (Tch.of_grown (O := fun b => (Value.slice oa out.length oc).ownBlock = some b) hg11 (fun r e => e)) (fun b _ hb e => by have := HLO.out b e; omega))
  have HO11 := hid (show w11.ownsRow w.heap.size 58 3 v' (out ++ [d]).length ((out ++ [d]).flatMap dropCells) by
   rw [List.length_append, List.flatMap_append, List.flatMap_cons, List.flatMap_nil, List.append_nil, HCE.out]
   exact ho11)
  have HDW := hid HQ.out.2.1
  have HFITS := hid (show ∀ y ∈ out ++ [d], DropFits y from fun y hy => by
   have hok : Rw.dropOk most y = true := by
    rcases List.mem_append.1 hy with hy | hy
    ·exact HDW.out.1 y hy
    ·rw [List.mem_singleton.1 hy]; exact HOK.out
   unfold Rw.dropOk at hok
   simp only [Bool.and_eq_true] at hok
   obtain ⟨⟨k1, k4⟩, k24, -⟩ := Rw.folded_text hok.1
   refine ⟨?_, by omega⟩
   have : y.script = 1 ∨ y.script = 2 ∨ y.script = 3 ∨ y.script = 4 := by omega
   rcases this with e | e | e | e <;> (rw [e]; rfl))
  have HCK := hid (check_any (out ++ [d]) v' most w11.drew (SlOf.own (ownsRow_below HO11.out (Below.refl _ _).drew) (fun _ _ => rfl)) (by rw [List.length_append, List.length_singleton]; omega) HFITS.out (HTT.out _ (HT11.out.step (Below.refl _ _).drew)))
  rw [Rw.dropsOk_snoc HDW.out HOK.out h40] at HCK
  obtain ⟨fk, hfk⟩ : ∃ fk, fk = decide (d.key ∉ out.map Rw.Drop.key) := ⟨_, rfl⟩
  rw [← hfk] at HCK
  have HFK := hid hfk
  obtain ⟨c2, cl⟩ := HP11.out.at_
  clear hfk hT11 ho11 hg11 hown hbA x0 x1 x2 xl hi6 hz6 hs6 hy6
  refine wp_heldS (S := StillAt w11) (by kernel_rfl) ?_
  simp only [List.size_toArray, List.length_cons, List.length_nil, Nat.reduceAdd]
  intro hc
  have S0 : StillAt w11 (Array.replicate 8 false) w11.drew := (Below.refl _ _).drew
  refine wpAnyS_take (i := 0) (v := v') rfl (by kernel_rfl) (by kernel_rfl) (by kernel_rfl) (fun _ _ _ h => h) (fun _ _ => Iff.rfl) hc (by first | rfl | simp [Region.wanted]) (fun wx hx => ?_) S0 (fun hc S0 => ?_)
  ·go_simp
  try simp only [tk1, tk3, Act.put, tk4, tk5, tk6]
  refine wpAnyS_take (i := 1) (v := .int .i64 most) rfl (by kernel_rfl) (by kernel_rfl) (by kernel_rfl) (fun _ _ _ h => h) (fun _ _ => Iff.rfl) hc (by first | rfl | simp [Region.wanted]) (fun wx hx => ?_) S0 (fun hc S0 => ?_)
  ·go_simp
  try simp only [tk1, tk2, tk3, Act.put, tk4, tk5, tk6]
  refine wpAnyS_take (i := 3) (v := .pointer (some ⟨p, 0, none⟩)) rfl (by kernel_rfl) (by kernel_rfl) (by kernel_rfl) (fun _ _ _ h => h) (fun _ _ => Iff.rfl) hc (by first | rfl | simp [Region.wanted]) (fun wx hx => ?_) S0 (fun hc S0 => ?_)
  ·go_simp
  try simp only [tk1, tk2, tk3, Act.put, tk4, tk5, tk6]
  refine wpAnyS_take (i := 4) (v := .pointer (some ⟨p, 0, none⟩)) rfl (by kernel_rfl) (by kernel_rfl) (by kernel_rfl) (fun _ _ _ h => h) (fun _ _ => Iff.rfl) hc (by first | rfl | simp [Region.wanted]) (fun wx hx => ?_) S0 (fun hc S0 => ?_)
  ·go_simp
  try simp only [tk1, tk2, tk3, Act.put, tk4, tk5, tk6]
  refine wpAnyS_take (i := 5) (v := .pointer (some ⟨p, 2, none⟩)) rfl (by kernel_rfl) (by kernel_rfl) (by kernel_rfl) (fun _ _ _ h => h) (fun _ _ => Iff.rfl) hc (by first | rfl | simp [Region.wanted]) (fun wx hx => ?_) S0 (fun hc S0 => ?_)
  ·go_simp
  try simp only [tk1, tk2, tk3, Act.put, tk4, tk5, tk6]
  refine wpAnyS_take (i := 6) (v := .int .i64 z.1) rfl (by kernel_rfl) (by kernel_rfl) (by kernel_rfl) (fun _ _ _ h => h) (fun _ _ => Iff.rfl) hc (by first | rfl | simp [Region.wanted]) (fun wx hx => ?_) S0 (fun hc S0 => ?_)
  ·have q := (hx.still.cell (p := ⟨p, 2, none⟩) cl).trans c2
   go_simp
  try simp only [tk1, tk2, tk3, Act.put, tk4, tk5, tk6]
  refine wpAnyS_one (i := 2) rfl (by kernel_rfl) (by rfl) hc (fun K' hK => ?_)
  go_simp
  refine (HCK.out).mono ?_
  rintro en X3 ⟨rfl, hbX⟩
  have HBX3 := hid (Below.step (Below.refl _ w11).drew hbX)
  clear hbX
  refine hK.out _ _ HBX3.out (fun hc => ?_)
  clear hK K'
  have S0 : StillAt w11 #[] X3 := HBX3.out
  try simp only [tk1, tk2, tk3, Act.put, tk4, tk5, tk6]
  refine wpAnyS_one (i := 7) rfl (by kernel_rfl) (by rfl) hc (fun K' hK => ?_)
  go_simp
  cases fk with
  | false =>
   have HX := hid (show R = .error (9, z.1) by rw [HE.out, HD.out, if_pos (by have := of_decide_eq_false HFK.out.symm; exact Classical.not_not.1 this)])
   refine ((need_no 9 z.1 X3)).mono ?_
   rintro en X4 ⟨rfl, hb⟩
   unfold thrownP
   go_wp2_with fail
   refine ⟨rfl, ?_⟩
   rw [HX.out]
   exact ⟨rfl, (HT11.out.step HBX3.out).step hb⟩
  | true =>
  refine ((need_yes 9 z.1 X3)).mono ?_
  rintro en X4 ⟨rfl, hb⟩
  have HBX4 := hid (Below.step HBX3.out hb)
  clear hb
  refine hK.out _ _ HBX4.out (fun hc => ?_)
  clear hK K'
  have S0 : StillAt w11 #[] X4 := HBX4.out
  try simp only [tk1, tk2, tk3, Act.put, tk4, tk5, tk6]
  refine wpAnyS_done (by kernel_rfl) ?_ _
  clear hc S0
  have hkk : d.key ∉ out.map Rw.Drop.key := of_decide_eq_true HFK.out.symm
  have HNQ := hid (show R = Rw.dropsT x most (out ++ [d]) e r4 ∧ Rw.DropsW most (out ++ [d]) ∧ r4.length ≤ 5000 ∧ ∀ t ∈ r4, t.2.text.length ≤ 400 from
   ⟨by rw [HE.out, HD.out, if_neg hkk], HDW.out.snoc HOK.out hkk h40, by have := HL4.out; have := HQ.out.2.2.1; omega, fun t ht => HQ.out.2.2.2 t (HSF.out.subset ht)⟩)
  have HNW := hid (show X4.ownsRow w.heap.size 58 3 v' (out ++ [d]).length ((out ++ [d]).flatMap dropCells) ∧ PsW B X4 p r4 e z.1 ∧ Tch (fun b => b = p) w X4 from
   ⟨ownsRow_below HO11.out HBX4.out, HP11.out.below HBX4.out, HT11.out.step HBX4.out⟩)
  clear hkk c2 cl
  go_wp2_with fail
  go_roundw
  case rel => exact ⟨out ++ [d], v', r4, z.1, rfl, HNQ, HNW⟩
  case measure => rw [HNW.out.2.1.left, HLF.out]; exact HL4.out

end Go.Proofs.YtdchjacccmajcaaGreatDoor
