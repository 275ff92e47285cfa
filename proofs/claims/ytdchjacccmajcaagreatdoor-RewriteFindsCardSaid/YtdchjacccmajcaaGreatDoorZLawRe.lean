/-
  RewriteFinds: the statement's function returns true. Conditions: what can be read of its arguments.
-/
import Derived.Test.YtdchjacccmajcaaGreatDoorZRn11
import Derived.Deep.Cut
import Derived.Deep.CutRange
namespace Go.Proofs.YtdchjacccmajcaaGreatDoor
open Go.RowKit Go.Lib Go.Maps

/-- a byte's cell -/
def u8C (x : Int) : List Value := [.int .u8 x]
theorem bs_app (a b : List UInt8) : bs a ++ bs b = bs (a ++ b) := by
  have : (bs a ++ bs b).data.toList = (bs (a ++ b)).data.toList := by simp [ByteArray.data_append, bs]
  exact ByteArray.ext (Array.toList_inj.1 this)
/-- the state between two steps -/
structure FdI (L : List (List UInt8)) (rs : List Al.R) (i : Nat) (form : List UInt8) (sum : Int) : Prop where
  pre : Fo.Pre L rs i form sum
  few : form.length ≤ 3 * i
  le : i ≤ L.length
theorem FdI.rule {t : Rw.Table} {k : Int} {L : List (List UInt8)} {q : Rw.Rule} {f : List (List UInt8)} {i : Nat} {g : List UInt8} {c : Int} (h : FdI L (Al.rulesFrom k 0 t.rules) i g c) (hq : q ∈ t.rules) (hk : q.script = k) (hok : Rw.ruleOk q = true) (hf : Sc.lets q.script q.from_ = some f) (h1 : atB L i f = true) : FdI L (Al.rulesFrom k 0 t.rules) (i + f.length) (g ++ q.to_) (c + q.cost) := by
  unfold atB at h1
  rw [Bool.and_eq_true, decide_eq_true_eq, decide_eq_true_eq] at h1
  refine ⟨h.pre.rule hq hk (by rw [← hk]; exact hf) h1.1 h1.2, ?_, h1.1⟩
  have hto : q.to_.length ≤ 3 := by
    unfold Rw.ruleOk Rw.isForm at hok
    simp only [Bool.and_eq_true, decide_eq_true_eq] at hok
    exact hok.1.2.1
  have hpos := List.length_pos_iff.2 (Sc.lets_len hf).1
  have := h.few
  rw [List.length_append]
  omega

set_option maxRecDepth 100000 in
set_option maxHeartbeats 40000000 in
theorem finds_law (t : Rw.Table) (tv : Value) (k : Int) (word : List UInt8) (ch : List Int) (cv : Value) (more : Int) (W : World) (ht : TableRaw W t tv) (hT : Tabs W) (h10 : Tab10 W) (hx : word.length ≤ maxLen) (hcv : SlOf W cv 1 u8C ch) (hch : ∀ x ∈ ch, 0 ≤ x ∧ x ≤ 255) (hm0 : 0 ≤ more) (hm1 : more ≤ 255) :
    Calls Tryz.prog 3 #[tv, .int .i64 k, .string (bs word), cv, .int .u8 more] W (Gives (.bool true) W) := by
  have HCV := hid hcv
  have HCH := hid hch
  obtain ⟨ca, cc, rfl, hcc, hcm, -⟩ := hcv
  have hchl : ch.length ≤ 9223372036854775807 := by unfold maxLen at hcm; omega
  have hu8 : IntKind.i64.wrap more = more := IntWalk.i64_in _ (by omega)
  clear hch hcc hcm
  have HT := hid ht
  have HTT := hid hT
  have H10 := hid h10
  obtain ⟨⟨vr, vd, ve, rfl, ⟨ar, cr, rfl, -, -, hR0⟩, ⟨ad, cd, rfl, -⟩, ⟨ae, ce, rfl, -⟩⟩, -, -, -⟩ := ht
  have hR := hid hR0
  clear hT h10 hR0
  obtain ⟨W1, hW1⟩ : ∃ W1, W1 = W.alloc (.cells #[.slice ar t.rules.length cr, .slice ad t.drops.length cd, .slice ae t.ends.length ce, .int .i64 t.drop, .int .i64 t.order, .int .i64 t.initial] 25) := ⟨_, rfl⟩
  have hb1 : Below W.heap.size W W1 := by rw [hW1]; exact (Below.refl _ W).alloc (Nat.le_refl _) _
  have T1 := hid (show Blk W1 W.heap.size 25 [.slice ar t.rules.length cr, .slice ad t.drops.length cd, .slice ae t.ends.length ce, .int .i64 t.drop, .int .i64 t.order, .int .i64 t.initial] by rw [hW1]; exact Blk.new W _ _)
  have HH := hid (head_true W1 (HTT.out.below hb1) (H10.out.below hb1))
  have B1 := hid hb1
  clear hb1
  go_enter Tryz.func3, Tryz.ntmps3
  go_upto_region 1 with (fail)
  rw [← hW1]
  clear hW1
  go_wp2_with fail
  refine (HH.out).mono ?_
  rintro e W2 ⟨rfl, hb2⟩
  have B2 := hid (Below.step B1.out hb2)
  have T2 := hid (T1.out.below hb2)
  clear hb2 HH
  obtain ⟨L, hL⟩ : ∃ L, L = Fo.letters k word := ⟨_, rfl⟩
  have hL12 := Fo.letters_len k word
  rw [← hL] at hL12
  have HLT := hid (letters10_big k (bs word) W2 (by rw [bs_len]; exact hx) (HTT.out.below B2.out))
  rw [bs_list] at HLT
  unfold Let10 at HLT
  rw [← hL] at HLT
  have HLL := hid hL
  clear hL
  go_wp2_with fail
  refine (HLT.out).mono ?_
  rintro e W3 ⟨lv, rfl, hown, hb⟩
  obtain ⟨la, lc, rfl⟩ := ownsRow_slice hown
  have HL := hid (show SlOf W3 (.slice la L.length lc) 1 strC L from SlOf.own hown (fun _ _ => rfl))
  have B3 := hid (Below.step B2.out hb)
  have T3 := hid (T2.out.below hb)
  clear hb hown HLT
  have t0 := T3.out.cell (j := 0) rfl
  have t1 := T3.out.cell (j := 1) rfl
  have t2 := T3.out.cell (j := 2) rfl
  have t3 := T3.out.cell (j := 3) rfl
  have t4 := T3.out.cell (j := 4) rfl
  have t5 := T3.out.cell (j := 5) rfl
  have tl := T3.out.lt
  have HF := hid (few10_any t _ W3 (HT.out.below B3.out))
  go_wp2_with fail
  refine (HF.out).mono ?_
  rintro e W4 ⟨rfl, hbf⟩
  have B4 := hid (Below.step B3.out hbf)
  have T4 := hid (T3.out.below hbf)
  have HL := hid (HL.out.below hbf)
  clear hbf HF t0 t1 t2 t3 t4 t5 tl
  cases hfew : Rw.fewB t with
  | false =>
    go_wp2_with fail
    go_ret
    exact ⟨rfl, B4.out⟩
  | true =>
  have TA := hid (HT.out.few10 hfew)
  clear hfew
  have hsz : (bs word).size = word.length := bs_len word
  by_cases h60 : word.length ≤ 60
  rotate_left
  · have g60 : decide ((60 : Int) < ((bs word).size : Int)) = true := decide_eq_true (by omega)
    have hmx : (bs word).size ≤ 9223372036854775807 := by unfold maxLen at hx; omega
    clear h60 hsz
    have t0 := T4.out.cell (j := 0) rfl
    have t1 := T4.out.cell (j := 1) rfl
    have t2 := T4.out.cell (j := 2) rfl
    have t3 := T4.out.cell (j := 3) rfl
    have t4 := T4.out.cell (j := 4) rfl
    have t5 := T4.out.cell (j := 5) rfl
    have tl := T4.out.lt
    go_wp2_with fail
    go_ret
    exact ⟨rfl, B4.out⟩
  have g60 : decide ((60 : Int) < ((bs word).size : Int)) = false := decide_eq_false (by omega)
  have hmx : (bs word).size ≤ 9223372036854775807 := by omega
  have H60 := hid h60
  clear h60 hsz
  have t0 := T4.out.cell (j := 0) rfl
  have t1 := T4.out.cell (j := 1) rfl
  have t2 := T4.out.cell (j := 2) rfl
  have t3 := T4.out.cell (j := 3) rfl
  have t4 := T4.out.cell (j := 4) rfl
  have t5 := T4.out.cell (j := 5) rfl
  have tl := T4.out.lt
  have HV := hid (valid_any t _ W4 (TA.out.below B4.out) (HTT.out.below B4.out))
  go_wp2_with fail
  refine (HV.out).mono ?_
  rintro e W5 ⟨rfl, hbf⟩
  have B5 := hid (Below.step B4.out hbf)
  have T5 := hid (T4.out.below hbf)
  have HL := hid (HL.out.below hbf)
  clear hbf HV t0 t1 t2 t3 t4 t5 tl
  cases hv : Rw.valid t with
  | false =>
    clear hv
    go_wp2_with fail
    go_ret
    exact ⟨rfl, B5.out⟩
  | true =>
  have HVV := hid hv
  clear hv
  by_cases h0 : L.length = 0
  · have g0 : ((L.length : Int) == 0) = true := by rw [h0]; rfl
    clear h0
    go_wp2_with fail
    go_ret
    exact ⟨rfl, B5.out⟩
  have g0 : ((L.length : Int) == 0) = false := by rw [beq_eq_false_iff_ne]; omega
  have hb60 : (bs word).size ≤ 1000000 := by rw [bs_len]; have := H60.out; omega
  have HNE := hid (show L ≠ [] from fun e => h0 (by rw [e]; rfl))
  have hRp := Rw.valid_pos HVV.out
  have hR80 := Rw.valid_80 HVV.out
  obtain ⟨R, hRe⟩ : ∃ R, R = t.rules.length := ⟨_, rfl⟩
  have HRL := hid hRe
  clear h0 hRe
  go_wp2_with fail
  go_loopw [13, 14, 15, 16] (fun fv sv iv kv wr => ∃ (form : List UInt8) (sum : Int) (i st : Nat), st ≤ ch.length ∧ fv = .string (bs form) ∧ sv = .int .i64 sum ∧ iv = .int .i64 i ∧ kv = .int .i64 st ∧ Hid (FdI L (Al.rulesFrom k 0 t.rules) i form sum) ∧ Hid (Below W5.heap.size W5 wr)) (fun _ _ _ kv _ => ch.length - (RowKit.intOf kv).toNat)
  case atStart => exact ⟨[], 0, 0, 0, Nat.zero_le _, rfl, rfl, rfl, rfl, hid ⟨Fo.Pre.nil, by simp, Nat.zero_le _⟩, Below.refl _ _⟩
  case round =>
    obtain ⟨form, sum, i, st, hst, rfl, rfl, rfl, rfl, HF, HR⟩ := hrel
    have hil := HF.out.le
    have hsc := HF.out.pre.cost (Fo.good_rules HVV.out k)
    have hfl := HF.out.few
    by_cases hs : st < ch.length
    rotate_left
    · have gs : decide ((st : Int) < (ch.length : Int)) = false := decide_eq_false (by omega)
      have gs' : decide (st < ch.length) = false := decide_eq_false hs
      clear hs
      go_upto_region 21 with (fail)
      by_cases hil2 : i < L.length
      · have gj : decide ((i : Int) < (L.length : Int)) = true := decide_eq_true (by omega)
        have gj' : decide (i < L.length) = true := decide_eq_true hil2
        clear hil2
        go_wp2_with fail
        go_ret
        exact ⟨rfl, B5.out.trans (HR.out.mono B5.out.size)⟩
      have gj : decide ((i : Int) < (L.length : Int)) = false := decide_eq_false (by omega)
      have gj' : decide (i < L.length) = false := decide_eq_false hil2
      have B6 := hid (Below.step B5.out HR.out)
      have T6 := hid (T5.out.below HR.out)
      have t0 := T6.out.cell (j := 0) rfl
      have t1 := T6.out.cell (j := 1) rfl
      have t2 := T6.out.cell (j := 2) rfl
      have t3 := T6.out.cell (j := 3) rfl
      have t4 := T6.out.cell (j := 4) rfl
      have t5 := T6.out.cell (j := 5) rfl
      have tl := T6.out.lt
      have hil3 : i = L.length := by omega
      have HRE := hid (show Fo.Re L (Al.rulesFrom k 0 t.rules) 0 form sum from Fo.Pre.whole (by have h := HF.out.pre; rw [hil3] at h; exact h))
      have hw9 : IntKind.i64.wrap (sum + more) = sum + more := IntWalk.i64_in _ (by omega)
      have C6 := hid (forms_ans (k := k) (word := bs word) (L := L) (sum + more) (TA.out.below B6.out) (HTT.out.below B6.out) hb60 HVV.out (by rw [bs_list]; exact HLL.out.symm) HNE.out)
      clear hil3 hil2
      go_wp2_with fail
      refine (C6.out).mono ?_
      rintro e W7 ⟨a, m, er, xa, xc, ya, yc, rfl, h1, h2, h3, hb⟩
      have HA := hid (And.intro h1 (And.intro h2 h3))
      have B7 := hid (Below.step B6.out hb)
      have hlb := HA.out.2.2.len
      clear C6 h1 h2 h3 hb t0 t1 t2 t3 t4 t5 tl
      rcases hlb.2.2 with rfl | rfl
      rotate_left
      · clear hlb
        go_wp2_with fail
        go_ret
        exact ⟨rfl, B7.out⟩
      · have HFA := hid (show Fo.Forms Fo.lt L (Al.rulesFrom k 0 t.rules) (sum + more) a m by
          have h := HA.out.2.2
          generalize he : (0 : Int) = z at h
          cases h with
          | many _ => cases he
          | ok h => exact h)
        have hlen := HFA.out.len
        have ha1k := HFA.out.few
        obtain ⟨na, hna⟩ : ∃ q, q = a.length := ⟨_, rfl⟩
        rw [hlen]
        rw [← hna] at hlen ha1k ⊢
        have HNA := hid (And.intro hna hlen)
        have g1 : ((na : Int) != (na : Int)) = false := by simp
        clear hlb hlen hna
        go_wp2_with fail
        go_loopw [23] (fun jv wr => ∃ j : Nat, j ≤ na ∧ jv = .int .i64 j ∧ Hid (∀ j' : Nat, j' < j → ¬ a[j']? = some form) ∧ Hid (Below W7.heap.size W7 wr)) (fun jv _ => na - (RowKit.intOf jv).toNat)
        case atStart => exact ⟨0, Nat.zero_le _, rfl, hid (fun j' h => by omega), Below.refl _ _⟩
        case round =>
          obtain ⟨j, hj, rfl, HJ, HRJ⟩ := hrel
          by_cases hjn : j < na
          · obtain ⟨x, hxx⟩ : ∃ x, a[j]? = some x := ⟨_, List.getElem?_eq_getElem (by rw [← HNA.out.1]; exact hjn)⟩
            obtain ⟨u, huu⟩ : ∃ u, m[j]? = some u := ⟨_, List.getElem?_eq_getElem (by rw [HNA.out.2]; exact hjn)⟩
            obtain ⟨ga, oa, rfl, za1, v3⟩ := rn_cell1 (f := fun x => Value.string (bs x)) (HA.out.1.below HRJ.out) hxx
            obtain ⟨gm, om, rfl, zm1, v4⟩ := rn_cell1 (f := fun x => Value.int .i64 x) (HA.out.2.1.below HRJ.out) huu
            have j0 : (0 : Int) ≤ (j : Int) := by omega
            have j1 : (j : Int) < (na : Int) := by omega
            have HXU := hid (And.intro hxx huu)
            clear hxx huu
            by_cases hxf : x = form
            · have b4 : ((bs x).toList == (bs form).toList) = true := by rw [str_beq, decide_eq_true hxf]
              have b5 : decide (u ≤ sum) = true := decide_eq_true ((HFA.out.cost j x u HXU.out.1 HXU.out.2).1.2 sum (by rw [hxf]; exact HRE.out))
              clear hxf
              go_wp2_with fail
              go_ret
              exact ⟨rfl, B7.out.trans (HRJ.out.mono B7.out.size)⟩
            · have b4 : ((bs x).toList == (bs form).toList) = false := by rw [str_beq, decide_eq_false hxf]
              have HJ2 := hid (show ∀ j' : Nat, j' < j + 1 → ¬ a[j']? = some form from fun j' h e => by
                by_cases hjj : j' = j
                · subst hjj
                  rw [HXU.out.1] at e
                  exact hxf (Option.some.inj e)
                · exact HJ.out j' (by omega) e)
              clear hxf
              go_wp2_with fail
              go_roundw
              case rel => exact ⟨j + 1, by omega, by go_num, HJ2, HRJ⟩
              case measure => simp [RowKit.intOf]; omega
          · obtain ⟨j0, d0, hj0, -, -⟩ := HFA.out.finds HRE.out (by omega)
            exact absurd hj0 (HJ.out j0 (by have := (List.getElem?_eq_some_iff.1 hj0).1; have := HNA.out.1; omega))
    have gs : decide ((st : Int) < (ch.length : Int)) = true := decide_eq_true (by omega)
    have gs' : decide (st < ch.length) = true := decide_eq_true hs
    by_cases hi : i < L.length
    rotate_left
    · have gi : decide ((i : Int) < (L.length : Int)) = false := decide_eq_false (by omega)
      have gi' : decide (i < L.length) = false := decide_eq_false hi
      have hil2 : ¬ i < L.length := hi
      clear hi gi gi' gs gs'
      go_upto_region 21 with (fail)
      have gj : decide ((i : Int) < (L.length : Int)) = false := decide_eq_false (by omega)
      have gj' : decide (i < L.length) = false := decide_eq_false hil2
      have B6 := hid (Below.step B5.out HR.out)
      have T6 := hid (T5.out.below HR.out)
      have t0 := T6.out.cell (j := 0) rfl
      have t1 := T6.out.cell (j := 1) rfl
      have t2 := T6.out.cell (j := 2) rfl
      have t3 := T6.out.cell (j := 3) rfl
      have t4 := T6.out.cell (j := 4) rfl
      have t5 := T6.out.cell (j := 5) rfl
      have tl := T6.out.lt
      have hil3 : i = L.length := by omega
      have HRE := hid (show Fo.Re L (Al.rulesFrom k 0 t.rules) 0 form sum from Fo.Pre.whole (by have h := HF.out.pre; rw [hil3] at h; exact h))
      have hw9 : IntKind.i64.wrap (sum + more) = sum + more := IntWalk.i64_in _ (by omega)
      have C6 := hid (forms_ans (k := k) (word := bs word) (L := L) (sum + more) (TA.out.below B6.out) (HTT.out.below B6.out) hb60 HVV.out (by rw [bs_list]; exact HLL.out.symm) HNE.out)
      clear hil3 hil2
      go_wp2_with fail
      refine (C6.out).mono ?_
      rintro e W7 ⟨a, m, er, xa, xc, ya, yc, rfl, h1, h2, h3, hb⟩
      have HA := hid (And.intro h1 (And.intro h2 h3))
      have B7 := hid (Below.step B6.out hb)
      have hlb := HA.out.2.2.len
      clear C6 h1 h2 h3 hb t0 t1 t2 t3 t4 t5 tl
      rcases hlb.2.2 with rfl | rfl
      rotate_left
      · clear hlb
        go_wp2_with fail
        go_ret
        exact ⟨rfl, B7.out⟩
      · have HFA := hid (show Fo.Forms Fo.lt L (Al.rulesFrom k 0 t.rules) (sum + more) a m by
          have h := HA.out.2.2
          generalize he : (0 : Int) = z at h
          cases h with
          | many _ => cases he
          | ok h => exact h)
        have hlen := HFA.out.len
        have ha1k := HFA.out.few
        obtain ⟨na, hna⟩ : ∃ q, q = a.length := ⟨_, rfl⟩
        rw [hlen]
        rw [← hna] at hlen ha1k ⊢
        have HNA := hid (And.intro hna hlen)
        have g1 : ((na : Int) != (na : Int)) = false := by simp
        clear hlb hlen hna
        go_wp2_with fail
        go_loopw [23] (fun jv wr => ∃ j : Nat, j ≤ na ∧ jv = .int .i64 j ∧ Hid (∀ j' : Nat, j' < j → ¬ a[j']? = some form) ∧ Hid (Below W7.heap.size W7 wr)) (fun jv _ => na - (RowKit.intOf jv).toNat)
        case atStart => exact ⟨0, Nat.zero_le _, rfl, hid (fun j' h => by omega), Below.refl _ _⟩
        case round =>
          obtain ⟨j, hj, rfl, HJ, HRJ⟩ := hrel
          by_cases hjn : j < na
          · obtain ⟨x, hxx⟩ : ∃ x, a[j]? = some x := ⟨_, List.getElem?_eq_getElem (by rw [← HNA.out.1]; exact hjn)⟩
            obtain ⟨u, huu⟩ : ∃ u, m[j]? = some u := ⟨_, List.getElem?_eq_getElem (by rw [HNA.out.2]; exact hjn)⟩
            obtain ⟨ga, oa, rfl, za1, v3⟩ := rn_cell1 (f := fun x => Value.string (bs x)) (HA.out.1.below HRJ.out) hxx
            obtain ⟨gm, om, rfl, zm1, v4⟩ := rn_cell1 (f := fun x => Value.int .i64 x) (HA.out.2.1.below HRJ.out) huu
            have j0 : (0 : Int) ≤ (j : Int) := by omega
            have j1 : (j : Int) < (na : Int) := by omega
            have HXU := hid (And.intro hxx huu)
            clear hxx huu
            by_cases hxf : x = form
            · have b4 : ((bs x).toList == (bs form).toList) = true := by rw [str_beq, decide_eq_true hxf]
              have b5 : decide (u ≤ sum) = true := decide_eq_true ((HFA.out.cost j x u HXU.out.1 HXU.out.2).1.2 sum (by rw [hxf]; exact HRE.out))
              clear hxf
              go_wp2_with fail
              go_ret
              exact ⟨rfl, B7.out.trans (HRJ.out.mono B7.out.size)⟩
            · have b4 : ((bs x).toList == (bs form).toList) = false := by rw [str_beq, decide_eq_false hxf]
              have HJ2 := hid (show ∀ j' : Nat, j' < j + 1 → ¬ a[j']? = some form from fun j' h e => by
                by_cases hjj : j' = j
                · subst hjj
                  rw [HXU.out.1] at e
                  exact hxf (Option.some.inj e)
                · exact HJ.out j' (by omega) e)
              clear hxf
              go_wp2_with fail
              go_roundw
              case rel => exact ⟨j + 1, by omega, by go_num, HJ2, HRJ⟩
              case measure => simp [RowKit.intOf]; omega
          · obtain ⟨j0, d0, hj0, -, -⟩ := HFA.out.finds HRE.out (by omega)
            exact absurd hj0 (HJ.out j0 (by have := (List.getElem?_eq_some_iff.1 hj0).1; have := HNA.out.1; omega))
    have gi : decide ((i : Int) < (L.length : Int)) = true := decide_eq_true (by omega)
    have gi' : decide (i < L.length) = true := decide_eq_true hi
    obtain ⟨c, hc⟩ : ∃ c, ch[st]? = some c := ⟨_, List.getElem?_eq_getElem hs⟩
    have hcb := HCH.out c (List.mem_of_getElem? hc)
    obtain ⟨gc, oc, rfl, zc, y1⟩ := rn_cell1 (f := fun x => Value.int .u8 x) (HCV.out.below (Below.step B5.out HR.out)) hc
    have s0 : (0 : Int) ≤ (st : Int) := by omega
    have s1 : (st : Int) < (ch.length : Int) := by omega
    have hc8 : IntKind.i64.wrap c = c := IntWalk.i64_in _ (by omega)
    obtain ⟨kk, hkk⟩ : ∃ kk : Nat, Int.tmod c (t.rules.length : Int) = (kk : Int) := ⟨(Int.tmod c (t.rules.length : Int)).toNat, by rw [Int.toNat_of_nonneg (Int.tmod_nonneg _ hcb.1)]⟩
    have hkl : kk < t.rules.length := by
      have h1 := Int.tmod_lt_of_pos c (show (0 : Int) < (t.rules.length : Int) by omega)
      omega
    have hkw : IntKind.i64.wrap (kk : Int) = (kk : Int) := IntWalk.i64_in _ (by omega)
    have hr0 : ((t.rules.length : Int) == 0) = false := by rw [beq_eq_false_iff_ne]; omega
    have hr1 : ¬ (t.rules.length : Int) = 0 := by omega
    have hr2 : ¬ t.rules.length = 0 := by omega
    have T6 := T5.out.below HR.out
    have t0 := T6.cell (j := 0) rfl
    have tl := T6.lt
    clear T6 hc hs
    go_wp2_with fail
    go_quiet (fail)
    obtain ⟨W6, hW6⟩ : ∃ w, w = wr.drewN nq := ⟨_, rfl⟩
    have HR6 := hid (show Below W5.heap.size W5 W6 by rw [hW6]; exact HR.out.trans ((Below.drewQ _ _).mono HR.out.size))
    rw [← hW6]
    clear hW6 y1 zc t0 tl gs gs' gi gi' hkk hc8
    have T6 := hid (T5.out.below HR6.out)
    have t0 := T6.out.cell (j := 0) rfl
    have tl := T6.out.lt
    have HKL := hid hkl
    go_wp2_with fail
    go_loopw [13, 14, 15, 17, 71] (fun fv sv iv kv qv wr => ∃ (kq q : Nat), kq < t.rules.length ∧ q ≤ t.rules.length ∧ fv = .string (bs form) ∧ sv = .int .i64 sum ∧ iv = .int .i64 i ∧ kv = .int .i64 kq ∧ qv = .int .i64 q ∧ Hid (Below W5.heap.size W5 wr)) (fun _ _ _ _ qv _ => t.rules.length - (RowKit.intOf qv).toNat)
    case atStart => exact ⟨kk, 0, HKL.out, Nat.zero_le _, rfl, rfl, rfl, rfl, rfl, HR6⟩
    case round =>
      clear t0 tl
      obtain ⟨kq, q, hkq, hq, rfl, rfl, rfl, rfl, rfl, HRQ⟩ := hrel
      by_cases hql : q < t.rules.length
      · have T7 := T5.out.below HRQ.out
        have t0 := T7.cell (j := 0) rfl
        have tl := T7.lt
        obtain ⟨g, o, rfl, hr⟩ := hR.out (by omega)
        obtain ⟨r, hd⟩ : ∃ r, t.rules[kq]? = some r := ⟨_, List.getElem?_eq_getElem hkq⟩
        have hbW := Below.step B5.out HRQ.out
        have hc := (hr.below hbW).2 kq r hd
        have e0 := hc 0 _ rfl
        have e1 := hc 1 _ rfl
        have e2 := hc 2 _ rfl
        have e3 := hc 3 _ rfl
        rw [Nat.add_zero] at e0
        have hg := (hr.below hbW).1
        have q0 : (q : Int) < (t.rules.length : Int) := by omega
        have k0 : (0 : Int) ≤ (kq : Int) := by omega
        have k1 : (kq : Int) < (t.rules.length : Int) := by omega
        have HMEM := hid (List.mem_of_getElem? hd)
        have HOK := hid (Rw.valid_all HVV.out r HMEM.out)
        obtain ⟨f, hlf, -, -, -, hc0, hc1⟩ := Fo.letters_rule HOK.out
        have HLF := hid hlf
        have hf12 := (Sc.lets_len hlf).2
        have hto3 : r.to_.length ≤ 3 := by
          have hok := HOK.out
          unfold Rw.ruleOk Rw.isForm at hok
          simp only [Bool.and_eq_true, decide_eq_true_eq] at hok
          exact hok.1.2.1
        have HFT := hid (fits10_any r f k L _ i wr hlf (TA.out.rules r HMEM.out).2.1 (HL.out.below HRQ.out) hL12 (by omega) (HTT.out.below hbW))
        obtain ⟨ok, hok⟩ : ∃ ok, ok = (decide (r.script = k) && atB L i f) := ⟨_, rfl⟩
        rw [← hok] at HFT
        have HKK := hid hok
        clear hc hr hd hbW T7 hlf hok
        go_wp2_with fail
        refine (HFT.out).mono ?_
        rintro e W8 ⟨rfl, hb⟩
        have HR8 := hid (Below.step HRQ.out hb)
        have p0 := (hb.cell (p := ⟨W.heap.size, 0, none⟩) tl).trans t0
        have pl := Nat.lt_of_lt_of_le tl hb.size
        have pe2 := (hb.cell (p := ⟨g, o + kq * 4 + 2, none⟩) hg).trans e2
        have pe3 := (hb.cell (p := ⟨g, o + kq * 4 + 3, none⟩) hg).trans e3
        have pg := Nat.lt_of_lt_of_le hg hb.size
        clear hb HFT t0 tl e0 e1 e2 e3 hg
        cases ok with
        | true =>
          have hkk := HKK.out.symm
          rw [Bool.and_eq_true, decide_eq_true_eq] at hkk
          have HFN := hid (HF.out.rule HMEM.out hkk.1 HOK.out HLF.out hkk.2)
          have hsz1 : (bs form).size ≤ 40 := by rw [bs_len]; omega
          have hsz2 : (bs r.to_).size ≤ 3 := by rw [bs_len]; exact hto3
          have hsz3 : ¬ 9223372036854775807 < (bs form).size + (bs r.to_).size := by omega
          have hsz4 : (bs form).size + (bs r.to_).size ≤ 9223372036854775807 := by omega
          have hw1 : IntKind.i64.wrap (sum + r.cost) = sum + r.cost := IntWalk.i64_in _ (by omega)
          have hw2 : IntKind.i64.wrap ((i : Int) + (f.length : Int)) = (i : Int) + (f.length : Int) := IntWalk.i64_in _ (by omega)
          clear hkk
          go_wp2_with fail
          go_roundw
          case rel => exact ⟨form ++ r.to_, sum + r.cost, i + f.length, st + 1, by omega, by rw [bs_app], rfl, by go_num, by go_num, HFN, HR8⟩
          case measure => simp [RowKit.intOf]; omega
        | false =>
          obtain ⟨kn, hkn⟩ : ∃ kn : Nat, Int.tmod ((kq : Int) + 1) (t.rules.length : Int) = (kn : Int) := ⟨(Int.tmod ((kq : Int) + 1) (t.rules.length : Int)).toNat, by rw [Int.toNat_of_nonneg (Int.tmod_nonneg _ (by omega))]⟩
          have hknl : kn < t.rules.length := by
            have h1 := Int.tmod_lt_of_pos ((kq : Int) + 1) (show (0 : Int) < (t.rules.length : Int) by omega)
            omega
          have hw1 : IntKind.i64.wrap ((kq : Int) + 1) = (kq : Int) + 1 := IntWalk.i64_in _ (by omega)
          have hw3 : IntKind.i64.wrap (kn : Int) = (kn : Int) := IntWalk.i64_in _ (by omega)
          go_wp2_with fail
          go_roundw
          case rel => exact ⟨kn, q + 1, hknl, by omega, rfl, rfl, rfl, rfl, by go_num, HR8⟩
          case measure => simp [RowKit.intOf]; omega
      · have q0 : ¬ (q : Int) < (t.rules.length : Int) := by omega
        go_wp2_with fail
        go_roundw
        case rel => exact ⟨form, sum, i, st + 1, by omega, rfl, rfl, rfl, by go_num, HF, HRQ⟩
        case measure => simp [RowKit.intOf]; omega

end Go.Proofs.YtdchjacccmajcaaGreatDoor
