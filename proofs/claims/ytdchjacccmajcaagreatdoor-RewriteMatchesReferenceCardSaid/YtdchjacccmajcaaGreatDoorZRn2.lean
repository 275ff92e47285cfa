/-
  The reference's SameForms, SameVariants, At of chapter 10. Conditions: lengths.
-/
import Derived.Test.YtdchjacccmajcaaGreatDoorZRn1
import Derived.Test.YtdchjacccmajcaaGreatDoorZFormF
namespace Go.Proofs.YtdchjacccmajcaaGreatDoor
open Go.RowKit Go.Lib Go.Maps

theorem rn_take {α : Type} {l : List α} {k : Nat} {x : α} (h : l[k]? = some x) : l.take (k + 1) = l.take k ++ [x] := by rw [List.take_add_one, h]; rfl
theorem rn_more {α : Type} {a b : List α} {k : Nat} {x y : α} (ha : a[k]? = some x) (hb : b[k]? = some y) (he : x = y) (h : a.take k = b.take k) : a.take (k + 1) = b.take (k + 1) := by rw [rn_take ha, rn_take hb, h, he]
theorem rn_ne {α : Type} {a b : List α} {k : Nat} {x y : α} (ha : a[k]? = some x) (hb : b[k]? = some y) (h : ¬ x = y) : ¬ a = b := by
  rintro rfl
  rw [ha] at hb
  exact h (Option.some.inj hb)
theorem rn_all {α : Type} {a b : List α} {k : Nat} (ha : a.length = b.length) (hk : k = a.length) (h : a.take k = b.take k) : a = b := by
  rw [List.take_of_length_le (by omega), List.take_of_length_le (by omega)] at h
  exact h
/-- an element of a slice in memory: where its cells lie -/
theorem rn_cell {α : Type} {w : World} {sz c k : Nat} {a : Option Addr} {cells : α → List Value} {l : List α} {x : α} (h : SlOf w (.slice a l.length c) sz cells l) (hx : l[k]? = some x) :
    ∃ g o, a = some ⟨g, o, none⟩ ∧ g < w.heap.size ∧ ∀ (j : Nat) (v : Value), (cells x)[j]? = some v → w.cell? ⟨g, o + k * sz + j, none⟩ = some v := by
  obtain ⟨a', c', e, -, -, h3⟩ := h
  cases e
  obtain ⟨g, o, rfl, hr⟩ := h3 (by have := (List.getElem?_eq_some_iff.1 hx).1; omega)
  exact ⟨g, o, rfl, hr.1, fun j v hv => hr.2 k x hx j v hv⟩
theorem rn_cell1 {α : Type} {w : World} {c k : Nat} {a : Option Addr} {f : α → Value} {l : List α} {x : α} (h : SlOf w (.slice a l.length c) 1 (fun x => [f x]) l) (hx : l[k]? = some x) :
    ∃ g o, a = some ⟨g, o, none⟩ ∧ g < w.heap.size ∧ w.cell? ⟨g, o + k, none⟩ = some (f x) := by
  obtain ⟨g, o, h1, h2, h3⟩ := rn_cell h hx
  refine ⟨g, o, h1, h2, ?_⟩
  have := h3 0 _ rfl
  rwa [Nat.add_zero, Nat.mul_one] at this

/-- two lists of forms with their costs, compared -/
def sameForms (a : List (List UInt8)) (m : List Int) (b : List (List UInt8)) (n : List Int) : Bool := decide (a = b) && decide (m = n) && decide (m.length = a.length)
theorem sameForms_no {a : List (List UInt8)} {m : List Int} {b : List (List UInt8)} {n : List Int} (h : ¬ a = b ∨ ¬ m = n ∨ ¬ m.length = a.length) : sameForms a m b n = false := by
  unfold sameForms
  rcases h with h | h | h
  · rw [decide_eq_false h]; rfl
  · rw [decide_eq_false h]; simp
  · rw [decide_eq_false h]; simp
theorem sameForms_yes {a : List (List UInt8)} {m : List Int} {b : List (List UInt8)} {n : List Int} (h1 : a = b) (h2 : m = n) (h3 : m.length = a.length) : sameForms a m b n = true := by
  unfold sameForms
  rw [decide_eq_true h1, decide_eq_true h2, decide_eq_true h3]; rfl

set_option maxRecDepth 100000 in
set_option maxHeartbeats 4000000 in
theorem sameForms_any (a : List (List UInt8)) (m : List Int) (b : List (List UInt8)) (n : List Int) (va vm vb vn : Value) (w : World) (ha : SlOf w va 1 strC a) (hm : SlOf w vm 1 numC m) (hb : SlOf w vb 1 strC b) (hn : SlOf w vn 1 numC n) :
    Calls Tryz.prog 19 #[va, vm, vb, vn] w (Gives (.bool (sameForms a m b n)) w) := by
  have HA := hid ha
  have HM := hid hm
  have HB := hid hb
  have HN := hid hn
  obtain ⟨aa, ca, rfl, ya, za, -⟩ := ha
  obtain ⟨am, cm, rfl, -, zm, -⟩ := hm
  obtain ⟨ab, cb, rfl, -, zb, -⟩ := hb
  obtain ⟨an, cn, rfl, -, zn, -⟩ := hn
  unfold maxLen at za zm zb zn
  obtain ⟨la, hla⟩ : ∃ k, k = a.length := ⟨_, rfl⟩
  obtain ⟨lm, hlm⟩ : ∃ k, k = m.length := ⟨_, rfl⟩
  obtain ⟨lb, hlb⟩ : ∃ k, k = b.length := ⟨_, rfl⟩
  obtain ⟨ln, hln⟩ : ∃ k, k = n.length := ⟨_, rfl⟩
  rw [← hla, ← hlm, ← hlb, ← hln]
  rw [← hla] at ya
  have yb : la ≤ 9223372036854775807 := by omega
  have HL := hid (And.intro hla (And.intro hlm (And.intro hlb hln)))
  clear hla hlm hlb hln
  by_cases h1 : la = lb
  rotate_left
  · have g1 : ((la : Int) != (lb : Int)) = true := by rw [bne_iff_ne]; omega
    have HE := hid (sameForms_no (a := a) (m := m) (b := b) (n := n) (.inl fun e => h1 (by rw [HL.out.1, HL.out.2.2.1, e])))
    clear h1
    go_enter Tryz.func19, Tryz.ntmps19
    go_wp2_with fail
    go_ret
    exact ⟨ret_bool HE.out.symm, Below.refl _ _⟩
  have g1 : ((la : Int) != (lb : Int)) = false := by rw [bne_eq_false_iff_eq]; omega
  by_cases h2 : lm = la
  rotate_left
  · have g2 : ((lm : Int) != (la : Int)) = true := by rw [bne_iff_ne]; omega
    have HE := hid (sameForms_no (a := a) (m := m) (b := b) (n := n) (.inr (.inr fun e => h2 (by rw [HL.out.1, HL.out.2.1, e]))))
    clear h1 h2
    go_enter Tryz.func19, Tryz.ntmps19
    go_wp2_with fail
    go_ret
    exact ⟨ret_bool HE.out.symm, Below.refl _ _⟩
  have g2 : ((lm : Int) != (la : Int)) = false := by rw [bne_eq_false_iff_eq]; omega
  by_cases h3 : ln = lb
  rotate_left
  · have g3 : ((ln : Int) != (lb : Int)) = true := by rw [bne_iff_ne]; omega
    have HE := hid (sameForms_no (a := a) (m := m) (b := b) (n := n) (.inr (.inl fun e => h3 (by
      have := HL.out
      have := congrArg List.length e
      omega))))
    clear h1 h2 h3
    go_enter Tryz.func19, Tryz.ntmps19
    go_wp2_with fail
    go_ret
    exact ⟨ret_bool HE.out.symm, Below.refl _ _⟩
  have g3 : ((ln : Int) != (lb : Int)) = false := by rw [bne_eq_false_iff_eq]; omega
  have HQ := hid (show la = lb ∧ lm = la ∧ ln = la from ⟨h1, h2, by omega⟩)
  clear h1 h2 h3
  go_enter Tryz.func19, Tryz.ntmps19
  go_wp2_with fail
  go_loopw [9] (fun iv wr => ∃ k : Nat, k ≤ la ∧ iv = .int .i64 k ∧ Hid (a.take k = b.take k ∧ m.take k = n.take k) ∧ Hid (Below w.heap.size w wr)) (fun iv _ => la - (RowKit.intOf iv).toNat)
  case atStart => exact ⟨0, Nat.zero_le _, rfl, hid ⟨by simp, by simp⟩, Below.refl _ _⟩
  case round =>
    obtain ⟨k, hk, rfl, HK, HR⟩ := hrel
    by_cases hlt : k < la
    · have q0 := HL.out
      have q1 := HQ.out
      obtain ⟨x, hx⟩ : ∃ x, a[k]? = some x := ⟨_, List.getElem?_eq_getElem (by omega)⟩
      obtain ⟨y, hy⟩ : ∃ y, b[k]? = some y := ⟨_, List.getElem?_eq_getElem (by omega)⟩
      obtain ⟨u, hu⟩ : ∃ u, m[k]? = some u := ⟨_, List.getElem?_eq_getElem (by omega)⟩
      obtain ⟨v, hv⟩ : ∃ v, n[k]? = some v := ⟨_, List.getElem?_eq_getElem (by omega)⟩
      obtain ⟨ga, oa, rfl, z1, e1⟩ := rn_cell1 (f := fun x => Value.string (bs x)) (HA.out.below HR.out) hx
      obtain ⟨gb, ob, rfl, z2, e2⟩ := rn_cell1 (f := fun x => Value.string (bs x)) (HB.out.below HR.out) hy
      obtain ⟨gm, om, rfl, z3, e3⟩ := rn_cell1 (f := fun x => Value.int .i64 x) (HM.out.below HR.out) hu
      obtain ⟨gn, on, rfl, z4, e4⟩ := rn_cell1 (f := fun x => Value.int .i64 x) (HN.out.below HR.out) hv
      have k0 : (0 : Int) ≤ (k : Int) := by omega
      have k1 : (k : Int) < (la : Int) := by omega
      have k2 : (k : Int) < (lm : Int) := by omega
      have k3 : (k : Int) < (lb : Int) := by omega
      have k4 : (k : Int) < (ln : Int) := by omega
      have HX := hid (And.intro hx (And.intro hy (And.intro hu hv)))
      have HBW := hid (HR.out.trans ((Below.drewQ wr 1).mono HR.out.size))
      have HB2 := hid (HR.out.drew)
      clear hx hy hu hv q0 q1 HBW
      by_cases hxy : x = y
      · have t1 : ((bs x).toList == (bs y).toList) = true := by rw [hxy]; simp
        by_cases huv : u = v
        · have t2 : (u != v) = false := by rw [bne_eq_false_iff_eq]; exact huv
          have HK2 := hid (And.intro (rn_more HX.out.1 HX.out.2.1 hxy HK.out.1) (rn_more HX.out.2.2.1 HX.out.2.2.2 huv HK.out.2))
          clear hxy huv
          go_wp2_with fail
          go_quiet (fail)
          go_wp2_with fail
          go_roundw
          case rel => exact ⟨k + 1, by omega, by go_num, HK2, HR.out.trans ((Below.drewQ _ _).mono HR.out.size)⟩
          case measure => simp [RowKit.intOf]; omega
        · have t2 : (u != v) = true := by rw [bne_iff_ne]; exact huv
          have HE := hid (sameForms_no (a := a) (m := m) (b := b) (n := n) (.inr (.inl (rn_ne HX.out.2.2.1 HX.out.2.2.2 huv))))
          clear hxy huv
          go_wp2_with fail
          go_quiet (fail)
          go_wp2_with fail
          go_ret
          exact ⟨ret_bool HE.out.symm, HR.out.trans ((Below.drewQ _ _).mono HR.out.size)⟩
      · have t1 : ((bs x).toList == (bs y).toList) = false := by rw [str_beq, decide_eq_false hxy]
        have HE := hid (sameForms_no (a := a) (m := m) (b := b) (n := n) (.inl (rn_ne HX.out.1 HX.out.2.1 hxy)))
        clear hxy
        go_wp2_with fail
        go_quiet (fail)
        go_wp2_with fail
        go_ret
        exact ⟨ret_bool HE.out.symm, HR.out.trans ((Below.drewQ _ _).mono HR.out.size)⟩
    · have hke : k = la := by omega
      have HE := hid (show sameForms a m b n = true by
        have q0 := HL.out
        have q1 := HQ.out
        exact sameForms_yes (rn_all (by omega) (by omega) HK.out.1) (rn_all (by omega) (by omega) HK.out.2) (by omega))
      have k1 : ¬ (k : Int) < (la : Int) := by omega
      clear hke
      go_wp2_with fail
      go_ret
      exact ⟨ret_bool HE.out.symm, HR.out⟩

/-- a variant's cells -/
def vrC (v : Rw.Vr) : List Value := [.string (bs v.word), .int .i64 v.end_, .int .i64 v.cost]

set_option maxRecDepth 100000 in
set_option maxHeartbeats 4000000 in
theorem sameVar_any (a b : List Rw.Vr) (va vb : Value) (w : World) (ha : SlOf w va 3 vrC a) (hb : SlOf w vb 3 vrC b) : Calls Tryz.prog 23 #[va, vb] w (Gives (.bool (decide (a = b))) w) := by
  have HA := hid ha
  have HB := hid hb
  obtain ⟨aa, ca, rfl, ya, za, -⟩ := ha
  obtain ⟨ab, cb, rfl, -, zb, -⟩ := hb
  unfold maxLen at za zb
  obtain ⟨la, hla⟩ : ∃ k, k = a.length := ⟨_, rfl⟩
  obtain ⟨lb, hlb⟩ : ∃ k, k = b.length := ⟨_, rfl⟩
  rw [← hla, ← hlb]
  rw [← hla] at ya
  have yb : la ≤ 9223372036854775807 := by omega
  have HL := hid (And.intro hla hlb)
  clear hla hlb
  by_cases h1 : la = lb
  rotate_left
  · have g1 : ((la : Int) != (lb : Int)) = true := by rw [bne_iff_ne]; omega
    have HE := hid (show decide (a = b) = false from decide_eq_false fun e => h1 (by rw [HL.out.1, HL.out.2, e]))
    clear h1
    go_enter Tryz.func23, Tryz.ntmps23
    go_wp2_with fail
    go_ret
    exact ⟨ret_bool HE.out.symm, Below.refl _ _⟩
  have g1 : ((la : Int) != (lb : Int)) = false := by rw [bne_eq_false_iff_eq]; omega
  have HQ := hid h1
  clear h1
  go_enter Tryz.func23, Tryz.ntmps23
  go_wp2_with fail
  go_loopw [5] (fun iv wr => ∃ k : Nat, k ≤ la ∧ iv = .int .i64 k ∧ Hid (a.take k = b.take k) ∧ Hid (Below w.heap.size w wr)) (fun iv _ => la - (RowKit.intOf iv).toNat)
  case atStart => exact ⟨0, Nat.zero_le _, rfl, hid (by simp), Below.refl _ _⟩
  case round =>
    obtain ⟨k, hk, rfl, HK, HR⟩ := hrel
    by_cases hlt : k < la
    · have q0 := HL.out
      have q1 := HQ.out
      obtain ⟨x, hx⟩ : ∃ x, a[k]? = some x := ⟨_, List.getElem?_eq_getElem (by omega)⟩
      obtain ⟨y, hy⟩ : ∃ y, b[k]? = some y := ⟨_, List.getElem?_eq_getElem (by omega)⟩
      obtain ⟨ga, oa, rfl, z1, e1⟩ := rn_cell (HA.out.below HR.out) hx
      obtain ⟨gb, ob, rfl, z2, e2⟩ := rn_cell (HB.out.below HR.out) hy
      have c0 := e1 0 _ rfl
      have c1 := e1 1 _ rfl
      have c2 := e1 2 _ rfl
      have d0 := e2 0 _ rfl
      have d1 := e2 1 _ rfl
      have d2 := e2 2 _ rfl
      rw [Nat.add_zero] at c0 d0
      have k0 : (0 : Int) ≤ (k : Int) := by omega
      have k1 : (k : Int) < (la : Int) := by omega
      have k2 : (k : Int) < (lb : Int) := by omega
      have HX := hid (And.intro hx hy)
      clear hx hy q0 q1 e1 e2
      have HC := hid (show ∀ t, t = decide (x = y) → (t = true → a.take (k + 1) = b.take (k + 1)) ∧ (t = false → decide (a = b) = false) from fun t ht => ⟨fun h => rn_more HX.out.1 HX.out.2 (of_decide_eq_true (ht.symm.trans h)) HK.out, fun h => decide_eq_false (rn_ne HX.out.1 HX.out.2 (of_decide_eq_false (ht.symm.trans h)))⟩)
      obtain ⟨xw, xe, xc⟩ := x
      obtain ⟨yw, ye, yc⟩ := y
      have HD := hid (show decide ((⟨xw, xe, xc⟩ : Rw.Vr) = ⟨yw, ye, yc⟩) = (decide (xw = yw) && decide (xe = ye) && decide (xc = yc)) by
        rw [Bool.eq_iff_iff]; simp [and_assoc])
      simp only at c0 c1 c2 d0 d1 d2
      by_cases hw : xw = yw
      · have t0 : ((bs xw).toList == (bs yw).toList) = true := by rw [hw]; simp
        by_cases he : xe = ye
        · have t1 : (xe == ye) = true := by rw [beq_iff_eq]; exact he
          by_cases hc : xc = yc
          · have t2 : (xc == yc) = true := by rw [beq_iff_eq]; exact hc
            have HF := hid ((HC.out true (by rw [HD.out, decide_eq_true hw, decide_eq_true he, decide_eq_true hc]; rfl)).1 rfl)
            clear hw he hc
            go_wp2_with fail
            go_region
            go_wp2_with fail
            go_roundw
            case rel => exact ⟨k + 1, by omega, by go_num, HF, HR.out.drew⟩
            case measure => simp [RowKit.intOf]; omega
          · have t2 : (xc == yc) = false := by rw [beq_eq_false_iff_ne]; exact hc
            have HF := hid ((HC.out false (by rw [HD.out, decide_eq_false hc, Bool.and_false])).2 rfl)
            clear hw he hc
            go_wp2_with fail
            go_region
            go_wp2_with fail
            go_ret
            exact ⟨ret_bool HF.out.symm, HR.out.drew⟩
        · have t1 : (xe == ye) = false := by rw [beq_eq_false_iff_ne]; exact he
          have HF := hid ((HC.out false (by rw [HD.out, decide_eq_false he, Bool.and_false, Bool.false_and])).2 rfl)
          clear hw he
          go_wp2_with fail
          go_region
          go_wp2_with fail
          go_ret
          exact ⟨ret_bool HF.out.symm, HR.out.drew⟩
      · have t0 : ((bs xw).toList == (bs yw).toList) = false := by rw [str_beq, decide_eq_false hw]
        have HF := hid ((HC.out false (by rw [HD.out, decide_eq_false hw, Bool.false_and, Bool.false_and])).2 rfl)
        clear hw
        go_wp2_with fail
        go_region
        go_wp2_with fail
        go_ret
        exact ⟨ret_bool HF.out.symm, HR.out.drew⟩
    · have hke : k = la := by omega
      have HE := hid (show decide (a = b) = true by
        have q0 := HL.out
        have q1 := HQ.out
        exact decide_eq_true (rn_all (by omega) (by omega) HK.out))
      have k1 : ¬ (k : Int) < (la : Int) := by omega
      clear hke
      go_wp2_with fail
      go_ret
      exact ⟨ret_bool HE.out.symm, HR.out⟩

/-- letters at a place -/
def atB (L : List (List UInt8)) (i : Nat) (f : List (List UInt8)) : Bool := decide (i + f.length ≤ L.length) && decide ((L.drop i).take f.length = f)

set_option maxRecDepth 100000 in
set_option maxHeartbeats 4000000 in
theorem at_any (L f : List (List UInt8)) (i : Nat) (v vf : Value) (w : World) (hv : SlOf w v 1 strC L) (hf : SlOf w vf 1 strC f) (hL : L.length ≤ 1000000) (hfl : f.length ≤ 1000000) (hi : i ≤ 1000000) : Calls Tryz.prog 25 #[v, .int .i64 i, vf] w (Gives (.bool (atB L i f)) w) := by
  have HV := hid hv
  have HF := hid hf
  obtain ⟨va, vc, rfl, -⟩ := hv
  obtain ⟨fa, fc, rfl, -⟩ := hf
  have g0 : decide ((i : Int) < 0) = false := decide_eq_false (by omega)
  obtain ⟨lL, hlL⟩ : ∃ k, k = L.length := ⟨_, rfl⟩
  obtain ⟨lf, hlf⟩ : ∃ k, k = f.length := ⟨_, rfl⟩
  rw [← hlL] at hL ⊢
  rw [← hlf] at hfl ⊢
  have HQ := hid (And.intro hlL hlf)
  clear hlL hlf
  by_cases hle : i + lf ≤ lL
  rotate_left
  · have g1 : decide ((lL : Int) < (i : Int) + (lf : Int)) = true := decide_eq_true (by omega)
    have HE := hid (show atB L i f = false by unfold atB; rw [decide_eq_false (by rw [← HQ.out.1, ← HQ.out.2]; exact hle)]; rfl)
    clear hle
    go_enter Tryz.func25, Tryz.ntmps25
    go_wp2_with fail
    go_ret
    exact ⟨ret_bool HE.out.symm, Below.refl _ _⟩
  have g1 : decide ((lL : Int) < (i : Int) + (lf : Int)) = false := decide_eq_false (by omega)
  have HE := hid (show atB L i f = decide ((L.drop i).take f.length = f) by unfold atB; rw [decide_eq_true (by rw [← HQ.out.1, ← HQ.out.2]; exact hle)]; rfl)
  go_enter Tryz.func25, Tryz.ntmps25
  go_wp2_with fail
  go_loopw [7] (fun iv wr => ∃ m : Nat, m ≤ lf ∧ iv = .int .i64 m ∧ Hid ((L.drop i).take m = f.take m) ∧ Hid (Below w.heap.size w wr)) (fun iv _ => lf - (RowKit.intOf iv).toNat)
  case atStart => exact ⟨0, Nat.zero_le _, rfl, hid (by simp), Below.refl _ _⟩
  case round =>
    obtain ⟨m, hm, rfl, HM, HR⟩ := hrel
    by_cases hlt : m < lf
    · have q0 := HQ.out
      obtain ⟨x, hx⟩ : ∃ x, (L.drop i)[m]? = some x := ⟨_, List.getElem?_eq_getElem (by rw [List.length_drop]; omega)⟩
      obtain ⟨y, hy⟩ : ∃ y, f[m]? = some y := ⟨_, List.getElem?_eq_getElem (by omega)⟩
      obtain ⟨g, o, rfl, z1, e1⟩ := rn_cell1 (f := fun x => Value.string (bs x)) (k := i + m) (HV.out.below HR.out) (by rw [← List.getElem?_drop]; exact hx)
      obtain ⟨g2, o2, rfl, z2, e2⟩ := rn_cell1 (f := fun x => Value.string (bs x)) (HF.out.below HR.out) hy
      have hm0 : (0 : Int) ≤ (m : Int) := by omega
      have hm1 : (m : Int) < (lf : Int) := by omega
      have hi0 : (0 : Int) ≤ (i : Int) + (m : Int) := by omega
      have hi1 : (i : Int) + (m : Int) < (lL : Int) := by omega
      have hin : ((i : Int) + (m : Int)).toNat = i + m := by omega
      have hwr : IntKind.i64.wrap ((i : Int) + (m : Int)) = (i : Int) + (m : Int) := IntWalk.i64_in _ (by omega)
      have HX := hid (And.intro hx hy)
      clear hx hy q0
      by_cases hxy : x = y
      · have t1 : ((bs x).toList == (bs y).toList) = true := by rw [hxy]; simp
        have HM2 := hid (rn_more HX.out.1 HX.out.2 hxy HM.out)
        clear hxy
        go_wp2_with fail
        go_quiet (fail)
        go_wp2_with fail
        go_roundw
        case rel => exact ⟨m + 1, by omega, by go_num, HM2, HR.out.trans ((Below.drewQ _ _).mono HR.out.size)⟩
        case measure => simp [RowKit.intOf]; omega
      · have t1 : ((bs x).toList == (bs y).toList) = false := by rw [str_beq, decide_eq_false hxy]
        have HE2 := hid (show atB L i f = false by
          rw [HE.out]
          refine decide_eq_false fun e => ?_
          have h1 := HX.out.2
          rw [← e, List.getElem?_take_of_lt (by rw [← HQ.out.2]; exact hlt), HX.out.1] at h1
          exact hxy (Option.some.inj h1))
        clear hxy
        go_wp2_with fail
        go_quiet (fail)
        go_wp2_with fail
        go_ret
        exact ⟨ret_bool HE2.out.symm, HR.out.trans ((Below.drewQ _ _).mono HR.out.size)⟩
    · have hme : m = f.length := by rw [← HQ.out.2]; omega
      have HE2 := hid (show atB L i f = true by
        have := HM.out
        rw [HE.out]
        rw [hme, List.take_length] at this
        exact decide_eq_true this)
      have k1 : ¬ (m : Int) < (lf : Int) := by omega
      clear hme
      go_wp2_with fail
      go_ret
      exact ⟨ret_bool HE2.out.symm, HR.out⟩

end Go.Proofs.YtdchjacccmajcaaGreatDoor
