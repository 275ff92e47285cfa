/-
  align.written: the form and the cost of a list of rules. Conditions: lengths.
-/
import Derived.Test.YthibphklchalkaaGreatDoorZAl8
namespace Al

/-- the rules one after the other: where they lead, the form, the cost -/
def walkW (S : Side) : Nat → List Int → Option (Nat × List UInt8 × Int)
  | k, [] => some (k, [], 0)
  | k, i :: l =>
    match S.rules.find? (fun r => (r.index : Int) == i) with
    | none => none
    | some r => if fits S.letters r k then (walkW S (k + r.from_.length) l).map (fun p => (p.1, r.to_ ++ p.2.1, r.cost + p.2.2)) else none

theorem walkW_cons (S : Side) (k : Nat) (i : Int) (l : List Int) : walkW S k (i :: l) = match S.rules.find? (fun r => (r.index : Int) == i) with
    | none => none
    | some r => if fits S.letters r k then (walkW S (k + r.from_.length) l).map (fun p => (p.1, r.to_ ++ p.2.1, r.cost + p.2.2)) else none := rfl

theorem written_walk (S : Side) : ∀ (l : List Int) (k : Nat), written S k l = match walkW S k l with | some (k', f, c) => if k' = S.letters.length then some (f, c) else none | none => none
  | [], k => by unfold written walkW; rfl
  | i :: l, k => by
    unfold written walkW
    cases h : S.rules.find? (fun r => (r.index : Int) == i) with
    | none => rfl
    | some r =>
      simp only
      by_cases hf : fits S.letters r k
      · rw [if_pos hf, if_pos hf, written_walk S l]
        cases hw : walkW S (k + r.from_.length) l with
        | none => rfl
        | some p =>
          obtain ⟨k', f, c⟩ := p
          simp only [Option.map_some]
          split <;> rfl
      · rw [if_neg hf, if_neg hf]

theorem walkW_append (S : Side) : ∀ (a b : List Int) (k : Nat), walkW S k (a ++ b) = (walkW S k a).bind fun p => (walkW S p.1 b).map fun q => (q.1, p.2.1 ++ q.2.1, p.2.2 + q.2.2)
  | [], b, k => by
    simp only [List.nil_append]
    show _ = (some (k, [], 0)).bind _
    simp only [Option.bind_some, List.nil_append, Int.zero_add]
    cases walkW S k b with
    | none => rfl
    | some q => rfl
  | i :: a, b, k => by
    rw [List.cons_append, walkW_cons, walkW_cons]
    cases h : S.rules.find? (fun r => (r.index : Int) == i) with
    | none => rfl
    | some r =>
      simp only
      by_cases hf : fits S.letters r k
      · rw [if_pos hf, if_pos hf, walkW_append S a b]
        cases walkW S (k + r.from_.length) a with
        | none => rfl
        | some p =>
          obtain ⟨k', f, c⟩ := p
          simp only [Option.bind_some, Option.map_some]
          cases walkW S k' b with
          | none => rfl
          | some q => simp [Int.add_assoc]
      · rw [if_neg hf, if_neg hf]; rfl

theorem walkW_step {S : Side} {l : List Int} {n k : Nat} {f : List UInt8} {c i : Int} (h : walkW S 0 (l.take n) = some (k, f, c)) (hi : l[n]? = some i) :
    walkW S 0 (l.take (n + 1)) = match S.rules.find? (fun r => (r.index : Int) == i) with
      | none => none
      | some r => if fits S.letters r k then some (k + r.from_.length, f ++ r.to_, c + r.cost) else none := by
  obtain ⟨hn, he⟩ := List.getElem?_eq_some_iff.1 hi
  rw [List.take_succ_eq_append_getElem hn, he, walkW_append, h]
  simp only [Option.bind_some]
  unfold walkW
  cases S.rules.find? (fun r => (r.index : Int) == i) with
  | none => rfl
  | some r =>
    simp only
    split
    · simp [walkW]
    · rfl

theorem walkW_fail {S : Side} {l : List Int} {n : Nat} (h : walkW S 0 (l.take n) = none) : written S 0 l = none := by
  rw [written_walk, ← List.take_append_drop n l, walkW_append, h]
  rfl

/-- how far the rules lead, and how much they can write -/
theorem walkW_bounds {S : Side} (hS : S.Good) (hz : ∀ r ∈ S.rules, r.to_.length ≤ 1000) : ∀ (l : List Int) (k k' : Nat) (f : List UInt8) (c : Int), k ≤ S.letters.length → walkW S k l = some (k', f, c) →
    k' ≤ S.letters.length ∧ f.length + 1000 * k ≤ 1000 * k' ∧ 0 ≤ c ∧ c + 1000 * k ≤ 1000 * k'
  | [], k, k', f, c, hk, h => by
    unfold walkW at h; cases h; simp; exact hk
  | i :: l, k, k', f, c, hk, h => by
    unfold walkW at h
    split at h
    · cases h
    · rename_i r hr
      have hm := List.mem_of_find?_eq_some hr
      split at h
      · rename_i hf
        cases hw : walkW S (k + r.from_.length) l with
        | none => rw [hw] at h; cases h
        | some p =>
          rw [hw] at h
          obtain ⟨k2, f2, c2⟩ := p
          simp only [Option.map_some, Option.some.injEq, Prod.mk.injEq] at h
          obtain ⟨rfl, rfl, rfl⟩ := h
          have h1 := fits_le hf
          obtain ⟨a, b, d, e⟩ := walkW_bounds hS hz l _ _ _ _ h1 hw
          have := hz r hm
          have := hS.cost r hm
          have := List.length_pos_iff.2 (hS.some_ r hm)
          rw [List.length_append]
          refine ⟨a, by omega, by omega, by omega⟩
      · cases h

end Al
namespace Go.Proofs.YthibphklchalkaaGreatDoor
open Go.RowKit Go.Lib Go.Maps

set_option maxRecDepth 100000 in
theorem eqI_any (p : Al.R × Value) (a : Option Addr) (n c : Nat) (hp : p.2 = .slice a n c) (i : Int) (B : Nat) (W : World) (hB : W.cell? ⟨B, 0, none⟩ = some (.int .i64 i)) (hBs : B < W.heap.size) :
    Calls Tryz.prog 45 #[ruleV p, .pointer (some ⟨B, 0, none⟩)] W (Gives (.bool ((p.1.index : Int) == i)) W) := by
  obtain ⟨r, fv⟩ := p
  simp only at hp
  subst hp
  unfold ruleV ruleC
  have hbW := hid (show Below W.heap.size W (W.alloc (.cells #[.int .i64 r.index, .int .i64 r.cost, .slice a n c, .string (bs r.to_)] 59)) from (Below.refl _ W).alloc (Nat.le_refl _) _)
  go_enter Tryz.func45, Tryz.ntmps45
  go_wp2
  go_ret
  exact ⟨rfl, hbW.out⟩

/-- what IndexFunc ends in -/
def IdxPost (fs : List (Al.R × Value)) (i : Int) (W : World) (e : Ending) (W' : World) : Prop :=
  Below W.heap.size W W' ∧ ((∃ k p, fs[k]? = some p ∧ (fs.map Prod.fst).find? (fun r => (r.index : Int) == i) = some p.1 ∧ e = .returned (.int .i64 (k : Nat))) ∨
    ((fs.map Prod.fst).find? (fun r => (r.index : Int) == i) = none ∧ e = .returned (.int .i64 (-1))))

theorem find_at {fs : List (Al.R × Value)} {i : Int} {k : Nat} {p : Al.R × Value} (hp : fs[k]? = some p) (hn : ∀ q ∈ fs.take k, ((q.1.index : Int) == i) = false) (he : ((p.1.index : Int) == i) = true) :
    (fs.map Prod.fst).find? (fun r => (r.index : Int) == i) = some p.1 := by
  obtain ⟨hk, h⟩ := List.getElem?_eq_some_iff.1 hp
  rw [← List.take_append_drop k fs, List.map_append, List.find?_append]
  rw [List.find?_eq_none.2 (fun x hx => by
    obtain ⟨q, hq, rfl⟩ := List.mem_map.1 hx
    rw [hn q hq]; simp)]
  rw [List.drop_eq_getElem_cons hk, h, List.map_cons, List.find?_cons]
  simp [he]

set_option maxRecDepth 100000 in
set_option maxHeartbeats 2000000 in
theorem idx_any (fs : List (Al.R × Value)) (v : Value) (i : Int) (B : Nat) (W : World) (h : SlOf W v 4 ruleC fs) (hs : ∀ p ∈ fs, ∃ a n c, p.2 = .slice a n c) (hB : W.cell? ⟨B, 0, none⟩ = some (.int .i64 i)) (hBs : B < W.heap.size) (hlen : fs.length ≤ 1000000) :
    Calls Tryz.prog 44 #[v, .func (.func 45) #[] #[.pointer (some ⟨B, 0, none⟩)]] W (IdxPost fs i W) := by
  obtain ⟨a, cap, rfl, h1, h2, h3⟩ := h
  have HS := hid hs
  have H3 := hid h3
  have HB := hid hB
  clear hs h3 hB
  go_enter Tryz.func44, Tryz.ntmps44
  go_wp2_with fail
  go_loopw [8] (fun k wr => ∃ n : Nat, n ≤ fs.length ∧ k = .int .i64 n ∧ (∀ q ∈ fs.take n, ((q.1.index : Int) == i) = false) ∧ Below W.heap.size W wr) (fun k _ => fs.length - (intOf k).toNat)
  case atStart => exact ⟨0, Nat.zero_le _, rfl, by simp, Below.refl _ _⟩
  case round =>
    obtain ⟨n, hn, rfl, hno, hb⟩ := hrel
    by_cases hlt : n < fs.length
    · obtain ⟨g, o, rfl, hr⟩ := H3.out (by omega)
      obtain ⟨p, hp⟩ : ∃ p, fs[n]? = some p := ⟨_, List.getElem?_eq_getElem hlt⟩
      obtain ⟨ap, np, cp, hpv⟩ := HS.out p (List.mem_of_getElem? hp)
      have hc := (hr.below hb).2 n p hp
      have c0 := hc 0 _ rfl
      have c1 := hc 1 _ rfl
      have c2 := hc 2 _ rfl
      have c3 := hc 3 _ rfl
      rw [Nat.add_zero] at c0
      rw [hpv] at c2
      have hg := (hr.below hb).1
      have hn0 : (0 : Int) ≤ (n : Int) := by omega
      have hn1 : (n : Int) < (fs.length : Int) := by omega
      have HC := hid (eqI_any p ap np cp hpv i B wr ((hb.cell (p := ⟨B, 0, none⟩) hBs).trans HB.out) (Nat.lt_of_lt_of_le hBs hb.size))
      have HP := hid hp
      have HNO := hid hno
      have HBB := hid hb
      unfold ruleV ruleC at HC
      rw [hpv] at HC
      clear hc hr hp hpv hno hb
      go_wp2_with fail
      refine (HC.out).mono ?_
      rintro e w1 ⟨rfl, hb1⟩
      cases he : ((p.1.index : Int) == i) with
      | true =>
        have HE := hid he
        clear he
        have HB1 := hid (Below.trans HBB.out (hb1.mono HBB.out.size))
        clear hb1
        go_wp2_with fail
        go_ret
        exact ⟨HB1.out, .inl ⟨n, p, HP.out, find_at HP.out HNO.out HE.out, rfl⟩⟩
      | false =>
        have HE := hid he
        clear he
        have HB1 := hid (Below.trans HBB.out (hb1.mono HBB.out.size))
        clear hb1
        go_wp2_with fail
        go_roundw
        case rel =>
          refine ⟨n + 1, by omega, by go_num, fun q hq => ?_, HB1.out⟩
          obtain ⟨hk, hx⟩ := List.getElem?_eq_some_iff.1 HP.out
          rw [List.take_succ_eq_append_getElem hk, hx, List.mem_append, List.mem_singleton] at hq
          rcases hq with hq | rfl
          · exact HNO.out q hq
          · exact HE.out
        case measure => simp [intOf]; omega
    · have hne : n = fs.length := by omega
      subst hne
      have HNO := hid hno
      have HBB := hid hb
      clear hno hb
      go_wp2_with fail
      go_ret
      refine ⟨HBB.out, .inr ⟨List.find?_eq_none.2 (fun x hx => ?_), rfl⟩⟩
      obtain ⟨q, hq, rfl⟩ := List.mem_map.1 hx
      rw [HNO.out q (by rw [List.take_length]; exact hq)]; simp

/-- what written ends in -/
def WrittenPost (S : Al.Side) (l : List Int) (W : World) (e : Ending) (W' : World) : Prop :=
  Below W.heap.size W W' ∧ ∃ f c b, e = .returned (.tuple #[.string (bs f), .int .i64 c, .bool b]) ∧ f.length ≤ 100000 ∧ 0 ≤ c ∧ c ≤ 100000 ∧
    match Al.written S 0 l with | some (f', c') => f = f' ∧ c = c' ∧ b = true | none => b = false

def intC (i : Int) : List Value := [.int .i64 i]

set_option maxRecDepth 100000 in
set_option maxHeartbeats 8000000 in
theorem written_any (S : Al.Side) (hS : S.Good) (hlet : S.letters.length ≤ 12) (hsz : ∀ r ∈ S.rules, r.from_.length ≤ 12 ∧ r.to_.length ≤ 3) (hrl : S.rules.length ≤ 1000000) (lv rv v : Value) (fs : List (Al.R × Value)) (l : List Int) (W : World)
    (h1 : SlOf W lv 1 strC S.letters) (h2 : RulesAt W fs rv) (h3 : fs.map Prod.fst = S.rules) (h4 : SlOf W v 1 intC l) (hl : l.length ≤ 1000000) :
    Calls Tryz.prog 26 #[.agg #[lv, rv], v] W (WrittenPost S l W) := by
  have hflen : fs.length ≤ 1000000 := by have : fs.length = S.rules.length := by rw [← h3, List.length_map]
                                         omega
  have HB := hid (fun (k k' : Nat) (f : List UInt8) (c : Int) (hk : k ≤ S.letters.length) (l : List Int) => Al.walkW_bounds hS (fun r hr => by have := (hsz r hr).2; omega) l k k' f c hk)
  have HL := hid h1
  have HR := hid h2
  have H3 := hid h3
  have HV := hid h4
  obtain ⟨al, cl, rfl, l1, l2, -⟩ := h1
  obtain ⟨⟨ar, cr, rfl, r1, r2, r3⟩, r4⟩ := h2
  obtain ⟨av, cv, rfl, v1, v2, v3⟩ := h4
  have HR3 := hid r3
  have HV3 := hid v3
  clear h3 r3 r4 v3
  obtain ⟨W1, hW1⟩ : ∃ W1, W1 = W.alloc (.cells #[.slice al S.letters.length cl, .slice ar fs.length cr] 45) := ⟨_, rfl⟩
  have hb1 : Below W.heap.size W W1 := by rw [hW1]; exact (Below.refl _ W).alloc (Nat.le_refl _) _
  have hs1 : W1.heap[W.heap.size]? = some (.cells #[.slice al S.letters.length cl, .slice ar fs.length cr] 45 (0, 0)) := by rw [hW1]; exact World.alloc_heap_new W _
  have HS1 := hid (And.intro hb1 hs1)
  have hz1 := (Array.getElem?_eq_some_iff.1 hs1).1
  clear hb1 hs1
  go_enter Tryz.func26, Tryz.ntmps26
  go_wp2_with fail
  rw [← hW1]
  have HW1 := hid hW1
  clear hW1
  go_loopw [4, 5, 7, 13] (fun fv cv kv nv wr => ∃ (n k : Nat) (f : List UInt8) (c : Int), n ≤ l.length ∧ nv = .int .i64 n ∧ fv = .string (bs f) ∧ cv = .int .i64 c ∧ kv = .int .i64 k ∧ Al.walkW S 0 (l.take n) = some (k, f, c) ∧ Below W1.heap.size W1 wr) (fun _ _ _ nv _ => l.length - (intOf nv).toNat)
  case atStart => exact ⟨0, 0, [], 0, Nat.zero_le _, rfl, rfl, rfl, rfl, by simp [Al.walkW], Below.refl _ _⟩
  case round =>
    obtain ⟨n, k, f, c, hn, rfl, rfl, rfl, rfl, hw, hb⟩ := hrel
    obtain ⟨b1, b2, b3, b4⟩ := HB.out 0 k f c (Nat.zero_le _) _ hw
    have hbW := HS1.out.1.trans (hb.mono HS1.out.1.size)
    have hs := (hb.block _ hz1).trans HS1.out.2
    by_cases hlt : n < l.length
    · obtain ⟨g, o, rfl, hr⟩ := HV3.out (by omega)
      obtain ⟨i, hi⟩ : ∃ i, l[n]? = some i := ⟨_, List.getElem?_eq_getElem hlt⟩
      have hstep := hid (Al.walkW_step hw hi)
      have hc := (hr.below hbW).2 n i hi
      have c0 := hc 0 _ rfl
      rw [Nat.add_zero, Nat.mul_one] at c0
      have hg := (hr.below hbW).1
      have hn0 : (0 : Int) ≤ (n : Int) := by omega
      have hn1 : (n : Int) < (l.length : Int) := by omega
      obtain ⟨wa, hwa⟩ : ∃ wa, wa = wr.alloc (.cells #[.int .i64 i] 3) := ⟨_, rfl⟩
      have hba : Below wr.heap.size wr wa := by rw [hwa]; exact (Below.refl _ wr).alloc (Nat.le_refl _) _
      have hia : wa.heap[wr.heap.size]? = some (.cells #[.int .i64 i] 3 (0, 0)) := by rw [hwa]; exact World.alloc_heap_new wr _
      have hbWa := hid (hbW.trans (hba.mono hbW.size))
      have hb1a := hid (hb.trans (hba.mono hb.size))
      have hsa := (hba.block _ (Array.getElem?_eq_some_iff.1 hs).1).trans hs
      have s1 : wr.cell? ⟨W.heap.size, 1, none⟩ = some (.slice ar fs.length cr) := by simp [World.cell?, hs]
      have zs := (Array.getElem?_eq_some_iff.1 hs).1
      have HID := hid (idx_any fs (.slice ar fs.length cr) i wr.heap.size wa (HR.out.1.below hbWa.out) (fun p hp => by obtain ⟨a, c, e, _⟩ := HR.out.2 p hp; exact ⟨a, _, c, e⟩) (cell_blk hia).1 (Array.getElem?_eq_some_iff.1 hia).1 (by omega))
      have HI := hid hi
      have HW := hid hw
      have HSA := hid hsa
      clear hc hr hi hw hb hbW hs hba hia hsa
      go_wp2_with fail
      rw [← hwa]
      clear hwa
      refine (HID.out).mono ?_
      rintro e wb ⟨hbb, h⟩
      have hsb := (hbb.block _ (Array.getElem?_eq_some_iff.1 HSA.out).1).trans HSA.out
      have zb := (Array.getElem?_eq_some_iff.1 hsb).1
      have y0 : wb.cell? ⟨W.heap.size, 0, none⟩ = some (.slice al S.letters.length cl) := by simp [World.cell?, hsb]
      have y1 : wb.cell? ⟨W.heap.size, 1, none⟩ = some (.slice ar fs.length cr) := by simp [World.cell?, hsb]
      have HB1 := hid (hb1a.out.trans (hbb.mono hb1a.out.size))
      have HBW := hid (hbWa.out.trans (hbb.mono hbWa.out.size))
      have HSB := hid hsb
      clear hbb hsb
      rcases h with ⟨j, p, hp, hfi, rfl⟩ | ⟨hfi, rfl⟩
      · rw [H3.out] at hfi
        have hj := (List.getElem?_eq_some_iff.1 hp).1
        obtain ⟨gr, og, rfl, hrow⟩ := HR3.out (by omega)
        have hpm := List.mem_of_getElem? hp
        have hps := HR.out.2 p hpm
        have hps' := hps
        obtain ⟨pa, pc, hpv, -, -, -⟩ := hps'
        have hmS : p.1 ∈ S.rules := by rw [← H3.out]; exact List.mem_map_of_mem hpm
        have hcost := hS.cost p.1 hmS
        have hne := hS.some_ p.1 hmS
        have hlens := hsz p.1 hmS
        have hc := (hrow.below HBW.out).2 j p hp
        have c0 := hc 0 _ rfl
        have c1 := hc 1 _ rfl
        have c2 := hc 2 _ rfl
        have c3 := hc 3 _ rfl
        rw [Nat.add_zero] at c0
        rw [hpv] at c2
        have zg := (hrow.below HBW.out).1
        have hj0 : (0 : Int) ≤ (j : Int) := by omega
        have hj1 : (j : Int) < (fs.length : Int) := by omega
        have hjd : decide ((j : Int) < 0) = false := decide_eq_false (by omega)
        have K : Hid (∀ wx, Below wb.heap.size wb wx → wx.cell? ⟨W.heap.size, 0, none⟩ = some (.slice al S.letters.length cl) ∧ wx.cell? ⟨W.heap.size, 1, none⟩ = some (.slice (some ⟨gr, og, none⟩) fs.length cr) ∧
          wx.cell? ⟨gr, og + j * 4, none⟩ = some (.int .i64 p.1.index) ∧ wx.cell? ⟨gr, og + j * 4 + 1, none⟩ = some (.int .i64 p.1.cost) ∧ wx.cell? ⟨gr, og + j * 4 + 2, none⟩ = some (.slice pa p.1.from_.length pc) ∧ wx.cell? ⟨gr, og + j * 4 + 3, none⟩ = some (.string (bs p.1.to_))) := fun wx hb =>
          ⟨(hb.cell (p := ⟨W.heap.size, 0, none⟩) zb).trans y0, (hb.cell (p := ⟨W.heap.size, 1, none⟩) zb).trans y1, (hb.cell (p := ⟨gr, og + j * 4, none⟩) zg).trans c0, (hb.cell (p := ⟨gr, og + j * 4 + 1, none⟩) zg).trans c1, (hb.cell (p := ⟨gr, og + j * 4 + 2, none⟩) zg).trans c2, (hb.cell (p := ⟨gr, og + j * 4 + 3, none⟩) zg).trans c3⟩
        have HF : Hid (∀ wx, Below wb.heap.size wb wx → Calls Tryz.prog 36 #[.agg #[.slice al S.letters.length cl, .slice (some ⟨gr, og, none⟩) fs.length cr], .agg #[.int .i64 p.1.index, .int .i64 p.1.cost, .slice pa p.1.from_.length pc, .string (bs p.1.to_)], .int .i64 k] wx (Gives (.bool (Al.fits S.letters p.1 k)) wx)) := fun wx hb => by
          have b := HBW.out.trans (hb.mono HBW.out.size)
          have := fits_any S.letters p k (.slice al S.letters.length cl) (.slice (some ⟨gr, og, none⟩) fs.length cr) wx (HL.out.below b) (hps.below b) hne (by omega) (by omega) (by omega)
          unfold ruleV ruleC at this
          rw [hpv] at this
          exact this
        have HFI := hid hfi
        have HX := hid (And.intro hS (And.intro hsz (And.intro hps (And.intro hp hne))))
        clear hfi hrow hpm hps hpv hc hmS hp hne hS hsz
        have f1' : IntKind.i64.wrap ((k : Int) + (p.1.from_.length : Int)) = (k : Int) + (p.1.from_.length : Int) := IntWalk.i64_in _ (by omega)
        cases hfit : Al.fits S.letters p.1 k with
        | false =>
          rw [hfit] at HF
          have hno := hid (show Al.written S 0 l = none by
            refine Al.walkW_fail (n := n + 1) ?_
            rw [hstep.out, HFI.out]; simp only; rw [hfit]; rfl)
          clear hfit f1'
          go_wp2_with fail
          go_region_held3 (fun wx => wx.cell? ⟨W.heap.size, 0, none⟩ = some (.slice al S.letters.length cl) ∧ wx.cell? ⟨W.heap.size, 1, none⟩ = some (.slice (some ⟨gr, og, none⟩) fs.length cr) ∧
          wx.cell? ⟨gr, og + j * 4, none⟩ = some (.int .i64 p.1.index) ∧ wx.cell? ⟨gr, og + j * 4 + 1, none⟩ = some (.int .i64 p.1.cost) ∧ wx.cell? ⟨gr, og + j * 4 + 2, none⟩ = some (.slice pa p.1.from_.length pc) ∧ wx.cell? ⟨gr, og + j * 4 + 3, none⟩ = some (.string (bs p.1.to_)))
            (first | (exact K.out _ (Below.refl _ _)) | (exact K.out _ (Below.refl _ _).drew) | (go_split_ands; refine K.out _ ?_; first | assumption | (refine Below.step ?_ hbx; first | assumption | exact (Below.refl _ _).drew)))
            (first | (go_at_call 36; refine (HF.out _ (by first | assumption | exact (Below.refl _ _).drew)).mono ?_; rintro e wy ⟨rfl, hbx⟩))
          have hby : Below wb.heap.size wb wy := by first | assumption | exact Below.step (Below.refl _ _).drew hbx
          have HY := hid (HBW.out.trans (hby.mono HBW.out.size))
          clear hby hbx
          go_wp2
          go_ret3
          exact ⟨HY.out, [], 0, false, rfl, by simp, by omega, by omega, by rw [hno.out]⟩
        | true =>
          rw [hfit] at HF
          have hgo := hid (show Al.walkW S 0 (l.take (n + 1)) = some (k + p.1.from_.length, f ++ p.1.to_, c + p.1.cost) by
            rw [hstep.out, HFI.out]; simp only; rw [hfit]; rfl)
          have hle := Al.fits_le hfit
          have hzz : ¬ 9223372036854775807 < (bs f).size + (bs p.1.to_).size := by rw [bs_len, bs_len]; omega
          clear hfit
          go_wp2_with fail
          go_region_held3 (fun wx => wx.cell? ⟨W.heap.size, 0, none⟩ = some (.slice al S.letters.length cl) ∧ wx.cell? ⟨W.heap.size, 1, none⟩ = some (.slice (some ⟨gr, og, none⟩) fs.length cr) ∧
          wx.cell? ⟨gr, og + j * 4, none⟩ = some (.int .i64 p.1.index) ∧ wx.cell? ⟨gr, og + j * 4 + 1, none⟩ = some (.int .i64 p.1.cost) ∧ wx.cell? ⟨gr, og + j * 4 + 2, none⟩ = some (.slice pa p.1.from_.length pc) ∧ wx.cell? ⟨gr, og + j * 4 + 3, none⟩ = some (.string (bs p.1.to_)))
            (first | (exact K.out _ (Below.refl _ _)) | (exact K.out _ (Below.refl _ _).drew) | (go_split_ands; refine K.out _ ?_; first | assumption | (refine Below.step ?_ hbx; first | assumption | exact (Below.refl _ _).drew)))
            (first | (go_at_call 36; refine (HF.out _ (by first | assumption | exact (Below.refl _ _).drew)).mono ?_; rintro e wy ⟨rfl, hbx⟩))
          have hby : Below wb.heap.size wb wy := by first | assumption | exact Below.step (Below.refl _ _).drew hbx
          have HY := hid (HB1.out.trans (hby.mono HB1.out.size))
          obtain ⟨k0, k1, k2, k3, k4, k5⟩ := K.out wy hby
          clear hby hbx c0 c1 c2 c3 y0 y1
          go_wp2_with fail
          go_roundw
          case rel =>
            have hcat : bs f ++ bs p.1.to_ = bs (f ++ p.1.to_) := by
              refine bs_ext ?_
              simp [bs]
            exact ⟨n + 1, k + p.1.from_.length, f ++ p.1.to_, c + p.1.cost, by omega, by go_num, by rw [hcat], rfl, by go_num, hgo.out, HY.out⟩
          case measure => simp [intOf]; omega
      · rw [H3.out] at hfi
        have hno := hid (show Al.written S 0 l = none by
          refine Al.walkW_fail (n := n + 1) ?_
          rw [hstep.out, hfi])
        clear hfi
        go_wp2_with fail
        go_quiet (fail)
        go_wp2
        go_ret3
        exact ⟨HBW.out.trans ((Below.drewQ _ _).mono HBW.out.size), [], 0, false, rfl, by simp, by omega, by omega, by rw [hno.out]⟩
    · have hne : n = l.length := by omega
      subst hne
      have y0 : wr.cell? ⟨W.heap.size, 0, none⟩ = some (.slice al S.letters.length cl) := by simp [World.cell?, hs]
      have HBW := hid hbW
      have hwr := hid (show Al.written S 0 l = if k = S.letters.length then some (f, c) else none by
        rw [List.take_length] at hw
        rw [Al.written_walk, hw])
      have hnb := nat_beq k S.letters.length
      clear hw hb hbW hs
      by_cases hk : k = S.letters.length
      · have hk1 : ((k : Int) == (S.letters.length : Int)) = true := by rw [hnb]; exact decide_eq_true hk
        clear hnb
        have HK := hid hk
        clear hk
        go_wp2_with fail
        go_quiet (fail)
        go_wp2
        go_ret3
        exact ⟨HBW.out.trans ((Below.drewQ _ _).mono HBW.out.size), f, c, true, rfl, by omega, by omega, by omega, by rw [hwr.out, if_pos HK.out]; exact ⟨rfl, rfl, rfl⟩⟩
      · have hk1 : ((k : Int) == (S.letters.length : Int)) = false := by rw [hnb]; exact decide_eq_false hk
        clear hnb
        have HK := hid hk
        clear hk
        go_wp2_with fail
        go_quiet (fail)
        go_wp2
        go_ret3
        exact ⟨HBW.out.trans ((Below.drewQ _ _).mono HBW.out.size), f, c, false, rfl, by omega, by omega, by omega, by rw [hwr.out, if_neg HK.out]⟩

end Go.Proofs.YthibphklchalkaaGreatDoor
