/-
  slices.Clone of a case, fact.Least, fact.Next. Conditions: lengths.
-/
import Derived.Test.YteogmlgmodeajaaGreatDoorZFa3
import Derived.Test.YteogmlgmodeajaaGreatDoorZFlat
import Derived.Lib.LazyBuf
namespace Fa

/-- one step of Next from the back: all from k on are at their greatest -/
theorem nx_at : ∀ (l : List (Fact × Int)) (k : Nat) (p : Fact × Int), l[k]? = some p → p.2 < p.1.hi → (∀ (j : Nat) (q : Fact × Int), k < j → l[j]? = some q → ¬ q.2 < q.1.hi) → nx l = some ((l.take k).map (fun q => q.2) ++ (p.2 + 1) :: (l.drop (k + 1)).map fun q => q.1.lo)
  | [], k, p, h, _, _ => by simp at h
  | q :: l, 0, p, h, hp, hj => by
    simp only [List.getElem?_cons_zero, Option.some.injEq] at h
    subst h
    have hn : nx l = none := nx_stuck l fun x hx => by
      obtain ⟨j, hj'⟩ := List.getElem?_of_mem hx
      exact hj (j + 1) x (by omega) (by simpa using hj')
    rw [nx, hn]
    simp only
    rw [if_pos hp]
    rfl
  | q :: l, k + 1, p, h, hp, hj => by
    have ih := nx_at l k p (by simpa using h) hp fun j x hk hx => hj (j + 1) x (by omega) (by simpa using hx)
    rw [nx, ih]
    rfl
where
  nx_stuck : ∀ (l : List (Fact × Int)), (∀ x ∈ l, ¬ x.2 < x.1.hi) → nx l = none
    | [], _ => rfl
    | q :: l, h => by
      have ih := nx_stuck l fun x hx => h x (List.mem_cons_of_mem _ hx)
      rw [nx, ih]
      simp only
      rw [if_neg (h q List.mem_cons_self)]
theorem nx_none_of (l : List (Fact × Int)) (h : ∀ x ∈ l, ¬ x.2 < x.1.hi) : nx l = none := nx_at.nx_stuck l h

/-- the values when Next has come down to k: those ahead as they were, those behind the least -/
def mid (d : Dom) (c : List Int) (k : Nat) : List Int := c.take k ++ (d.drop k).map Fact.lo
theorem mid_len {d : Dom} {c : List Int} {k : Nat} (h : c.length = d.length) (hk : k ≤ d.length) : (mid d c k).length = d.length := by
  unfold mid; simp; omega
theorem mid_all {d : Dom} {c : List Int} (h : c.length = d.length) : mid d c d.length = c := by
  unfold mid
  rw [List.drop_length, ← h, List.take_length]; simp
theorem mid_get {d : Dom} {c : List Int} {k : Nat} {x : Int} (h : c.length = d.length) (hx : c[k]? = some x) : (mid d c (k + 1))[k]? = some x := by
  have hk := (List.getElem?_eq_some_iff.1 hx).1
  unfold mid
  rw [List.getElem?_append_left (by simp; omega), List.getElem?_take_of_lt (by omega)]
  exact hx
theorem mid_set {d : Dom} {c : List Int} {k : Nat} {f : Fact} (h : c.length = d.length) (hf : d[k]? = some f) : (mid d c (k + 1)).set k f.lo = mid d c k := by
  have hk := (List.getElem?_eq_some_iff.1 hf).1
  apply List.ext_getElem?
  intro i
  unfold mid
  by_cases e : k = i
  · subst e
    rw [List.getElem?_set_self (by simp; omega), List.getElem?_append_right (by rw [List.length_take]; omega), List.length_take, Nat.min_eq_left (by omega), Nat.sub_self, List.getElem?_map, List.getElem?_drop, Nat.add_zero, hf]
    rfl
  · rw [List.getElem?_set_ne e]
    by_cases hi : i < k
    · rw [List.getElem?_append_left (by simp; omega), List.getElem?_append_left (by simp; omega), List.getElem?_take_of_lt (by omega), List.getElem?_take_of_lt hi]
    · rw [List.getElem?_append_right (by simp; omega), List.getElem?_append_right (by simp; omega), List.getElem?_map, List.getElem?_map, List.getElem?_drop, List.getElem?_drop, List.length_take, List.length_take, Nat.min_eq_left (by omega), Nat.min_eq_left (by omega)]
      congr 2; omega
theorem next_hit {d : Dom} {c : List Int} {k : Nat} {f : Fact} {x : Int} (hft : fits d c = true) (hf : d[k]? = some f) (hx : c[k]? = some x) (hlt : x < f.hi) (hj : ∀ (j : Nat) (q : Fact × Int), k < j → (d.zip c)[j]? = some q → ¬ q.2 < q.1.hi) : next d c = some ((mid d c (k + 1)).set k (x + 1)) := by
  have hl := (fits_parts hft).2.1
  have hk := (List.getElem?_eq_some_iff.1 hf).1
  have hz : (d.zip c)[k]? = some (f, x) := by rw [List.getElem?_zip_eq_some]; exact ⟨hf, hx⟩
  rw [next_nx hft, nx_at _ k (f, x) hz hlt hj]
  congr 1
  have e1 : ((d.zip c).take k).map (fun q => q.2) = c.take k := by rw [List.map_take, zip_snd hl]
  have e2 : ((d.zip c).drop (k + 1)).map (fun q => q.1.lo) = (d.drop (k + 1)).map Fact.lo := by rw [List.map_drop, zip_lo hl, List.map_drop]
  rw [e1, e2]
  apply List.ext_getElem?
  intro i
  unfold mid
  have ht : (c.take k).length = k := by simp; omega
  have ht1 : (c.take (k + 1)).length = k + 1 := by simp; omega
  by_cases e : k = i
  · subst e
    rw [List.getElem?_set_self (by simp; omega), List.getElem?_append_right (by omega), ht, Nat.sub_self]
    rfl
  · rw [List.getElem?_set_ne e]
    by_cases hi : i < k
    · rw [List.getElem?_append_left (by omega), List.getElem?_append_left (by omega), List.getElem?_take_of_lt (by omega), List.getElem?_take_of_lt (by omega)]
    · rw [List.getElem?_append_right (by omega), List.getElem?_append_right (by omega), ht, ht1, show i - k = (i - (k + 1)) + 1 by omega, List.getElem?_cons_succ]
theorem next_miss {d : Dom} {c : List Int} (hft : fits d c = true) (hj : ∀ (j : Nat) (q : Fact × Int), (d.zip c)[j]? = some q → ¬ q.2 < q.1.hi) : next d c = none := by
  rw [next_nx hft]
  refine nx_none_of _ fun x hx => ?_
  obtain ⟨j, h⟩ := List.getElem?_of_mem hx
  exact hj j x h

end Fa
namespace Go.Proofs.YteogmlgmodeajaaGreatDoor
open Go.RowKit Go.Maps

theorem flat_num (l : List Int) : l.flatMap numC = l.map (Value.int .i64) := by
  induction l with
  | nil => rfl
  | cons x l ih => rw [List.flatMap_cons, List.map_cons, ih]; rfl
theorem num_one (l : List Int) : ∀ u ∈ l.flatMap numC, u.oneCell' = true := by
  intro u hu
  obtain ⟨p, _, hp⟩ := List.mem_flatMap.1 hu
  simp [numC] at hp
  subst hp; rfl

theorem Tryz.infoFact : (Tryz.prog.info? 62).map (fun i => (i.zero, i.size, i.bytes)) = some (some (.agg #[.string ⟨#[]⟩, .int .i64 0, .int .i64 0, .int .i64 0]), 4, 40) := by kernel_rfl
theorem Tryz.infoInt : (Tryz.prog.info? 3).map (fun i => (i.zero, i.size, i.bytes)) = some (some (.int .i64 0), 1, 8) := by kernel_rfl

/-- a slice of the call's own of these numbers -/
def NumsOwn (w : World) (c : List Int) (v : Value) (w' : World) : Prop := w'.ownsRow w.heap.size 3 1 v c.length (c.flatMap numC) ∧ Below w.heap.size w w'
def NumsP (c : List Int) (w : World) (e : Ending) (w' : World) : Prop := ∃ v, e = .returned v ∧ NumsOwn w c v w'
/-- what Next ends in -/
def NextP (r : Option (List Int)) (w : World) (e : Ending) (w' : World) : Prop :=
  match r with
  | some c => ∃ v, e = .returned (.tuple #[v, .bool true]) ∧ NumsOwn w c v w'
  | none => e = .returned (.tuple #[.slice none 0 0, .bool false]) ∧ Below w.heap.size w w'

/-- a number of an owned row is changed -/
theorem own_set {w : World} {base g n cap : Nat} {e : TypeId} {l : List Int} (h : w.ownsRow base e 1 (.slice (some ⟨g, 0, none⟩) n cap) n (l.flatMap numC)) (i : Nat) (x : Int) : (w.setCell ⟨g, i, none⟩ (.int .i64 x)).ownsRow base e 1 (.slice (some ⟨g, 0, none⟩) n cap) n ((l.set i x).flatMap numC) := by
  have h1 := h.1
  rw [flat_num] at h h1
  rw [flat_num]
  refine ⟨by simpa using h1, ?_⟩
  rcases h.2 with ⟨h2, _⟩ | ⟨g', cap', cur, hv, hg, hh, hn, hc, hs, ht⟩
  · cases h2
  · cases hv
    refine .inr ⟨g, cap, _, rfl, hg, blk_set hh i _, hn, hc, by simpa using hs, ?_⟩
    rw [Array.toList_setIfInBounds, List.map_set, ← ht, List.take_set]

set_option maxRecDepth 100000 in
set_option maxHeartbeats 1000000 in
theorem cloneC_any (c : List Int) (v : Value) (w : World) (h : SlOf w v 1 numC c) (hl : c.length ≤ 1000000) : Calls Tryz.prog 41 #[v] w (NumsP c w) := by
  obtain ⟨i0, hi, hz0, hz1, hz2⟩ := info_parts Tryz.infoInt
  obtain ⟨a, cap, rfl, h1, h2, h3⟩ := h
  have hnl := _root_.Go.run_eql_slice_nil (P := Tryz.prog) w 26 3 a c.length cap Tryz.underlying26
  cases a with
  | some ad =>
    have HC := hid (show ∀ j u, (c.flatMap numC)[j]? = some u → (w.alloc (.cells #[] 3)).cell? (ad.add j) = some u by
      by_cases h0 : 0 < c.length
      · obtain ⟨g, o, e, hr⟩ := h3 h0
        cases e
        exact flatCells (cells := numC) (sz := 1) (fun x => rfl) (hr.below ((Below.refl _ w).alloc (Nat.le_refl _) (.cells #[] 3)))
      · have : c = [] := List.length_eq_zero_iff.1 (by omega)
        subst this
        intro j u hu
        simp at hu)
    have hown : (w.alloc (.cells #[] 3)).ownsRow w.heap.size 3 1 (.slice (some ⟨w.heap.size, 0, none⟩) 0 0) 0 [] := World.ownsRow_made w #[] 0 (Nat.le_refl _) (by unfold maxLen; omega) rfl
    have hb : Below w.heap.size w (w.alloc (.cells #[] 3)) := (Below.refl _ w).alloc (Nat.le_refl _) _
    have HL := hid (flatLen (cells := numC) (sz := 1) c (fun x => rfl))
    rw [show (some ad).isNone = false from rfl] at hnl
    clear h3
    go_enter Tryz.func41, Tryz.ntmps41
    go_wp2_with (at_builtin; refine wpList_append_own _ rfl _ _ 26 rfl w.heap.size 3 i0 (.int .i64 0) 1 8 Tryz.underlying26 hi hz0 hz1 hz2 rfl (by decide) _ _ _ rfl hown ad c.length cap (c.flatMap numC) rfl HL.out HC.out (num_one c) (by unfold maxLen; omega) (by omega) (by simp) ?_; intro v' w' ho hg _)
    go_ret
    rw [Nat.zero_add, List.nil_append] at ho
    exact ⟨v', rfl, ho, Below.appended hb hg (by simp) hown⟩
  | none =>
    rw [show (none : Option Addr).isNone = true from rfl] at hnl
    have HN := hid (show c = [] by
      by_cases h0 : 0 < c.length
      · obtain ⟨g, o, e, hr⟩ := h3 h0
        cases e
      · exact List.length_eq_zero_iff.1 (by omega))
    clear h3
    go_enter Tryz.func41, Tryz.ntmps41
    go_wp2
    go_ret
    refine ⟨_, rfl, ?_, Below.refl _ _⟩
    rw [HN.out]
    exact World.ownsRow_nil _ _ _ _

theorem least_eq {d : Fa.Dom} {b : Bool} (h : Fa.valid d = b) : Fa.least d = if b then d.map Fa.Fact.lo else [] := by unfold Fa.least; rw [h]

set_option maxRecDepth 100000 in
set_option maxHeartbeats 4000000 in
theorem factLeast_any (d : Fa.Dom) (v : Value) (w : World) (h : SlOf w v 4 factC d) (hn : ∀ f ∈ d, f.name.length ≤ 5000) (hd : d.length ≤ 5000) : Calls Tryz.prog 24 #[.agg #[v]] w (NumsP (Fa.least d) w) := by
  obtain ⟨i0, hi, hz0, hz1, hz2⟩ := info_parts Tryz.infoInt
  have HS := hid h
  obtain ⟨W1, hW1⟩ : ∃ W1, W1 = w.alloc (.cells #[v] 24) := ⟨_, rfl⟩
  have hb1 : Below w.heap.size w W1 := by rw [hW1]; exact (Below.refl _ w).alloc (Nat.le_refl _) _
  have hs1 : W1.heap[w.heap.size]? = some (.cells #[v] 24 (0, 0)) := by rw [hW1]; exact alloc_new w _
  have HVC := hid (factValid_any d v W1 (h.below hb1) hn hd)
  obtain ⟨va, cap, rfl, k1, k2, -⟩ := h
  have HB1 := hid hb1
  have hd2 : d.length ≤ 9223372036854775807 := by omega
  have hd3 : d.length ≤ 5000 := hd
  have c1 : W1.cell? ⟨w.heap.size, 0, none⟩ = some (.slice va d.length cap) := by simp [World.cell?, hs1]
  have hz1' : w.heap.size < W1.heap.size := (Array.getElem?_eq_some_iff.1 hs1).1
  have HC1 := hid c1
  clear hb1 hs1 hn hd
  go_enter Tryz.func24, Tryz.ntmps24
  go_wp2_with fail
  rw [← hW1]
  clear hW1
  refine (HVC.out).mono ?_
  rintro e w2 ⟨rfl, hb2⟩
  clear c1
  have c2 : w2.cell? ⟨w.heap.size, 0, none⟩ = some (.slice va d.length cap) := (hb2.cell (p := ⟨w.heap.size, 0, none⟩) hz1').trans HC1.out
  have hz2' : w.heap.size < w2.heap.size := Nat.lt_of_lt_of_le hz1' hb2.size
  have HB2 := hid (Below.step HB1.out hb2)
  have HC2 := hid c2
  clear hb2
  cases hv : Fa.valid d with
  | false =>
    have HE := hid (least_eq hv)
    clear hv
    go_wp2_with fail
    go_ret
    rw [HE.out]
    exact ⟨_, rfl, World.ownsRow_nil _ _ _ _, HB2.out⟩
  | true =>
    have HE := hid (least_eq hv)
    clear hv
    go_wp2_with fail
    go_loopw [3, 12] (fun vo iv wr => ∃ k : Nat, k ≤ d.length ∧ iv = .int .i64 k ∧ wr.ownsRow (w.heap.size + 1) 3 1 vo k (((d.take k).map Fa.Fact.lo).flatMap numC) ∧ Below (w.heap.size + 1) w2 wr) (fun _ iv _ => d.length - (RowKit.intOf iv).toNat)
    case atStart => exact ⟨0, Nat.zero_le _, rfl, World.ownsRow_nil _ _ _ _, Below.refl _ _⟩
    case round =>
      obtain ⟨k, hk, rfl, hown, hb⟩ := hrel
      have HBR := hid (HB2.out.trans (hb.mono (by omega)))
      clear c2
      have c2 : wr.cell? ⟨w.heap.size, 0, none⟩ = some (.slice va d.length cap) := (hb.cell (p := ⟨w.heap.size, 0, none⟩) (Nat.lt_succ_self _)).trans HC2.out
      have hzr : w.heap.size < wr.heap.size := Nat.lt_of_lt_of_le hz2' hb.size
      by_cases hlt : k < d.length
      · obtain ⟨f, hf⟩ : ∃ f, d[k]? = some f := ⟨_, List.getElem?_eq_getElem hlt⟩
        obtain ⟨g, o, rfl, hg, e0, e1, e2, e3⟩ := fact_cells HS.out hf HBR.out
        have hk0 : (0 : Int) ≤ (k : Int) := by omega
        have hk1 : (k : Int) < (d.length : Int) := by omega
        have HF := hid hf
        have HW := hid (And.intro hown hb)
        obtain ⟨W5, hW5⟩ : ∃ W5, W5 = wr.alloc (.cells #[.string (bs f.name), .int .i64 f.kind, .int .i64 f.lo, .int .i64 f.hi] 62) := ⟨_, rfl⟩
        have hb5 : Below wr.heap.size wr W5 := by rw [hW5]; exact (Below.refl _ wr).alloc (Nat.le_refl _) _
        have hs5 : W5.heap[wr.heap.size]? = some (.cells #[.string (bs f.name), .int .i64 f.kind, .int .i64 f.lo, .int .i64 f.hi] 62 (0, 0)) := by rw [hW5]; exact alloc_new wr _
        have x2 : W5.cell? ⟨wr.heap.size, 2, none⟩ = some (.int .i64 f.lo) := by simp [World.cell?, hs5]
        have hxz : wr.heap.size < W5.heap.size := (Array.getElem?_eq_some_iff.1 hs5).1
        have hown5 := (ownsRow_below hown hb5).alloc (.cells #[.int .i64 f.lo] 3)
        have hb55 : Below (w.heap.size + 1) w2 W5 := hb.trans (hb5.mono (by omega))
        have HB5 := hid hb55
        have HSN := hid (show ((d.take (k + 1)).map Fa.Fact.lo).flatMap numC = ((d.take k).map Fa.Fact.lo).flatMap numC ++ [.int .i64 f.lo] by rw [take_snoc hf]; simp [numC])
        clear hf hown hb hb5 hs5 hb55
        go_upto_region 7 with (fail)
        rw [← hW5]
        clear hW5 e0 e1 e2 e3
        go_wp2_with (at_builtin; refine wpList_append_own _ rfl _ _ 26 rfl (w.heap.size + 1) 3 i0 (.int .i64 0) 1 8 Tryz.underlying26 hi hz0 hz1 hz2 rfl (by decide) _ _ _ rfl hown5 ⟨W5.heap.size, 0, none⟩ 1 1 [.int .i64 f.lo] rfl rfl (cell_one_new _ _ _) (by simp [Value.oneCell']) (by unfold maxLen; omega) (by omega) (by simp; omega) ?_; intro v' w4 ho4 hg4 _)
        go_roundw
        case rel =>
          refine ⟨k + 1, by omega, by go_num, by rw [HSN.out]; exact ho4, Below.appended (HB5.out.alloc (by omega) _) hg4 (by simp; omega) hown5⟩
        case measure => simp [RowKit.intOf]; omega
      · have hke : k = d.length := by omega
        subst hke
        rw [List.take_length] at hown
        have HW := hid hown
        obtain ⟨ra, rc, hrv⟩ := ownsRow_slice hown
        clear hown hb
        subst hrv
        go_wp2_with fail
        go_ret
        refine ⟨_, rfl, ?_, HBR.out⟩
        rw [HE.out]
        simp only [if_true, List.length_map]
        exact ownsRow_base HW.out (Nat.le_succ _)

/-- those behind are at their greatest -/
def hiTo (d : Fa.Dom) (c : List Int) (k : Nat) : Prop := ∀ (j : Nat) (q : Fa.Fact × Int), k ≤ j → (d.zip c)[j]? = some q → ¬ q.2 < q.1.hi
theorem hiTo_step {d : Fa.Dom} {c : List Int} {k : Nat} {f : Fa.Fact} {x : Int} (hf : d[k]? = some f) (hx : c[k]? = some x) (h : hiTo d c (k + 1)) (h1 : ¬ x < f.hi) : hiTo d c k := by
  intro j q hj hq
  by_cases e : j = k
  · subst e
    rw [List.getElem?_zip_eq_some] at hq
    rw [hf, hx] at hq
    obtain ⟨a, b⟩ := hq
    cases a; cases b
    exact h1
  · exact h j q (by omega) hq

theorem own_cell {w : World} {base n co : Nat} {ao : Option Addr} {e : TypeId} {l : List Int} {i : Nat} {x : Int} (h : w.ownsRow base e 1 (.slice ao n co) n (l.flatMap numC)) (hx : l[i]? = some x) :
    ∃ g, ao = some ⟨g, 0, none⟩ ∧ base ≤ g ∧ g < w.heap.size ∧ n ≤ co ∧ w.cell? ⟨g, i, none⟩ = some (.int .i64 x) ∧ w.frozen? ⟨g, i, none⟩ = false := by
  have h1 := h.1
  rw [flat_num] at h h1
  have hi := (List.getElem?_eq_some_iff.1 hx).1
  simp at h1
  rcases h.2 with ⟨h2, h3⟩ | ⟨g, cap, cur, hv, hg, hh, hn, hc, hs, ht⟩
  · omega
  · cases hv
    refine ⟨g, rfl, hg, (Array.getElem?_eq_some_iff.1 hh).1, hn, ?_, frozen_of_row w g i cur e hh⟩
    have : (cur.toList.take (n * 1))[i]? = some (.int .i64 x) := by rw [ht, List.getElem?_map, hx]; rfl
    rw [List.getElem?_take_of_lt (by omega)] at this
    simp only [World.cell?, hh]
    simpa using this

/-- what stands there in a round of Next: down to k -/
structure NextS (d : Fa.Dom) (c : List Int) (w : World) (vo : Value) (k : Nat) (wr : World) : Prop where
  own : wr.ownsRow w.heap.size 3 1 vo c.length ((Fa.mid d c k).flatMap numC)
  below : Below w.heap.size w wr
  his : hiTo d c k

set_option maxRecDepth 100000 in
set_option maxHeartbeats 4000000 in
theorem factNext_any (d : Fa.Dom) (c : List Int) (v vc : Value) (w : World) (h : SlOf w v 4 factC d) (hcs : SlOf w vc 1 numC c) (hn : ∀ f ∈ d, f.name.length ≤ 5000) (hd : d.length ≤ 5000) :
    Calls Tryz.prog 10 #[.agg #[v], vc] w (NextP (Fa.next d c) w) := by
  have HS := hid h
  have HC := hid hcs
  obtain ⟨W1, hW1⟩ : ∃ W1, W1 = w.alloc (.cells #[v] 24) := ⟨_, rfl⟩
  have hb1 : Below w.heap.size w W1 := by rw [hW1]; exact (Below.refl _ w).alloc (Nat.le_refl _) _
  have hs1 : W1.heap[w.heap.size]? = some (.cells #[v] 24 (0, 0)) := by rw [hW1]; exact alloc_new w _
  have HVC := hid (factFits_any d c v vc W1 (h.below hb1) (hcs.below hb1) hn hd)
  obtain ⟨va, cap, rfl, k1, k2, -⟩ := h
  obtain ⟨vd, cap2, rfl, k3, k4, -⟩ := hcs
  have HB1 := hid hb1
  have hd2 : d.length ≤ 9223372036854775807 := by omega
  have hd5 : d.length ≤ 5000 := hd
  have c1 : W1.cell? ⟨w.heap.size, 0, none⟩ = some (.slice va d.length cap) := by simp [World.cell?, hs1]
  have hz1 : w.heap.size < W1.heap.size := (Array.getElem?_eq_some_iff.1 hs1).1
  have HC1 := hid c1
  clear hb1 hs1 hn hd
  go_enter Tryz.func10, Tryz.ntmps10
  go_wp2_with fail
  rw [← hW1]
  clear hW1
  refine (HVC.out).mono ?_
  rintro e w2 ⟨rfl, hb2⟩
  clear c1
  have c2 : w2.cell? ⟨w.heap.size, 0, none⟩ = some (.slice va d.length cap) := (hb2.cell (p := ⟨w.heap.size, 0, none⟩) hz1).trans HC1.out
  have hz2 : w.heap.size < w2.heap.size := Nat.lt_of_lt_of_le hz1 hb2.size
  have HB2 := hid (Below.step HB1.out hb2)
  have HC2 := hid c2
  clear hb2
  cases hv : Fa.fits d c with
  | false =>
    have HE := hid (show Fa.next d c = none by unfold Fa.next; rw [hv]; rfl)
    clear hv
    go_wp2_with fail
    go_ret2
    rw [HE.out]
    exact ⟨rfl, HB2.out⟩
  | true =>
    have HV := hid hv
    have hl := (Fa.fits_parts hv).2.1
    clear hv
    have HL := hid hl
    have HCL := hid (cloneC_any c (.slice vd c.length cap2) w2 (HC.out.below HB2.out) (by omega))
    clear hl
    go_wp2_with fail
    refine (HCL.out).mono ?_
    rintro e w3 ⟨vo, rfl, ho3, hb3⟩
    have HH := hid (ownsRow_slice ho3)
    obtain ⟨ao, co, rfl⟩ := HH.out
    clear HH
    have HO3 := hid ho3
    have HB3 := hid (Below.step HB2.out hb3)
    have HN3 := hid (show NextS d c w2 (.slice ao c.length co) d.length w3 from ⟨by rw [Fa.mid_all HL.out]; exact ho3, hb3, fun j q hj hq => by
      have := (List.getElem?_eq_some_iff.1 hq).1
      simp at this
      omega⟩)
    clear c2 ho3 hb3
    have hcl : (c.length : Int) = (d.length : Int) := by rw [HL.out]
    have hwi : ∀ k : Nat, k ≤ d.length → IntKind.i64.wrap ((k : Int) - 1) = (k : Int) - 1 := fun k hk => IntWalk.i64_in _ (by omega)
    have HWI := hid hwi
    have hw0 := hwi d.length (Nat.le_refl _)
    rw [← hcl] at hw0
    clear hwi
    have HR := hid (Fa.fits_parts HV.out)
    go_wp2_with fail
    go_loopw [7] (fun iv wr => ∃ k : Nat, k ≤ d.length ∧ iv = .int .i64 ((k : Int) - 1) ∧ Hid (NextS d c w2 (.slice ao c.length co) k wr)) (fun iv _ => (RowKit.intOf iv + 1).toNat)
    case atStart => exact ⟨d.length, Nat.le_refl _, rfl, HN3⟩
    case round =>
      obtain ⟨k, hk, rfl, HK⟩ := hrel
      clear hw0
      have c2 : wr.cell? ⟨w.heap.size, 0, none⟩ = some (.slice va d.length cap) := (HK.out.below.cell (p := ⟨w.heap.size, 0, none⟩) hz2).trans HC2.out
      have hzr : w.heap.size < wr.heap.size := Nat.lt_of_lt_of_le hz2 HK.out.below.size
      have HBR := hid (HB2.out.trans (HK.out.below.mono HB2.out.size))
      cases k with
      | zero =>
        have HE := hid (Fa.next_miss HV.out fun j q hq => HK.out.his j q (Nat.zero_le _) hq)
        clear hcl
        go_wp2_with fail
        go_ret2
        rw [HE.out]
        exact ⟨rfl, HBR.out⟩
      | succ k =>
        have hk1 : ((k + 1 : Nat) : Int) - 1 = (k : Int) := by omega
        rw [hk1]
        have hlt : k < d.length := by omega
        obtain ⟨f, hf⟩ : ∃ f, d[k]? = some f := ⟨_, List.getElem?_eq_getElem hlt⟩
        obtain ⟨x, hx⟩ : ∃ x, c[k]? = some x := ⟨_, List.getElem?_eq_getElem (by rw [HL.out]; exact hlt)⟩
        obtain ⟨g, o, rfl, hg, e0, e1, e2, e3⟩ := fact_cells HS.out hf HBR.out
        obtain ⟨g3, rfl, hg3, hg4, hco, y0, y1⟩ := own_cell HK.out.own (Fa.mid_get HL.out hx)
        have hk0 : (0 : Int) ≤ (k : Int) := by omega
        have hk2 : (k : Int) < (d.length : Int) := by omega
        have hk3 : (k : Int) < (c.length : Int) := by omega
        have hxb : x ≤ 1000000 ∧ 0 ≤ x := by
          have := (Fa.Fit.ok HR.out.1 (p := (f, x)) ⟨List.mem_of_getElem? hf, HR.out.2.2 _ (by rw [List.mem_iff_getElem?]; exact ⟨k, by rw [List.getElem?_zip_eq_some]; exact ⟨hf, hx⟩⟩)⟩).1
          exact ⟨this.2.2, this.2.1⟩
        have hwx : IntKind.i64.wrap (x + 1) = x + 1 := IntWalk.i64_in _ (by omega)
        have hwk : IntKind.i64.wrap ((k : Int) - 1) = (k : Int) - 1 := IntWalk.i64_in _ (by omega)
        have HF := hid hf
        have HX := hid hx
        clear hf hx hcl hk1 hxb
        by_cases q1 : x < f.hi
        · have d1 : decide (x < f.hi) = true := decide_eq_true q1
          have HE := hid (Fa.next_hit HV.out HF.out HX.out q1 fun j q hj hq => HK.out.his j q hj hq)
          clear q1
          go_upto_region 7 with (fail)
          go_quiet (fail)
          go_wp2_with fail
          go_ret2
          have hnl : ((Fa.mid d c (k + 1)).set k (x + 1)).length = c.length := by rw [List.length_set, Fa.mid_len HL.out (by omega), HL.out]
          rw [HE.out]
          refine ⟨_, rfl, ?_, ?_⟩
          · rw [hnl]
            exact ownsRow_base (ownsRow_below (own_set HK.out.own k (x + 1)) (Below.drewQ _ _)) HB2.out.size
          · exact Below.step (HBR.out.setCell (Nat.le_trans HB2.out.size hg3) _) (Below.drewQ _ _)
        · have d1 : decide (x < f.hi) = false := decide_eq_false q1
          have HK1 := hid (hiTo_step HF.out HX.out HK.out.his q1)
          have HM := hid (Fa.mid_set HL.out HF.out)
          clear q1
          go_upto_region 7 with (fail)
          go_quiet (fail)
          go_wp2_with fail
          go_roundw
          case rel =>
            refine ⟨k, by omega, rfl, ?_, ?_, HK1.out⟩
            · rw [← HM.out]
              exact ownsRow_below (own_set HK.out.own k f.lo) (Below.drewQ _ _)
            · exact Below.step (HK.out.below.setCell hg3 _) (Below.drewQ _ _)
          case measure => simp [RowKit.intOf]

end Go.Proofs.YteogmlgmodeajaaGreatDoor
