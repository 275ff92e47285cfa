/-
 Several texts in one: ZFormC, ZFormE, ZFormRun, ZRnPure, ZRnLaws. Conditions: as each law says.
-/
import Derived.Test.YtdchjacccmajcaaGreatDoorZMAlC
import Derived.Test.YtdchjacccmajcaaGreatDoorZMPlain
import Derived.Test.YtdchjacccmajcaaGreatDoorZMBase
import Derived.Sort.KeysCollected
import Derived.Test.YtdchjacccmajcaaGreatDoorZMLx
namespace Fo
/-- the letters of the folded word -/
def letters (k : Int) (s : List UInt8) : List (List UInt8) := match Sc.lets k s with | none => [] | some _ => (Sc.lets k (Sc.fold s)).getD []

end Fo
namespace Go.Proofs.YtdchjacccmajcaaGreatDoor
open Go.RowKit Go.Lib Go.Maps

/-- slices.Equal of a row, not empty, and a part of another row -/
theorem equal_part2 {w : World} {g o k n cap g2 o2 c2 : Nat} {l f : List (List UInt8)} (h : RowOf w g o 1 strC l) (h2 : RowOf w g2 o2 1 strC f) (hk : k + n ≤ l.length) (hn : n = f.length) (hb : n ≤ 1000000) :
  Calls Tryz.prog 41 #[.slice (some ⟨g2, o2, none⟩) n c2, .slice (some ⟨g, o + k, none⟩) n cap] w (Gives (.bool (decide ((l.drop k).take n = f))) w) := by
 have hx := row_cells h
 have hy := row_cells h2
 refine (Tryz.slices_Equal_string g2 o2 n c2 g (o + k) n cap (f.map bs) ((l.map bs).drop k) w (by simp; omega) (by simp; omega) (by omega) (by omega) hy (fun j hj => ?_)).mono ?_
 ·rw [List.length_drop] at hj
  rw [Nat.add_assoc, hx (k + j) (by omega)]
  simp [List.getD, List.getElem?_drop]
 ·rintro e w' ⟨rfl, q, rfl⟩
  refine ⟨ret_bool (decide_eq_decide.2 ?_), Below.drewQ w q⟩
  rw [List.take_of_length_le (l := f.map bs) (by simp; omega), ← List.map_drop, ← List.map_take]
  exact ⟨fun e => (map_bs_inj e.symm), fun e => by rw [e]⟩

/-- what letters ends in -/
def LetWP (k : Int) (s : List UInt8) (w : World) (e : Ending) (w' : World) : Prop :=
 ∃ v, e = .returned v ∧ w'.ownsRow w.heap.size 9 1 v (Fo.letters k s).length ((Fo.letters k s).flatMap strC) ∧ Below w.heap.size w w'

set_option maxRecDepth 100000 in
set_option maxHeartbeats 2000000 in
theorem letters_w (k : Int) (s : ByteArray) (w : World) (hs : s.size ≤ 1000000) (hT : Tabs w) : Calls Tryz.prog 40 #[.int .i64 k, .string s] w (LetWP k s.data.toList w) := by
 have HFO := hid (fold_any k s w hs hT)
 have HTT := hid hT
 cases hl : Sc.lets k s.data.toList with
 | none =>
  have HE := hid (show Fo.letters k s.data.toList = [] by unfold Fo.letters; rw [hl])
  have HL := hid hl
  clear hl hT
  go_enter Tryz.func40, Tryz.ntmps40
  go_wp2_with fail
  refine (HFO.out).mono ?_
  rintro e W2 ⟨he, hb2⟩
  rw [HL.out] at he
  subst he
  have HB := hid hb2
  clear hb2
  go_wp2_with fail
  go_ret
  exact ⟨_, rfl, by rw [HE.out]; exact World.ownsRow_nil _ _ _ _, HB.out⟩
 | some ls =>
  have HL := hid hl
  have hfs : (bs (Sc.fold s.data.toList)).size ≤ 1000000 := by rw [bs_len]; unfold Sc.fold; rw [List.length_map]; simpa using hs
  clear hl hT
  go_enter Tryz.func40, Tryz.ntmps40
  go_wp2_with fail
  refine (HFO.out).mono ?_
  rintro e W2 ⟨he, hb2⟩
  rw [HL.out] at he
  subst he
  have HB := hid hb2
  have HLE := hid (letters_any k (bs (Sc.fold s.data.toList)) W2 hfs (HTT.out.below hb2))
  clear hb2
  go_wp2_with fail
  refine (HLE.out).mono ?_
  rintro e W3 h3
  unfold LettersPost at h3
  rw [bs_list] at h3
  cases hl2 : Sc.lets k (Sc.fold s.data.toList) with
  | none =>
   rw [hl2] at h3
   obtain ⟨rfl, hb3⟩ := h3
   have HE := hid (show Fo.letters k s.data.toList = [] by unfold Fo.letters; rw [HL.out, hl2]; rfl)
   have HB3 := hid (Below.step HB.out hb3)
   clear hb3 hl2
   go_wp2_with fail
   go_ret
   exact ⟨_, rfl, by rw [HE.out]; exact World.ownsRow_nil _ _ _ _, HB3.out⟩
  | some l =>
   rw [hl2] at h3
   obtain ⟨lv, rfl, hown, hb3⟩ := h3
   have HE := hid (show Fo.letters k s.data.toList = l by unfold Fo.letters; rw [HL.out, hl2]; rfl)
   have HB3 := hid (Below.step HB.out hb3)
   have HO := hid (ownsRow_base hown HB.out.size)
   clear hb3 hl2 hown
   go_wp2_with fail
   go_ret
   exact ⟨_, rfl, by rw [HE.out, flat_str]; exact HO.out, HB3.out⟩

end Go.Proofs.YtdchjacccmajcaaGreatDoor

namespace Fo

theorem letters_len (k : Int) (x : List UInt8) : (letters k x).length ≤ 12 := by
 unfold letters
 cases h1 : Sc.lets k x with
 | none => simp
 | some l1 =>
  simp only
  cases h2 : Sc.lets k (Sc.fold x) with
  | none => simp
  | some l => exact (Sc.lets_len h2).2
theorem letters_rule {d : Rw.Rule} (h : Rw.ruleOk d = true) : ∃ f, Sc.lets d.script d.from_ = some f ∧ letters d.script d.from_ = f ∧ f ≠ [] ∧ f.length ≤ 3 ∧ 0 ≤ d.cost ∧ d.cost ≤ 1000 := by
 unfold Rw.ruleOk Rw.isCost Rw.folded at h
 simp only [Bool.and_eq_true, decide_eq_true_eq] at h
 obtain ⟨⟨h1, -⟩, h2, h3⟩ := h
 cases hl : Sc.lets d.script d.from_ with
 | none => rw [hl] at h1; cases h1
 | some f =>
  rw [hl] at h1
  simp only [Bool.and_eq_true, decide_eq_true_eq] at h1
  refine ⟨f, rfl, ?_, (Sc.lets_len hl).1, by omega, h2, h3⟩
  unfold letters
  rw [hl, h1.1, hl]
  rfl
theorem good_rules {t : Rw.Table} (hv : Rw.valid t = true) (k : Int) : Good (Al.rulesFrom k 0 t.rules) := by
 obtain ⟨v1, v2⟩ := Rw.valid_rules hv
 refine ⟨fun r hr => ?_, fun r hr => ?_⟩
 ·obtain ⟨⟨q, hq, e1, e2, e3⟩, _⟩ := Al.rulesFrom_mem k _ _ r hr
  exact List.length_pos_iff.2 (Sc.lets_len e3).1
 ·obtain ⟨⟨q, hq, e1, e2, e3⟩, _⟩ := Al.rulesFrom_mem k _ _ r hr
  obtain ⟨f, -, -, -, -, h1, h2⟩ := letters_rule (v2 q hq)
  omega
theorem rules_step {l : List Rw.Rule} {n : Nat} {d : Rw.Rule} {f : List (List UInt8)} (h : l[n]? = some d) (hf : Sc.lets d.script d.from_ = some f) : Al.rulesFrom d.script 0 (l.take (n + 1)) = Al.rulesFrom d.script 0 (l.take n) ++ [⟨n, d.cost, f, d.to_⟩] := by
 rw [Al.rulesFrom_take d.script h]
 simp [Al.rulesFrom, hf]
theorem rules_pass {l : List Rw.Rule} {n : Nat} {d : Rw.Rule} {k : Int} (h : l[n]? = some d) (hk : ¬ d.script = k) : Al.rulesFrom k 0 (l.take (n + 1)) = Al.rulesFrom k 0 (l.take n) := by
 rw [Al.rulesFrom_take k h]
 simp [Al.rulesFrom, hk]
theorem rules_sub {l : List Rw.Rule} {n : Nat} {k : Int} : ∀ r ∈ Al.rulesFrom k 0 (l.take n), r ∈ Al.rulesFrom k 0 l := by
 intro r hr
 have : Al.rulesFrom k 0 l = Al.rulesFrom k 0 (l.take n) ++ Al.rulesFrom k (0 + (l.take n).length) (l.drop n) := by rw [← Al.rulesFrom_append, List.take_append_drop]
 rw [this]
 exact List.mem_append_left _ hr

/-- texts in order -/
def lt (a b : List UInt8) : Prop := a < b
theorem lt_irrefl (a : List UInt8) : ¬ lt a a := List.lt_irrefl a
theorem lt_asymm (a b : List UInt8) (h : lt a b) : ¬ lt b a := List.lt_asymm h
theorem sorted_lt {ss : List (List UInt8)} (hn : ss.Nodup) : (ss.mergeSort (fun x y => decide (x ≤ y))).Pairwise lt := by
 have tr : ∀ a b c : List UInt8, Go.leB a b = true → Go.leB b c = true → Go.leB a c = true := fun a b c h1 h2 => by simp only [Go.leB, decide_eq_true_eq] at *; exact List.le_trans h1 h2
 have tot : ∀ a b : List UInt8, (Go.leB a b || Go.leB b a) = true := fun a b => by simp only [Go.leB, Bool.or_eq_true, decide_eq_true_eq]; exact List.le_total a b
 have h1 := List.pairwise_mergeSort tr tot ss
 have h2 : (ss.mergeSort Go.leB).Nodup := (List.mergeSort_perm ss Go.leB).nodup_iff.2 hn
 refine (h1.and h2).imp fun {a b} h => ?_
 have h3 : a ≤ b := by simpa [Go.leB] using h.1
 rcases List.le_iff_lt_or_eq.1 h3 with h4 | h4
 ·exact h4
 ·exact absurd h4 h.2
theorem sorted_mem (ss : List (List UInt8)) (x : List UInt8) : x ∈ ss.mergeSort (fun x y => decide (x ≤ y)) ↔ x ∈ ss := (List.mergeSort_perm ss _).mem_iff
theorem sorted_len (ss : List (List UInt8)) : (ss.mergeSort (fun x y => decide (x ≤ y))).length = ss.length := (List.mergeSort_perm ss _).length_eq

end Fo

namespace Fo
open Al (R fits)

/-- all rewritings from a place on, with their costs -/
def res (L : List (List UInt8)) (rs : List R) : Nat → Nat → List (List UInt8 × Int)
 | 0, _ => []
 | n + 1, i => (if i = L.length then [([], 0)] else []) ++ rs.flatMap fun r => if fits L r i then (res L rs n (i + r.from_.length)).map fun p => (r.to_ ++ p.1, r.cost + p.2) else []
section
variable {L : List (List UInt8)} {rs : List R}
theorem res_re : ∀ {n i : Nat} {p : List UInt8 × Int}, p ∈ res L rs n i → Re L rs i p.1 p.2
 | 0, _, _, h => by unfold res at h; cases h
 | n + 1, i, p, h => by
  unfold res at h
  rcases List.mem_append.1 h with h | h
  ·split at h
   ·rename_i hi
    rw [List.mem_singleton] at h
    subst h; subst hi
    exact Re.nil
   ·cases h
  ·obtain ⟨r, hr, h⟩ := List.mem_flatMap.1 h
   split at h
   ·rename_i hf
    obtain ⟨q, hq, rfl⟩ := List.mem_map.1 h
    exact Re.cons hr hf (res_re hq)
   ·cases h
theorem re_res (hg : Good rs) {i : Nat} {f : List UInt8} {c : Int} (h : Re L rs i f c) : ∀ n : Nat, L.length < n + i → (f, c) ∈ res L rs n i := by
 induction h with
 | nil =>
  intro n hn
  cases n with
  | zero => omega
  | succ n => unfold res; exact List.mem_append_left _ (by rw [if_pos rfl]; exact List.mem_singleton.2 rfl)
 | @cons i r f c hr hf h ih =>
  intro n hn
  have h1 := fits_le hf
  have h2 := hg.some_ r hr
  cases n with
  | zero => omega
  | succ n =>
   unfold res
   refine List.mem_append_right _ (List.mem_flatMap.2 ⟨r, hr, ?_⟩)
   rw [if_pos hf]
   exact List.mem_map.2 ⟨(f, c), ih n (by omega), rfl⟩

/-- is this the list of forms? -/
def isForms (L : List (List UInt8)) (rs : List R) (most : Int) (out : List (List UInt8)) (costs : List Int) : Bool :=
 decide (out.Pairwise (fun a b => a < b)) && decide (costs.length = out.length) && decide (out.length ≤ 1000) &&
 (out.zip costs).all (fun p => (res L rs (L.length + 1) 0).contains p && decide (p.2 ≤ most) && (res L rs (L.length + 1) 0).all fun q => !decide (q.1 = p.1) || decide (p.2 ≤ q.2)) &&
 (res L rs (L.length + 1) 0).all (fun q => !decide (q.2 ≤ most) || out.contains q.1)
theorem isForms_ok (hg : Good rs) {most : Int} {out : List (List UInt8)} {costs : List Int} (h : isForms L rs most out costs = true) : Forms lt L rs most out costs := by
 unfold isForms at h
 simp only [Bool.and_eq_true, decide_eq_true_eq, List.all_eq_true, Bool.or_eq_true, Bool.not_eq_true', decide_eq_false_iff_not] at h
 obtain ⟨⟨⟨⟨h1, h2⟩, h3⟩, h4⟩, h5⟩ := h
 refine ⟨h1, h2, h3, fun k f c hf hc => ?_, fun f c hr hm => ?_⟩
 ·have hz : (f, c) ∈ out.zip costs := List.mem_of_getElem? (i := k) (by rw [List.getElem?_zip_eq_some]; exact ⟨hf, hc⟩)
  obtain ⟨⟨h6, h7⟩, h8⟩ := h4 _ hz
  refine ⟨⟨res_re (List.contains_iff_mem.1 h6), fun d hd => ?_⟩, h7⟩
  rcases h8 _ (re_res hg hd (L.length + 1) (by omega)) with h9 | h9
  ·exact absurd rfl h9
  ·exact h9
 ·rcases h5 _ (re_res hg hr (L.length + 1) (by omega)) with h9 | h9
  ·exact absurd hm h9
  ·exact List.contains_iff_mem.1 h9
end
end Fo

namespace Rw

structure Vr where
 word : List UInt8
 end_ : Int
 cost : Int
deriving DecidableEq

/-- what remains of a word without an ending -/
def endOf (k : Int) (L : List (List UInt8)) (i : Nat) (d : Drop) : Option Vr :=
 if d.script = k ∧ (Fo.letters k d.word).length < L.length ∧ L.drop (L.length - (Fo.letters k d.word).length) = Fo.letters k d.word then some ⟨(L.take (L.length - (Fo.letters k d.word).length)).flatten, i, d.cost⟩ else none
def endsFrom (k : Int) (L : List (List UInt8)) : Nat → List Drop → List Vr
 | _, [] => []
 | i, d :: l => (endOf k L i d).toList ++ endsFrom k L (i + 1) l
theorem endsFrom_append (k : Int) (L : List (List UInt8)) : ∀ (a b : List Drop) (i : Nat), endsFrom k L i (a ++ b) = endsFrom k L i a ++ endsFrom k L (i + a.length) b
 | [], b, i => by simp [endsFrom]
 | d :: a, b, i => by
  simp only [List.cons_append, endsFrom, endsFrom_append k L a b (i + 1), List.append_assoc, List.length_cons]
  rw [show i + 1 + a.length = i + (a.length + 1) by omega]
theorem endsFrom_step (k : Int) (L : List (List UInt8)) {l : List Drop} {n : Nat} {d : Drop} (h : l[n]? = some d) : endsFrom k L 0 (l.take (n + 1)) = endsFrom k L 0 (l.take n) ++ (endOf k L n d).toList := by
 have hk := (List.getElem?_eq_some_iff.1 h).1
 have ht : l.take (n + 1) = l.take n ++ [d] := by rw [List.take_add_one, h]; rfl
 rw [ht, endsFrom_append, List.length_take, Nat.min_eq_left (by omega), Nat.zero_add]
 simp [endsFrom]
theorem endsFrom_len (k : Int) (L : List (List UInt8)) : ∀ (a : List Drop) (i : Nat), (endsFrom k L i a).length ≤ a.length
 | [], _ => Nat.le_refl _
 | d :: a, i => by
  have := endsFrom_len k L a (i + 1)
  simp only [endsFrom, List.length_append, List.length_cons]
  have : (endOf k L i d).toList.length ≤ 1 := by cases endOf k L i d <;> simp
  omega
def variants (t : Table) (k : Int) (s : List UInt8) : List Vr × Int :=
 if Fo.letters k s = [] ∨ valid t = false then ([], 1) else (⟨(Fo.letters k s).flatten, -1, 0⟩ :: endsFrom k (Fo.letters k s) 0 t.ends, 0)

/-- the cost of dropping a word -/
def dropOf (k : Int) (f : List UInt8) (c : Int) : List Drop → Int
 | [] => c
 | d :: l => if d.script = k ∧ d.word = f then d.cost else dropOf k f c l
def dropping (t : Table) (k : Int) (s : List UInt8) : Int × Int :=
 match Sc.lets k s with
 | none => (0, 1)
 | some _ => if valid t then (dropOf k (Sc.fold s) t.drop t.drops, 0) else (0, 1)
theorem dropOf_step {k : Int} {f : List UInt8} {c : Int} {l : List Drop} {n : Nat} {d : Drop} (h : l[n]? = some d) : dropOf k f c (l.drop n) = if d.script = k ∧ d.word = f then d.cost else dropOf k f c (l.drop (n + 1)) := by
 have hk := (List.getElem?_eq_some_iff.1 h).1
 have : l.drop n = d :: l.drop (n + 1) := by
  rw [List.drop_eq_getElem_cons hk]
  congr 1
  rw [List.getElem?_eq_getElem hk] at h
  exact Option.some.inj h
 rw [this]; rfl

/-! ### texts -/
def scrT : Int → List UInt8
 | 1 => [112, 108, 97, 105, 110]
 | 2 => [99, 97, 115, 101, 100]
 | 3 => [97, 98, 106, 97, 100]
 | 4 => [115, 121, 108, 108, 97, 98]
 | _ => []
def tRule : List UInt8 := [114, 117, 108, 101]
def tTo : List UInt8 := [116, 111]
def tCost : List UInt8 := [99, 111, 115, 116]
def tDrop : List UInt8 := [100, 114, 111, 112]
def tEnd : List UInt8 := [101, 110, 100]
def tCosts : List UInt8 := [99, 111, 115, 116, 115]
def quo (s : List UInt8) : List UInt8 := 34 :: s ++ [34]
/-- words with a blank between them -/
def spaced : List (List UInt8) → List UInt8
 | [] => []
 | x :: l => x ++ l.flatMap fun y => 32 :: y
def lineOf (l : List (List UInt8)) : List UInt8 := spaced l ++ [59, 10]
def ruleWs (r : Rule) : List (List UInt8) := [tRule, scrT r.script, quo r.from_, tTo, quo r.to_, tCost, Lx.dec r.cost.toNat]
def dropWs (w : List UInt8) (d : Drop) : List (List UInt8) := [w, scrT d.script, quo d.word, Lx.dec d.cost.toNat]
def costWs (t : Table) : List (List UInt8) := [tCosts, Lx.dec t.drop.toNat, Lx.dec t.order.toNat, Lx.dec t.initial.toNat]
def ruleT (r : Rule) : List UInt8 := lineOf (ruleWs r)
def dropT (w : List UInt8) (d : Drop) : List UInt8 := lineOf (dropWs w d)
def text (t : Table) : List UInt8 := if valid t then t.rules.flatMap ruleT ++ t.drops.flatMap (dropT tDrop) ++ t.ends.flatMap (dropT tEnd) ++ lineOf (costWs t) else []

/-! ### the example -/
def tab : Table := ⟨[⟨1, [97], [97], 0⟩, ⟨1, [110], [110], 0⟩, ⟨1, [116], [116], 0⟩, ⟨1, [104], [104], 0⟩, ⟨1, [110, 110], [110], 1⟩, ⟨1, [116, 104], [116], 2⟩], [⟨1, [97, 108], 1⟩], [⟨1, [97], 3⟩], 4, 2, 1⟩
def anna : List UInt8 := [97, 110, 110, 97]
theorem tab_valid : valid tab = true := by decide +kernel
theorem let_anna : Fo.letters 1 anna = [[97], [110], [110], [97]] := by decide +kernel
theorem let_tha : Fo.letters 1 [116, 104, 97] = [[116], [104], [97]] := by decide +kernel
theorem let_bab : Fo.letters 1 [98, 97, 98] = [[98], [97], [98]] := by decide +kernel
theorem let_Anna : Fo.letters 1 [65, 110, 110, 97] = [] := by decide +kernel
theorem forms_anna : Fo.Forms Fo.lt (Fo.letters 1 anna) (Al.rulesFrom 1 0 tab.rules) 5 [[97, 110, 97], anna] [1, 0] := Fo.isForms_ok (Fo.good_rules tab_valid 1) (by decide +kernel)
theorem forms_tha : Fo.Forms Fo.lt (Fo.letters 1 [116, 104, 97]) (Al.rulesFrom 1 0 tab.rules) 9 [[116, 97], [116, 104, 97]] [2, 0] := Fo.isForms_ok (Fo.good_rules tab_valid 1) (by decide +kernel)
theorem forms_bab : Fo.Forms Fo.lt (Fo.letters 1 [98, 97, 98]) (Al.rulesFrom 1 0 tab.rules) 100 [] [] := Fo.isForms_ok (Fo.good_rules tab_valid 1) (by decide +kernel)
theorem var_anna : variants tab 1 anna = ([⟨anna, -1, 0⟩, ⟨[97, 110, 110], 0, 3⟩], 0) := by decide +kernel
theorem drop_al : dropping tab 1 [97, 108] = (1, 0) := by decide +kernel
theorem drop_anna : dropping tab 1 anna = (4, 0) := by decide +kernel
/-- the example of a text -/
def tab2 : Table := ⟨[⟨1, [116, 104], [116], 2⟩], [], [⟨1, [97], 3⟩], 4, 2, 1⟩
theorem text_tab2 : text tab2 = [114, 117, 108, 101, 32, 112, 108, 97, 105, 110, 32, 34, 116, 104, 34, 32, 116, 111, 32, 34, 116, 34, 32, 99, 111, 115, 116, 32, 50, 59, 10, 101, 110, 100, 32, 112, 108, 97, 105, 110, 32, 34, 97, 34, 32, 51, 59, 10, 99, 111, 115, 116, 115, 32, 52, 32, 50, 32, 49, 59, 10] := by decide +kernel
theorem valid_tab2 : valid tab2 = true := by decide +kernel
theorem valid_none : valid ⟨[], [], [], 0, 0, 0⟩ = false := by decide +kernel

end Rw

namespace Rw

theorem allOk_iff {α : Type} {ok : α → Bool} {key : α → Int × List UInt8 × List UInt8} : ∀ {l : List α} {seen : List (Int × List UInt8 × List UInt8)}, allOk ok key l seen = true ↔ (∀ x ∈ l, ok x = true) ∧ (l.map key).Nodup ∧ ∀ x ∈ l, key x ∉ seen
 | [], seen => by simp [allOk]
 | x :: l, seen => by
  unfold allOk
  rw [Bool.and_eq_true, Bool.and_eq_true, allOk_iff (l := l), List.map_cons, List.nodup_cons]
  simp only [Bool.not_eq_true', List.mem_append, List.mem_cons, not_or]
  constructor
  ·rintro ⟨⟨h1, h2⟩, h3, h4, h5⟩
   refine ⟨fun y hy => ?_, ⟨fun hm => ?_, h4⟩, fun y hy => ?_⟩
   ·rcases hy with rfl | hy
    ·exact h2
    ·exact h3 y hy
   ·obtain ⟨y, hy, e⟩ := List.mem_map.1 hm
    exact (h5 y hy).2.1 e
   ·rcases hy with rfl | hy
    ·intro hc; rw [← List.contains_iff_mem, h1] at hc; cases hc
    ·exact (h5 y hy).1
  ·rintro ⟨h1, ⟨h2, h3⟩, h4⟩
   refine ⟨⟨?_, h1 x (.inl rfl)⟩, fun y hy => h1 y (.inr hy), h3, fun y hy => ⟨h4 y (.inr hy), fun e => h2 (List.mem_map.2 ⟨y, hy, e⟩), by simp⟩⟩
   rw [Bool.eq_false_iff]
   intro hc
   exact h4 x (.inl rfl) (List.contains_iff_mem.1 hc)
/-- the table with its rules in the opposite order -/
def back (t : Table) : Table := { t with rules := t.rules.reverse }
theorem valid_all {t : Table} (h : valid t = true) : ∀ r ∈ t.rules, ruleOk r = true := by
 unfold valid at h
 simp only [Bool.and_eq_true] at h
 exact (allOk_iff.1 h.1.1.2).1
theorem valid_80 {t : Table} (h : valid t = true) : t.rules.length ≤ 80 := by
 unfold valid at h
 simp only [Bool.and_eq_true, decide_eq_true_eq] at h
 exact h.1.1.1.1.1.1.2
theorem valid_ends {t : Table} (h : valid t = true) : t.ends.length ≤ 40 ∧ ∀ d ∈ t.ends, dropOk 4 d = true := by
 unfold valid dropsOk at h
 simp only [Bool.and_eq_true, decide_eq_true_eq] at h
 exact ⟨h.2.2, (allOk_iff.1 h.2.1).1⟩
theorem valid_drops {t : Table} (h : valid t = true) : t.drops.length ≤ 40 ∧ ∀ d ∈ t.drops, dropOk 12 d = true := by
 unfold valid dropsOk at h
 simp only [Bool.and_eq_true, decide_eq_true_eq] at h
 exact ⟨h.1.2.2, (allOk_iff.1 h.1.2.1).1⟩
theorem valid_costs {t : Table} (h : valid t = true) : isCost t.drop = true ∧ isCost t.order = true ∧ isCost t.initial = true := by
 unfold valid at h
 simp only [Bool.and_eq_true, decide_eq_true_eq] at h
 exact ⟨h.1.1.1.1.1.2, h.1.1.1.1.2, h.1.1.1.2⟩

end Rw
namespace Al
theorem rulesFrom_has (k : Int) {q : Rw.Rule} {f : List (List UInt8)} (hk : q.script = k) (hf : Sc.lets k q.from_ = some f) : ∀ (l : List Rw.Rule) (i : Nat), q ∈ l → ∃ r ∈ rulesFrom k i l, r.cost = q.cost ∧ r.from_ = f ∧ r.to_ = q.to_
 | [], _, h => by cases h
 | x :: l, i, h => by
  unfold rulesFrom
  rcases List.mem_cons.1 h with rfl | h
  ·rw [if_pos hk, hf]
   exact ⟨_, List.mem_cons_self, rfl, rfl, rfl⟩
  ·obtain ⟨r, h1, h2⟩ := rulesFrom_has k hk hf l (i + 1) h
   split
   ·split
    ·exact ⟨r, List.mem_cons_of_mem _ h1, h2⟩
    ·exact ⟨r, h1, h2⟩
   ·exact ⟨r, h1, h2⟩
end Al
namespace Fo
section
variable {t : Rw.Table} {k : Int}
end
end Fo
namespace Fo
open Al (R fits)
/-- one rule more behind a beginning -/
theorem Pre.rule {t : Rw.Table} {k : Int} {L : List (List UInt8)} {q : Rw.Rule} {f : List (List UInt8)} {i : Nat} {g : List UInt8} {c : Int} (h : Pre L (Al.rulesFrom k 0 t.rules) i g c) (hq : q ∈ t.rules) (hk : q.script = k) (hf : Sc.lets k q.from_ = some f) (h1 : i + f.length ≤ L.length) (h2 : (L.drop i).take f.length = f) :
  Pre L (Al.rulesFrom k 0 t.rules) (i + f.length) (g ++ q.to_) (c + q.cost) := by
 obtain ⟨r, h3, h4, h5, h6⟩ := Al.rulesFrom_has k hk hf t.rules 0 hq
 have := Pre.snoc h h3 (by unfold Al.fits; rw [h5, decide_eq_true h1, decide_eq_true h2]; rfl)
 rw [h5, h6, h4] at this
 exact this
end Fo
