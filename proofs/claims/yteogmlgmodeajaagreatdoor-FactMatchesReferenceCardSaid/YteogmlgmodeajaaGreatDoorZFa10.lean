/-
  What ParseCase's pieces mean, step by step; leaving ParseCase; the names that are missing. Conditions: none.
-/
import Derived.Test.YteogmlgmodeajaaGreatDoorZFa9
import Derived.Test.YteogmlgmodeajaaGreatDoorZMapCount
namespace Fa

/-- what a value begins with -/
def start (first : Bool) (e : Nat) (ts : List T) : Except Fail (T × List T) := if first then Except.ok ((0, ⟨0, 0, []⟩), ts) else take 4 [44] e ts

section
variable {d : Dom} {g : List (List UInt8)} {first : Bool} {e : Nat} {ts r0 r1 r2 r3 : List T} {t0 t1 t2 t3 : T} {x : Fail}
theorem valP_1 (h : start first e ts = .error x) : valP d g first e ts = .error x := by unfold valP; unfold start at h; rw [h]
theorem valP_2 (h : start first e ts = .ok (t0, r0)) (h1 : take 1 [] e r0 = .error x) : valP d g first e ts = .error x := by unfold valP; unfold start at h; rw [h]; simp only; rw [h1]
theorem valP_3 (h : start first e ts = .ok (t0, r0)) (h1 : take 1 [] e r0 = .ok (t1, r1)) (hi : idx d t1.2.text < 0) : valP d g first e ts = .error (7, t1.1) := by
  unfold valP; unfold start at h; rw [h]; simp only; rw [h1]; simp only; rw [if_pos hi]
theorem valP_4 (h : start first e ts = .ok (t0, r0)) (h1 : take 1 [] e r0 = .ok (t1, r1)) (hi : ¬ idx d t1.2.text < 0) (hg : t1.2.text ∈ g) : valP d g first e ts = .error (9, t1.1) := by
  unfold valP; unfold start at h; rw [h]; simp only; rw [h1]; simp only; rw [if_neg hi, if_pos hg]
theorem valP_5 (h : start first e ts = .ok (t0, r0)) (h1 : take 1 [] e r0 = .ok (t1, r1)) (hi : ¬ idx d t1.2.text < 0) (hg : t1.2.text ∉ g) (h2 : take 4 [61] e r1 = .error x) : valP d g first e ts = .error x := by
  unfold valP; unfold start at h; rw [h]; simp only; rw [h1]; simp only; rw [if_neg hi, if_neg hg, h2]
theorem valP_6 (h : start first e ts = .ok (t0, r0)) (h1 : take 1 [] e r0 = .ok (t1, r1)) (hi : ¬ idx d t1.2.text < 0) (hg : t1.2.text ∉ g) (h2 : take 4 [61] e r1 = .ok (t2, r2)) (h3 : take 2 [] e r2 = .error x) : valP d g first e ts = .error x := by
  unfold valP; unfold start at h; rw [h]; simp only; rw [h1]; simp only; rw [if_neg hi, if_neg hg, h2]; simp only; rw [h3]
theorem valP_7 (h : start first e ts = .ok (t0, r0)) (h1 : take 1 [] e r0 = .ok (t1, r1)) (hi : ¬ idx d t1.2.text < 0) (hg : t1.2.text ∉ g) (h2 : take 4 [61] e r1 = .ok (t2, r2)) (h3 : take 2 [] e r2 = .ok (t3, r3)) {f : Fact} (hf : d[(idx d t1.2.text).toNat]? = some f) :
    valP d g first e ts = if (t3.2.n : Int) < f.lo ∨ f.hi < (t3.2.n : Int) then .error (10, t3.1) else .ok ((idx d t1.2.text, (t3.2.n : Int), t1.2.text), r3) := by
  unfold valP; unfold start at h; rw [h]; simp only; rw [h1]; simp only; rw [if_neg hi, if_neg hg, h2]; simp only; rw [h3]; simp only; rw [hf]
end

/-- what is still to be read comes to this -/
def finC (d : Dom) (s : List UInt8) (r : Except Fail (List Int × List (List UInt8))) : List Int × Int × Int := match r with | .error (a, b) => ([], a, b) | .ok (c, g) => if g.length < d.length then ([], 11, s.length) else (c, 0, 0)
theorem parseCase_fin {d : Dom} {s : List UInt8} {l : List T} (hv : valid d = true) (h : Lx.lex s = (l, 0, 0)) : parseCase d s = finC d s (valsN (l.length + 1) d (List.replicate d.length 0) [] true s.length l) := by
  unfold parseCase
  rw [if_pos hv, h]
  simp only [ne_eq, not_true_eq_false, if_false]
  unfold valsT finC
  cases valsN (l.length + 1) d (List.replicate d.length 0) [] true s.length l <;> rfl
theorem parseCase_bad {d : Dom} {s : List UInt8} {l : List T} {x y : Int} (hv : valid d = true) (h : Lx.lex s = (l, x, y)) (hx : x ≠ 0) : parseCase d s = ([], x, y) := by
  unfold parseCase
  rw [if_pos hv, h]
  simp only
  rw [if_pos hx]
theorem parseCase_arg {d : Dom} {s : List UInt8} (hv : valid d = false) : parseCase d s = ([], 1, 0) := by
  unfold parseCase
  rw [if_neg (by rw [hv]; simp)]

/-- ParseCase has come to token k -/
def AtC (d : Dom) (s : List UInt8) (l : List T) (c : List Int) (g : List (List UInt8)) (k : Nat) : Prop := ∃ n, l.length - k < n ∧ parseCase d s = finC d s (valsN n d c g (decide (k = 0)) s.length (l.drop k))
section
variable {d : Dom} {s : List UInt8} {l : List T} {c : List Int} {g : List (List UInt8)} {k k' : Nat}
theorem AtC.start (hv : valid d = true) (h : Lx.lex s = (l, 0, 0)) : AtC d s l (List.replicate d.length 0) [] 0 := ⟨l.length + 1, by omega, by rw [List.drop_zero]; exact parseCase_fin hv h⟩
theorem AtC.done (h : AtC d s l c g k) (hk : ¬ k < l.length) : parseCase d s = if g.length < d.length then ([], 11, (s.length : Int)) else (c, 0, 0) := by
  obtain ⟨n, h1, h2⟩ := h
  rw [h2, List.drop_eq_nil_of_le (by omega)]
  cases n with
  | zero => rfl
  | succ n => rfl
theorem AtC.bad {x : Fail} (h : AtC d s l c g k) (hk : k < l.length) (hf : valP d g (decide (k = 0)) s.length (l.drop k) = .error x) : parseCase d s = ([], x.1, x.2) := by
  obtain ⟨n, h1, h2⟩ := h
  rw [h2]
  rw [List.drop_eq_getElem_cons hk] at hf ⊢
  cases n with
  | zero => omega
  | succ n => rw [valsN, hf]; rfl
theorem AtC.step {i v : Int} {a : List UInt8} (h : AtC d s l c g k) (hk : k < l.length) (hk' : k < k') (hf : valP d g (decide (k = 0)) s.length (l.drop k) = .ok ((i, v, a), l.drop k')) : AtC d s l (c.set i.toNat v) (g ++ [a]) k' := by
  obtain ⟨n, h1, h2⟩ := h
  rw [List.drop_eq_getElem_cons hk] at hf h2
  cases n with
  | zero => omega
  | succ n =>
    refine ⟨n, by omega, ?_⟩
    rw [h2, valsN, hf, decide_eq_false (show ¬ k' = 0 by omega)]
end

end Fa
namespace Go.Proofs.YteogmlgmodeajaaGreatDoor
open Go.RowKit Go.Maps

/-- the results lie in three cells -/
theorem results_cells2 {fn : Func} {t : TypeId} (hfn : fn.results = #[.cell 4 t, .cell 5 29, .cell 6 3]) {tmps : Array Value} {w : World} {D E A : Nat} {v er at_ r : Value} (h2 : tmps.getD 4 undef = .pointer (some ⟨D, 0, none⟩)) (h3 : tmps.getD 5 undef = .pointer (some ⟨E, 0, none⟩)) (h4 : tmps.getD 6 undef = .pointer (some ⟨A, 0, none⟩))
    (h : Res w D E A t v er at_) (hl : (loadVar t ⟨D, 0, none⟩).run Tryz.prog w = .ok r w) : (results fn tmps).run Tryz.prog w = .ok (.tuple #[r, er, at_]) w := by
  have e0 := h.e.cell
  have a0 := h.a.cell
  have l1 : (loadVar 29 ⟨E, 0, none⟩).run Tryz.prog w = .ok er w := by
    simp [loadVar, go_sem, e0]
  have l2 : (loadVar 3 ⟨A, 0, none⟩).run Tryz.prog w = .ok at_ w := by
    simp [loadVar, go_sem, a0]
  have h2' : tmps[4]?.getD undef = .pointer (some ⟨D, 0, none⟩) := by simpa using h2
  have h3' : tmps[5]?.getD undef = .pointer (some ⟨E, 0, none⟩) := by simpa using h3
  have h4' : tmps[6]?.getD undef = .pointer (some ⟨A, 0, none⟩) := by simpa using h4
  simp [results, hfn, h2', h3', h4', asAddr, hl, l1, l2, Sem.run_bind, Result.andThen]

section
variable {fn : Func} {tmps : Array Value} {w : World} {D E A : Nat} {v er at_ : Value} {R : Ending → World → Prop}
theorem leaves_2 (hfn : fn.results = #[.cell 4 26, .cell 5 29, .cell 6 3]) (h2 : tmps.getD 4 undef = .pointer (some ⟨D, 0, none⟩)) (h3 : tmps.getD 5 undef = .pointer (some ⟨E, 0, none⟩)) (h4 : tmps.getD 6 undef = .pointer (some ⟨A, 0, none⟩))
    (h : Res w D E A 26 v er at_) (x : Fa.Fail)
    (hR : ∀ w', Res w' D E A 26 (.slice none 0 0) (.int .i64 x.1) (.int .i64 x.2) → Tch (res3 D E A) w w' → R (.returned (.tuple #[.slice none 0 0, .int .i64 x.1, .int .i64 x.2])) w') :
    Leaves Tryz.prog fn tmps R [{ target := .fn (.func 37) #[.pointer (some ⟨D, 0, none⟩), .pointer (some ⟨E, 0, none⟩), .pointer (some ⟨A, 0, none⟩)], args := #[] }] (.panicking [{ v := faultV x, recovered := false }]) w := by
  refine leaves_cons (f := 37) (args := #[.pointer (some ⟨D, 0, none⟩), .pointer (some ⟨E, 0, none⟩), .pointer (some ⟨A, 0, none⟩)]) (by simp) (by simp [go_sem]) ?_
  refine (def2_caught D E A w v er at_ h x).mono ?_
  rintro e u' w' ⟨⟨rfl, h5, h6⟩, rfl⟩
  exact ⟨_, results_cells2 hfn h2 h3 h4 h5 (load_case h5.d), hR w' h5 h6⟩
theorem leaves_ret_2 (hfn : fn.results = #[.cell 4 26, .cell 5 29, .cell 6 3]) (h2 : tmps.getD 4 undef = .pointer (some ⟨D, 0, none⟩)) (h3 : tmps.getD 5 undef = .pointer (some ⟨E, 0, none⟩)) (h4 : tmps.getD 6 undef = .pointer (some ⟨A, 0, none⟩))
    (h : Res w D E A 26 v er at_) (hR : R (.returned (.tuple #[v, er, at_])) w) :
    Leaves Tryz.prog fn tmps R [{ target := .fn (.func 37) #[.pointer (some ⟨D, 0, none⟩), .pointer (some ⟨E, 0, none⟩), .pointer (some ⟨A, 0, none⟩)], args := #[] }] .returning w := by
  refine leaves_cons (f := 37) (args := #[.pointer (some ⟨D, 0, none⟩), .pointer (some ⟨E, 0, none⟩), .pointer (some ⟨A, 0, none⟩)]) (by simp) (by simp [go_sem]) ?_
  refine (def2_idle D E A w).mono ?_
  rintro e u' w' ⟨rfl, rfl, rfl⟩
  exact ⟨_, results_cells2 hfn h2 h3 h4 h (load_case h.d), hR⟩
theorem leaves_ret_02 (hfn : fn.results = #[.cell 4 26, .cell 5 29, .cell 6 3]) (h2 : tmps.getD 4 undef = .pointer (some ⟨D, 0, none⟩)) (h3 : tmps.getD 5 undef = .pointer (some ⟨E, 0, none⟩)) (h4 : tmps.getD 6 undef = .pointer (some ⟨A, 0, none⟩))
    (h : Res w D E A 26 v er at_) (hR : R (.returned (.tuple #[v, er, at_])) w) : Leaves Tryz.prog fn tmps R [] .returning w :=
  ⟨_, results_cells2 hfn h2 h3 h4 h (load_case h.d), hR⟩
end
theorem leaves_put2 {P : Program} {fn : Func} {t te ti : TypeId} (hfn : fn.results = #[.cell 4 t, .cell 5 te, .cell 6 ti]) {R : Ending → World → Prop} {a : Act} {i : Nat} (hi : 6 < i) {v : Value} {ds : List Deferred} {u : FrameMode} {w : World} (h : Leaves P fn (a.put (some i) v).tmps R ds u w) : Leaves P fn a.tmps R ds u w := by
  refine leaves_congr ?_ ds u w h
  have g : ∀ j, j < i → ((a.put (some i) v).tmps)[j]?.getD undef = a.tmps[j]?.getD undef := fun j hj => by
    simp only [Act.put]
    rw [Array.getElem?_setIfInBounds_ne (by omega)]
  simp [results, hfn, g 4 (by omega), g 5 (by omega), g 6 (by omega)]

/-- the names that have no value yet -/
def missF (ns g : List (List UInt8)) : Value → Option Value
  | .string s => if s.data.toList ∈ ns ∧ s.data.toList ∉ g then some (.bool true) else none
  | _ => none
theorem miss_nil : missF [] [] = fun _ => none := by
  funext v
  cases v <;> simp [missF]
theorem miss_get (ns g : List (List UInt8)) (a : List UInt8) : (missF ns g (.string (bs a))).getD (.bool false) = .bool (decide (a ∈ ns ∧ a ∉ g)) := by
  have e : (bs a).data.toList = a := rfl
  by_cases h : a ∈ ns ∧ a ∉ g
  · rw [decide_eq_true h]; simp [missF, e, h]
  · rw [decide_eq_false h]; unfold missF; simp only [e]; rw [if_neg h]; rfl
theorem miss_more (ns : List (List UInt8)) (a : List UInt8) : missF (ns ++ [a]) [] (.string (bs a)) = some (.bool true) ∧ ∀ y, y ≠ .string (bs a) → missF (ns ++ [a]) [] y = missF ns [] y := by
  refine ⟨by simp [missF, bs], fun y hy => ?_⟩
  cases y with
  | string s =>
    have hne : s.data.toList ≠ a := fun e => hy (by rw [← bs_ext e])
    simp [missF, hne]
  | _ => rfl
theorem miss_less (ns g : List (List UInt8)) (a : List UInt8) : missF ns (g ++ [a]) (.string (bs a)) = none ∧ ∀ y, y ≠ .string (bs a) → missF ns (g ++ [a]) y = missF ns g y := by
  refine ⟨by simp [missF, bs], fun y hy => ?_⟩
  cases y with
  | string s =>
    have hne : s.data.toList ≠ a := fun e => hy (by rw [← bs_ext e])
    simp [missF, hne]
  | _ => rfl

end Go.Proofs.YteogmlgmodeajaaGreatDoor
