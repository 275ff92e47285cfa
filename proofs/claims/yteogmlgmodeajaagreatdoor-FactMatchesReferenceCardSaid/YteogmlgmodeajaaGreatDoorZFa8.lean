/-
  What Parse's pieces mean, step by step; leaving Parse. Conditions: none.
-/
import Derived.Test.YteogmlgmodeajaaGreatDoorZFa7
namespace Fa

theorem factP_1 {d : Dom} {e : Nat} {ts : List T} {x : Fail} (h : take 1 [] e ts = .error x) : factP d e ts = .error x := by unfold factP; rw [h]
theorem factP_2 {d : Dom} {e : Nat} {ts r1 : List T} {t1 : T} (h : take 1 [] e ts = .ok (t1, r1)) (hi : 0 ≤ idx d t1.2.text) : factP d e ts = .error (9, t1.1) := by unfold factP; rw [h]; simp only; rw [if_pos hi]
theorem factP_3 {d : Dom} {e : Nat} {ts r1 : List T} {t1 : T} (h : take 1 [] e ts = .ok (t1, r1)) (hi : ¬ 0 ≤ idx d t1.2.text) (hl : d.length = 60) : factP d e ts = .error (2, t1.1) := by unfold factP; rw [h]; simp only; rw [if_neg hi, if_pos hl]
theorem factP_4 {d : Dom} {e : Nat} {ts r1 : List T} {t1 : T} {x : Fail} (h : take 1 [] e ts = .ok (t1, r1)) (hi : ¬ 0 ≤ idx d t1.2.text) (hl : ¬ d.length = 60) (h2 : take 1 [] e r1 = .error x) : factP d e ts = .error x := by
  unfold factP; rw [h]; simp only; rw [if_neg hi, if_neg hl, h2]
theorem factP_5 {d : Dom} {e : Nat} {ts r1 r2 : List T} {t1 t2 : T} {x : Fail} (h : take 1 [] e ts = .ok (t1, r1)) (hi : ¬ 0 ≤ idx d t1.2.text) (hl : ¬ d.length = 60) (h2 : take 1 [] e r1 = .ok (t2, r2)) (h3 : ranges t2.2.text t2.1 e r2 = .error x) : factP d e ts = .error x := by
  unfold factP; rw [h]; simp only; rw [if_neg hi, if_neg hl, h2]; simp only; rw [h3]
theorem factP_6 {d : Dom} {e : Nat} {ts r1 r2 r3 : List T} {t1 t2 : T} {x : Fail} {u : Int × Int × Int} (h : take 1 [] e ts = .ok (t1, r1)) (hi : ¬ 0 ≤ idx d t1.2.text) (hl : ¬ d.length = 60) (h2 : take 1 [] e r1 = .ok (t2, r2)) (h3 : ranges t2.2.text t2.1 e r2 = .ok (u, r3)) (h4 : take 4 [59] e r3 = .error x) : factP d e ts = .error x := by
  obtain ⟨k, lo, hi'⟩ := u
  unfold factP; rw [h]; simp only; rw [if_neg hi, if_neg hl, h2]; simp only; rw [h3]; simp only; rw [h4]
theorem factP_7 {d : Dom} {e : Nat} {ts r1 r2 r3 r4 : List T} {t1 t2 t4 : T} {u : Int × Int × Int} (h : take 1 [] e ts = .ok (t1, r1)) (hi : ¬ 0 ≤ idx d t1.2.text) (hl : ¬ d.length = 60) (h2 : take 1 [] e r1 = .ok (t2, r2)) (h3 : ranges t2.2.text t2.1 e r2 = .ok (u, r3)) (h4 : take 4 [59] e r3 = .ok (t4, r4)) : factP d e ts = .ok (⟨t1.2.text, u.1, u.2.1, u.2.2⟩, r4) := by
  obtain ⟨k, lo, hi'⟩ := u
  unfold factP; rw [h]; simp only; rw [if_neg hi, if_neg hl, h2]; simp only; rw [h3]; simp only; rw [h4]

/-- what is still to be read comes to this -/
def fin (r : Except Fail Dom) : Dom × Int × Int := match r with | .error (a, b) => ([], a, b) | .ok d => (d, 0, 0)
theorem parse_fin {s : List UInt8} {l : List T} (h : Lx.lex s = (l, 0, 0)) : parse s = fin (parseN (l.length + 1) [] s.length l) := by
  unfold parse
  rw [h]
  simp only [ne_eq, not_true_eq_false, if_false]
  unfold parseT fin
  cases parseN (l.length + 1) [] s.length l <;> rfl
theorem parse_bad {s : List UInt8} {l : List T} {x y : Int} (h : Lx.lex s = (l, x, y)) (hx : x ≠ 0) : parse s = ([], x, y) := by
  unfold parse
  rw [h]
  simp only
  rw [if_pos hx]

/-- Parse has come to token k, the domain so far d -/
def At (s : List UInt8) (l : List T) (d : Dom) (k : Nat) : Prop := ∃ n, l.length - k < n ∧ parse s = fin (parseN n d s.length (l.drop k))
theorem At.start {s : List UInt8} {l : List T} (h : Lx.lex s = (l, 0, 0)) : At s l [] 0 := ⟨l.length + 1, by omega, by rw [List.drop_zero]; exact parse_fin h⟩
theorem At.done {s : List UInt8} {l : List T} {d : Dom} {k : Nat} (h : At s l d k) (hk : ¬ k < l.length) : parse s = (d, 0, 0) := by
  obtain ⟨n, h1, h2⟩ := h
  rw [h2, List.drop_eq_nil_of_le (by omega)]
  cases n with
  | zero => rfl
  | succ n => rfl
theorem At.bad {s : List UInt8} {l : List T} {d : Dom} {k : Nat} {x : Fail} (h : At s l d k) (hk : k < l.length) (hf : factP d s.length (l.drop k) = .error x) : parse s = ([], x.1, x.2) := by
  obtain ⟨n, h1, h2⟩ := h
  rw [h2]
  rw [List.drop_eq_getElem_cons hk] at hf ⊢
  cases n with
  | zero => omega
  | succ n => rw [parseN, hf]; rfl
theorem At.step {s : List UInt8} {l : List T} {d : Dom} {k k' : Nat} {f : Fact} (h : At s l d k) (hk : k < l.length) (hk' : k < k') (hf : factP d s.length (l.drop k) = .ok (f, l.drop k')) : At s l (d ++ [f]) k' := by
  obtain ⟨n, h1, h2⟩ := h
  rw [List.drop_eq_getElem_cons hk] at hf h2
  cases n with
  | zero => omega
  | succ n =>
    refine ⟨n, by omega, ?_⟩
    rw [h2, parseN, hf]

theorem lexN_len : ∀ (f cnt : Nat) (s : List UInt8) (l : List T), Lx.lexN f cnt s = .ok l → l.length ≤ f
  | 0, cnt, s, l, h => by simp [Lx.lexN] at h; subst h; simp
  | f + 1, cnt, s, l, h => by
    rw [Lx.lexN] at h
    split at h
    · simp at h; subst h; simp
    · rename_i c r hs
      split at h
      · simp at h
      · rename_i t ht
        split at h
        · simp at h
        · cases hr : Lx.lexN f (cnt + 1) ((c :: r).drop t.width) with
          | error e => rw [hr] at h; simp [Lx.shiftR] at h
          | ok m =>
            rw [hr] at h
            simp only [Lx.shiftR, Except.ok.injEq] at h
            have := lexN_len f _ _ _ hr
            rw [← h]
            simp [Lx.shift]; omega
theorem lex_len {s : List UInt8} {l : List T} {x y : Int} (h : Lx.lex s = (l, x, y)) : l.length ≤ s.length + 1 := by
  unfold Lx.lex at h
  split at h
  · simp at h; rw [h.1]; simp
  · cases hx : Lx.lx 0 s with
    | error e => rw [hx] at h; simp at h; rw [h.1]; simp
    | ok m =>
      rw [hx] at h
      simp at h
      rw [← h.1]
      exact lexN_len _ _ _ _ hx

end Fa
namespace Go.Proofs.YteogmlgmodeajaaGreatDoor
open Go.RowKit Go.Maps

theorem Res.setD {w : World} {D E A : Nat} {t : TypeId} {d er at_ : Value} (h : Res w D E A t d er at_) (u : Value) : Res (w.setCell ⟨D, 0, none⟩ u) D E A t u er at_ :=
  ⟨h.d.set u, h.e.other (by have := h.de; show D ≠ E; omega) u, h.a.other (by have := h.de; have := h.ea; show D ≠ A; omega) u, h.de, h.ea⟩
theorem Res.setE {w : World} {D E A : Nat} {t : TypeId} {d er at_ : Value} (h : Res w D E A t d er at_) (u : Value) : Res (w.setCell ⟨E, 0, none⟩ u) D E A t d u at_ :=
  ⟨h.d.other (by have := h.de; show E ≠ D; omega) u, h.e.set u, h.a.other (by have := h.ea; show E ≠ A; omega) u, h.de, h.ea⟩
theorem Res.setA {w : World} {D E A : Nat} {t : TypeId} {d er at_ : Value} (h : Res w D E A t d er at_) (u : Value) : Res (w.setCell ⟨A, 0, none⟩ u) D E A t d er u :=
  ⟨h.d.other (by have := h.de; have := h.ea; show A ≠ D; omega) u, h.e.other (by have := h.ea; show A ≠ E; omega) u, h.a.set u, h.de, h.ea⟩
theorem Res.drew {w : World} {D E A : Nat} {t : TypeId} {d er at_ : Value} (h : Res w D E A t d er at_) : Res w.drew D E A t d er at_ := h.below (Below.refl _ w).drew

/-- the results lie in three cells -/
theorem results_cells {fn : Func} {t : TypeId} (hfn : fn.results = #[.cell 2 t, .cell 3 29, .cell 4 3]) {tmps : Array Value} {w : World} {D E A : Nat} {v er at_ r : Value} (h2 : tmps.getD 2 undef = .pointer (some ⟨D, 0, none⟩)) (h3 : tmps.getD 3 undef = .pointer (some ⟨E, 0, none⟩)) (h4 : tmps.getD 4 undef = .pointer (some ⟨A, 0, none⟩))
    (h : Res w D E A t v er at_) (hl : (loadVar t ⟨D, 0, none⟩).run Tryz.prog w = .ok r w) : (results fn tmps).run Tryz.prog w = .ok (.tuple #[r, er, at_]) w := by
  have e0 := h.e.cell
  have a0 := h.a.cell
  have l1 : (loadVar 29 ⟨E, 0, none⟩).run Tryz.prog w = .ok er w := by
    simp [loadVar, go_sem, e0]
  have l2 : (loadVar 3 ⟨A, 0, none⟩).run Tryz.prog w = .ok at_ w := by
    simp [loadVar, go_sem, a0]
  have h2' : tmps[2]?.getD undef = .pointer (some ⟨D, 0, none⟩) := by simpa using h2
  have h3' : tmps[3]?.getD undef = .pointer (some ⟨E, 0, none⟩) := by simpa using h3
  have h4' : tmps[4]?.getD undef = .pointer (some ⟨A, 0, none⟩) := by simpa using h4
  simp [results, hfn, h2', h3', h4', asAddr, hl, l1, l2, Sem.run_bind, Result.andThen]

theorem load_dom {w : World} {D : Nat} {v : Value} (h : One w D 24 v) : (loadVar 24 ⟨D, 0, none⟩).run Tryz.prog w = .ok (.agg #[v]) w := run_loadVar_row w D _ 24 _ _ _ h Tryz.underlying24 rfl (by kernel_rfl)
theorem load_case {w : World} {D : Nat} {v : Value} (h : One w D 26 v) : (loadVar 26 ⟨D, 0, none⟩).run Tryz.prog w = .ok v w := by
  have e0 := h.cell
  simp [loadVar, go_sem, e0]

/-- leaving by a panic that is caught -/
theorem leaves_1 {fn : Func} (hfn : fn.results = #[.cell 2 24, .cell 3 29, .cell 4 3]) {tmps : Array Value} {w : World} {D E A : Nat} {v er at_ : Value} {R : Ending → World → Prop} (h2 : tmps.getD 2 undef = .pointer (some ⟨D, 0, none⟩)) (h3 : tmps.getD 3 undef = .pointer (some ⟨E, 0, none⟩)) (h4 : tmps.getD 4 undef = .pointer (some ⟨A, 0, none⟩))
    (h : Res w D E A 24 v er at_) (x : Fa.Fail)
    (hR : ∀ w', Res w' D E A 24 (.slice none 0 0) (.int .i64 x.1) (.int .i64 x.2) → Tch (res3 D E A) w w' → R (.returned (.tuple #[.agg #[.slice none 0 0], .int .i64 x.1, .int .i64 x.2])) w') :
    Leaves Tryz.prog fn tmps R [{ target := .fn (.func 28) #[.pointer (some ⟨D, 0, none⟩), .pointer (some ⟨E, 0, none⟩), .pointer (some ⟨A, 0, none⟩)], args := #[] }] (.panicking [{ v := faultV x, recovered := false }]) w := by
  refine leaves_cons (f := 28) (args := #[.pointer (some ⟨D, 0, none⟩), .pointer (some ⟨E, 0, none⟩), .pointer (some ⟨A, 0, none⟩)]) (by simp) (by simp [go_sem]) ?_
  refine (def1_caught D E A w v er at_ h x).mono ?_
  rintro e u' w' ⟨⟨rfl, h5, h6⟩, rfl⟩
  exact ⟨_, results_cells hfn h2 h3 h4 h5 (load_dom h5.d), hR w' h5 h6⟩
/-- leaving by a return -/
theorem leaves_ret_1 {fn : Func} (hfn : fn.results = #[.cell 2 24, .cell 3 29, .cell 4 3]) {tmps : Array Value} {w : World} {D E A : Nat} {v er at_ : Value} {R : Ending → World → Prop} (h2 : tmps.getD 2 undef = .pointer (some ⟨D, 0, none⟩)) (h3 : tmps.getD 3 undef = .pointer (some ⟨E, 0, none⟩)) (h4 : tmps.getD 4 undef = .pointer (some ⟨A, 0, none⟩))
    (h : Res w D E A 24 v er at_) (hR : R (.returned (.tuple #[.agg #[v], er, at_])) w) :
    Leaves Tryz.prog fn tmps R [{ target := .fn (.func 28) #[.pointer (some ⟨D, 0, none⟩), .pointer (some ⟨E, 0, none⟩), .pointer (some ⟨A, 0, none⟩)], args := #[] }] .returning w := by
  refine leaves_cons (f := 28) (args := #[.pointer (some ⟨D, 0, none⟩), .pointer (some ⟨E, 0, none⟩), .pointer (some ⟨A, 0, none⟩)]) (by simp) (by simp [go_sem]) ?_
  refine (def1_idle D E A w).mono ?_
  rintro e u' w' ⟨rfl, rfl, rfl⟩
  exact ⟨_, results_cells hfn h2 h3 h4 h (load_dom h.d), hR⟩

/-- leaving hangs on the results' slots alone -/
theorem leaves_congr {P : Program} {fn : Func} {tmps tmps' : Array Value} {R : Ending → World → Prop} (h : results fn tmps = results fn tmps') : ∀ (ds : List Deferred) (u : FrameMode) (w : World), Leaves P fn tmps R ds u w → Leaves P fn tmps' R ds u w
  | [], u, w, hl => by
    cases u with
    | run => exact hl
    | returning => obtain ⟨v, h1, h2⟩ := hl; exact ⟨v, h ▸ h1, h2⟩
    | panicking c => exact hl
  | d :: ds, u, w, ⟨h1, fv, cap, f, args, h2, h3, h4⟩ => by
    refine ⟨h1, fv, cap, f, args, h2, h3, h4.mono ?_⟩
    intro e u' w' hr
    cases e with
    | returned v => exact leaves_congr h ds _ _ hr
    | panicked c => exact leaves_congr h ds _ _ hr
    | outgrown => exact hr
theorem leaves_put {P : Program} {fn : Func} {t te ti : TypeId} (hfn : fn.results = #[.cell 2 t, .cell 3 te, .cell 4 ti]) {R : Ending → World → Prop} {a : Act} {i : Nat} (hi : 4 < i) {v : Value} {ds : List Deferred} {u : FrameMode} {w : World} (h : Leaves P fn (a.put (some i) v).tmps R ds u w) : Leaves P fn a.tmps R ds u w := by
  refine leaves_congr ?_ ds u w h
  have g : ∀ j, j < i → ((a.put (some i) v).tmps)[j]?.getD undef = a.tmps[j]?.getD undef := fun j hj => by
    simp only [Act.put]
    rw [Array.getElem?_setIfInBounds_ne (by omega)]
  simp [results, hfn, g 2 (by omega), g 3 (by omega), g 4 (by omega)]

/-- leaving by a return, nothing deferred -/
theorem leaves_ret_0 {fn : Func} (hfn : fn.results = #[.cell 2 24, .cell 3 29, .cell 4 3]) {tmps : Array Value} {w : World} {D E A : Nat} {v er at_ : Value} {R : Ending → World → Prop} (h2 : tmps.getD 2 undef = .pointer (some ⟨D, 0, none⟩)) (h3 : tmps.getD 3 undef = .pointer (some ⟨E, 0, none⟩)) (h4 : tmps.getD 4 undef = .pointer (some ⟨A, 0, none⟩))
    (h : Res w D E A 24 v er at_) (hR : R (.returned (.tuple #[.agg #[v], er, at_])) w) : Leaves Tryz.prog fn tmps R [] .returning w :=
  ⟨_, results_cells hfn h2 h3 h4 h (load_dom h.d), hR⟩

end Go.Proofs.YteogmlgmodeajaaGreatDoor
