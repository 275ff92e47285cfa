/-
  align.state as a map's key; the states within two words are few. Conditions: lengths.
-/
import Derived.Test.YthibphklchalkaaGreatDoorZAl2
import Derived.Test.YthibphklchalkaaGreatDoorZKey
import Derived.Test.YthibphklchalkaaGreatDoorZMBase
namespace Go.Proofs.YthibphklchalkaaGreatDoor
open Go.RowKit Go.Maps

theorem st_keyed : Keyed Tryz.prog 53 :=
  Keyed.of_law (deep_law_laid laid_out (m := 9) (by decide) (of_decide_eq_true (by kernel_rfl)) (by kernel_rfl) (by kernel_rfl))

theorem wf_small (n : Nat) (h : n ≤ 1000000) : (Lit.int .i64 (n : Int)).wf = true := by
  have h1 : IntKind.i64.min = -9223372036854775808 := by decide
  have h2 : IntKind.i64.max = 9223372036854775807 := by decide
  show (decide (IntKind.i64.min ≤ (n : Int)) && decide ((n : Int) ≤ IntKind.i64.max)) = true
  rw [h1, h2, decide_eq_true (by omega), decide_eq_true (by omega)]; rfl

theorem st_some (s : Al.St) (h1 : s.i ≤ 1000) (h2 : s.j ≤ 1000) (h3 : s.ahead.length ≤ 1000) : ∃ kl, keyOf Tryz.prog 53 (stV s) = some kl := by
  have hd : ∃ d, Tryz.prog.types.size + 1 = d + 2 := ⟨Tryz.prog.types.size - 1, by have : 1 ≤ Tryz.prog.types.size := of_decide_eq_true (by kernel_rfl); omega⟩
  obtain ⟨d, hd⟩ := hd
  have hk : Tryz.prog.keyType 53 = true := by kernel_rfl
  have hc : Tryz.prog.cellsOf 53 = 4 := by kernel_rfl
  have hc3 : Tryz.prog.cellsOf 3 = 1 := by kernel_rfl
  have hc9 : Tryz.prog.cellsOf 9 = 1 := by kernel_rfl
  have hc4 : Tryz.prog.cellsOf 4 = 1 := by kernel_rfl
  have w1 : (Lit.int .i64 (s.i : Int)).wf = true := wf_small s.i (by omega)
  have w2 : (Lit.int .i64 (s.j : Int)).wf = true := wf_small s.j (by omega)
  have w3 : (bs s.ahead).size ≤ maxLen := by rw [bs_len]; unfold maxLen; omega
  unfold keyOf stV stC
  rw [Tryz.underlying53]
  simp only [hk, Value.formed, Tryz.underlying53, hc, Value.cells]
  rw [hd]
  simp [Program.keyLits, Tryz.underlying53, hc, hc3, hc9, hc4, Tryz.underlying3, Tryz.underlying9, Tryz.underlying4, w1, w2, w3]

theorem st_eq {s s' : Al.St} : stV s = stV s' ↔ s = s' := by
  constructor
  · intro h
    obtain ⟨i, j, a, r⟩ := s
    obtain ⟨i', j', a', r'⟩ := s'
    simp [stV, stC, bs] at h
    obtain ⟨h1, h2, h3, h4⟩ := h
    simp only [Al.St.mk.injEq]
    exact ⟨by omega, by omega, h3, h4⟩
  · intro h; rw [h]

theorem zero_int (w : World) : (zeroValue 3).run Tryz.prog w = .ok (.int .i64 0) w := by kernel_rfl

open Classical in
/-- the map of the least costs of these states -/
noncomputable def costsF (w : Al.Ws) (K : List Al.St) (x : Value) : Option Value := if h : ∃ s ∈ K, stV s = x then some (.int .i64 (Al.cost w h.choose)) else none

theorem costsF_in {w : Al.Ws} {K : List Al.St} {s : Al.St} (h : s ∈ K) : costsF w K (stV s) = some (.int .i64 (Al.cost w s)) := by
  have hex : ∃ s' ∈ K, stV s' = stV s := ⟨s, h, rfl⟩
  unfold costsF
  rw [dif_pos hex]
  have := hex.choose_spec.2
  rw [st_eq.1 this]

theorem costsF_out {w : Al.Ws} {K : List Al.St} {s : Al.St} (h : s ∉ K) : costsF w K (stV s) = none := by
  unfold costsF
  rw [dif_neg]
  rintro ⟨s', h1, h2⟩
  exact h (by rw [← st_eq.1 h2]; exact h1)

theorem costsF_cons {w : Al.Ws} {K : List Al.St} {s : Al.St} : costsF w (s :: K) (stV s) = some (.int .i64 (Al.cost w s)) ∧ ∀ y, y ≠ stV s → costsF w (s :: K) y = costsF w K y := by
  refine ⟨costsF_in List.mem_cons_self, fun y hy => ?_⟩
  by_cases h : ∃ s' ∈ K, stV s' = y
  · obtain ⟨s', h1, rfl⟩ := h
    rw [costsF_in h1, costsF_in (List.mem_cons_of_mem _ h1)]
  · unfold costsF
    rw [dif_neg h, dif_neg]
    rintro ⟨s', h1, h2⟩
    rcases List.mem_cons.1 h1 with rfl | h1
    · exact hy h2.symm
    · exact h ⟨s', h1, h2⟩

end Go.Proofs.YthibphklchalkaaGreatDoor
