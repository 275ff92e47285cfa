/-
  api.Potential as a map's key: the reference's map of the least costs. Conditions: lengths.
-/
import Derived.Test.YthibphklchalkaaGreatDoorZRr6
import Derived.Test.YthibphklchalkaaGreatDoorZMAlC
namespace Go.Proofs.YthibphklchalkaaGreatDoor
open Go.RowKit Go.Maps

theorem pot_keyed : Keyed Tryz.prog 66 :=
  Keyed.of_law (deep_law_laid laid_out (m := 9) (by decide) (of_decide_eq_true (by kernel_rfl)) (by kernel_rfl) (by kernel_rfl))

theorem pot_some (s : Al.St) (h1 : s.i ≤ 1000) (h2 : s.j ≤ 1000) (h3 : s.ahead.length ≤ 1000) : ∃ kl, keyOf Tryz.prog 66 (potV s) = some kl := by
  have hd : ∃ d, Tryz.prog.types.size + 1 = d + 2 := ⟨Tryz.prog.types.size - 1, by have : 1 ≤ Tryz.prog.types.size := of_decide_eq_true (by kernel_rfl); omega⟩
  obtain ⟨d, hd⟩ := hd
  have hk : Tryz.prog.keyType 66 = true := by kernel_rfl
  have hc : Tryz.prog.cellsOf 66 = 5 := by kernel_rfl
  have hc3 : Tryz.prog.cellsOf 3 = 1 := by kernel_rfl
  have hc9 : Tryz.prog.cellsOf 9 = 1 := by kernel_rfl
  have hc4 : Tryz.prog.cellsOf 4 = 1 := by kernel_rfl
  have w0 : (Lit.int .i64 (0 : Int)).wf = true := by decide
  have w1 : (Lit.int .i64 (s.i : Int)).wf = true := wf_small s.i (by omega)
  have w2 : (Lit.int .i64 (s.j : Int)).wf = true := wf_small s.j (by omega)
  have w3 : (bs s.ahead).size ≤ maxLen := by rw [bs_len]; unfold maxLen; omega
  unfold keyOf potV potC
  rw [Tryz.underlying66]
  simp only [hk, Value.formed, Tryz.underlying66, hc, Value.cells]
  rw [hd]
  simp [Program.keyLits, Tryz.underlying66, hc, hc3, hc9, hc4, Tryz.underlying3, Tryz.underlying9, Tryz.underlying4, w0, w1, w2, w3]

theorem pot_eq {s s' : Al.St} : potV s = potV s' ↔ s = s' := by
  constructor
  · intro h
    obtain ⟨i, j, a, r⟩ := s
    obtain ⟨i', j', a', r'⟩ := s'
    simp [potV, potC, bs] at h
    obtain ⟨h1, h2, h3, h4⟩ := h
    simp only [Al.St.mk.injEq]
    exact ⟨by omega, by omega, h3, h4⟩
  · intro h; rw [h]

open Classical in
/-- the map of the least costs of these states, as the reference has it -/
noncomputable def costsP (w : Al.Ws) (K : List Al.St) (x : Value) : Option Value := if h : ∃ s ∈ K, potV s = x then some (.int .i64 (Al.cost w h.choose)) else none

theorem costsP_in {w : Al.Ws} {K : List Al.St} {s : Al.St} (h : s ∈ K) : costsP w K (potV s) = some (.int .i64 (Al.cost w s)) := by
  have hex : ∃ s' ∈ K, potV s' = potV s := ⟨s, h, rfl⟩
  unfold costsP
  rw [dif_pos hex]
  have := hex.choose_spec.2
  rw [pot_eq.1 this]

theorem costsP_out {w : Al.Ws} {K : List Al.St} {s : Al.St} (h : s ∉ K) : costsP w K (potV s) = none := by
  unfold costsP
  rw [dif_neg]
  rintro ⟨s', h1, h2⟩
  exact h (by rw [← pot_eq.1 h2]; exact h1)

theorem costsP_cons {w : Al.Ws} {K : List Al.St} {s : Al.St} : costsP w (s :: K) (potV s) = some (.int .i64 (Al.cost w s)) ∧ ∀ y, y ≠ potV s → costsP w (s :: K) y = costsP w K y := by
  refine ⟨costsP_in List.mem_cons_self, fun y hy => ?_⟩
  by_cases h : ∃ s' ∈ K, potV s' = y
  · obtain ⟨s', h1, rfl⟩ := h
    rw [costsP_in h1, costsP_in (List.mem_cons_of_mem _ h1)]
  · unfold costsP
    rw [dif_neg h, dif_neg]
    rintro ⟨s', h1, h2⟩
    rcases List.mem_cons.1 h1 with rfl | h1
    · exact hy h2.symm
    · exact h ⟨s', h1, h2⟩

end Go.Proofs.YthibphklchalkaaGreatDoor
