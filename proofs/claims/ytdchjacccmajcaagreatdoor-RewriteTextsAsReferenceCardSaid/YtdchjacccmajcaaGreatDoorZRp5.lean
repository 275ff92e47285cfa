/-
 What the lexer returns is bounded; what Parse returns, case by case, plainly. NO PROGRAM IN THIS TEXT.
-/
import Derived.Test.YtdchjacccmajcaaGreatDoorZMRp
namespace Lx
theorem lexN_all : ∀ (f cnt : Nat) (s : List UInt8) (l : List (Nat × Tk)), lexN f cnt s = .ok l → cnt ≤ 5000 → l.length + cnt ≤ 5000 ∧ ∀ p ∈ l, TokOK p.2
 | 0, cnt, s, l, h, hc => by simp [lexN] at h; subst h; exact ⟨by simpa using hc, by simp⟩
 | f + 1, cnt, s, l, h, hc => by
  rw [lexN] at h
  split at h
  ·simp at h; subst h; exact ⟨by simpa using hc, by simp⟩
  ·rename_i c r hs
   split at h
   ·simp at h
   ·rename_i t ht
    split at h
    ·simp at h
    ·rename_i hcn
     cases hr : lexN f (cnt + 1) ((c :: r).drop t.width) with
     | error e => rw [hr] at h; simp [shiftR] at h
     | ok m =>
      rw [hr] at h
      simp only [shiftR, Except.ok.injEq] at h
      obtain ⟨h1, h2⟩ := lexN_all f _ _ _ hr (by omega)
      rw [← h]
      refine ⟨by simp [shift]; omega, fun p hp => ?_⟩
      simp only [shift, List.singleton_append, List.mem_cons, List.mem_map] at hp
      rcases hp with rfl | ⟨q, hq, rfl⟩
      ·exact (nextTok_ok ht).1
      ·exact h2 q hq
theorem tok_400 {t : Tk} (h : TokOK t) : t.text.length ≤ 400 := by
 rcases h with ⟨_, _, h, _⟩ | ⟨_, _, h, _⟩ | ⟨_, _, h, _⟩ | ⟨_, _, c, ⟨h, _⟩ | ⟨h, _⟩⟩
 ·omega
 ·omega
 ·exact h
 ·rw [h]; simp
 ·rw [h]; simp
theorem lex_all {s : List UInt8} {l : List (Nat × Tk)} {x y : Int} (h : lex s = (l, x, y)) : l.length ≤ 5000 ∧ ∀ p ∈ l, p.2.text.length ≤ 400 := by
 unfold lex at h
 split at h
 ·simp only [Prod.mk.injEq] at h
  rw [← h.1]
  exact ⟨by simp, by simp⟩
 ·cases hx : lx 0 s with
  | error e =>
   rw [hx] at h
   simp only [Prod.mk.injEq] at h
   rw [← h.1]
   exact ⟨by simp, by simp⟩
  | ok m =>
   rw [hx] at h
   simp only [Prod.mk.injEq] at h
   obtain ⟨h1, h2⟩ := lexN_all _ _ _ _ hx (by omega)
   rw [← h.1]
   exact ⟨by omega, fun p hp => tok_400 (h2 p hp)⟩
end Lx
namespace Rw
open Fa (T Fail)
theorem parse_bad {s : List UInt8} {l : List T} {x y : Int} (h : Lx.lex s = (l, x, y)) (hx : x ≠ 0) : parse s = (noTable, x, y) := by
 unfold parse
 rw [h]
 simp only
 rw [if_pos hx]
theorem parse_err {s : List UInt8} {l : List T} {y : Int} {z : Fail} (h : Lx.lex s = (l, 0, y)) (ht : tableP s.length l = .error z) : parse s = (noTable, z.1, z.2) := by
 obtain ⟨a, b⟩ := z
 unfold parse
 rw [h]
 simp only
 rw [if_neg (by decide), ht]
theorem parse_done {s : List UInt8} {l : List T} {y : Int} {t : Table} (h : Lx.lex s = (l, 0, y)) (ht : tableP s.length l = .ok (t, [])) : parse s = (t, 0, 0) := by
 unfold parse
 rw [h]
 simp only
 rw [if_neg (by decide), ht]
theorem parse_more {s : List UInt8} {l r : List T} {z : T} {y : Int} {t : Table} (h : Lx.lex s = (l, 0, y)) (ht : tableP s.length l = .ok (t, z :: r)) : parse s = (noTable, 5, (z.1 : Int)) := by
 unfold parse
 rw [h]
 simp only
 rw [if_neg (by decide), ht]
end Rw
