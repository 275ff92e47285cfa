/-
 What Find has still to say, from an entry and a name on; a word of a valid name is one; the distance as a comparison. NO PROGRAM IN THIS TEXT.
-/
import Derived.Test.YtdghfenbfbdijaaGreatDoorZMIxA
import Derived.Test.YtdghfenbfbdijaaGreatDoorZMIxp
namespace Idx
def left (f : Li.Nm → Int) (b : Int) (L : List Li.En) (i k : Nat) : List Hit :=
 match L[i]? with
 | none => []
 | some e => hitsN f b e.id k (e.names.drop k) ++ hits f b (L.drop (i + 1))
variable {f : Li.Nm → Int} {b : Int} {L : List Li.En} {i k : Nat} {e : Li.En} {m : Li.Nm}
theorem left_none (h : L.length ≤ i) : left f b L i k = [] := by
 unfold left
 rw [List.getElem?_eq_none h]
theorem left_start : left f b L i 0 = hits f b (L.drop i) := by
 unfold left
 cases h : L[i]? with
 | none => rw [List.drop_eq_nil_of_le (List.getElem?_eq_none_iff.1 h)]; rfl
 | some e =>
  obtain ⟨hi,he⟩ := List.getElem?_eq_some_iff.1 h
  rw [List.drop_eq_getElem_cons hi,he]
  rfl
theorem left_row (h : L[i]? = some e) (hk : e.names.length ≤ k) : left f b L i k = left f b L (i + 1) 0 := by
 rw [left_start]
 unfold left
 rw [h]
 simp only
 rw [List.drop_eq_nil_of_le hk]
 rfl
theorem left_name (h : L[i]? = some e) (hm : e.names[k]? = some m) : left f b L i k = (if f m ≤ b then [⟨e.id,k,f m⟩] else []) ++ left f b L i (k + 1) := by
 obtain ⟨hk,hme⟩ := List.getElem?_eq_some_iff.1 hm
 unfold left
 rw [h]
 simp only
 rw [List.drop_eq_getElem_cons hk,hme,show hitsN f b e.id k (m :: e.names.drop (k + 1)) = if f m ≤ b then ⟨e.id,k,f m⟩ :: hitsN f b e.id (k + 1) (e.names.drop (k + 1)) else hitsN f b e.id (k + 1) (e.names.drop (k + 1)) from rfl]
 split
 ·rfl
 ·rfl
theorem left_hit {H pre : List Hit} (hH : H = pre ++ left f b L i k) (h : L[i]? = some e) (hm : e.names[k]? = some m) (hc : f m ≤ b) : H[pre.length]? = some ⟨e.id,k,f m⟩ ∧ H = (pre ++ [⟨e.id,k,f m⟩]) ++ left f b L i (k + 1) := by
 rw [left_name h hm,if_pos hc] at hH
 rw [hH]
 constructor
 ·rw [List.getElem?_append_right (Nat.le_refl _),Nat.sub_self]
  rfl
 ·rw [List.append_assoc]
theorem left_over {H pre : List Hit} (hH : H = pre ++ left f b L i k) (h : L[i]? = some e) (hm : e.names[k]? = some m) (hc : ¬ f m ≤ b) : H = pre ++ left f b L i (k + 1) := by
 rw [left_name h hm,if_neg hc] at hH
 exact hH
end Idx
namespace Mt
theorem word_nm {t : Rw.Table} {n : Li.Nm} (hv : Rw.valid t = true) (hn : Li.nmOk n = true) {s : List UInt8} (hs : s ∈ n.words) : ∃ u,wordOf t n.script s = some u := by
 unfold Li.nmOk at hn
 simp only [Bool.and_eq_true,List.all_eq_true] at hn
 obtain ⟨l,hl⟩ := Option.isSome_iff_exists.1 (hn.1.1 s hs)
 have hf := Sc.lets_fold hl
 have hne := (Sc.lets_len hf).1
 have hL : Fo.letters n.script s ≠ [] := by
  unfold Fo.letters
  rw [hl,hf]
  exact hne
 unfold wordOf
 have h0 : (Rw.variants t n.script s).2 = 0 := by
  unfold Rw.variants
  rw [if_neg (by rintro (h | h); exact hL h; rw [hv] at h; cases h)]
 rw [if_pos h0]
 exact ⟨_,rfl⟩
theorem dist_swap {t : Rw.Table} {n m : Li.Nm} (h : As.best (costM t n m) (dropsN t n) (dropsN t m) + t.order < As.ordered (costM t n m) (dropsN t n) (dropsN t m)) : dist t n m = As.best (costM t n m) (dropsN t n) (dropsN t m) + t.order := by
 unfold dist
 omega
theorem dist_keep {t : Rw.Table} {n m : Li.Nm} (h : ¬ As.best (costM t n m) (dropsN t n) (dropsN t m) + t.order < As.ordered (costM t n m) (dropsN t n) (dropsN t m)) : dist t n m = As.ordered (costM t n m) (dropsN t n) (dropsN t m) := by
 unfold dist
 omega
end Mt
