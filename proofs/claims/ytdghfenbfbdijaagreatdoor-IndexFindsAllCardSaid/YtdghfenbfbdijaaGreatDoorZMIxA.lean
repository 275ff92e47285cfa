/-
 Several texts in one: ZLiMem, ZIxMem, ZIxSort, ZIyT. Conditions: as each law says.
-/
import Derived.Test.YtdghfenbfbdijaaGreatDoorZMBase
import Derived.Test.YtdghfenbfbdijaaGreatDoorZMAlA
import Derived.Test.YtdghfenbfbdijaaGreatDoorZMLx
import Derived.Test.YtdghfenbfbdijaaGreatDoorZMIxp
import Derived.Test.YtdghfenbfbdijaaGreatDoorZMBaseB
import Derived.Test.YtdghfenbfbdijaaGreatDoorZMRew
namespace Go.Proofs.YtdghfenbfbdijaaGreatDoor
open Go.RowKit Go.Maps
def nmC (p : Li.Nm × Value) : List Value := [.int .i64 p.1.script,p.2]
def nmV (p : Li.Nm × Value) : Value := .agg #[.int .i64 p.1.script,p.2]
def NmAt (w : World) (p : Li.Nm × Value) : Prop := SlOf w p.2 1 strC p.1.words
def NmSl (w : World) (v : Value) (l : List Li.Nm) : Prop := ∃ ps : List (Li.Nm × Value),ps.map Prod.fst = l ∧ SlOf w v 2 nmC ps ∧ ∀ p ∈ ps,NmAt w p
def enC (p : Li.En × Value) : List Value := [.string (bs p.1.id),p.2]
def enV (p : Li.En × Value) : Value := .agg #[.string (bs p.1.id),p.2]
def EnSl (w : World) (v : Value) (l : List Li.En) : Prop := ∃ ps : List (Li.En × Value),ps.map Prod.fst = l ∧ SlOf w v 2 enC ps ∧ ∀ p ∈ ps,NmSl w p.2 p.1.names
def lsC (p : Li.Ls × Value) : List Value := [.string (bs p.1.en.id),p.2,.int .i64 p.1.from_,.int .i64 p.1.to_,.bool p.1.void]
def LsSl (w : World) (v : Value) (l : List Li.Ls) : Prop := ∃ ps : List (Li.Ls × Value),ps.map Prod.fst = l ∧ SlOf w v 5 lsC ps ∧ ∀ p ∈ ps,NmSl w p.2 p.1.en.names
section
variable {w w' : World} {v : Value}
theorem NmAt.below {p : Li.Nm × Value} (h : NmAt w p) (hb : Below w.heap.size w w') : NmAt w' p := SlOf.below h hb
theorem NmSl.below {l : List Li.Nm} (h : NmSl w v l) (hb : Below w.heap.size w w') : NmSl w' v l := by
 obtain ⟨ps,h1,h2,h3⟩ := h
 exact ⟨ps,h1,h2.below hb,fun p hp => (h3 p hp).below hb⟩
theorem EnSl.below {l : List Li.En} (h : EnSl w v l) (hb : Below w.heap.size w w') : EnSl w' v l := by
 obtain ⟨ps,h1,h2,h3⟩ := h
 exact ⟨ps,h1,h2.below hb,fun p hp => (h3 p hp).below hb⟩
theorem LsSl.below {l : List Li.Ls} (h : LsSl w v l) (hb : Below w.heap.size w w') : LsSl w' v l := by
 obtain ⟨ps,h1,h2,h3⟩ := h
 exact ⟨ps,h1,h2.below hb,fun p hp => (h3 p hp).below hb⟩
theorem NmSl.nil (w : World) : NmSl w (.slice none 0 0) [] := ⟨[],rfl,SlOf.nil _ _ _,fun p hp => by cases hp⟩
theorem EnSl.nil (w : World) : EnSl w (.slice none 0 0) [] := ⟨[],rfl,SlOf.nil _ _ _,fun p hp => by cases hp⟩
theorem LsSl.nil (w : World) : LsSl w (.slice none 0 0) [] := ⟨[],rfl,SlOf.nil _ _ _,fun p hp => by cases hp⟩
end
end Go.Proofs.YtdghfenbfbdijaaGreatDoor
namespace Idx
def byId {α : Type} (P : List (Li.En × α)) (id : List UInt8) : Option (Li.En × α) := P.find? fun p => decide (p.1.id = id)
theorem byId_none {α : Type} {P : List (Li.En × α)} {id : List UInt8} : byId P id = none ↔ has (P.map Prod.fst) id = false := by
 unfold byId has
 rw [List.find?_eq_none]
 simp [List.any_map]
theorem byId_some {α : Type} {P : List (Li.En × α)} {id : List UInt8} {p : Li.En × α} (h : byId P id = some p) : p ∈ P ∧ p.1.id = id := by
 unfold byId at h
 exact ⟨List.mem_of_find?_eq_some h,by simpa using List.find?_some h⟩
theorem byId_mem {α : Type} {P : List (Li.En × α)} (hn : (P.map fun p => p.1.id).Nodup) {p : Li.En × α} (hp : p ∈ P) : byId P p.1.id = some p := by
 induction P with
 | nil => cases hp
 | cons x P ih =>
  rw [List.map_cons,List.nodup_cons] at hn
  unfold byId
  rw [List.find?_cons]
  rcases List.mem_cons.1 hp with rfl | hp
  ·simp
  ·have hne : ¬ x.1.id = p.1.id := fun e => hn.1 (by rw [e]; exact List.mem_map_of_mem (f := fun p : Li.En × α => p.1.id) hp)
   rw [decide_eq_false hne]
   exact ih hn.2 hp
theorem byId_snoc_same {α : Type} {P : List (Li.En × α)} {p : Li.En × α} (h : has (P.map Prod.fst) p.1.id = false) : byId (P ++ [p]) p.1.id = some p := by
 have h1 := byId_none.2 h
 unfold byId at h1 ⊢
 rw [List.find?_append,h1]
 simp
theorem byId_snoc_other {α : Type} {P : List (Li.En × α)} {p : Li.En × α} {id : List UInt8} (h : ¬ p.1.id = id) : byId (P ++ [p]) id = byId P id := by
 unfold byId
 rw [List.find?_append]
 simp [h]
def strike {α : Type} (P : List (Li.En × α)) (id : List UInt8) : List (Li.En × α) := P.filter fun p => !decide (p.1.id = id)
theorem strike_same {α : Type} {P : List (Li.En × α)} {id : List UInt8} : byId (strike P id) id = none := by
 unfold byId strike
 rw [List.find?_eq_none]
 intro p hp
 have := (List.mem_filter.1 hp).2
 simpa using this
theorem strike_other {α : Type} {P : List (Li.En × α)} {id x : List UInt8} (h : ¬ x = id) : byId (strike P id) x = byId P x := by
 induction P with
 | nil => rfl
 | cons p P ih =>
  unfold strike byId at ih ⊢
  rw [List.filter_cons]
  by_cases hp : p.1.id = id
  ·have hx : ¬ p.1.id = x := fun e => h (by rw [← e,hp])
   rw [decide_eq_true hp]
   simp only [Bool.not_true,Bool.false_eq_true,if_false,List.find?_cons,decide_eq_false hx]
   exact ih
  ·rw [decide_eq_false hp]
   simp only [Bool.not_false,if_true,List.find?_cons]
   split
   ·rfl
   ·exact ih
theorem strike_map {α : Type} (P : List (Li.En × α)) (id : List UInt8) : (strike P id).map Prod.fst = (P.map Prod.fst).filter fun e => !decide (e.id = id) := by
 unfold strike
 rw [List.filter_map]
 rfl
theorem strike_len {α : Type} {P : List (Li.En × α)} (hn : (P.map fun p => p.1.id).Nodup) {p : Li.En × α} (hp : p ∈ P) : (strike P p.1.id).length + 1 = P.length := by
 induction P with
 | nil => cases hp
 | cons x P ih =>
  rw [List.map_cons,List.nodup_cons] at hn
  unfold strike
  rw [List.filter_cons]
  rcases List.mem_cons.1 hp with rfl | hp
  ·simp only [decide_true,Bool.not_true,Bool.false_eq_true,if_false,List.length_cons]
   rw [List.filter_eq_self.2]
   intro q hq
   have hne : ¬ q.1.id = p.1.id := fun e => hn.1 (by rw [← e]; exact List.mem_map_of_mem (f := fun p : Li.En × α => p.1.id) hq)
   simp [hne]
  ·have hne : ¬ x.1.id = p.1.id := fun e => hn.1 (by rw [e]; exact List.mem_map_of_mem (f := fun p : Li.En × α => p.1.id) hp)
   have := ih hn.2 hp
   unfold strike at this
   simp only [hne,decide_false,Bool.not_false,if_true,List.length_cons]
   omega
end Idx
namespace Sc
theorem lets_kind {k : Int} {s : List UInt8} {l : List (List UInt8)} (h : lets k s = some l) : 0 ≤ k ∧ k ≤ 10 := by
 apply Classical.byContradiction
 intro hk
 have h0 : len k s = 0 := by
  unfold len
  rw [if_neg (by omega),if_neg (by omega),if_neg (by omega),if_neg (by omega)]
 unfold lets at h
 rw [cuts_stop h0] at h
 simp at h
end Sc
namespace Go.Proofs.YtdghfenbfbdijaaGreatDoor
open Go.RowKit Go.Maps
structure NmsQ (Q : Nat → Prop) (w : World) (v : Value) (ns : List Li.Nm) : Prop where
 ex : ∃ l : List (Li.Nm × Value),l.map Prod.fst = ns ∧ SlIn w v Q 2 nmC l ∧ ∀ p ∈ l,SlIn w p.2 Q 1 strC p.1.words
section
variable {Q Q' : Nat → Prop} {w w' : World} {v : Value} {ns : List Li.Nm}
theorem NmsQ.below (h : NmsQ Q w v ns) (hb : Below w.heap.size w w') : NmsQ Q w' v ns := by
 obtain ⟨l,h1,h2,h3⟩ := h
 exact ⟨l,h1,h2.below hb,fun p hp => (h3 p hp).below hb⟩
theorem NmsQ.but {m : Nat} (h : NmsQ Q w v ns) (hb : But w.heap.size m w w') {om : Obj} (hm : w.heap[m]? = some om) (hmc : om.isCells = false) : NmsQ Q w' v ns := by
 obtain ⟨l,h1,h2,h3⟩ := h
 exact ⟨l,h1,h2.but hb hm hmc,fun p hp => (h3 p hp).but hb hm hmc⟩
theorem NmsQ.tch {O : Nat → Prop} (h : NmsQ Q w v ns) (ht : Tch O w w') (ho : ∀ k,Q k → ¬ O k) : NmsQ Q w' v ns := by
 obtain ⟨l,h1,h2,h3⟩ := h
 exact ⟨l,h1,h2.tch ht ho,fun p hp => (h3 p hp).tch ht ho⟩
theorem NmsQ.mono (h : NmsQ Q w v ns) (hq : ∀ k,Q k → k < w.heap.size → Q' k) : NmsQ Q' w v ns := by
 obtain ⟨l,h1,h2,h3⟩ := h
 exact ⟨l,h1,h2.mono hq,fun p hp => (h3 p hp).mono hq⟩
theorem NmsQ.sl (h : NmsQ Q w v ns) : NmSl w v ns := by
 obtain ⟨l,h1,h2,h3⟩ := h
 exact ⟨l,h1,h2.slOf,fun p hp => (h3 p hp).slOf⟩
theorem NmsQ.slice (h : NmsQ Q w v ns) : ∃ a c,v = .slice a ns.length c := by
 obtain ⟨l,h1,h2,-⟩ := h
 obtain ⟨a,c,e⟩ := h2.slice
 exact ⟨a,c,by rw [e,← h1,List.length_map]⟩
theorem NmSl.q (h : NmSl w v ns) : NmsQ (fun k => k < w.heap.size) w v ns := by
 obtain ⟨l,h1,h2,h3⟩ := h
 exact ⟨l,h1,h2.slIn,fun p hp => (h3 p hp).slIn⟩
end
def pairV (a : Int) (x : List UInt8) (b : Int) (y : List UInt8) : Value := .agg #[.int .i64 a,.string (bs x),.int .i64 b,.string (bs y)]
theorem pairV_inj {a b a' b' : Int} {x y x' y' : List UInt8} (h : pairV a x b y = pairV a' x' b' y') : a = a' ∧ x = x' ∧ b = b' ∧ y = y' := by
 simp [pairV,bs] at h
 exact h
theorem pair_keyed : Keyed Tryz.prog 181 :=
 Keyed.of_law (deep_law_laid laid_out (m := 9) (by decide) (of_decide_eq_true (by kernel_rfl)) (by kernel_rfl) (by kernel_rfl))
theorem wf_int {n : Int} (h0 : 0 ≤ n) (h : n ≤ 1000000) : (Lit.int .i64 n).wf = true := by
 obtain ⟨k,rfl⟩ := Int.eq_ofNat_of_zero_le h0
 exact wf_small k (by omega)
theorem pair_some {a b : Int} {x y : List UInt8} (ha : 0 ≤ a ∧ a ≤ 10) (hb : 0 ≤ b ∧ b ≤ 10) (hx : x.length ≤ 1000000) (hy : y.length ≤ 1000000) : ∃ kl,keyOf Tryz.prog 181 (pairV a x b y) = some kl := by
 have hd : ∃ d,Tryz.prog.types.size + 1 = d + 3 := ⟨Tryz.prog.types.size - 2,by have : 2 ≤ Tryz.prog.types.size := of_decide_eq_true (by kernel_rfl); omega⟩
 obtain ⟨d,hd⟩ := hd
 have hk : Tryz.prog.keyType 181 = true := by kernel_rfl
 have hc : Tryz.prog.cellsOf 181 = 4 := by kernel_rfl
 have hc2 : Tryz.prog.cellsOf 138 = 2 := by kernel_rfl
 have hc3 : Tryz.prog.cellsOf 3 = 1 := by kernel_rfl
 have hc9 : Tryz.prog.cellsOf 9 = 1 := by kernel_rfl
 have w1 : (Lit.int .i64 a).wf = true := wf_int ha.1 (by omega)
 have w2 : (Lit.int .i64 b).wf = true := wf_int hb.1 (by omega)
 have w3 : (bs x).size ≤ maxLen := by rw [bs_len]; unfold maxLen; omega
 have w4 : (bs y).size ≤ maxLen := by rw [bs_len]; unfold maxLen; omega
 unfold keyOf pairV
 rw [Tryz.underlying181]
 simp only [hk,Value.formed,Tryz.underlying181,hc,Value.cells]
 rw [hd]
 simp [Program.keyLits,Tryz.underlying181,Tryz.underlying138,hc,hc2,hc3,hc9,Tryz.underlying3,Tryz.underlying9,w1,w2,w3,w4]
 rw [if_pos (by decide),if_pos (by decide)]
 exact ⟨_,rfl⟩
def CostsOk (t : Rw.Table) (F : Value → Option Value) : Prop := ∀ a x b y c,F (pairV a x b y) = some c → c = .int .i64 (Mt.pairCost t a x b y)
def entF (P : List (Li.En × Value)) : Value → Option Value
 | .string s => (Idx.byId P s.data.toList).map enV
 | _ => none
theorem entF_bs (P : List (Li.En × Value)) (id : List UInt8) : entF P (.string (bs id)) = (Idx.byId P id).map enV := rfl
theorem entF_put {P : List (Li.En × Value)} {p : Li.En × Value} (h : Idx.has (P.map Prod.fst) p.1.id = false) : entF P (.string (bs p.1.id)) = none ∧ entF (P ++ [p]) (.string (bs p.1.id)) = some (enV p) ∧ ∀ y,y ≠ .string (bs p.1.id) → entF (P ++ [p]) y = entF P y := by
 refine ⟨by rw [entF_bs,Idx.byId_none.2 h]; rfl,by rw [entF_bs,Idx.byId_snoc_same h]; rfl,fun y hy => ?_⟩
 unfold entF
 split
 ·rename_i s
  rw [Idx.byId_snoc_other]
  intro e
  apply hy
  rw [e]
  rfl
 ·rfl
theorem entF_strike {P : List (Li.En × Value)} {id : List UInt8} : entF (Idx.strike P id) (.string (bs id)) = none ∧ ∀ y,y ≠ .string (bs id) → entF (Idx.strike P id) y = entF P y := by
 refine ⟨by rw [entF_bs,Idx.strike_same]; rfl,fun y hy => ?_⟩
 unfold entF
 split
 ·rename_i s
  rw [Idx.strike_other]
  intro e
  apply hy
  rw [← e]
  rfl
 ·rfl
structure IxAt (W : World) (px eb cb : Nat) (t : Rw.Table) (tc : List Value) (b : Int) (Q : Nat → Prop) (P : List (Li.En × Value)) (nc : Nat) : Prop where
 box : Blk W px 78 (tc ++ [.int .i64 b,.map (some eb),.map (some cb)])
 ents : MapC W Tryz.prog 9 eb P.length (entF P)
 names : ∀ p ∈ P,NmsQ Q W p.2 p.1.names
 costs : ∃ F,MapF W Tryz.prog 181 cb nc F ∧ CostsOk t F
 ne : eb ≠ cb
 ok : Idx.Ok (P.map Prod.fst)
theorem MapC.no_cells {W : World} {P : Program} {k : TypeId} {b n : Nat} {f : Value → Option Value} (h : MapC W P k b n f) : ∃ o : Obj,W.heap[b]? = some o ∧ o.isCells = false := by
 obtain ⟨D,⟨es,clock,hb,_⟩,_⟩ := h
 exact ⟨_,hb,rfl⟩
section
variable {W W' : World} {px eb cb : Nat} {t : Rw.Table} {tc : List Value} {b : Int} {Q : Nat → Prop} {P P' : List (Li.En × Value)} {nc nc' : Nat}
theorem IxAt.below (h : IxAt W px eb cb t tc b Q P nc) (hb : Below W.heap.size W W') : IxAt W' px eb cb t tc b Q P nc := by
 obtain ⟨F,h1,h2⟩ := h.costs
 exact ⟨h.box.below hb,h.ents.below hb,fun p hp => (h.names p hp).below hb,⟨F,h1.below hb,h2⟩,h.ne,h.ok⟩
theorem IxAt.ents_new (h : IxAt W px eb cb t tc b Q P nc) (hb : But W.heap.size eb W W') (he : MapC W' Tryz.prog 9 eb P'.length (entF P')) (hn : ∀ p ∈ P',NmsQ Q W' p.2 p.1.names) (hok : Idx.Ok (P'.map Prod.fst)) : IxAt W' px eb cb t tc b Q P' nc := by
 obtain ⟨F,h1,h2⟩ := h.costs
 obtain ⟨oe,e1,e2⟩ := h.ents.no_cells
 refine ⟨hb.cells e1 e2 h.box rfl,he,hn,⟨F,?_,h2⟩,h.ne,hok⟩
 have hlt := h1.lt
 obtain ⟨D,⟨es,clock,hbk,hr⟩,hD⟩ := h1
 exact ⟨D,⟨es,clock,(hb.block cb hlt (fun e => h.ne e.symm)).trans hbk,hr⟩,hD⟩
theorem IxAt.costs_new (h : IxAt W px eb cb t tc b Q P nc) (hb : But W.heap.size cb W W') {F : Value → Option Value} (hm : MapF W' Tryz.prog 181 cb nc' F) (hF : CostsOk t F) : IxAt W' px eb cb t tc b Q P nc' := by
 obtain ⟨G,g1,-⟩ := h.costs
 obtain ⟨oc,e1,e2⟩ := g1.no_cells
 refine ⟨hb.cells e1 e2 h.box rfl,?_,fun p hp => (h.names p hp).but hb e1 e2,⟨F,hm,hF⟩,h.ne,h.ok⟩
 have hlt := h.ents.lt
 obtain ⟨D,⟨es,clock,hbk,hr⟩,hD⟩ := h.ents
 exact ⟨D,⟨es,clock,(hb.block eb hlt h.ne).trans hbk,hr⟩,hD⟩
end
end Go.Proofs.YtdghfenbfbdijaaGreatDoor
namespace Sc
theorem cuts_two16 (k : Int) : ∀ (n : Nat) (s : List UInt8),s.length ≤ n → ∀ x ∈ (cuts k s).1,x.length ≤ 2
 | 0,s,h,x,hx => by
  have : s = [] := List.length_eq_zero_iff.1 (by omega)
  subst this
  rw [cuts_stop (by have := len_le k []; simpa using this)] at hx
  cases hx
 | n + 1,s,h,x,hx => by
  by_cases h0 : len k s = 0
  ·rw [cuts_stop h0] at hx; cases hx
  ·rw [cuts_step h0] at hx
   rcases List.mem_cons.1 hx with rfl | hx
   ·have := len_two k s
    rw [List.length_take]
    omega
   ·exact cuts_two16 k n _ (by rw [List.length_drop]; omega) x hx
theorem flat_two16 : ∀ l : List (List UInt8),(∀ x ∈ l,x.length ≤ 2) → l.flatten.length ≤ 2 * l.length
 | [],_ => by simp
 | x :: l,h => by
  have h1 := h x List.mem_cons_self
  have h2 := flat_two16 l fun y hy => h y (List.mem_cons_of_mem _ hy)
  rw [List.flatten_cons,List.length_append,List.length_cons]
  omega
theorem lets_le24 {k : Int} {s : List UInt8} {l : List (List UInt8)} (h : lets k s = some l) : s.length ≤ 24 := by
 have h1 := lets_join h
 have h2 := (lets_len h).2
 have h3 : ∀ x ∈ l,x.length ≤ 2 := by
  unfold lets at h
  split at h
  ·cases h; exact cuts_two16 k _ s (Nat.le_refl _)
  ·cases h
 have h4 := flat_two16 l h3
 rw [h1] at h4
 omega
end Sc
namespace Li
theorem nm_few {n : Nm} (h : nmOk n = true) : 0 < n.words.length ∧ n.words.length ≤ 6 ∧ (0 ≤ n.script ∧ n.script ≤ 10) ∧ ∀ s ∈ n.words,s.length ≤ 1000000 := by
 unfold nmOk at h
 simp only [Bool.and_eq_true,decide_eq_true_eq,List.all_eq_true] at h
 obtain ⟨⟨h1,h2⟩,h3⟩ := h
 have key : ∀ s ∈ n.words,(0 ≤ n.script ∧ n.script ≤ 10) ∧ s.length ≤ 1000000 := fun s hs => by
  obtain ⟨l,hl⟩ := Option.isSome_iff_exists.1 (h1 s hs)
  exact ⟨Sc.lets_kind hl,by have := Sc.lets_le24 hl; omega⟩
 refine ⟨h2,h3,?_,fun s hs => (key s hs).2⟩
 cases hw : n.words with
 | nil => rw [hw] at h2; simp at h2
 | cons s l => exact (key s (by rw [hw]; exact List.mem_cons_self)).1
theorem proper_few {e : En} (h : proper e = true) : e.names.length ≤ 8 ∧ ∀ n ∈ e.names,nmOk n = true := by
 unfold proper at h
 simp only [Bool.and_eq_true,decide_eq_true_eq,List.all_eq_true] at h
 exact ⟨h.1.2,h.2⟩
end Li
namespace Idx
variable {α : Type} {P : List (Li.En × α)}
def sortE (P : List (Li.En × α)) : List (Li.En × α) := P.mergeSort fun p q => decide (p.1.id ≤ q.1.id)
theorem sortE_perm (P : List (Li.En × α)) : (sortE P).Perm P := List.mergeSort_perm P _
theorem sortE_mem {p : Li.En × α} : p ∈ sortE P ↔ p ∈ P := (sortE_perm P).mem_iff
theorem sortE_len : (sortE P).length = P.length := (sortE_perm P).length_eq
theorem lt_of_le_ne {a b : List UInt8} (h : a ≤ b) (hn : a ≠ b) : a < b := by
 apply Classical.byContradiction
 intro hc
 exact hn (List.le_antisymm h (List.not_lt.1 hc))
theorem strict {l : List (List UInt8)} (h : l.Pairwise fun a b => a ≤ b) (hn : l.Nodup) : l.Pairwise (· < ·) :=
 (h.and hn).imp fun hab => lt_of_le_ne hab.1 hab.2
theorem sortE_ord (hn : (P.map fun p => p.1.id).Nodup) : ((sortE P).map fun p => p.1.id).Pairwise (· < ·) := by
 refine strict ?_ (((sortE_perm P).map _).nodup_iff.2 hn)
 rw [List.pairwise_map]
 refine (List.pairwise_mergeSort (le := fun p q : Li.En × α => decide (p.1.id ≤ q.1.id)) (fun a b c h1 h2 => ?_) (fun a b => ?_) P).imp (fun h => by simpa using h)
 ·simp only [decide_eq_true_eq] at h1 h2 ⊢
  exact List.le_trans h1 h2
 ·simp only [Bool.or_eq_true,decide_eq_true_eq]
  exact List.le_total _ _
theorem sortE_srt (hn : (P.map fun p => p.1.id).Nodup) : Srt (P.map Prod.fst) ((sortE P).map Prod.fst) := by
 refine ⟨?_,fun e => ?_⟩
 ·have := sortE_ord hn
  rw [List.pairwise_map] at this ⊢
  exact this
 ·rw [List.mem_map,List.mem_map]
  constructor
  ·rintro ⟨p,hp,e⟩; exact ⟨p,sortE_mem.1 hp,e⟩
  ·rintro ⟨p,hp,e⟩; exact ⟨p,sortE_mem.2 hp,e⟩
theorem sortE_ids (hn : (P.map fun p => p.1.id).Nodup) {ss : List (List UInt8)} (h1 : ss.Nodup) (h2 : ∀ x,x ∈ ss ↔ ∃ p ∈ P,p.1.id = x) : ss.mergeSort (fun x y => decide (x ≤ y)) = (sortE P).map fun p => p.1.id := by
 refine sorted_eq (R := fun a b : List UInt8 => a < b) (fun a b h1 h2 => List.lt_irrefl a (List.lt_trans h1 h2)) (strict ?_ ((List.mergeSort_perm ss _).nodup_iff.2 h1)) (sortE_ord hn) (fun x => ?_)
 ·refine (List.pairwise_mergeSort (le := fun x y : List UInt8 => decide (x ≤ y)) (fun a b c h1 h2 => ?_) (fun a b => ?_) ss).imp (fun h => by simpa using h)
  ·simp only [decide_eq_true_eq] at h1 h2 ⊢
   exact List.le_trans h1 h2
  ·simp only [Bool.or_eq_true,decide_eq_true_eq]
   exact List.le_total _ _
 ·rw [List.mem_mergeSort,h2,List.mem_map]
  constructor
  ·rintro ⟨p,hp,e⟩; exact ⟨p,sortE_mem.2 hp,e⟩
  ·rintro ⟨p,hp,e⟩; exact ⟨p,sortE_mem.1 hp,e⟩
theorem hitsN_snoc (f : Li.Nm → Int) (b : Int) (id : List UInt8) (a : Li.Nm) : ∀ (l : List Li.Nm) (k : Nat),hitsN f b id k (l ++ [a]) = hitsN f b id k l ++ if f a ≤ b then [⟨id,k + l.length,f a⟩] else []
 | [],k => by
  simp only [List.nil_append,hitsN,List.length_nil,Nat.add_zero]
 | x :: l,k => by
  simp only [List.cons_append,hitsN]
  rw [hitsN_snoc f b id a l (k + 1),List.length_cons,show k + 1 + l.length = k + (l.length + 1) by omega]
  split <;> simp
theorem hits_snoc (f : Li.Nm → Int) (b : Int) (L : List Li.En) (e : Li.En) : hits f b (L ++ [e]) = hits f b L ++ hitsE f b e := by
 unfold hits
 rw [List.flatMap_append]
 simp
theorem hitsN_len (f : Li.Nm → Int) (b : Int) (id : List UInt8) : ∀ (l : List Li.Nm) (k : Nat),(hitsN f b id k l).length ≤ l.length
 | [],_ => Nat.le_refl _
 | x :: l,k => by
  have := hitsN_len f b id l (k + 1)
  unfold hitsN
  split <;> simp only [List.length_cons] <;> omega
theorem hits_len (f : Li.Nm → Int) (b : Int) {m : Nat} : ∀ (L : List Li.En),(∀ e ∈ L,e.names.length ≤ m) → (hits f b L).length ≤ m * L.length
 | [],_ => Nat.zero_le _
 | e :: L,h => by
  have h1 := hits_len f b L fun x hx => h x (List.mem_cons_of_mem _ hx)
  have h2 := hitsN_len f b e.id e.names 0
  have h3 := h e List.mem_cons_self
  unfold hits at h1 ⊢
  rw [List.flatMap_cons,List.length_append,List.length_cons,Nat.mul_add]
  unfold hitsE
  unfold hitsE at h1
  omega
end Idx
namespace Idx
def tab16 : Rw.Table := { rules := [⟨1,[97],[97],0⟩,⟨1,[110],[110],0⟩,⟨1,[107],[107],0⟩,⟨1,[105],[105],0⟩],drops := [⟨1,[97,108],0⟩],ends := [⟨1,[107,105],2⟩],drop := 5,order := 1,initial := 3 }
def nA : Li.Nm := ⟨1,[[97,110,110,97]]⟩
def nB : Li.Nm := ⟨1,[[97,108],[97,110,110,97,107,105]]⟩
def nC : Li.Nm := ⟨1,[[97,110,110,97],[107,97,105]]⟩
def nD : Li.Nm := ⟨1,[[107,97,105],[97,110,110,97]]⟩
def nE : Li.Nm := ⟨1,[[107,97,110,97]]⟩
def e2 : Li.En := ⟨[101,50],[nA,nB]⟩
def e1 : Li.En := ⟨[101,49],[nC]⟩
set_option maxRecDepth 100000 in
theorem head_pure : Rw.valid tab16 = true ∧ put [] e2 = ([e2],0) ∧ put [e2] e1 = ([e2,e1],0) ∧ (Li.nmOk nA && Li.nmOk nD && Li.nmOk nE) = true := by decide +kernel
set_option maxRecDepth 100000 in
theorem hits_a : hits (Mt.dist tab16 nA) 3 [e1,e2] = [⟨[101,50],0,0⟩,⟨[101,50],1,2⟩] := by decide +kernel
set_option maxRecDepth 100000 in
theorem hits_b : hits (Mt.dist tab16 nD) 3 [e1,e2] = [⟨[101,49],0,1⟩] := by decide +kernel
set_option maxRecDepth 100000 in
theorem hits_c : hits (Mt.dist tab16 nE) 3 [e1,e2] = [] := by decide +kernel
end Idx
