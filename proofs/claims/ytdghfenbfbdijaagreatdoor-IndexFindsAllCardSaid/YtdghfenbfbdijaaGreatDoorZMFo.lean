/-
 Several texts in one: ZFormC, ZFormE, ZFormRun, ZRnPure, ZRnLaws. Conditions: as each law says.
-/
import Derived.Test.YtdghfenbfbdijaaGreatDoorZMAlA
import Derived.Test.YtdghfenbfbdijaaGreatDoorZMPlain
import Derived.Test.YtdghfenbfbdijaaGreatDoorZMBase
import Derived.Sort.KeysCollected
import Derived.Test.YtdghfenbfbdijaaGreatDoorZMLx
namespace Fo
def letters (k : Int) (s : List UInt8) : List (List UInt8) := match Sc.lets k s with | none => [] | some _ => (Sc.lets k (Sc.fold s)).getD []
end Fo
namespace Go.Proofs.YtdghfenbfbdijaaGreatDoor
open Go.RowKit Go.Lib Go.Maps
def LetWP (k : Int) (s : List UInt8) (w : World) (e : Ending) (w' : World) : Prop :=
 ∃ v,e = .returned v ∧ w'.ownsRow w.heap.size 9 1 v (Fo.letters k s).length ((Fo.letters k s).flatMap strC) ∧ Below w.heap.size w w'
set_option maxRecDepth 100000 in
set_option maxHeartbeats 2000000 in
theorem letters_w (k : Int) (s : ByteArray) (w : World) (hs : s.size ≤ 1000000) (hT : Tabs w) : Calls Tryz.prog 146 #[.int .i64 k,.string s] w (LetWP k s.data.toList w) := by
 have HFO := hid (fold_any k s w hs hT)
 have HTT := hid hT
 cases hl : Sc.lets k s.data.toList with
 | none =>
  have HE := hid (show Fo.letters k s.data.toList = [] by unfold Fo.letters; rw [hl])
  have HL := hid hl
  clear hl hT
  go_enter Tryz.func146,Tryz.ntmps146
  go_wp2_with fail
  refine (HFO.out).mono ?_
  rintro e W2 ⟨he,hb2⟩
  rw [HL.out] at he
  subst he
  have HB := hid hb2
  clear hb2
  go_wp2_with fail
  go_ret
  exact ⟨_,rfl,by rw [HE.out]; exact World.ownsRow_nil _ _ _ _,HB.out⟩
 | some ls =>
  have HL := hid hl
  have hfs : (bs (Sc.fold s.data.toList)).size ≤ 1000000 := by rw [bs_len]; unfold Sc.fold; rw [List.length_map]; simpa using hs
  clear hl hT
  go_enter Tryz.func146,Tryz.ntmps146
  go_wp2_with fail
  refine (HFO.out).mono ?_
  rintro e W2 ⟨he,hb2⟩
  rw [HL.out] at he
  subst he
  have HB := hid hb2
  have HLE := hid (letters_any k (bs (Sc.fold s.data.toList)) W2 hfs (HTT.out.below hb2))
  clear hb2
  go_wp2_with fail
  refine (HLE.out).mono ?_
  rintro e W3 h3
  unfold LettersPost at h3
  rw [bs_list] at h3
  cases hl2 : Sc.lets k (Sc.fold s.data.toList) with
  | none =>
   rw [hl2] at h3
   obtain ⟨rfl,hb3⟩ := h3
   have HE := hid (show Fo.letters k s.data.toList = [] by unfold Fo.letters; rw [HL.out,hl2]; rfl)
   have HB3 := hid (Below.step HB.out hb3)
   clear hb3 hl2
   go_wp2_with fail
   go_ret
   exact ⟨_,rfl,by rw [HE.out]; exact World.ownsRow_nil _ _ _ _,HB3.out⟩
  | some l =>
   rw [hl2] at h3
   obtain ⟨lv,rfl,hown,hb3⟩ := h3
   have HE := hid (show Fo.letters k s.data.toList = l by unfold Fo.letters; rw [HL.out,hl2]; rfl)
   have HB3 := hid (Below.step HB.out hb3)
   have HO := hid (ownsRow_base hown HB.out.size)
   clear hb3 hl2 hown
   go_wp2_with fail
   go_ret
   exact ⟨_,rfl,by rw [HE.out,flat_str]; exact HO.out,HB3.out⟩
end Go.Proofs.YtdghfenbfbdijaaGreatDoor
namespace Fo
theorem letters_len (k : Int) (x : List UInt8) : (letters k x).length ≤ 12 := by
 unfold letters
 cases h1 : Sc.lets k x with
 | none => simp
 | some l1 =>
  simp only
  cases h2 : Sc.lets k (Sc.fold x) with
  | none => simp
  | some l => exact (Sc.lets_len h2).2
def lt (a b : List UInt8) : Prop := a < b
theorem lt_irrefl (a : List UInt8) : ¬ lt a a := List.lt_irrefl a
theorem lt_trans (a b c : List UInt8) (h : lt a b) (g : lt b c) : lt a c := List.lt_trans h g
end Fo
namespace Fo
open Al (R fits)
section
variable {L : List (List UInt8)} {rs : List R}
end
end Fo
namespace Rw
structure Vr where
 word : List UInt8
 end_ : Int
 cost : Int
deriving DecidableEq
def endOf (k : Int) (L : List (List UInt8)) (i : Nat) (d : Drop) : Option Vr :=
 if d.script = k ∧ (Fo.letters k d.word).length < L.length ∧ L.drop (L.length - (Fo.letters k d.word).length) = Fo.letters k d.word then some ⟨(L.take (L.length - (Fo.letters k d.word).length)).flatten,i,d.cost⟩ else none
def endsFrom (k : Int) (L : List (List UInt8)) : Nat → List Drop → List Vr
 | _,[] => []
 | i,d :: l => (endOf k L i d).toList ++ endsFrom k L (i + 1) l
theorem endsFrom_append (k : Int) (L : List (List UInt8)) : ∀ (a b : List Drop) (i : Nat),endsFrom k L i (a ++ b) = endsFrom k L i a ++ endsFrom k L (i + a.length) b
 | [],b,i => by simp [endsFrom]
 | d :: a,b,i => by
  simp only [List.cons_append,endsFrom,endsFrom_append k L a b (i + 1),List.append_assoc,List.length_cons]
  rw [show i + 1 + a.length = i + (a.length + 1) by omega]
theorem endsFrom_step (k : Int) (L : List (List UInt8)) {l : List Drop} {n : Nat} {d : Drop} (h : l[n]? = some d) : endsFrom k L 0 (l.take (n + 1)) = endsFrom k L 0 (l.take n) ++ (endOf k L n d).toList := by
 have hk := (List.getElem?_eq_some_iff.1 h).1
 have ht : l.take (n + 1) = l.take n ++ [d] := by rw [List.take_add_one,h]; rfl
 rw [ht,endsFrom_append,List.length_take,Nat.min_eq_left (by omega),Nat.zero_add]
 simp [endsFrom]
theorem endsFrom_len (k : Int) (L : List (List UInt8)) : ∀ (a : List Drop) (i : Nat),(endsFrom k L i a).length ≤ a.length
 | [],_ => Nat.le_refl _
 | d :: a,i => by
  have := endsFrom_len k L a (i + 1)
  simp only [endsFrom,List.length_append,List.length_cons]
  have : (endOf k L i d).toList.length ≤ 1 := by cases endOf k L i d <;> simp
  omega
def variants (t : Table) (k : Int) (s : List UInt8) : List Vr × Int :=
 if Fo.letters k s = [] ∨ valid t = false then ([],1) else (⟨(Fo.letters k s).flatten,-1,0⟩ :: endsFrom k (Fo.letters k s) 0 t.ends,0)
def dropOf (k : Int) (f : List UInt8) (c : Int) : List Drop → Int
 | [] => c
 | d :: l => if d.script = k ∧ d.word = f then d.cost else dropOf k f c l
def dropping (t : Table) (k : Int) (s : List UInt8) : Int × Int :=
 match Sc.lets k s with
 | none => (0,1)
 | some _ => if valid t then (dropOf k (Sc.fold s) t.drop t.drops,0) else (0,1)
theorem dropOf_step {k : Int} {f : List UInt8} {c : Int} {l : List Drop} {n : Nat} {d : Drop} (h : l[n]? = some d) : dropOf k f c (l.drop n) = if d.script = k ∧ d.word = f then d.cost else dropOf k f c (l.drop (n + 1)) := by
 have hk := (List.getElem?_eq_some_iff.1 h).1
 have : l.drop n = d :: l.drop (n + 1) := by
  rw [List.drop_eq_getElem_cons hk]
  congr 1
  rw [List.getElem?_eq_getElem hk] at h
  exact Option.some.inj h
 rw [this]; rfl
/-! ### texts -/
def scrT : Int → List UInt8
 | 1 => [112,108,97,105,110]
 | 2 => [99,97,115,101,100]
 | 3 => [97,98,106,97,100]
 | 4 => [115,121,108,108,97,98]
 | _ => []
def tRule : List UInt8 := [114,117,108,101]
def tTo : List UInt8 := [116,111]
def tCost : List UInt8 := [99,111,115,116]
def tDrop : List UInt8 := [100,114,111,112]
def tEnd : List UInt8 := [101,110,100]
def tCosts : List UInt8 := [99,111,115,116,115]
def quo (s : List UInt8) : List UInt8 := 34 :: s ++ [34]
def spaced : List (List UInt8) → List UInt8
 | [] => []
 | x :: l => x ++ l.flatMap fun y => 32 :: y
def lineOf (l : List (List UInt8)) : List UInt8 := spaced l ++ [59,10]
def ruleWs (r : Rule) : List (List UInt8) := [tRule,scrT r.script,quo r.from_,tTo,quo r.to_,tCost,Lx.dec r.cost.toNat]
def dropWs (w : List UInt8) (d : Drop) : List (List UInt8) := [w,scrT d.script,quo d.word,Lx.dec d.cost.toNat]
def costWs (t : Table) : List (List UInt8) := [tCosts,Lx.dec t.drop.toNat,Lx.dec t.order.toNat,Lx.dec t.initial.toNat]
def ruleT (r : Rule) : List UInt8 := lineOf (ruleWs r)
def dropT (w : List UInt8) (d : Drop) : List UInt8 := lineOf (dropWs w d)
def text (t : Table) : List UInt8 := if valid t then t.rules.flatMap ruleT ++ t.drops.flatMap (dropT tDrop) ++ t.ends.flatMap (dropT tEnd) ++ lineOf (costWs t) else []
/-! ### the example -/
def tab : Table := ⟨[⟨1,[97],[97],0⟩,⟨1,[110],[110],0⟩,⟨1,[116],[116],0⟩,⟨1,[104],[104],0⟩,⟨1,[110,110],[110],1⟩,⟨1,[116,104],[116],2⟩],[⟨1,[97,108],1⟩],[⟨1,[97],3⟩],4,2,1⟩
end Rw
namespace Rw
theorem allOk_iff {α : Type} {ok : α → Bool} {key : α → Int × List UInt8 × List UInt8} : ∀ {l : List α} {seen : List (Int × List UInt8 × List UInt8)},allOk ok key l seen = true ↔ (∀ x ∈ l,ok x = true) ∧ (l.map key).Nodup ∧ ∀ x ∈ l,key x ∉ seen
 | [],seen => by simp [allOk]
 | x :: l,seen => by
  unfold allOk
  rw [Bool.and_eq_true,Bool.and_eq_true,allOk_iff (l := l),List.map_cons,List.nodup_cons]
  simp only [Bool.not_eq_true',List.mem_append,List.mem_cons,not_or]
  constructor
  ·rintro ⟨⟨h1,h2⟩,h3,h4,h5⟩
   refine ⟨fun y hy => ?_,⟨fun hm => ?_,h4⟩,fun y hy => ?_⟩
   ·rcases hy with rfl | hy
    ·exact h2
    ·exact h3 y hy
   ·obtain ⟨y,hy,e⟩ := List.mem_map.1 hm
    exact (h5 y hy).2.1 e
   ·rcases hy with rfl | hy
    ·intro hc; rw [← List.contains_iff_mem,h1] at hc; cases hc
    ·exact (h5 y hy).1
  ·rintro ⟨h1,⟨h2,h3⟩,h4⟩
   refine ⟨⟨?_,h1 x (.inl rfl)⟩,fun y hy => h1 y (.inr hy),h3,fun y hy => ⟨h4 y (.inr hy),fun e => h2 (List.mem_map.2 ⟨y,hy,e⟩),by simp⟩⟩
   rw [Bool.eq_false_iff]
   intro hc
   exact h4 x (.inl rfl) (List.contains_iff_mem.1 hc)
theorem valid_ends {t : Table} (h : valid t = true) : t.ends.length ≤ 40 ∧ ∀ d ∈ t.ends,dropOk 4 d = true := by
 unfold valid dropsOk at h
 simp only [Bool.and_eq_true,decide_eq_true_eq] at h
 exact ⟨h.2.2,(allOk_iff.1 h.2.1).1⟩
end Rw
namespace Al
theorem rulesFrom_from (k : Int) : ∀ (l : List Rw.Rule) (i : Nat),∀ r ∈ rulesFrom k i l,∃ q ∈ l,q.script = k ∧ r.cost = q.cost ∧ r.to_ = q.to_ ∧ Sc.lets k q.from_ = some r.from_
 | [],_,r,h => by simp [rulesFrom] at h
 | x :: l,i,r,h => by
  have go : r ∈ rulesFrom k (i + 1) l → ∃ q ∈ x :: l,q.script = k ∧ r.cost = q.cost ∧ r.to_ = q.to_ ∧ Sc.lets k q.from_ = some r.from_ := fun h => by
   obtain ⟨q,h1,h2⟩ := rulesFrom_from k l (i + 1) r h
   exact ⟨q,List.mem_cons_of_mem _ h1,h2⟩
  unfold rulesFrom at h
  split at h
  ·rename_i hk
   split at h
   ·rename_i f hf
    rcases List.mem_cons.1 h with rfl | h
    ·exact ⟨x,List.mem_cons_self,hk,rfl,rfl,hf⟩
    ·exact go h
   ·exact go h
  ·exact go h
theorem rulesFrom_has (k : Int) {q : Rw.Rule} {f : List (List UInt8)} (hk : q.script = k) (hf : Sc.lets k q.from_ = some f) : ∀ (l : List Rw.Rule) (i : Nat),q ∈ l → ∃ r ∈ rulesFrom k i l,r.cost = q.cost ∧ r.from_ = f ∧ r.to_ = q.to_
 | [],_,h => by cases h
 | x :: l,i,h => by
  unfold rulesFrom
  rcases List.mem_cons.1 h with rfl | h
  ·rw [if_pos hk,hf]
   exact ⟨_,List.mem_cons_self,rfl,rfl,rfl⟩
  ·obtain ⟨r,h1,h2⟩ := rulesFrom_has k hk hf l (i + 1) h
   split
   ·split
    ·exact ⟨r,List.mem_cons_of_mem _ h1,h2⟩
    ·exact ⟨r,h1,h2⟩
   ·exact ⟨r,h1,h2⟩
end Al
namespace Fo
section
variable {t : Rw.Table} {k : Int}
end
end Fo
namespace Fo
open Al (R fits)
theorem Pre.rule {t : Rw.Table} {k : Int} {L : List (List UInt8)} {q : Rw.Rule} {f : List (List UInt8)} {i : Nat} {g : List UInt8} {c : Int} (h : Pre L (Al.rulesFrom k 0 t.rules) i g c) (hq : q ∈ t.rules) (hk : q.script = k) (hf : Sc.lets k q.from_ = some f) (h1 : i + f.length ≤ L.length) (h2 : (L.drop i).take f.length = f) :
  Pre L (Al.rulesFrom k 0 t.rules) (i + f.length) (g ++ q.to_) (c + q.cost) := by
 obtain ⟨r,h3,h4,h5,h6⟩ := Al.rulesFrom_has k hk hf t.rules 0 hq
 have := Pre.snoc h h3 (by unfold Al.fits; rw [h5,decide_eq_true h1,decide_eq_true h2]; rfl)
 rw [h5,h6,h4] at this
 exact this
end Fo
