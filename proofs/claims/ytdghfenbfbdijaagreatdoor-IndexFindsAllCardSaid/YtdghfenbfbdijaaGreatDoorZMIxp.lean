/-
 Several texts in one: ZAsPure, ZMtPure, ZMtLaws, ZIxPure, ZAsLaws, ZCols. Conditions: as each law says.
-/
import Derived.Test.YtdghfenbfbdijaaGreatDoorZMFo
import Derived.Test.YtdghfenbfbdijaaGreatDoorZMPlain
import Derived.Test.YtdghfenbfbdijaaGreatDoorZMAlA
import Derived.Test.YtdghfenbfbdijaaGreatDoorZMAlB
import Derived.Test.YtdghfenbfbdijaaGreatDoorZMLx
namespace As
def within (l : List Int) (lo hi : Int) : Bool := l.all fun n => decide (lo ≤ n) && decide (n ≤ hi)
def valid (c : List (List Int)) (d e : List Int) : Bool :=
 decide (c.length = d.length) && decide (d.length ≤ 6) && decide (e.length ≤ 6) && within d 0 10000 && within e 0 10000 && c.all fun row => decide (row.length = e.length) && within row 0 100000
def at_ (l : List Int) (k : Nat) : Int := l[k]?.getD 0
def lastTo (e : List Int) (set : Nat) : Nat → Int
 | 0 => 0
 | k + 1 => if set.testBit k then lastTo e set k else lastTo e set k + at_ e k
def bestTo (row : List Int) (nx : Nat → Int) (x : Int) (set : Nat) : Nat → Int
 | 0 => x + nx set
 | k + 1 => if set.testBit k then bestTo row nx x set k else min (bestTo row nx x set k) (at_ row k + nx (set ||| 2 ^ k))
def T (e : List Int) : List (List Int) → List Int → Nat → Int
 | row :: c,x :: d,set => bestTo row (T e c d) x set row.length
 | _,_,set => lastTo e set e.length
def best (c : List (List Int)) (d e : List Int) : Int := if valid c d e then T e c d 0 else 0
def endR : List Int → Int
 | [] => 0
 | y :: e => y + endR e
def lineR (nx : Nat → Int) (x : Int) : Nat → List Int → List Int → Int
 | j,r :: row,y :: e => min (min (x + nx j) (y + lineR nx x (j + 1) row e)) (r + nx (j + 1))
 | j,_,_ => x + nx j
def G (e : List Int) : List (List Int) → List Int → Nat → Int
 | row :: c,x :: d,j => lineR (G e c d) x j (row.drop j) (e.drop j)
 | _,_,j => endR (e.drop j)
def ordered (c : List (List Int)) (d e : List Int) : Int := if valid c d e then G e c d 0 else 0
theorem within_mem {l : List Int} {lo hi x : Int} (h : within l lo hi = true) (hx : x ∈ l) : lo ≤ x ∧ x ≤ hi := by
 unfold within at h
 rw [List.all_eq_true] at h
 have := h x hx
 rw [Bool.and_eq_true,decide_eq_true_eq,decide_eq_true_eq] at this
 exact this
theorem at_within {l : List Int} {hi : Int} {k : Nat} (h : within l 0 hi = true) (h0 : 0 ≤ hi) : 0 ≤ at_ l k ∧ at_ l k ≤ hi := by
 unfold at_
 cases hk : l[k]? with
 | none => exact ⟨Int.le_refl _,h0⟩
 | some x => exact within_mem h (List.mem_of_getElem? hk)
theorem lastTo_bounds {e : List Int} {set : Nat} (h : within e 0 10000 = true) : ∀ k : Nat,0 ≤ lastTo e set k ∧ lastTo e set k ≤ 10000 * k
 | 0 => by unfold lastTo; omega
 | k + 1 => by
  have ih := lastTo_bounds (set := set) h k
  have := at_within (k := k) h (by omega)
  unfold lastTo
  split <;> omega
theorem bestTo_bounds {row : List Int} {nx : Nat → Int} {x B : Int} {set : Nat} (hr : within row 0 100000 = true) (hn : ∀ s,0 ≤ nx s ∧ nx s ≤ B) (hx : 0 ≤ x ∧ x ≤ 10000) : ∀ k : Nat,0 ≤ bestTo row nx x set k ∧ bestTo row nx x set k ≤ B + 10000
 | 0 => by unfold bestTo; have := hn set; omega
 | k + 1 => by
  have ih := bestTo_bounds (set := set) hr hn hx k
  have := at_within (k := k) hr (by omega)
  have := hn (set ||| 2 ^ k)
  unfold bestTo
  split <;> omega
theorem T_bounds {e : List Int} (he : within e 0 10000 = true) : ∀ (c : List (List Int)) (d : List Int) (set : Nat),(∀ row ∈ c,within row 0 100000 = true) → within d 0 10000 = true →
  0 ≤ T e c d set ∧ T e c d set ≤ 10000 * e.length + 10000 * d.length
 | [],d,set,_,_ => by
  have := lastTo_bounds (set := set) he e.length
  unfold T; omega
 | row :: c,[],set,_,_ => by
  have := lastTo_bounds (set := set) he e.length
  unfold T; omega
 | row :: c,x :: d,set,hc,hd => by
  have hx := within_mem hd List.mem_cons_self
  have hd' : within d 0 10000 = true := by
   unfold within at hd ⊢
   rw [List.all_cons,Bool.and_eq_true] at hd
   exact hd.2
  have ih := fun s => T_bounds he c d s (fun r hr => hc r (List.mem_cons_of_mem _ hr)) hd'
  have := bestTo_bounds (set := set) (hc row List.mem_cons_self) ih hx row.length
  unfold T
  rw [List.length_cons]
  omega
theorem endR_bounds : ∀ {e : List Int},within e 0 10000 = true → 0 ≤ endR e ∧ endR e ≤ 10000 * e.length
 | [],_ => by unfold endR; simp
 | y :: e,h => by
  have hx := within_mem h List.mem_cons_self
  have h' : within e 0 10000 = true := by
   unfold within at h ⊢
   rw [List.all_cons,Bool.and_eq_true] at h
   exact h.2
  have := endR_bounds h'
  unfold endR
  rw [List.length_cons]
  omega
end As
namespace Mt
structure W where
 script : Int
 vars : List Rw.Vr
 letters : List (List UInt8)
def wordOf (t : Rw.Table) (k : Int) (s : List UInt8) : Option W :=
 if (Rw.variants t k s).2 = 0 then some ⟨k,(Rw.variants t k s).1,Fo.letters k s⟩ else none
structure Way where
 kind : Int
 left : Int
 right : Int
 cost : Int
 x : List UInt8
 y : List UInt8
def initialW (t : Rw.Table) (k : Int) (x y : W) : Way := ⟨k,-1,-1,t.initial,x.letters.headD [],y.letters.headD []⟩
def waysV (x y : W) : List Way := x.vars.flatMap fun u => y.vars.map fun v => ⟨1,u.end_,v.end_,u.cost + v.cost,u.word,v.word⟩
def ways (t : Rw.Table) (x y : W) : List Way :=
 waysV x y ++ (if x.letters.length = 1 then [initialW t 2 x y] else []) ++ (if y.letters.length = 1 then [initialW t 3 x y] else [])
structure P where
 way : Way
 by_ : Al.D
def P.cost (p : P) : Int := p.way.cost + p.by_.cost
def step (al : Int → List UInt8 → Int → List UInt8 → Al.D × Int) (a b : Int) (best : Option P) (w : Way) : Option P :=
 if (al a w.x b w.y).2 = 0 then
  match best with
  | none => some ⟨w,(al a w.x b w.y).1⟩
  | some p => if w.cost + (al a w.x b w.y).1.cost < p.cost then some ⟨w,(al a w.x b w.y).1⟩ else some p
 else best
def cheapest (al : Int → List UInt8 → Int → List UInt8 → Al.D × Int) (t : Rw.Table) (x y : W) : Option P := (ways t x y).foldl (step al x.script y.script) none
end Mt
namespace Al
open Go.Proofs.YtdghfenbfbdijaaGreatDoor Go.Proofs.YtdghfenbfbdijaaGreatDoor.Al
theorem cost_small {w : Ws} (hw : w.Good) : ∀ (n : Nat) (s : St),meas w s ≤ n → Within w s → cost w s < endless → cost w s ≤ 1000 * meas w s := by
 intro n
 induction n with
 | zero =>
  intro s hn hs hc
  rcases least_is (w := w) (moves w s) (start w s) with h | ⟨⟨r,s'⟩,hp,h⟩
  ·rw [← cost_eq hw hs] at h
   unfold start at h
   split at h
   ·omega
   ·unfold endless at h hc; omega
  ·obtain ⟨_,b,_⟩ := move_step hw hp hs; omega
 | succ n ih =>
  intro s hn hs hc
  rcases least_is (w := w) (moves w s) (start w s) with h | ⟨⟨r,s'⟩,hp,h⟩
  ·rw [← cost_eq hw hs] at h
   unfold start at h
   split at h
   ·omega
   ·unfold endless at h hc; omega
  ·rw [← cost_eq hw hs] at h
   obtain ⟨a,b,_⟩ := move_step hw hp hs
   have hr := (hw.one s).cost r (mem_moves.1 hp).1
   simp only at h
   have := ih s' (by omega) a (by unfold endless at hc ⊢; omega)
   omega
theorem bestOf_small (t : Rw.Table) (a : Int) (x : List UInt8) (b : Int) (y : List UInt8) : 0 ≤ (bestOf t a x b y).1.cost ∧ (bestOf t a x b y).1.cost ≤ 24000 := by
 unfold bestOf
 cases ho : openB t a x b y with
 | false => simp
 | true =>
  rw [if_pos rfl]
  unfold openB at ho
  simp only [Bool.and_eq_true] at ho
  obtain ⟨⟨u,v⟩,z⟩ := ho
  obtain ⟨S1,e1⟩ := Option.isSome_iff_exists.1 u
  obtain ⟨S2,e2⟩ := Option.isSome_iff_exists.1 v
  rw [e1,e2]
  simp only
  have hf := few_valid z e1 e2
  have h1 := hf.small.left
  have h2 := hf.small.right
  unfold best
  split
  ·simp
  ·rename_i hc
   have h3 := cost_nonneg hf.good _ zero (Nat.le_refl _) within_zero
   have h4 := cost_small hf.good _ zero (Nat.le_refl _) within_zero (by omega)
   have h5 : meas ⟨S1,S2⟩ zero ≤ 24 := by unfold meas; simp only at h1 h2 ⊢; omega
   simp only
   omega
end Al
namespace Mt
open Go.Proofs.YtdghfenbfbdijaaGreatDoor Go.Proofs.YtdghfenbfbdijaaGreatDoor.Al
def al (t : Rw.Table) (a : Int) (x : List UInt8) (b : Int) (y : List UInt8) : Al.D × Int := Al.bestOf t a x b y
def pairCost (t : Rw.Table) (a : Int) (x : List UInt8) (b : Int) (y : List UInt8) : Int :=
 match wordOf t a x,wordOf t b y with
 | some u,some v => match cheapest (al t) t u v with | some p => p.cost | none => 100000
 | _,_ => 100000
def costM (t : Rw.Table) (n m : Li.Nm) : List (List Int) := n.words.map fun s => m.words.map fun u => pairCost t n.script s m.script u
def dropsN (t : Rw.Table) (n : Li.Nm) : List Int := n.words.map fun s => (Rw.dropping t n.script s).1
def dist (t : Rw.Table) (n m : Li.Nm) : Int := min (As.ordered (costM t n m) (dropsN t n) (dropsN t m)) (As.best (costM t n m) (dropsN t n) (dropsN t m) + t.order)
def WayOk (w : Way) : Prop := 0 ≤ w.cost ∧ w.cost ≤ 2000
theorem ends_ok {t : Rw.Table} (hv : Rw.valid t = true) {k : Int} {L : List (List UInt8)} : ∀ (l : List Rw.Drop) (i : Nat),(∀ d ∈ l,d ∈ t.ends) → ∀ v ∈ Rw.endsFrom k L i l,0 ≤ v.cost ∧ v.cost ≤ 1000
 | [],_,_,v,hv' => absurd hv' List.not_mem_nil
 | d :: l,i,hl,v,h => by
  unfold Rw.endsFrom at h
  rcases List.mem_append.1 h with h1 | h1
  ·have hd := (Rw.valid_ends hv).2 d (hl d List.mem_cons_self)
   unfold Rw.dropOk Rw.isCost at hd
   simp only [Bool.and_eq_true,decide_eq_true_eq] at hd
   unfold Rw.endOf at h1
   split at h1
   ·simp only [Option.toList_some,List.mem_singleton] at h1
    rw [h1]
    exact hd.2
   ·simp at h1
  ·exact ends_ok hv l (i + 1) (fun x hx => hl x (List.mem_cons_of_mem _ hx)) v h1
theorem vars_ok {t : Rw.Table} {k : Int} {s : List UInt8} (h : (Rw.variants t k s).2 = 0) : Rw.valid t = true ∧ Fo.letters k s ≠ [] ∧ ∀ v ∈ (Rw.variants t k s).1,0 ≤ v.cost ∧ v.cost ≤ 1000 := by
 unfold Rw.variants at h ⊢
 split at h
 ·cases h
 ·rename_i hc
  rw [if_neg hc]
  have hv : Rw.valid t = true := by
   cases hv : Rw.valid t with
   | true => rfl
   | false => exact absurd (.inr hv) hc
  refine ⟨hv,fun e => hc (.inl e),fun v hm => ?_⟩
  rcases List.mem_cons.1 hm with rfl | hm
  ·simp
  ·exact ends_ok hv t.ends 0 (fun d h => h) v hm
theorem word_ok {t : Rw.Table} {k : Int} {s : List UInt8} {u : W} (h : wordOf t k s = some u) : Rw.valid t = true ∧ u.script = k ∧ u.letters = Fo.letters k s ∧ u.letters ≠ [] ∧ u.vars = (Rw.variants t k s).1 ∧ ∀ v ∈ u.vars,0 ≤ v.cost ∧ v.cost ≤ 1000 := by
 unfold wordOf at h
 split at h
 ·rename_i h0
  cases h
  obtain ⟨h1,h2,h3⟩ := vars_ok h0
  exact ⟨h1,rfl,rfl,h2,rfl,h3⟩
 ·cases h
theorem ways_ok {t : Rw.Table} {a b : Int} {x y : List UInt8} {u v : W} (hu : wordOf t a x = some u) (hv : wordOf t b y = some v) : ∀ w ∈ ways t u v,WayOk w := by
 obtain ⟨h1,-,-,-,-,h2⟩ := word_ok hu
 obtain ⟨-,-,-,-,-,h3⟩ := word_ok hv
 have hi : 0 ≤ t.initial ∧ t.initial ≤ 1000 := by
  unfold Rw.valid Rw.isCost at h1
  simp only [Bool.and_eq_true,decide_eq_true_eq] at h1
  omega
 intro w hw
 unfold ways at hw
 rcases List.mem_append.1 hw with hw | hw
 ·rcases List.mem_append.1 hw with hw | hw
  ·unfold waysV at hw
   rw [List.mem_flatMap] at hw
   obtain ⟨p,hp,hw⟩ := hw
   rw [List.mem_map] at hw
   obtain ⟨q,hq,rfl⟩ := hw
   have := h2 p hp
   have := h3 q hq
   unfold WayOk
   simp only
   omega
  ·split at hw
   ·rw [List.mem_singleton] at hw; rw [hw]; unfold WayOk initialW; simp only; omega
   ·simp at hw
 ·split at hw
  ·rw [List.mem_singleton] at hw; rw [hw]; unfold WayOk initialW; simp only; omega
  ·simp at hw
end Mt
namespace Idx
open Li
structure Hit where
 id : List UInt8
 alias_ : Nat
 cost : Int
deriving DecidableEq
def has (S : List En) (id : List UInt8) : Bool := S.any fun e => decide (e.id = id)
def put (S : List En) (e : En) : List En × Int :=
 if proper e = false then (S,1) else if has S e.id then (S,9) else if 400 ≤ S.length then (S,28) else (S ++ [e],0)
def drop (S : List En) (id : List UInt8) : List En × Int := if has S id then (S.filter fun e => !decide (e.id = id),0) else (S,11)
def fill (S : List En) (l : List En) : List En := l.foldl (fun S e => (put S e).1) S
def hitsN (f : Nm → Int) (b : Int) (id : List UInt8) : Nat → List Nm → List Hit
 | _,[] => []
 | k,a :: l => if f a ≤ b then ⟨id,k,f a⟩ :: hitsN f b id (k + 1) l else hitsN f b id (k + 1) l
def hitsE (f : Nm → Int) (b : Int) (e : En) : List Hit := hitsN f b e.id 0 e.names
def hits (f : Nm → Int) (b : Int) (L : List En) : List Hit := L.flatMap (hitsE f b)
structure Srt (S L : List En) : Prop where
 ord : L.Pairwise fun a b => a.id < b.id
 mem : ∀ e,e ∈ L ↔ e ∈ S
theorem sorted_eq {α : Type} {R : α → α → Prop} (ha : ∀ a b,R a b → R b a → False) : ∀ {l m : List α},l.Pairwise R → m.Pairwise R → (∀ x,x ∈ l ↔ x ∈ m) → l = m
 | [],[],_,_,_ => rfl
 | [],y :: m,_,_,h => absurd ((h y).2 List.mem_cons_self) List.not_mem_nil
 | x :: l,[],_,_,h => absurd ((h x).1 List.mem_cons_self) List.not_mem_nil
 | x :: l,y :: m,hl,hm,h => by
  rw [List.pairwise_cons] at hl hm
  have hxy : x = y := by
   rcases List.mem_cons.1 ((h x).1 List.mem_cons_self) with h1 | h1
   ·exact h1
   ·rcases List.mem_cons.1 ((h y).2 List.mem_cons_self) with h2 | h2
    ·exact h2.symm
    ·exact (ha x y (hl.1 y h2) (hm.1 x h1)).elim
  subst hxy
  have : l = m := by
   refine sorted_eq ha hl.2 hm.2 fun z => ⟨fun hz => ?_,fun hz => ?_⟩
   ·rcases List.mem_cons.1 ((h z).1 (List.mem_cons_of_mem _ hz)) with rfl | h1
    ·exact (ha z z (hl.1 z hz) (hl.1 z hz)).elim
    ·exact h1
   ·rcases List.mem_cons.1 ((h z).2 (List.mem_cons_of_mem _ hz)) with rfl | h1
    ·exact (ha z z (hm.1 z hz) (hm.1 z hz)).elim
    ·exact h1
  rw [this]
theorem Srt.uniq {S S' L L' : List En} (h : Srt S L) (h' : Srt S' L') (hm : ∀ e,e ∈ S ↔ e ∈ S') : L = L' :=
 sorted_eq (R := fun a b : En => a.id < b.id) (fun a _ h1 h2 => List.lt_irrefl a.id (List.lt_trans h1 h2)) h.ord h'.ord fun e => (h.mem e).trans ((hm e).trans (h'.mem e).symm)
theorem has_iff {S : List En} {id : List UInt8} : has S id = true ↔ ∃ e ∈ S,e.id = id := by
 unfold has
 rw [List.any_eq_true]
 simp
theorem has_no {S : List En} {id : List UInt8} (h : has S id = false) : ∀ e ∈ S,e.id ≠ id := fun e he hid => by
 have := has_iff.2 ⟨e,he,hid⟩
 rw [h] at this; cases this
structure Ok (S : List En) : Prop where
 prop : ∀ e ∈ S,proper e = true
 once : (S.map En.id).Nodup
 few : S.length ≤ 400
theorem Ok.nil : Ok [] := ⟨fun _ h => absurd h List.not_mem_nil,List.nodup_nil,Nat.zero_le _⟩
theorem Ok.put {S : List En} (h : Ok S) (e : En) : Ok (put S e).1 := by
 unfold Idx.put
 split
 ·exact h
 ·rename_i hp
  split
  ·exact h
  ·rename_i hh
   split
   ·exact h
   ·rename_i hl
    refine ⟨fun x hx => ?_,?_,by rw [List.length_append,List.length_singleton]; omega⟩
    ·rcases List.mem_append.1 hx with h1 | h1
     ·exact h.prop x h1
     ·rw [List.mem_singleton] at h1; rw [h1]; simpa using hp
    ·rw [List.map_append,List.nodup_append]
     refine ⟨h.once,by simp,fun a ha b hb => ?_⟩
     obtain ⟨x,hx,rfl⟩ := List.mem_map.1 ha
     simp only [List.map_cons,List.map_nil,List.mem_singleton] at hb
     rw [hb]
     exact has_no (by simpa using hh) x hx
theorem Ok.drop {S : List En} (h : Ok S) (id : List UInt8) : Ok (drop S id).1 := by
 unfold Idx.drop
 split
 ·exact ⟨fun e he => h.prop e (List.mem_filter.1 he).1,h.once.sublist (List.filter_sublist.map En.id),Nat.le_trans (List.length_filter_le _ _) h.few⟩
 ·exact h
theorem Ok.fill {S : List En} (h : Ok S) : ∀ l : List En,Ok (fill S l)
 | [] => h
 | e :: l => by
  show Ok (Idx.fill (Idx.put S e).1 l)
  exact Ok.fill (h.put e) l
theorem Ok.id {S : List En} (h : Ok S) {a b : En} (ha : a ∈ S) (hb : b ∈ S) (hid : a.id = b.id) : a = b := by
 have key : ∀ (S : List En),(S.map En.id).Nodup → a ∈ S → b ∈ S → a = b := by
  intro S
  induction S with
  | nil => intro _ h; exact absurd h List.not_mem_nil
  | cons x S ih =>
   intro hn ha hb
   rw [List.map_cons,List.nodup_cons] at hn
   rcases List.mem_cons.1 ha with e1 | ha
   ·rcases List.mem_cons.1 hb with e2 | hb
    ·rw [e1,e2]
    ·exact absurd (List.mem_map.2 ⟨b,hb,by rw [← hid,e1]⟩) hn.1
   ·rcases List.mem_cons.1 hb with e2 | hb
    ·exact absurd (List.mem_map.2 ⟨a,ha,by rw [hid,e2]⟩) hn.1
    ·exact ih hn.2 ha hb
 exact key S h.once ha hb
theorem fill_snoc (S l : List En) (e : En) : fill S (l ++ [e]) = (put (fill S l) e).1 := by unfold fill; rw [List.foldl_append]; rfl
end Idx
namespace As
variable {c : List (List Int)} {d e : List Int}
def tAt (c : List (List Int)) (d e : List Int) (i : Nat) (set : Nat) : Int := T e (c.drop i) (d.drop i) set
def gAt (c : List (List Int)) (d e : List Int) (i j : Nat) : Int := G e (c.drop i) (d.drop i) j
theorem drop_at {α : Type} {l : List α} {i : Nat} {x : α} (h : l[i]? = some x) : l.drop i = x :: l.drop (i + 1) := by
 obtain ⟨hk,he⟩ := List.getElem?_eq_some_iff.1 h
 rw [List.drop_eq_getElem_cons hk,he]
theorem tAt_last (h : c.length = d.length) (set : Nat) : tAt c d e c.length set = lastTo e set e.length := by
 unfold tAt
 rw [List.drop_length,h,List.drop_length]
 rfl
theorem tAt_step {i : Nat} {row : List Int} {x : Int} (hr : c[i]? = some row) (hx : d[i]? = some x) (set : Nat) : tAt c d e i set = bestTo row (tAt c d e (i + 1)) x set row.length := by
 unfold tAt
 rw [drop_at hr,drop_at hx]
 rfl
theorem tAt_best (hv : valid c d e = true) : best c d e = tAt c d e 0 0 := by
 unfold best tAt
 rw [if_pos hv]
 rfl
theorem gAt_last (h : c.length = d.length) (j : Nat) : gAt c d e c.length j = endR (e.drop j) := by
 unfold gAt
 rw [List.drop_length,h,List.drop_length]
 rfl
theorem endR_step {j : Nat} {y : Int} (h : e[j]? = some y) : endR (e.drop j) = y + endR (e.drop (j + 1)) := by
 rw [drop_at h]; rfl
theorem endR_end : endR (e.drop e.length) = 0 := by rw [List.drop_length]; rfl
theorem gAt_end {i : Nat} {row : List Int} {x : Int} (hr : c[i]? = some row) (hx : d[i]? = some x) (hl : row.length = e.length) : gAt c d e i e.length = x + gAt c d e (i + 1) e.length := by
 unfold gAt
 rw [drop_at hr,drop_at hx]
 show lineR _ x e.length (row.drop e.length) (e.drop e.length) = _
 rw [List.drop_length,← hl,List.drop_length]
 rfl
theorem gAt_step {i j : Nat} {row : List Int} {x y r : Int} (hr : c[i]? = some row) (hx : d[i]? = some x) (hy : e[j]? = some y) (hj : row[j]? = some r) :
  gAt c d e i j = min (min (x + gAt c d e (i + 1) j) (y + gAt c d e i (j + 1))) (r + gAt c d e (i + 1) (j + 1)) := by
 unfold gAt
 rw [drop_at hr,drop_at hx]
 show lineR _ x j (row.drop j) (e.drop j) = _
 rw [drop_at hj,drop_at hy]
 rfl
theorem gAt_ordered (hv : valid c d e = true) : ordered c d e = gAt c d e 0 0 := by
 unfold ordered gAt
 rw [if_pos hv]
 rfl
structure Ok (c : List (List Int)) (d e : List Int) : Prop where
 rows : c.length = d.length
 few : d.length ≤ 6
 cols : e.length ≤ 6
 len : ∀ row ∈ c,row.length = e.length
 wd : within d 0 10000 = true
 we : within e 0 10000 = true
 wc : ∀ row ∈ c,within row 0 100000 = true
theorem valid_iff : valid c d e = true ↔ Ok c d e := by
 unfold valid
 simp only [Bool.and_eq_true,decide_eq_true_eq,List.all_eq_true]
 constructor
 ·rintro ⟨⟨⟨⟨⟨h1,h2⟩,h3⟩,h4⟩,h5⟩,h6⟩
  exact ⟨h1,h2,h3,fun row hr => (h6 row hr).1,h4,h5,fun row hr => (h6 row hr).2⟩
 ·intro h
  exact ⟨⟨⟨⟨⟨h.rows,h.few⟩,h.cols⟩,h.wd⟩,h.we⟩,fun row hr => ⟨h.len row hr,h.wc row hr⟩⟩
theorem within_drop {l : List Int} {lo hi : Int} (h : within l lo hi = true) (i : Nat) : within (l.drop i) lo hi = true := by
 unfold within at h ⊢
 rw [List.all_eq_true] at h ⊢
 exact fun x hx => h x (List.mem_of_mem_drop hx)
theorem tAt_bounds (h : Ok c d e) (i set : Nat) : 0 ≤ tAt c d e i set ∧ tAt c d e i set ≤ 120000 := by
 have := T_bounds h.we (c.drop i) (d.drop i) set (fun row hr => h.wc row (List.mem_of_mem_drop hr)) (within_drop h.wd i)
 have h1 := h.few
 have h2 := h.cols
 have h3 : (d.drop i).length ≤ d.length := by rw [List.length_drop]; omega
 unfold tAt
 omega
theorem lineR_bounds {nx : Nat → Int} {x B : Int} (hn : ∀ j,0 ≤ nx j ∧ nx j ≤ B) (hx : 0 ≤ x ∧ x ≤ 10000) : ∀ (j : Nat) (row e : List Int),within row 0 100000 = true → within e 0 10000 = true → 0 ≤ lineR nx x j row e ∧ lineR nx x j row e ≤ B + 10000
 | j,[],e,_,_ => by have := hn j; unfold lineR; omega
 | j,r :: row,[],_,_ => by have := hn j; unfold lineR; omega
 | j,r :: row,y :: e,hr,he => by
  have h1 := within_mem hr List.mem_cons_self
  have h2 := within_mem he List.mem_cons_self
  have hr' := within_drop hr 1
  have he' := within_drop he 1
  simp only [List.drop_succ_cons,List.drop_zero] at hr' he'
  have ih := lineR_bounds hn hx (j + 1) row e hr' he'
  have := hn j
  have := hn (j + 1)
  unfold lineR
  omega
theorem G_bounds (he : within e 0 10000 = true) : ∀ (c : List (List Int)) (d : List Int) (j : Nat),(∀ row ∈ c,within row 0 100000 = true) → within d 0 10000 = true → 0 ≤ G e c d j ∧ G e c d j ≤ 10000 * e.length + 10000 * d.length
 | [],d,j,_,_ => by
  have h1 := endR_bounds (within_drop he j)
  have h2 : (e.drop j).length ≤ e.length := by rw [List.length_drop]; omega
  unfold G; omega
 | row :: c,[],j,_,_ => by
  have h1 := endR_bounds (within_drop he j)
  have h2 : (e.drop j).length ≤ e.length := by rw [List.length_drop]; omega
  unfold G; omega
 | row :: c,x :: d,j,hc,hd => by
  have hx := within_mem hd List.mem_cons_self
  have hd' := within_drop hd 1
  simp only [List.drop_succ_cons,List.drop_zero] at hd'
  have ih := fun s => G_bounds he c d s (fun r hr => hc r (List.mem_cons_of_mem _ hr)) hd'
  have := lineR_bounds (fun s => ih s) hx j (row.drop j) (e.drop j) (within_drop (hc row List.mem_cons_self) j) (within_drop he j)
  unfold G
  rw [List.length_cons]
  omega
theorem gAt_bounds (h : Ok c d e) (i j : Nat) : 0 ≤ gAt c d e i j ∧ gAt c d e i j ≤ 120000 := by
 have := G_bounds h.we (c.drop i) (d.drop i) j (fun row hr => h.wc row (List.mem_of_mem_drop hr)) (within_drop h.wd i)
 have h1 := h.few
 have h2 := h.cols
 have h3 : (d.drop i).length ≤ d.length := by rw [List.length_drop]; omega
 unfold gAt
 omega
end As
namespace Go.Proofs.YtdghfenbfbdijaaGreatDoor
def Cols (k : Nat) (out : List Int) : Prop := out.length = k ∧ ∀ x ∈ out,0 ≤ x ∧ x ≤ 6
def Few6 (out : List Int) : Prop := out.length ≤ 6 ∧ ∀ x ∈ out,0 ≤ x ∧ x ≤ 6
theorem Few6.nil : Few6 [] := ⟨by simp,fun x hx => by cases hx⟩
theorem Cols.few {k : Nat} {out : List Int} (h : Cols k out) (hk : k ≤ 6) : Few6 out := ⟨by rw [h.1]; exact hk,h.2⟩
theorem Cols.snoc {k : Nat} {out : List Int} {j : Nat} (h : Cols k out) (hj : j ≤ 6) : Cols (k + 1) (out ++ [(j : Int)]) :=
 ⟨by rw [List.length_append,h.1]; rfl,fun x hx => by
  rcases List.mem_append.1 hx with hx | hx
  ·exact h.2 x hx
  ·rw [List.mem_singleton.1 hx]; omega⟩
end Go.Proofs.YtdghfenbfbdijaaGreatDoor
