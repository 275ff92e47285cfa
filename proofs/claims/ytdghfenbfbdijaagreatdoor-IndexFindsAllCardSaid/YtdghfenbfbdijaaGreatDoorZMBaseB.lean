/-
 Several texts in one: ZMapCount, ZCk, ZFlat, ZAppList, ZGrow, ZHeldC. Conditions: as each law says.
-/
import Derived.Test.YtdghfenbfbdijaaGreatDoorZMBase
import Derived.Laws.AppendOwn
import Derived.IntWalk
import Derived.RangeFuncWrites
namespace Go.Proofs.YtdghfenbfbdijaaGreatDoor
open Go.RowKit Go.Maps
def MapC (w : World) (P : Program) (k : TypeId) (b n : Nat) (f : Value → Option Value) : Prop :=
 ∃ D : DataW Value,w.ownsMap P k readV b n D ∧ Maps.size D = n ∧ ∀ x kl,keyOf P k x = some kl → f x = lookD D kl
section
variable {w : World} {P : Program} {k : TypeId} {b n : Nat} {f : Value → Option Value}
theorem MapC.mapF (h : MapC w P k b n f) : MapF w P k b n f := by
 obtain ⟨D,h1,_,h2⟩ := h
 exact ⟨D,h1,h2⟩
theorem MapC.made (w : World) (P : Program) (k : TypeId) : MapC (w.alloc (.map #[] 0)) P k w.heap.size 0 (fun _ => none) :=
 ⟨.map [],World.ownsMap_made _ _ _ _,rfl,fun _ _ _ => rfl⟩
theorem MapC.kept {w' : World} {row : Option Nat} (h : MapC w P k b n f) (hg : w.grownBy w' row) (hne : some b ≠ row) : MapC w' P k b n f := by
 obtain ⟨D,h1,h3,h2⟩ := h
 exact ⟨D,h1.kept hg hne,h3,h2⟩
theorem MapC.below {w' : World} (h : MapC w P k b n f) (hb : Below w.heap.size w w') : MapC w' P k b n f := h.kept (Below.grows hb none) (by simp)
theorem MapC.lt (h : MapC w P k b n f) : b < w.heap.size := h.mapF.lt
theorem own_has {D : DataW Value} {t e : TypeId} (h1 : w.ownsMap P k readV b n D) (K : Keyed P k) (ht : P.underlying t = some (.map k e)) {z : Value} (hz : (zeroValue e).run P w = .ok z w) {x : Value} {kl : Lit} (hk : keyOf P k x = some kl) : Maps.has D kl = (lookD D kl).isSome := by
 obtain ⟨v,ps,hr,hv⟩ := h1.look_ok K ht hz (zd := .held z) (zp := []) rfl hk
 exact has_look h1.isMap hv
theorem MapC.put_new {t e : TypeId} (h : MapC w P k b n f) (K : Keyed P k) (ht : P.underlying t = some (.map k e)) {z : Value} (hz : (zeroValue e).run P w = .ok z w) (hn : n < maxLen) {x v : Value} {kl : Lit} (hk : keyOf P k x = some kl) (hx : f x = none) {f' : Value → Option Value} (h1 : f' x = some v) (h2 : ∀ y,y ≠ x → f' y = f y) :
  ∃ w',(Instr.mapUpdate t (.map (some b)) x v).run P w = .ok () w' ∧ MapC w' P k b (n + 1) f' ∧ w.grownBy w' (some b) := by
 obtain ⟨D,g1,g3,g2⟩ := h
 have hh := own_has g1 K ht hz hk
 rw [← g2 x kl hk,hx] at hh
 obtain ⟨w',hr,ho,hg⟩ := g1.update K ht hn hk (d := .held v) (ps := []) rfl
 refine ⟨w',hr,⟨_,ho,?_,fun y ky hy => ?_⟩,hg⟩
 ·rw [Maps.size_put (g1.tidy K),hh,g3]; rfl
 ·by_cases hyx : y = x
  ·subst hyx
   rw [hk] at hy; cases hy
   rw [h1]
   unfold lookD
   rw [atKey_put_same g1.isMap (K.key hk)]
  ·have hne : ky ≠ kl := fun e => by subst e; exact hyx (K.inj hy hk)
   rw [h2 y hyx,g2 y ky hy]
   unfold lookD
   rw [atKey_put_other hne]
theorem MapC.del {t e : TypeId} (h : MapC w P k b (n + 1) f) (K : Keyed P k) (ht : P.underlying t = some (.map k e)) {z : Value} (hz : (zeroValue e).run P w = .ok z w) {x : Value} {kl : Lit} (hk : keyOf P k x = some kl) (hx : (f x).isSome = true) {f' : Value → Option Value} (h1 : f' x = none) (h2 : ∀ y,y ≠ x → f' y = f y) (ty : TypeId) :
  ∃ w',(Builtin.delete_ #[t,k] ty #[.map (some b),x]).run P w = .ok (.tuple #[]) w' ∧ MapC w' P k b n f' ∧ w.grownBy w' (some b) := by
 obtain ⟨D,g1,g3,g2⟩ := h
 have hh := own_has g1 K ht hz hk
 rw [← g2 x kl hk,hx] at hh
 obtain ⟨w',hr,ho,hg⟩ := g1.drop K ht hk ty
 have hs := Maps.size_del (g1.tidy K) (k := kl)
 rw [hh,g3,if_pos rfl] at hs
 have hs' : Maps.size (D.del kl) = n := by omega
 refine ⟨w',hr,⟨_,hs' ▸ MapF.tight ho,hs',fun y ky hy => ?_⟩,hg.grown⟩
 by_cases hyx : y = x
 ·subst hyx
  rw [hk] at hy; cases hy
  rw [h1]
  unfold lookD
  rw [atKey_del_same]
 ·have hne : ky ≠ kl := fun e => by subst e; exact hyx (K.inj hy hk)
  rw [h2 y hyx,g2 y ky hy]
  unfold lookD
  rw [atKey_del_other hne]
theorem MapC.len {t e : TypeId} (h : MapC w P k b n f) (ht : P.underlying t = some (.map k e)) (ty : TypeId) : (Builtin.len_ #[t] ty #[.map (some b)]).run P w = .ok (.int .i64 n) w := by
 obtain ⟨D,g1,g3,_⟩ := h
 rw [g1.len ht ty,g3]
end
end Go.Proofs.YtdghfenbfbdijaaGreatDoor
namespace Go.Proofs.YtdghfenbfbdijaaGreatDoor
open Go.RowKit Go.Maps
structure CK (lo hi : Nat) (T : TypeId → Prop) (M : World → Prop) (W W' : World) : Prop where
 size : W.heap.size ≤ W'.heap.size
 cells : ∀ q cs e fr,(q < lo ∨ (hi ≤ q ∧ ¬ T e)) → W.heap[q]? = some (.cells cs e fr) → W'.heap[q]? = some (.cells cs e fr)
 mem : M W → M W'
section
variable {lo hi : Nat} {T : TypeId → Prop} {M : World → Prop} {W W1 W' : World}
theorem CK.refl (lo hi : Nat) (T : TypeId → Prop) (M : World → Prop) (W : World) : CK lo hi T M W W := ⟨Nat.le_refl _,fun _ _ _ _ _ h => h,id⟩
theorem CK.trans (h : CK lo hi T M W W1) (g : CK lo hi T M W1 W') : CK lo hi T M W W' :=
 ⟨Nat.le_trans h.size g.size,fun q cs e fr h1 h2 => g.cells q cs e fr h1 (h.cells q cs e fr h1 h2),fun h1 => g.mem (h.mem h1)⟩
theorem CK.record {l : Nat} {o o' : Obj} (hl : W.heap[l]? = some o) (ho : o.isCells = false) (hM : M W → M (W.putObj l o')) : CK lo hi T M W (W.putObj l o') := by
 have hb := But.of_grown (grownBy_putObj' W l o') (fun r e => by cases e; rfl)
 exact ⟨hb.size,fun q cs e fr _ h2 => hb.cells hl ho h2 rfl,hM⟩
theorem CK.of_tch {O : Nat → Prop} (h : Tch O W W') (hO : ∀ q,O q → lo ≤ q) (hT : ∀ q cs e fr,O q → hi ≤ q → W.heap[q]? = some (.cells cs e fr) → T e) (hM : M W → M W') : CK lo hi T M W W' := by
 refine ⟨h.size,fun q cs e fr hq ho => (h.block q (Array.getElem?_eq_some_iff.1 ho).1 (fun hO' => ?_)).trans ho,hM⟩
 rcases hq with hq | ⟨hq,hn⟩
 ·have := hO q hO'; omega
 ·exact hn (hT q cs e fr hO' hq ho)
theorem CK.blk (h : CK lo hi T M W W') {b : Nat} {e : TypeId} {vs : List Value} (hb : Blk W b e vs) (hq : b < lo ∨ (hi ≤ b ∧ ¬ T e)) : Blk W' b e vs := h.cells b _ _ _ hq hb
theorem RowOf.ck {α : Type} {g o sz : Nat} {cells : α → List Value} {l : List α} (h : RowOf W g o sz cells l) (hk : CK lo hi T M W W') (hg : g < lo ∨ (hi ≤ g ∧ ∀ e,¬ T e)) : RowOf W' g o sz cells l := by
 refine ⟨Nat.lt_of_lt_of_le h.1 hk.size,fun i x hx j v hv => ?_⟩
 have hc := h.2 i x hx j v hv
 obtain ⟨ob,ho,hcc⟩ := cell_isCells hc
 cases ob with
 | cells cs e fr => exact (World.cell?_of_block ((hk.cells _ _ _ _ (hg.imp id fun h => ⟨h.1,h.2 e⟩) ho).trans ho.symm)).trans hc
 | _ => cases hcc
theorem SlIn.ck {α : Type} {v : Value} {Q : Nat → Prop} {sz : Nat} {cells : α → List Value} {l : List α} (h : SlIn W v Q sz cells l) (hk : CK lo hi T M W W') (hq : ∀ k,Q k → k < lo ∨ (hi ≤ k ∧ ∀ e,¬ T e)) : SlIn W' v Q sz cells l := by
 obtain ⟨a,cap,h1,h2,h3,h4⟩ := h
 refine ⟨a,cap,h1,h2,h3,fun hl => ?_⟩
 obtain ⟨g,o,h5,hq',h6⟩ := h4 hl
 exact ⟨g,o,h5,hq',h6.ck hk (hq g hq')⟩
end
section
variable {α : Type} {W W' : World} {m : Nat} {v : Value} {Q : Nat → Prop} {sz : Nat} {cells : α → List Value} {l : List α}
theorem SlIn.but (h : SlIn W v Q sz cells l) (hb : But W.heap.size m W W') {om : Obj} (hm : W.heap[m]? = some om) (hmc : om.isCells = false) : SlIn W' v Q sz cells l := by
 obtain ⟨a,cap,h1,h2,h3,h4⟩ := h
 refine ⟨a,cap,h1,h2,h3,fun hl => ?_⟩
 obtain ⟨g,o,h5,hq,h6⟩ := h4 hl
 exact ⟨g,o,h5,hq,h6.but hb hm hmc⟩
end
end Go.Proofs.YtdghfenbfbdijaaGreatDoor
namespace Go.Proofs.YtdghfenbfbdijaaGreatDoor
open Go.RowKit
theorem flatLen {α : Type} {cells : α → List Value} {sz : Nat} (l : List α) (h : ∀ x,(cells x).length = sz) : (l.flatMap cells).length = l.length * sz := by
 induction l with
 | nil => simp
 | cons x l ih => rw [List.flatMap_cons,List.length_append,ih,h,List.length_cons,Nat.succ_mul]; omega
theorem flatCells {α : Type} {w : World} {g o sz : Nat} {cells : α → List Value} : ∀ {l : List α},(∀ x,(cells x).length = sz) → RowOf w g o sz cells l → ∀ (j : Nat) (u : Value),(l.flatMap cells)[j]? = some u → w.cell? ((⟨g,o,none⟩ : Addr).add j) = some u := by
 intro l hc hr j u hu
 have hadd : (⟨g,o,none⟩ : Addr).add j = ⟨g,o + j,none⟩ := by
  unfold Addr.add; split
  ·rename_i h; subst h; rfl
  ·rfl
 rw [hadd]
 have key : ∀ (l : List α) (k : Nat),(∀ (i : Nat) (x : α),l[i]? = some x → ∀ (j : Nat) (v : Value),(cells x)[j]? = some v → w.cell? ⟨g,o + (k + i) * sz + j,none⟩ = some v) → ∀ j,(l.flatMap cells)[j]? = some u → w.cell? ⟨g,o + k * sz + j,none⟩ = some u := by
  intro l
  induction l with
  | nil => intro k _ j hu; simp at hu
  | cons x l ih =>
   intro k h j hu
   rw [List.flatMap_cons] at hu
   by_cases hj : j < sz
   ·rw [List.getElem?_append_left (by rw [hc]; exact hj)] at hu
    have := h 0 x rfl j u hu
    rw [Nat.add_zero] at this
    exact this
   ·rw [List.getElem?_append_right (by rw [hc]; omega),hc] at hu
    have := ih (k + 1) (fun i y hy j v hv => by
     have := h (i + 1) y (by simpa using hy) j v hv
     rw [show k + 1 + i = k + (i + 1) by omega]; exact this) (j - sz) hu
    rw [Nat.succ_mul] at this
    rw [show o + k * sz + j = o + (k * sz + sz) + (j - sz) by omega]
    exact this
 have := key l 0 (fun i x hx j v hv => by rw [Nat.zero_add]; exact hr.2 i x hx j v hv) j hu
 rw [Nat.zero_mul,Nat.add_zero] at this
 exact this
end Go.Proofs.YtdghfenbfbdijaaGreatDoor
namespace Go.Proofs.YtdghfenbfbdijaaGreatDoor
open Go.RowKit Go.Lib Go.Maps
section
variable {P : Program}
theorem run_append_owned_nil (w : World) (base : Nat) (t ty e : TypeId) (i : TypeInfo) (size : Nat) (ht : P.underlying t = some (.slice e)) (hi : P.info? e = some i)
  (v : Value) (n : Nat) (xs : List Value) (hown : w.ownsRow base e size v n xs) (c : Nat) : (Builtin.append_ #[t,t] ty #[v,.slice none 0 c]).run P w = .ok v w := by
 rcases hown.2 with ⟨rfl,rfl⟩ | ⟨g,cap,cur,rfl,_,_,hnc,_⟩
 ·simp [Builtin.append_,run_underlying ht,sizeOf,typeInfo,hi,Builtin.lenOf,Builtin.firstCells]
 ·simp [Builtin.append_,run_underlying ht,sizeOf,typeInfo,hi,Builtin.lenOf,Builtin.firstCells,hnc,storeCells]
theorem wp_append_list {α : Type} {sz : Nat} {cells : α → List Value} {l : List α} {w : World} {o : Oper} {a : Act} {K : Act → World → Prop} {Q : Exit → Act → World → Prop} (s x : Operand) (t : TypeId)
  (ho : o.op = .call { callee := .builtin .append,args := #[s,x],argTypes := #[t,t] })
  (base : Nat) (e : TypeId) (i : TypeInfo) (z : Value) (bytes : Nat) (ht : P.underlying t = some (.slice e)) (hi : P.info? e = some i) (hz : i.zero = some z)
  (hsize : i.size = sz) (hby : i.bytes = bytes) (hzs : z.cells.size = sz) (hsz : 0 < sz)
  (v : Value) (n : Nat) (xs : List Value) (hs : a.eval s = v) (hown : w.ownsRow base e sz v n xs)
  (u : Value) (hx : a.eval x = u) (hr : SlOf w u sz cells l) (hcl : ∀ x,(cells x).length = sz) (h1 : ∀ u ∈ l.flatMap cells,u.oneCell' = true)
  (h63 : n + l.length ≤ maxLen) (hbytes : (n + l.length) * bytes ≤ 140737488355328) (hbase : base ≤ w.heap.size)
  (h : ∀ v' w',w'.ownsRow base e sz v' (n + l.length) (xs ++ l.flatMap cells) → w.grownBy w' v.ownBlock → (v'.ownBlock = v.ownBlock ∨ v'.ownBlock = some w.heap.size) → K (a.put o.dst v') w') : o.wp P a w K Q := by
 obtain ⟨ad,cap,rfl,k1,k2,k3⟩ := hr
 cases ad with
 | some b =>
  have hnews : ∀ j u,(l.flatMap cells)[j]? = some u → w.cell? (b.add j) = some u := by
   intro j u hu
   by_cases h0 : 0 < l.length
   ·obtain ⟨g,o,e2,hr⟩ := k3 h0
    cases e2
    exact flatCells hcl hr j u hu
   ·have : l = [] := List.eq_nil_of_length_eq_zero (by omega)
    subst this
    simp at hu
  obtain ⟨v',w',hr,h2,h3,_,h5⟩ := run_append_own_at (P := P) w base t o.type e i z sz bytes ht hi hz hsize hby hzs hsz v n xs hown b l.length cap (l.flatMap cells) (flatLen l hcl) hnews h1 h63 hbytes hbase
  unfold Oper.wp execOp
  simp only [ho,resolve,invoke,builtin,Sem.run_bind,Sem.run_pure,Result.andThen_ok,List.map_toArray,List.map_cons,List.map_nil,hs,hx,hr]
  exact h v' w' h2 h3 h5
 | none =>
  have h0 : l = [] := by
   rcases Nat.eq_zero_or_pos l.length with h | h
   ·exact List.eq_nil_of_length_eq_zero h
   ·obtain ⟨g,o,e2,_⟩ := k3 h
    cases e2
  subst h0
  have hrun := run_append_owned_nil (P := P) w base t o.type e i sz ht hi v n xs hown cap
  unfold Oper.wp
  simp [execOp,ho,resolve,invoke,builtin,hs,hx,hrun,Result.andThen]
  exact h v w (by simpa using hown) (World.grownBy.refl w _) (.inl rfl)
end
end Go.Proofs.YtdghfenbfbdijaaGreatDoor
namespace Go.Proofs.YtdghfenbfbdijaaGreatDoor
open Go.RowKit
theorem run_append_zeros {P : Program} {w : World} (t u ty e : TypeId) (k : IntKind) (i : TypeInfo) (z : Value) (ht : P.underlying t = some (.slice e)) (hu : P.underlying u = some (.int k)) (hi : P.info? e = some i) (hz : i.zero = some z)
  (hs : 0 < i.size) (n : Nat) (h0 : 0 < n) (hn : n ≤ 1000000) (hb : i.bytes ≤ 1000) :
  (Builtin.append_ #[t,u] ty #[.slice none 0 0,.int .i64 (n : Int)]).run P w =
   .ok (.slice (some ⟨w.heap.size,0,none⟩) n (grownCap w n 0 e)) (w.drew.alloc (.cells (Builtin.zeroCells z.cells n ++ Builtin.zeroCells z.cells (grownCap w n 0 e - n)) e)) := by
 have hw : IntKind.i64.wrap (n : Int) = (n : Int) := IntWalk.i64_in _ (by omega)
 have hn0 : n ≠ 0 := by omega
 have hs0 : i.size ≠ 0 := by omega
 have hneg : ¬ ((n : Int) < 0) := by omega
 have hmul : n * i.bytes ≤ 1000000 * 1000 := Nat.mul_le_mul hn hb
 have hmulI : ¬ (281474976710656 < (n : Int) * (i.bytes : Int)) := by
  have : (n : Int) * (i.bytes : Int) = ((n * i.bytes : Nat) : Int) := by simp
  rw [this]; omega
 have h63' : ¬ (9223372036854775807 < (n : Int)) := by omega
 have h48' : ¬ (281474976710656 < Builtin.nextslicecap n 0 * i.bytes) := by rw [nextslicecap_zero h0]; omega
 have ha : (asIntOf (.int .i64 (n : Int))).run P w = .ok (.i64,(n : Int)) w := rfl
 have hmx : max (n : Int) 0 = (n : Int) := by omega
 simp [Builtin.append_,run_underlying ht,run_underlying hu,sizeOf,typeInfo,zeroValue,hi,hz,ha,hw,hneg,hmx,hmulI,hn0,h63',h48',Question.forced,run_firstCells_none,newRow,grownCap,asInt,Result.andThen]
 rw [if_neg (Nat.mul_ne_zero hn0 hs0)]
 rfl
theorem grown_zeros {P : Program} {w : World} (t u ty e : TypeId) (k : IntKind) (i : TypeInfo) (z : Value) (ht : P.underlying t = some (.slice e)) (hu : P.underlying u = some (.int k)) (hi : P.info? e = some i) (hz : i.zero = some z)
  (size : Nat) (hsz : i.size = size) (hzs : z.cells.size = size) (hs : 0 < size) (n : Nat) (h0 : 0 < n) (hn : n ≤ 1000000) (hb : i.bytes ≤ 1000) :
  ∃ cap w',(Builtin.append_ #[t,u] ty #[.slice none 0 0,.int .i64 (n : Int)]).run P w = .ok (.slice (some ⟨w.heap.size,0,none⟩) n cap) w' ∧ w'.ownsRow w.heap.size e size (.slice (some ⟨w.heap.size,0,none⟩) 0 cap) 0 [] ∧ n ≤ cap ∧ Below w.heap.size w w' := by
 refine ⟨_,_,run_append_zeros t u ty e k i z ht hu hi hz (by omega) n h0 hn hb,⟨by simp,.inr ⟨w.heap.size,_,_,rfl,Nat.le_refl _,heap_alloc_new w.drew _,Nat.zero_le _,grownCap_le_maxLen w n 0 e (by unfold maxLen; omega),?_,by simp⟩⟩,grownCap_ge w n 0 e,((Below.refl _ w).drew).alloc (Nat.le_refl _) _⟩
 have hge := grownCap_ge w n 0 e
 rw [Array.size_append,size_zeroCells,size_zeroCells,hzs,← Nat.add_mul]
 congr 1
 omega
end Go.Proofs.YtdghfenbfbdijaaGreatDoor
namespace Go.Proofs.YtdghfenbfbdijaaGreatDoor
open Go.RowKit
def HeldC (k : Nat) (c : World → Prop) (O : Nat → Prop) (A : World) (listed : Array Bool) (X : World) : Prop := (listed.getD k false = true ∨ c X) ∧ Tch O A X
theorem HeldC.set_ {k i : Nat} {c : World → Prop} {O : Nat → Prop} {A : World} (h1 : i ≠ k) (listed : Array Bool) (w : World) : HeldC k c O A (listed.setIfInBounds i true) w ↔ HeldC k c O A listed w := by
 unfold HeldC; rw [flag_set _ h1]
theorem AtS.cee {md : Region.Mode} {ops : Array Oper} {n k i : Nat} {c : World → Prop} {O : Nat → Prop} {A X : World} (h : AtS md ops (HeldC k c O A) i X) (hn : waits md ops n k i = true) : c X := by
 obtain ⟨listed,hc,hu,h1,_⟩ := h
 rcases h1 with h1 | h1
 ·have := closed_waits hc n hn h1
  rw [unlisted hu] at this; cases this
 ·exact h1
theorem AtS.tee {md : Region.Mode} {ops : Array Oper} {k i : Nat} {c : World → Prop} {O : Nat → Prop} {A X : World} (h : AtS md ops (HeldC k c O A) i X) : Tch O A X := by
 obtain ⟨_,_,_,_,h⟩ := h
 exact h
end Go.Proofs.YtdghfenbfbdijaaGreatDoor
