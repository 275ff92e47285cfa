/-
  The statement LedgerUndoes as the program computes it. Conditions: sizes that arguments can have.
-/
import Derived.Test.YtfkcphflcmpenaaDoorZLed10
import Derived.Test.YtfkcphflcmpenaaDoorZOpenMore
import Derived.OwnWalk
import Derived.OrdersHeld
import Derived.Deep.RegionHeld
import Derived.Deep.RegionHeldLaw
import Derived.Deep.AppendLies
namespace Go.Proofs.YtfkcphflcmpenaaDoor
open Go.RowKit Go.Lib Go.Maps

section
open Go.Deep
/-- a slice value whose address is none is nil -/
theorem nil_slice {H : Type} {enc : TypeId × Value → H} {P : Program} {w : World} {base : Nat} {spare : Nat → Bool} {held : Bool} {t e : TypeId} {a : Option Addr} {n c fuel : Nat} {x : DataW H × List MemPlace} (ht : P.underlying t = some (.slice e)) (h : DataW.trod enc P w base spare held fuel t [.slice a n c] = some x) : a = none → n = 0 ∧ c = 0 := by
  intro ha
  rcases open_slice ht h with ⟨h0, _⟩ | ⟨a', len, cap, m, k, D, Pl, hcs, _⟩
  · simp at h0; exact ⟨h0.2.1, h0.2.2⟩
  · simp at hcs
    rw [ha] at hcs
    cases hcs.1

/-- 'append(s, x...)', x nil or not -/
theorem wpList_append_join {P : Program} (w : World) {ops : Array Oper} {rest : List Oper} {o : Oper} {a : Act} {Q : Exit → Act → World → Prop} (hgd : o.guard = none) (s x : Operand) (t : TypeId)
    (ho : o.op = .call { callee := .builtin .append, args := #[s, x], argTypes := #[t, t] })
    (base : Nat) (e : TypeId) (i : TypeInfo) (z : Value) (size bytes : Nat) (ht : P.underlying t = some (.slice e)) (hi : P.info? e = some i) (hz : i.zero = some z)
    (hsize : i.size = size) (hby : i.bytes = bytes) (hzs : z.cells.size = size) (hsz : 0 < size)
    (v : Value) (n : Nat) (xs : List Value) (hs : a.eval s = v) (hown : w.ownsRow base e size v n xs)
    (ad : Option Addr) (m c : Nat) (news : List Value) (hx : a.eval x = .slice ad m c) (hl : news.length = m * size) (hnone : ad = none → m = 0 ∧ c = 0) (hnews : ∀ b, ad = some b → ∀ j u, news[j]? = some u → w.cell? (b.add j) = some u) (h1 : ∀ u ∈ news, u.oneCell' = true)
    (h63 : n + m ≤ maxLen) (hbytes : (n + m) * bytes ≤ 140737488355328) (hbase : base ≤ w.heap.size)
    (h : ∀ v' w', w'.ownsRow base e size v' (n + m) (xs ++ news) → w.grownBy w' v.ownBlock → wpList P ops Q rest (a.put o.dst v') w') : wpList P ops Q (o :: rest) a w := by
  cases ad with
  | some b => exact wpList_append_own w hgd s x t ho base e i z size bytes ht hi hz hsize hby hzs hsz v n xs hs hown b m c news hx hl (hnews b rfl) h1 h63 hbytes hbase (fun v' w' h2 h3 _ => h v' w' h2 h3)
  | none =>
    obtain ⟨rfl, rfl⟩ := hnone rfl
    have hnil : news = [] := List.eq_nil_of_length_eq_zero (by simpa using hl)
    subst hnil
    refine wpList_plain hgd fun K hK => ?_
    have hrun := run_append_owned_none (P := P) w base t o.type e i size ht hi v n xs hown
    unfold Oper.wp
    simp [execOp, ho, resolve, invoke, builtin, hs, hx, hrun, Result.andThen]
    exact hK _ _ (h v w (by simpa using hown) (World.grownBy.refl w _))

end

section
variable {P : Program} {ops : Array Oper} {Q : Exit → Act → World → Prop} {md : Region.Mode} {S : Array Bool → World → Prop} 

/-- what has come up has its grounds behind it -/
def Closed (md : Region.Mode) (ops : Array Oper) (listed : Array Bool) : Prop :=
  ∀ (j : Nat) (oj : Oper), ops[j]? = some oj → listed.getD j false = true → ∀ e ∈ oj.after, Region.binds md e = true → listed.getD e.on false = true

/-- whichever order is picked; behind each operation S holds, of what has come up and the world -/
def wpAnyS (P : Program) (md : Region.Mode) (ops : Array Oper) (Q : Exit → Act → World → Prop) (S : Array Bool → World → Prop) : Nat → Array Bool → Act → World → Prop
  | 0, listed, a, w => Region.ready md ops listed = [] ∧ Q .normal a w
  | fuel + 1, listed, a, w =>
    (Region.ready md ops listed = [] → Q .normal a w) ∧
    ∀ i ∈ Region.ready md ops listed, wpOp P ops Q i (fun a' w' => S (listed.setIfInBounds i true) w' ∧ wpAnyS P md ops Q S fuel (listed.setIfInBounds i true) a' w') a w

theorem any_of_S : ∀ (fuel : Nat) (listed : Array Bool) (a : Act) (w : World), wpAnyS P md ops Q S fuel listed a w → wpAny P md ops Q fuel listed a w
  | 0, _, _, _, h => h
  | fuel + 1, _, _, _, h => ⟨h.1, fun i hi => wpOp_mono (fun a' w' h' => any_of_S fuel _ a' w' h'.2) (h.2 i hi)⟩

theorem closed_none (k : Nat) : Closed md ops (Array.replicate k false) := by
  intro j oj _ h
  rw [Array.getD_eq_getD_getElem?, Array.getElem?_replicate] at h
  split at h <;> simp at h

theorem closed_step {listed : Array Bool} {j : Nat} (hc : Closed md ops listed) (hj : j ∈ Region.ready md ops listed) : Closed md ops (listed.setIfInBounds j true) := by
  have up : ∀ k, listed.getD k false = true → (listed.setIfInBounds j true).getD k false = true := by
    intro k hk
    rw [Array.getD_eq_getD_getElem?] at hk ⊢
    rw [Array.getElem?_setIfInBounds]
    split
    · split
      · rfl
      · rename_i h1 h2; subst h1; rw [Array.getElem?_eq_none (by omega)] at hk; cases hk
    · exact hk
  intro k ok hk hlk e he hb
  by_cases hkj : k = j
  · subst hkj
    obtain ⟨_, oj, hoj, hall⟩ := mem_ready.1 hj
    rw [hk] at hoj; cases hoj
    exact up _ (hall e he hb)
  · refine up _ (hc k ok hk ?_ e he hb)
    rw [Array.getD_eq_getD_getElem?] at hlk ⊢
    rw [Array.getElem?_setIfInBounds, if_neg (Ne.symm hkj)] at hlk
    exact hlk

/-- a world at which operation i may come up -/
def AtS (md : Region.Mode) (ops : Array Oper) (S : Array Bool → World → Prop) (i : Nat) (w : World) : Prop := ∃ listed, Closed md ops listed ∧ listed.getD i true = false ∧ S listed w

theorem wpAnyS_first {i : Nat} {oi : Oper} {v : Value} (hi : ops[i]? = some oi) (hsel : ∀ (j : Nat) (o : Oper) cs b, ops[j]? = some o → o.op ≠ .select cs b)
    (hQ : ∀ c a w, Q (.panic c) (a.put oi.dst v) w → Q (.panic c) a w) (hSi : ∀ listed w, S (listed.setIfInBounds i true) w ↔ S listed w) :
    ∀ (fuel : Nat) (listed : Array Bool) (a : Act) (w : World), Closed md ops listed →
      (∀ j oj, ops[j]? = some oj → j ≠ i → listed.getD j true = false → (∀ e ∈ oj.after, Region.binds md e = true → e.on ≠ i) → oi.apart ops oj = true) →
      i ∈ Region.ready md ops listed → YieldsIf P ops (AtS md ops S i) oi v a → S listed w →
      wpAnyS P md ops Q S fuel (listed.setIfInBounds i true) (a.put oi.dst v) w → wpAnyS P md ops Q S (fuel + 1) listed a w := by
  intro fuel
  induction fuel with
  | zero =>
    intro listed a w hc _ hr hy hS H
    refine ⟨fun h => (by rw [h] at hr; cases hr), fun j hj => ?_⟩
    by_cases hji : j = i
    · subst hji; exact hy.wpOp hi ⟨listed, hc, (mem_ready.1 hr).1, hS⟩ ⟨(hSi _ _).2 hS, H⟩
    · have := ready_mono hj hji
      rw [H.1] at this
      cases this
  | succ fuel ih =>
    intro listed a w hc hfree hr hy hS H
    refine ⟨fun h => (by rw [h] at hr; cases hr), fun j hj => ?_⟩
    by_cases hji : j = i
    · subst hji; exact hy.wpOp hi ⟨listed, hc, (mem_ready.1 hr).1, hS⟩ ⟨(hSi _ _).2 hS, H⟩
    · have h1 := H.2 j (ready_mono hj hji)
      obtain ⟨hjun, oj, hoj, hall⟩ := mem_ready.1 hj
      have hnot : ∀ e ∈ oj.after, Region.binds md e = true → e.on ≠ i := fun e he hb heq => by
        have h1 := hall e he hb
        have h0 := (mem_ready.1 hr).1
        rw [heq] at h1
        rcases Nat.lt_or_ge i listed.size with h' | h'
        · simp [h'] at h0 h1; rw [h0] at h1; cases h1
        · simp [Array.getElem?_eq_none h'] at h1
      have h2 := wpOp_putIf hoj (hfree j oj hoj hji hjun hnot) (fun cs b => hsel i oi cs b hi) (fun cs b => hsel j oj cs b hoj) hQ hy h1
      have hfree' : ∀ k ok, ops[k]? = some ok → k ≠ i → (listed.setIfInBounds j true).getD k true = false →
          (∀ e ∈ ok.after, Region.binds md e = true → e.on ≠ i) → oi.apart ops ok = true := fun k ok hk hki hun hno => by
        refine hfree k ok hk hki ?_ hno
        by_cases hjk : j = k
        · subst hjk; exact hjun
        · rw [getD_set_ne true hjk] at hun; exact hun
      refine wpOp_mono (fun a' w' h3 => ?_) h2
      have e : S (listed.setIfInBounds j true) w' := (hSi _ _).1 (by rw [Array.setIfInBounds_comm _ _ hji]; exact h3.2.1)
      refine ⟨e, ih (listed.setIfInBounds j true) a' w' (closed_step hc hj) hfree' (ready_mono hr (Ne.symm hji)) h3.1 e ?_⟩
      rw [Array.setIfInBounds_comm _ _ hji]
      exact h3.2.2

/-- take number i first -/
theorem wpAnyS_take {i : Nat} {oi : Oper} {v : Value} {fuel : Nat} {listed : Array Bool} {a : Act} {w : World} (hi : ops[i]? = some oi)
    (hs : Region.noSelect ops = true) (hf : Region.free md ops listed i = true) (hr : (Region.ready md ops listed).contains i = true)
    (hQ : ∀ c a w, Q (.panic c) (a.put oi.dst v) w → Q (.panic c) a w) (hSi : ∀ listed w, S (listed.setIfInBounds i true) w ↔ S listed w) (hc : Closed md ops listed)
    (hw : Region.wanted oi (yielded ops a.tmps) = true) (hy : ∀ w, AtS md ops S i w → (execOp a.eval oi).run P w = .ok (.value v) w) (hS : S listed w)
    (h : Closed md ops (listed.setIfInBounds i true) → S (listed.setIfInBounds i true) w → wpAnyS P md ops Q S fuel (listed.setIfInBounds i true) (a.put oi.dst v) w) : wpAnyS P md ops Q S (fuel + 1) listed a w :=
  wpAnyS_first hi (Region.noSelect_spec hs) hQ hSi fuel listed a w hc (Region.free_spec hi hf) (by simpa using hr) (.inl ⟨hw, hy⟩) hS (h (closed_step hc (by simpa using hr)) ((hSi _ _).2 hS))

/-- one that alone may come up -/
theorem wpAnyS_one {fuel : Nat} {listed : Array Bool} {a : Act} {w : World} {i : Nat} {o : Oper} (ho : ops[i]? = some o) (hr : Region.ready md ops listed = [i]) (hw : Region.wanted o (yielded ops a.tmps) = true)
    (hc : Closed md ops listed)
    (h : ∀ K' : Act → World → Prop, Shut (∀ a w, S (listed.setIfInBounds i true) w → (Closed md ops (listed.setIfInBounds i true) → wpAnyS P md ops Q S fuel (listed.setIfInBounds i true) a w) → K' a w) → Oper.wp P o a w K' Q) : wpAnyS P md ops Q S (fuel + 1) listed a w := by
  refine ⟨fun h0 => (by rw [hr] at h0; cases h0), fun j hj => ?_⟩
  rw [hr] at hj
  obtain rfl : j = i := by simpa using hj
  refine wpOp_step ho (fun K' hK => ?_)
  rw [if_pos hw]
  exact h K' (fun a w hS hW => hK a w ⟨hS, hW (closed_step hc (by rw [hr]; simp))⟩)

/-- the same, the guard still to be seen: for the kit's step laws -/
theorem wpAnyS_law {fuel : Nat} {listed : Array Bool} {a : Act} {w : World} {i : Nat} {o : Oper} (ho : ops[i]? = some o) (hr : Region.ready md ops listed = [i]) (hc : Closed md ops listed)
    (h : ∀ K' : Act → World → Prop, Shut (∀ a w, S (listed.setIfInBounds i true) w → (Closed md ops (listed.setIfInBounds i true) → wpAnyS P md ops Q S fuel (listed.setIfInBounds i true) a w) → K' a w) → if Region.wanted o (yielded ops a.tmps) = true then Oper.wp P o a w K' Q else K' (a.put o.dst undef) w) :
    wpAnyS P md ops Q S (fuel + 1) listed a w := by
  refine ⟨fun h0 => (by rw [hr] at h0; cases h0), fun j hj => ?_⟩
  rw [hr] at hj
  obtain rfl : j = i := by simpa using hj
  exact wpOp_step ho (fun K' hK => h K' (fun a w hS hW => hK a w ⟨hS, hW (closed_step hc (by rw [hr]; simp))⟩))

theorem wpAnyS_done {listed : Array Bool} {a : Act} {w : World} (hr : Region.ready md ops listed = []) (h : Q .normal a w) : ∀ fuel, wpAnyS P md ops Q S fuel listed a w
  | 0 => ⟨hr, h⟩
  | _ + 1 => ⟨fun _ => h, by rw [hr]; simp⟩

/-- the beginning, elsewhere -/
theorem wp_heldS {id : Nat} {a : Act} {w : World} (hm : P.follows .mixedOrders = true)
    (h : Closed .any ops (Array.replicate ops.size false) → wpAnyS P .any ops Q S ops.size (Array.replicate ops.size false) a w.drew) : (Code.region id ops true).wp P Q a w :=
  wp_region_any hm (any_of_S _ _ _ _ (h (closed_none _)))

/-- does operation j wait for operation i? -/
def needs (md : Region.Mode) (ops : Array Oper) (j i : Nat) : Bool := ((ops[j]?).map fun o => o.after.any fun e => Region.binds md e && e.on == i).getD false

theorem closed_needs {listed : Array Bool} {j i : Nat} (hc : Closed md ops listed) (h : needs md ops j i = true) (hj : listed.getD j false = true) : listed.getD i false = true := by
  unfold needs at h
  cases ho : ops[j]? with
  | none => rw [ho] at h; cases h
  | some o =>
    rw [ho] at h
    simp only [Option.map_some, Option.getD_some, Array.any_eq_true, Bool.and_eq_true, beq_iff_eq] at h
    obtain ⟨k, hk, hb, hon⟩ := h
    have := hc j o ho hj o.after[k] (Array.getElem_mem hk) hb
    rwa [hon] at this

theorem unlisted {listed : Array Bool} {i : Nat} (h : listed.getD i true = false) : listed.getD i false = false := by
  rw [Array.getD_eq_getD_getElem?] at h ⊢
  cases hl : listed[i]? with
  | none => rw [hl] at h; cases h
  | some b => rw [hl] at h; exact h

theorem flag_set (listed : Array Bool) {i k : Nat} (h : i ≠ k) : (listed.setIfInBounds i true).getD k false = listed.getD k false := by
  rw [Array.getD_eq_getD_getElem?, Array.getD_eq_getD_getElem?, Array.getElem?_setIfInBounds_ne h]

/-- two facts of the world, each until its store has come up -/
def TwoS (i j : Nat) (p q : World → Prop) (listed : Array Bool) (w : World) : Prop := (listed.getD i false = true ∨ p w) ∧ (listed.getD j false = true ∨ q w)

theorem TwoS.set_ {i j k : Nat} {p q : World → Prop} (h1 : k ≠ i) (h2 : k ≠ j) (listed : Array Bool) (w : World) : TwoS i j p q (listed.setIfInBounds k true) w ↔ TwoS i j p q listed w := by
  unfold TwoS; rw [flag_set _ h1, flag_set _ h2]

theorem AtS.left {i j k : Nat} {p q : World → Prop} {w : World} (h : AtS md ops (TwoS i j p q) k w) (hn : needs md ops i k = true) : p w := by
  obtain ⟨listed, hc, hu, h1, _⟩ := h
  rcases h1 with h1 | h1
  · have := closed_needs hc hn h1
    rw [unlisted hu] at this; cases this
  · exact h1

theorem AtS.right {i j k : Nat} {p q : World → Prop} {w : World} (h : AtS md ops (TwoS i j p q) k w) (hn : needs md ops j k = true) : q w := by
  obtain ⟨listed, hc, hu, _, h1⟩ := h
  rcases h1 with h1 | h1
  · have := closed_needs hc hn h1
    rw [unlisted hu] at this; cases this
  · exact h1

end

theorem bals_sl {w : World} {B : Nat} {v : Value} {S : Lg.S} {ns : List ByteArray} {t : Int} (h : w.ownsRow B 3 1 v ns.length ((ns.map fun a => Lg.balAt S a t).flatMap intC)) : SlIn w v (fun k => v.ownBlock = some k) 1 intC (ns.map fun a => Lg.balAt S a t) := by
  refine SlIn.own (B := B) (e := 3) ?_ (fun x _ => rfl)
  rw [List.length_map]; exact h

/-- the arguments of these statements in memory -/
structure ArgsAt (w : World) (va vl : Value) (ns : List ByteArray) (bs : List (Lg.Bk × Value)) : Prop where
  a : SlOf w va 1 strC ns
  l : SlOf w vl 3 bookC bs
  p : ∀ q ∈ bs, SlOf w q.2 2 postC q.1.posts
theorem ArgsAt.below {w w' : World} {va vl : Value} {ns : List ByteArray} {bs : List (Lg.Bk × Value)} (h : ArgsAt w va vl ns bs) (hb : Below w.heap.size w w') : ArgsAt w' va vl ns bs :=
  ⟨h.a.below hb, h.l.below hb, fun q hq => (h.p q hq).below hb⟩

/-- the further booking joined to the others, in memory -/
theorem joined_sl {w : World} {B m : Nat} {v : Value} {x : Lg.Bk × Value} {bs : List (Lg.Bk × Value)} (hm : m = bs.length) (h : w.ownsRow B 36 3 v (1 + m) ([.string x.1.id, .int .i64 x.1.at_, x.2] ++ bs.flatMap bookC)) : SlOf w v 3 bookC (x :: bs) := by
  subst hm
  refine SlOf.own (B := B) (e := 36) ?_ (fun _ _ => rfl)
  rw [List.length_cons, Nat.add_comm, List.flatMap_cons]
  exact h

theorem few_tail {ns : List ByteArray} {x : Lg.Bk} {l : List Lg.Bk} (h : Lg.fewB ns (x :: l) = true) : Lg.fewB ns l = true ∧ x.id.size ≤ 60 ∧ (∀ p ∈ x.posts, p.1.size ≤ 60) := by
  obtain ⟨h1, h2, h3, h4⟩ := Lg.fewB_posts h
  refine ⟨?_, (h2 x List.mem_cons_self).1, (h2 x List.mem_cons_self).2.2⟩
  unfold Lg.fewB
  simp only [Bool.and_eq_true, List.all_eq_true, decide_eq_true_eq]
  refine ⟨⟨⟨h1, fun b hb => ?_⟩, h3⟩, by simp at h4; omega⟩
  unfold Lg.fewB at h
  simp only [Bool.and_eq_true, List.all_eq_true] at h
  exact h.1.1.2 b (List.mem_cons_of_mem _ hb)

/-- the arguments of a statement with a further booking -/
structure ArgsMore (w : World) (va vl : Value) (ns : List ByteArray) (bs : List (Lg.Bk × Value)) (x : Lg.Bk × Value) : Prop extends ArgsAt w va vl ns bs where
  x : SlOf w x.2 2 postC x.1.posts
  none_ : ∀ a n k, vl = .slice a n k → a = none → n = 0 ∧ k = 0
  room : bs.length * 48 ≤ 140737488351232

set_option maxRecDepth 100000 in
set_option maxHeartbeats 8000000 in
theorem undoes_law (w : World) (va vl : Value) (c : Nat) (ns : List ByteArray) (bs : List (Lg.Bk × Value)) (x : Lg.Bk × Value) (h : ArgsMore w va vl ns bs x) (hc : c < 65536) :
    Calls Tryd.prog 7 #[va, .int .u16 c, vl, bookV x] w (Gives (.bool true) w) := by
  have HA := hid h
  obtain ⟨i0, hi, hz0, hz1, hz2⟩ := info_parts Tryd.infoBk
  obtain ⟨aa, ca, rfl, a1, a2, a3⟩ := h.a
  obtain ⟨la, lc, rfl, l1, l2, l3⟩ := h.l
  obtain ⟨xa, xc, hxv, x1, x2, x3⟩ := h.x
  have HN := hid (h.none_ _ _ _ rfl)
  have hroom := h.room
  have HXV := hid hxv
  clear h a3 l3 x3
  unfold bookV
  rw [hxv]
  clear hxv
  obtain ⟨W0, hW0⟩ : ∃ W0, W0 = w.alloc (.cells #[.string x.1.id, .int .i64 x.1.at_, .slice xa x.1.posts.length xc] 36) := ⟨_, rfl⟩
  have hb0 : Below w.heap.size w W0 := by rw [hW0]; exact (Below.refl _ w).alloc (Nat.le_refl _) _
  have hs0 : W0.heap[w.heap.size]? = some (.cells #[.string x.1.id, .int .i64 x.1.at_, .slice xa x.1.posts.length xc] 36 (0, 0)) := by rw [hW0]; exact alloc_new w _
  have H0 := hid (And.intro hb0 hs0)
  have HHD := hid (head_true W0)
  clear hb0 hs0
  go_enter Tryd.func7, Tryd.ntmps7
  go_wp2_with fail
  rw [← hW0]
  clear hW0
  refine (HHD.out).mono ?_
  rintro e w1 ⟨rfl, hb1⟩
  have hB1 := Below.step H0.out.1 hb1
  have hs1 := (hb1.block _ (Array.getElem?_eq_some_iff.1 H0.out.2).1).trans H0.out.2
  have hq1 : w.heap.size < w1.heap.size := (Array.getElem?_eq_some_iff.1 hs1).1
  have q0 : w1.cell? ⟨w.heap.size, 0, none⟩ = some (.string x.1.id) := by simp [World.cell?, hs1]
  have q1 : w1.cell? ⟨w.heap.size, 1, none⟩ = some (.int .i64 x.1.at_) := by simp [World.cell?, hs1]
  have q2 : w1.cell? ⟨w.heap.size, 2, none⟩ = some (.slice xa x.1.posts.length xc) := by simp [World.cell?, hs1]
  have hown : (w1.alloc (.cells #[.string x.1.id, .int .i64 x.1.at_, .slice xa x.1.posts.length xc] 36)).ownsRow w1.heap.size 36 3 (.slice (some ⟨w1.heap.size, 0, none⟩) 1 1) 1 [.string x.1.id, .int .i64 x.1.at_, .slice xa x.1.posts.length xc] := World.ownsRow_lit w1 _ 1 (Nat.le_refl _) (by unfold maxLen; omega) rfl
  have hba : Below w1.heap.size w1 (w1.alloc (.cells #[.string x.1.id, .int .i64 x.1.at_, .slice xa x.1.posts.length xc] 36)) := (Below.refl _ w1).alloc (Nat.le_refl _) _
  have hnews : ∀ b, la = some b → ∀ j u, (bs.flatMap bookC)[j]? = some u → (w1.alloc (.cells #[.string x.1.id, .int .i64 x.1.at_, .slice xa x.1.posts.length xc] 36)).cell? (b.add j) = some u := by
    intro b hb j u hu
    have hl := (HA.out.l.below hB1).below hba
    obtain ⟨a', cap', e', _, _, h4⟩ := hl
    cases e'
    have hpos : 0 < bs.length := by
      cases bs with
      | nil => simp at hu
      | cons y l => simp
    obtain ⟨g, o, e2, hr⟩ := h4 hpos
    rw [hb] at e2
    cases e2
    exact flat_cells (cells := bookC) (sz := 3) (fun _ => rfl) hr j u hu
  have hone : ∀ u ∈ bs.flatMap bookC, u.oneCell' = true := book_one bs (fun q hq => by
    obtain ⟨a, k, e, _⟩ := HA.out.p q hq
    rw [e]; rfl)
  have HNW := hid hnews
  have HON := hid hone
  have HS1 := hid hs1
  have HB1 := hid hB1
  have HLN := hid (flat_len (cells := bookC) (sz := 3) bs (fun _ => rfl))
  clear hnews hone hs1 hb1 hB1
  go_wp2_with (at_builtin; refine wpList_append_join _ rfl _ _ 24 rfl w1.heap.size 36 i0 (.agg #[.string ⟨#[]⟩, .int .i64 0, .slice none 0 0]) 3 48 Tryd.underlying24 hi hz0 hz1 hz2 rfl (by decide) _ _ _ rfl hown la bs.length lc (bs.flatMap bookC) rfl HLN.out HN.out HNW.out HON.out (by unfold maxLen at l2 ⊢; omega) (by omega) (by simp) ?_; intro vj W2 hj hgj)
  have hB2 : Below w.heap.size w W2 := (HB1.out.trans (hba.mono HB1.out.size)).grown hgj (by simp; omega) (fun r e => by have e' : w1.heap.size = r := Option.some.inj e; omega)
  have hs2 : W2.heap[w.heap.size]? = some (.cells #[.string x.1.id, .int .i64 x.1.at_, .slice xa x.1.posts.length xc] 36 (0, 0)) :=
    (hgj.block _ (by simp; omega) (fun e => by have e' : w.heap.size = w1.heap.size := Option.some.inj e; omega)).trans ((Below.heap_alloc w1 _ _ hq1).trans HS1.out)
  have hsj := joined_sl (x := (x.1, .slice xa x.1.posts.length xc)) rfl hj
  have HFW := hid (few_any W2 _ vj ns ((x.1, .slice xa x.1.posts.length xc) :: bs) (HA.out.a.below hB2) hsj (fun q hq => by
    rcases List.mem_cons.1 hq with rfl | hq
    · have := HA.out.x.below hB2
      rw [HXV.out] at this
      exact this
    · exact (HA.out.p q hq).below hB2))
  have HB2 := hid hB2
  have HS2 := hid hs2
  have HAA := hid (ArgsAt.below HA.out.toArgsAt hB2)
  clear hj hgj hB2 hs2 hsj hown hba q0 q1 q2
  refine (HFW.out).mono ?_
  rintro e w2' ⟨rfl, rfl⟩
  rw [List.map_cons]
  cases hf : Lg.fewB ns (x.1 :: bs.map Prod.fst) with
  | false =>
    clear hf
    go_wp2_with fail
    go_ret
    exact ⟨rfl, HB2.out⟩
  | true =>
    obtain ⟨hf2, hxi, hxp⟩ := few_tail hf
    obtain ⟨f1, f2, f3, f4⟩ := Lg.fewB_posts hf
    have HFI := hid (filled_any w2' _ _ c ns bs HAA.out.a HAA.out.l HAA.out.p hf2 hc)
    have HF1 := hid f1
    have hbl : bs.length ≤ 39 := by simp at f4; omega
    clear hf hf2 f1 f2 f4
    go_wp2_with fail
    refine (HFI.out).mono ?_
    rintro e w3 ⟨p, O, rfl, hL, hb3, hO⟩
    obtain ⟨S, hS⟩ : ∃ S, S = Lg.filled ns (bitB c) (bs.map Prod.fst) := ⟨_, rfl⟩
    rw [← hS] at hL
    have hfl : S.books.length ≤ 39 := by
      have := Lg.filled_len ns (bitB c) (bs.map Prod.fst)
      rw [← hS, List.length_map] at this
      omega
    have HI := hid hL.inv
    have HL := hid (And.intro hL (And.intro hb3 hO))
    have HBA := hid (balances_any w3 p S O _ ns 144001439 hL (HAA.out.a.below hb3) HF1.out f3)
    clear hL hb3 hO hS
    go_wp2_with fail
    refine (HBA.out).mono ?_
    rintro e w4 ⟨vn, rfl, ho, hb4⟩
    have hlo := ho.lt
    have hsn := (bals_sl ho)
    obtain ⟨na, nc, hvn, n1, n2, n3⟩ := hsn.slOf
    rw [List.length_map] at hvn n1 n3
    have HSN := hid (hsn.mono (Q' := fun k => w3.heap.size ≤ k) (fun k hk _ => (hlo k hk).1))
    subst hvn
    have hB4 := Below.step (Below.step HB2.out HL.out.2.1) hb4
    have hs4 := ((Below.step HL.out.2.1 hb4).block _ (Array.getElem?_eq_some_iff.1 HS2.out).1).trans HS2.out
    have HBK := hid (book_any w4 p S O x.1 x.2 (HL.out.1.below hb4) (HA.out.x.below hB4) (by omega) (fun q hq => by have := hxp q hq; omega) (by omega))
    unfold bookV at HBK
    rw [HXV.out] at HBK
    have hq : w.heap.size < w4.heap.size := (Array.getElem?_eq_some_iff.1 hs4).1
    have q0 : w4.cell? ⟨w.heap.size, 0, none⟩ = some (.string x.1.id) := by simp [World.cell?, hs4]
    have q1 : w4.cell? ⟨w.heap.size, 1, none⟩ = some (.int .i64 x.1.at_) := by simp [World.cell?, hs4]
    have q2 : w4.cell? ⟨w.heap.size, 2, none⟩ = some (.slice xa x.1.posts.length xc) := by simp [World.cell?, hs4]
    have HB4 := hid hb4
    have HBW4 := hid hB4
    have HS4 := hid hs4
    clear ho hlo hsn n3 hb4 hB4 hs4
    go_wp2_with fail
    refine (HBK.out).mono ?_
    rintro e w6 ⟨rfl, O2, hL2, hT2, hO2⟩
    have hOw : ∀ y, O y → w2'.heap.size ≤ y := HL.out.2.2
    have hw2s : w.heap.size < w2'.heap.size := (Array.getElem?_eq_some_iff.1 HS2.out).1
    have hB6 : Below w.heap.size w w6 := HBW4.out.trans (hT2.below HBW4.out.size (fun y hy => by have := hOw y hy; omega))
    have hs6 := (hT2.block _ hq (fun e => by have := hOw _ e; omega)).trans HS4.out
    have H6 := hid (And.intro hL2 (And.intro hT2 (And.intro hO2 hB6)))
    have HS6 := hid hs6
    have hq6 : w.heap.size < w6.heap.size := (Array.getElem?_eq_some_iff.1 hs6).1
    clear q0 q1 q2 hL2 hT2 hO2 hB6 HBK
    have q0 : w6.cell? ⟨w.heap.size, 0, none⟩ = some (.string x.1.id) := by simp [World.cell?, hs6]
    have q1 : w6.cell? ⟨w.heap.size, 1, none⟩ = some (.int .i64 x.1.at_) := by simp [World.cell?, hs6]
    have q2 : w6.cell? ⟨w.heap.size, 2, none⟩ = some (.slice xa x.1.posts.length xc) := by simp [World.cell?, hs6]
    clear hs6
    by_cases hcz : Lg.code S x.1 = 0
    · rw [hcz]
      have HCZ := hid hcz
      clear hcz
      have hpl := Lg.formed_len (Lg.code_zero HCZ.out).1
      have hun := Lg.formed_units (Lg.code_zero HCZ.out).1
      obtain ⟨i1, hj1, hy0, hy1, hy2⟩ := info_parts Tryd.infoPost
      obtain ⟨Y, hY⟩ : ∃ Y, Y = w6.heap.size := ⟨_, rfl⟩
      obtain ⟨W7, hW7⟩ : ∃ W7, W7 = w6.alloc (.cells #[.string Lg.undo, .int .i64 x.1.at_, .slice none 0 0] 36) := ⟨_, rfl⟩
      have hb7 : Below w6.heap.size w6 W7 := by rw [hW7]; exact (Below.refl _ w6).alloc (Nat.le_refl _) _
      have hs7 : W7.heap[Y]? = some (.cells #[.string Lg.undo, .int .i64 x.1.at_, .slice none 0 0] 36 (0, 0)) := by rw [hW7, hY]; exact alloc_new w6 _
      have hz7 : W7.heap.size = Y + 1 := by rw [hW7, World.size_alloc, hY]
      have HZ7 := hid hz7
      have HW7 := hid hW7
      have HYY := hid hY
      have HB7 := hid (And.intro hb7 hs7)
      have hYw : w.heap.size < Y := by rw [hY]; exact hq6
      clear hb7 hs7 hz7 hW7 hY
      go_wp2_with fail
      rw [← HYY.out]
      go_loopw [13] (fun iv wr => ∃ (k : Nat) (vb : Value), k ≤ x.1.posts.length ∧ iv = .int .i64 k ∧ Hid (wr.heap[Y]? = some (.cells #[.string Lg.undo, .int .i64 x.1.at_, vb] 36 (0, 0))) ∧ Hid (wr.ownsRow (Y + 1) 47 2 vb k (((x.1.posts.take k).map fun q => (q.1, -q.2)).flatMap postC)) ∧ Hid (Tch (fun q => q = Y) W7 wr)) (fun iv _ => x.1.posts.length - (RowKit.intOf iv).toNat)
      case atStart =>
        rw [HYY.out]
        have h1 := HW7.out
        show ∃ k vb, _
        refine ⟨0, _, Nat.zero_le _, rfl, ?_, World.ownsRow_nil _ _ _ _, ?_⟩
        · have := HB7.out.2
          rw [HYY.out, h1] at this
          exact this
        · rw [h1]; exact Tch.refl _ _
      case round =>
        obtain ⟨k, vb, hk, rfl, HBC, HOW, HTC⟩ := hrel
        have hyz : Y < wr.heap.size := (Array.getElem?_eq_some_iff.1 HBC.out).1
        have hz7 : Y + 1 ≤ wr.heap.size := hyz
        have hwz : w.heap.size < wr.heap.size := by omega
        have b67 : ∀ W', Tch (fun q => q = Y) W7 W' → ∀ q, q < Y → W'.heap[q]? = w6.heap[q]? := fun W' ht q hq => by
          have h1 := HB7.out.1
          have h2 := HZ7.out
          have h3 := HYY.out
          exact (ht.block q (by omega) (fun e : q = Y => by omega)).trans (h1.block q (by omega))
        have B67 := hid b67
        have r2 : wr.cell? ⟨w.heap.size, 2, none⟩ = some (.slice xa x.1.posts.length xc) := by
          have := (b67 wr HTC.out _ hYw).trans HS6.out
          simp [World.cell?, this]
        have y1 : wr.cell? ⟨Y, 1, none⟩ = some (.int .i64 x.1.at_) := by simp [World.cell?, HBC.out]
        clear b67
        by_cases hlt : k < x.1.posts.length
        · obtain ⟨vba, vbc, rfl⟩ := ownsRow_slice HOW.out
          have y2 : wr.cell? ⟨Y, 2, none⟩ = some (.slice vba k vbc) := by simp [World.cell?, HBC.out]
          obtain ⟨g, o, hxa, hr⟩ : ∃ g o, xa = some ⟨g, o, none⟩ ∧ RowOf w g o 2 postC x.1.posts := by
            have h1 := HA.out.x
            rw [HXV.out] at h1
            obtain ⟨a', cap', e', _, _, h4⟩ := h1
            cases e'
            exact h4 (by omega)
          subst hxa
          obtain ⟨u, hu⟩ : ∃ u, x.1.posts[k]? = some u := ⟨_, List.getElem?_eq_getElem hlt⟩
          have hgw := hr.1
          have HKT : Hid (∀ W', Tch (fun q => q = Y) W7 W' → W'.cell? ⟨w.heap.size, 2, none⟩ = some (.slice (some ⟨g, o, none⟩) x.1.posts.length xc) ∧ W'.cell? ⟨g, o + k * 2, none⟩ = some (.string u.1) ∧ W'.cell? ⟨g, o + k * 2 + 1, none⟩ = some (.int .i64 u.2)) := by
            intro W' ht
            have h1 := (B67.out W' ht _ hYw).trans HS6.out
            have h2 := (hr.below H6.out.2.2.2).2 k u hu
            have h3 := fun j v hv => (World.cell?_of_block (a := ⟨g, o + k * 2 + j, none⟩) (B67.out W' ht g (by omega))).trans (h2 j v hv)
            exact ⟨by simp [World.cell?, h1], h3 0 _ rfl, h3 1 _ rfl⟩
          have hg : g < wr.heap.size := by omega
          have hk0 : (0 : Int) ≤ (k : Int) := by omega
          have hk1 : (k : Int) < (x.1.posts.length : Int) := by omega
          have huu := hun.2 u (List.mem_of_getElem? hu)
          have hneg : IntKind.i64.wrap (-u.2) = -u.2 := IntWalk.i64_in _ (by omega)
          obtain ⟨d2, d0, d1⟩ := HKT.out wr HTC.out
          have TD : Hid (Tch (fun q => q = Y) W7 wr.drew) := HTC.out.step (Below.refl _ wr).drew
          have TA : Hid (∀ z : Array Value, Tch (fun q => q = Y) W7 (wr.alloc (.cells z 47)).drew) := fun z => HTC.out.step ((Below.refl _ wr).alloc (Nat.le_refl _) _).drew
          have TR : Hid (∀ r, (Value.slice vba k vbc).ownBlock = some r → r = Y ∨ W7.heap.size ≤ r) := fun r e => by
            have := (HOW.out.lt r e).1
            have := HZ7.out
            exact .inr (by omega)
          have hownA := (HOW.out.alloc (.cells #[.string u.1, .int .i64 (-u.2)] 47)).drew
          have hnews : ∀ j v, ([.string u.1, .int .i64 (-u.2)] : List Value)[j]? = some v → (wr.alloc (.cells #[.string u.1, .int .i64 (-u.2)] 47)).drew.cell? ((⟨wr.heap.size, 0, none⟩ : Addr).add j) = some v := fun j v hv => by
            have hadd : (⟨wr.heap.size, 0, none⟩ : Addr).add j = ⟨wr.heap.size, j, none⟩ := by unfold Addr.add; split <;> simp_all
            have hh : (wr.alloc (.cells #[.string u.1, .int .i64 (-u.2)] 47)).drew.heap[wr.heap.size]? = some (.cells #[.string u.1, .int .i64 (-u.2)] 47 (0, 0)) := alloc_new wr _
            rw [hadd]; simp only [World.cell?, hh]; simpa using hv
          have hone2 : ∀ v ∈ ([.string u.1, .int .i64 (-u.2)] : List Value), v.oneCell' = true := fun v hv => by
            simp at hv; rcases hv with rfl | rfl <;> rfl
          have hnm : k + 1 ≤ maxLen := by unfold maxLen; omega
          have hnl : (k + 1) * 24 ≤ 140737488355328 := by omega
          have hbase : Y + 1 ≤ (wr.alloc (.cells #[.string u.1, .int .i64 (-u.2)] 47)).drew.heap.size := by
            show Y + 1 ≤ (wr.alloc _).heap.size
            rw [World.size_alloc]; omega
          have HFIN := hid (show ∀ g' cp w1, w1.ownsRow (Y + 1) 47 2 (.slice (some ⟨g', 0, none⟩) (k + 1) cp) (k + 1) (((x.1.posts.take k).map fun q => (q.1, -q.2)).flatMap postC ++ [.string u.1, .int .i64 (-u.2)]) → (wr.alloc (.cells #[.string u.1, .int .i64 (-u.2)] 47)).drew.grownBy w1 (Value.slice vba k vbc).ownBlock →
              w1.cell? ⟨Y, 2, none⟩ = some (.slice vba k vbc) ∧ w1.frozen? ⟨Y, 2, none⟩ = false ∧ Y < w1.heap.size ∧ (w1.setCell ⟨Y, 2, none⟩ (.slice (some ⟨g', 0, none⟩) (k + 1) cp)).heap[Y]? = some (.cells #[.string Lg.undo, .int .i64 x.1.at_, .slice (some ⟨g', 0, none⟩) (k + 1) cp] 36 (0, 0)) ∧
              (w1.setCell ⟨Y, 2, none⟩ (.slice (some ⟨g', 0, none⟩) (k + 1) cp)).ownsRow (Y + 1) 47 2 (.slice (some ⟨g', 0, none⟩) (k + 1) cp) (k + 1) (((x.1.posts.take (k + 1)).map fun q => (q.1, -q.2)).flatMap postC) ∧ Tch (fun q => q = Y) W7 (w1.setCell ⟨Y, 2, none⟩ (.slice (some ⟨g', 0, none⟩) (k + 1) cp)) from fun g' cp w1 ho hgr => by
            have h1 : w1.heap[Y]? = some (.cells #[.string Lg.undo, .int .i64 x.1.at_, .slice vba k vbc] 36 (0, 0)) := by
              refine (hgr.block Y (by show Y < (wr.alloc _).heap.size; rw [World.size_alloc]; omega) (fun e => ?_)).trans ((Below.heap_alloc wr _ Y hyz).trans HBC.out)
              have := (HOW.out.lt Y e.symm).1
              omega
            have hgY : Y + 1 ≤ g' := (ho.lt g' rfl).1
            refine ⟨by simp [World.cell?, h1], by simp [World.frozen?, h1], (Array.getElem?_eq_some_iff.1 h1).1, by simp [World.setCell, Array.getElem?_modify, h1], ?_, ((TA.out _).grown hgr TR.out).setCell (a := ⟨Y, 2, none⟩) (.inl rfl) _⟩
            have e : ((x.1.posts.take (k + 1)).map fun q => (q.1, -q.2)).flatMap postC = ((x.1.posts.take k).map fun q => (q.1, -q.2)).flatMap postC ++ [.string u.1, .int .i64 (-u.2)] := by
              rw [take_snoc hu, List.map_append, List.flatMap_append]
              simp [postC]
            rw [e]
            refine ownsRow_tch ho ((Tch.refl (fun q => q = Y) w1).setCell (a := ⟨Y, 2, none⟩) (.inl rfl) _) (fun q hq e => ?_)
            have := (ho.lt q hq).1
            omega)
          clear hr hu huu r2 y1
          go_upto_region 12 with (fail)
          refine wp_heldS (S := TwoS 19 19 (fun wx => wx.cell? ⟨Y, 2, none⟩ = some (.slice vba k vbc)) (fun wx => wx.cell? ⟨w.heap.size, 2, none⟩ = some (.slice (some ⟨g, o, none⟩) x.1.posts.length xc) ∧ wx.cell? ⟨g, o + k * 2, none⟩ = some (.string u.1) ∧ wx.cell? ⟨g, o + k * 2 + 1, none⟩ = some (.int .i64 u.2))) (by kernel_rfl) ?_
          simp only [List.size_toArray, List.length_cons, List.length_nil, Nat.reduceAdd]
          intro hc
          have S0 : TwoS 19 19 (fun wx => wx.cell? ⟨Y, 2, none⟩ = some (.slice vba k vbc)) (fun wx => wx.cell? ⟨w.heap.size, 2, none⟩ = some (.slice (some ⟨g, o, none⟩) x.1.posts.length xc) ∧ wx.cell? ⟨g, o + k * 2, none⟩ = some (.string u.1) ∧ wx.cell? ⟨g, o + k * 2 + 1, none⟩ = some (.int .i64 u.2)) (Array.replicate 20 false) wr.drew := ⟨.inr y2, .inr ⟨d2, d0, d1⟩⟩
          refine wpAnyS_take (i := 0) (v := .pointer (some ⟨Y, 2, none⟩)) rfl (by kernel_rfl) (by kernel_rfl) (by kernel_rfl) (fun _ _ _ h => h) (fun _ _ => TwoS.set_ (by decide) (by decide) _ _) hc (by simp [Region.wanted]) (fun wx hx => ?_) S0 (fun hc S0 => ?_)
          · go_simp
          simp only [List.getElem_toArray, List.getElem_cons_zero, Act.put, List.setIfInBounds_toArray, List.set_cons_zero, List.set_cons_succ]
          refine wpAnyS_take (i := 2) (v := .pointer (some ⟨w.heap.size, 2, none⟩)) rfl (by kernel_rfl) (by kernel_rfl) (by kernel_rfl) (fun _ _ _ h => h) (fun _ _ => TwoS.set_ (by decide) (by decide) _ _) hc (by simp [Region.wanted]) (fun wx hx => ?_) S0 (fun hc S0 => ?_)
          · go_simp
          simp only [List.getElem_toArray, List.getElem_cons_succ, List.getElem_cons_zero, Act.put, List.setIfInBounds_toArray, List.set_cons_zero, List.set_cons_succ]
          refine wpAnyS_take (i := 4) (v := .int .i64 k) rfl (by kernel_rfl) (by kernel_rfl) (by kernel_rfl) (fun _ _ _ h => h) (fun _ _ => TwoS.set_ (by decide) (by decide) _ _) hc (by simp [Region.wanted]) (fun wx hx => ?_) S0 (fun hc S0 => ?_)
          · go_simp
          simp only [List.getElem_toArray, List.getElem_cons_succ, List.getElem_cons_zero, Act.put, List.setIfInBounds_toArray, List.set_cons_zero, List.set_cons_succ]
          refine wpAnyS_take (i := 8) (v := .pointer (some ⟨w.heap.size, 2, none⟩)) rfl (by kernel_rfl) (by kernel_rfl) (by kernel_rfl) (fun _ _ _ h => h) (fun _ _ => TwoS.set_ (by decide) (by decide) _ _) hc (by simp [Region.wanted]) (fun wx hx => ?_) S0 (fun hc S0 => ?_)
          · go_simp
          simp only [List.getElem_toArray, List.getElem_cons_succ, List.getElem_cons_zero, Act.put, List.setIfInBounds_toArray, List.set_cons_zero, List.set_cons_succ]
          refine wpAnyS_take (i := 10) (v := .int .i64 k) rfl (by kernel_rfl) (by kernel_rfl) (by kernel_rfl) (fun _ _ _ h => h) (fun _ _ => TwoS.set_ (by decide) (by decide) _ _) hc (by simp [Region.wanted]) (fun wx hx => ?_) S0 (fun hc S0 => ?_)
          · go_simp
          simp only [List.getElem_toArray, List.getElem_cons_succ, List.getElem_cons_zero, Act.put, List.setIfInBounds_toArray, List.set_cons_zero, List.set_cons_succ]
          refine wpAnyS_take (i := 1) (v := .slice vba k vbc) rfl (by kernel_rfl) (by kernel_rfl) (by kernel_rfl) (fun _ _ _ h => h) (fun _ _ => TwoS.set_ (by decide) (by decide) _ _) hc (by simp [Region.wanted]) (fun wx hx => ?_) S0 (fun hc S0 => ?_)
          · have g1 := hx.left (by kernel_rfl)
            go_simp
          simp only [List.getElem_toArray, List.getElem_cons_succ, List.getElem_cons_zero, Act.put, List.setIfInBounds_toArray, List.set_cons_zero, List.set_cons_succ]
          refine wpAnyS_take (i := 3) (v := .slice (some ⟨g, o, none⟩) x.1.posts.length xc) rfl (by kernel_rfl) (by kernel_rfl) (by kernel_rfl) (fun _ _ _ h => h) (fun _ _ => TwoS.set_ (by decide) (by decide) _ _) hc (by simp [Region.wanted]) (fun wx hx => ?_) S0 (fun hc S0 => ?_)
          · obtain ⟨g1, g2, g3⟩ := hx.right (by kernel_rfl)
            go_simp
          simp only [List.getElem_toArray, List.getElem_cons_succ, List.getElem_cons_zero, Act.put, List.setIfInBounds_toArray, List.set_cons_zero, List.set_cons_succ]
          refine wpAnyS_take (i := 9) (v := .slice (some ⟨g, o, none⟩) x.1.posts.length xc) rfl (by kernel_rfl) (by kernel_rfl) (by kernel_rfl) (fun _ _ _ h => h) (fun _ _ => TwoS.set_ (by decide) (by decide) _ _) hc (by simp [Region.wanted]) (fun wx hx => ?_) S0 (fun hc S0 => ?_)
          · obtain ⟨g1, g2, g3⟩ := hx.right (by kernel_rfl)
            go_simp
          simp only [List.getElem_toArray, List.getElem_cons_succ, List.getElem_cons_zero, Act.put, List.setIfInBounds_toArray, List.set_cons_zero, List.set_cons_succ]
          refine wpAnyS_take (i := 5) (v := .pointer (some ⟨g, o + k * 2, none⟩)) rfl (by kernel_rfl) (by kernel_rfl) (by kernel_rfl) (fun _ _ _ h => h) (fun _ _ => TwoS.set_ (by decide) (by decide) _ _) hc (by simp [Region.wanted]) (fun wx hx => ?_) S0 (fun hc S0 => ?_)
          · go_simp
          simp only [List.getElem_toArray, List.getElem_cons_succ, List.getElem_cons_zero, Act.put, List.setIfInBounds_toArray, List.set_cons_zero, List.set_cons_succ]
          refine wpAnyS_take (i := 11) (v := .pointer (some ⟨g, o + k * 2, none⟩)) rfl (by kernel_rfl) (by kernel_rfl) (by kernel_rfl) (fun _ _ _ h => h) (fun _ _ => TwoS.set_ (by decide) (by decide) _ _) hc (by simp [Region.wanted]) (fun wx hx => ?_) S0 (fun hc S0 => ?_)
          · go_simp
          simp only [List.getElem_toArray, List.getElem_cons_succ, List.getElem_cons_zero, Act.put, List.setIfInBounds_toArray, List.set_cons_zero, List.set_cons_succ]
          refine wpAnyS_take (i := 6) (v := .pointer (some ⟨g, o + k * 2, none⟩)) rfl (by kernel_rfl) (by kernel_rfl) (by kernel_rfl) (fun _ _ _ h => h) (fun _ _ => TwoS.set_ (by decide) (by decide) _ _) hc (by simp [Region.wanted]) (fun wx hx => ?_) S0 (fun hc S0 => ?_)
          · go_simp
          simp only [List.getElem_toArray, List.getElem_cons_succ, List.getElem_cons_zero, Act.put, List.setIfInBounds_toArray, List.set_cons_zero, List.set_cons_succ]
          refine wpAnyS_take (i := 12) (v := .pointer (some ⟨g, o + k * 2 + 1, none⟩)) rfl (by kernel_rfl) (by kernel_rfl) (by kernel_rfl) (fun _ _ _ h => h) (fun _ _ => TwoS.set_ (by decide) (by decide) _ _) hc (by simp [Region.wanted]) (fun wx hx => ?_) S0 (fun hc S0 => ?_)
          · go_simp
          simp only [List.getElem_toArray, List.getElem_cons_succ, List.getElem_cons_zero, Act.put, List.setIfInBounds_toArray, List.set_cons_zero, List.set_cons_succ]
          refine wpAnyS_take (i := 7) (v := .string u.1) rfl (by kernel_rfl) (by kernel_rfl) (by kernel_rfl) (fun _ _ _ h => h) (fun _ _ => TwoS.set_ (by decide) (by decide) _ _) hc (by simp [Region.wanted]) (fun wx hx => ?_) S0 (fun hc S0 => ?_)
          · obtain ⟨g1, g2, g3⟩ := hx.right (by kernel_rfl)
            go_simp
          simp only [List.getElem_toArray, List.getElem_cons_succ, List.getElem_cons_zero, Act.put, List.setIfInBounds_toArray, List.set_cons_zero, List.set_cons_succ]
          refine wpAnyS_take (i := 13) (v := .int .i64 u.2) rfl (by kernel_rfl) (by kernel_rfl) (by kernel_rfl) (fun _ _ _ h => h) (fun _ _ => TwoS.set_ (by decide) (by decide) _ _) hc (by simp [Region.wanted]) (fun wx hx => ?_) S0 (fun hc S0 => ?_)
          · obtain ⟨g1, g2, g3⟩ := hx.right (by kernel_rfl)
            go_simp
          simp only [List.getElem_toArray, List.getElem_cons_succ, List.getElem_cons_zero, Act.put, List.setIfInBounds_toArray, List.set_cons_zero, List.set_cons_succ]
          refine wpAnyS_take (i := 14) (v := .int .i64 (-u.2)) rfl (by kernel_rfl) (by kernel_rfl) (by kernel_rfl) (fun _ _ _ h => h) (fun _ _ => TwoS.set_ (by decide) (by decide) _ _) hc (by simp [Region.wanted]) (fun wx hx => ?_) S0 (fun hc S0 => ?_)
          · go_simp
          simp only [List.getElem_toArray, List.getElem_cons_succ, List.getElem_cons_zero, Act.put, List.setIfInBounds_toArray, List.set_cons_zero, List.set_cons_succ]
          refine wpAnyS_take (i := 15) (v := .agg #[.string u.1, .int .i64 (-u.2)]) rfl (by kernel_rfl) (by kernel_rfl) (by kernel_rfl) (fun _ _ _ h => h) (fun _ _ => TwoS.set_ (by decide) (by decide) _ _) hc (by simp [Region.wanted]) (fun wx hx => ?_) S0 (fun hc S0 => ?_)
          · go_simp
          simp only [List.getElem_toArray, List.getElem_cons_succ, List.getElem_cons_zero, Act.put, List.setIfInBounds_toArray, List.set_cons_zero, List.set_cons_succ]
          refine wpAnyS_one (i := 16) rfl (by kernel_rfl) (by rfl) hc (fun K' hK => ?_)
          go_simp
          refine hK.out _ _ ⟨.inr ?_, .inr ?_⟩ (fun hc => ?_)
          · exact (World.cell?_alloc_lt _ _ _ hyz).trans y2
          · exact HKT.out _ (TA.out _)
          clear hK K'
          refine wpAnyS_law (i := 17) rfl (by kernel_rfl) hc (fun K' hK => ?_)
          refine step_append_lies _ rfl _ _ 34 rfl (Y + 1) 47 i1 (.agg #[.string ⟨#[]⟩, .int .i64 0]) 2 24 Tryd.underlying34 hj1 hy0 hy1 hy2 rfl (by decide) (.slice vba k vbc) k _ rfl hownA ⟨wr.heap.size, 0, none⟩ 1 1 [.string u.1, .int .i64 (-u.2)] rfl rfl hnews hone2 (by decide) hnm hnl hbase (wr.heap.size + 1) (by simp) ?_
          intro g' cp w1 hown1 hgrow hat hlt1
          obtain ⟨f1, f2, f3, f4⟩ := HFIN.out g' cp w1 hown1 hgrow
          refine hK.out _ _ ⟨.inr f1, .inr (HKT.out _ ((TA.out _).grown hgrow TR.out))⟩ (fun hc => ?_)
          clear hK K'
          simp only [List.getElem_toArray, List.getElem_cons_succ, List.getElem_cons_zero, Act.put, List.setIfInBounds_toArray, List.set_cons_zero, List.set_cons_succ]
          refine wpAnyS_one (i := 18) rfl (by kernel_rfl) (by rfl) hc (fun K' hK => ?_)
          go_simp
          refine hK.out _ _ ⟨.inr f1, .inr (HKT.out _ ((TA.out _).grown hgrow TR.out))⟩ (fun hc => ?_)
          clear hK K'
          refine wpAnyS_one (i := 19) rfl (by kernel_rfl) (by rfl) hc (fun K' hK => ?_)
          go_simp
          refine hK.out _ _ ⟨.inl rfl, .inl rfl⟩ (fun hc => ?_)
          clear hK K'
          refine wpAnyS_done (by kernel_rfl) ?_ _
          have H4 := hid f4
          clear f1 f2 f3 f4 hown1 hgrow hat hlt1 hownA hnews hone2 S0 hc
          go_wp2_with fail
          go_roundw
          case rel => exact ⟨k + 1, _, by omega, by go_num, H4.out.1, H4.out.2.1, H4.out.2.2⟩
          case measure => simp [RowKit.intOf]; omega
        · have hke : k = x.1.posts.length := by omega
          subst hke
          have htk : ((x.1.posts.take x.1.posts.length).map fun q => (q.1, -q.2)) = (Lg.back x.1).posts := by rw [List.take_length]; rfl
          have how := HOW.out
          rw [htk] at how
          obtain ⟨vba, vbc, hvb⟩ := ownsRow_slice how
          have hbk : wr.heap[Y]? = some (.cells #[.string Lg.undo, .int .i64 x.1.at_, .slice vba x.1.posts.length vbc] 36 (0, 0)) := by rw [← hvb]; exact HBC.out
          have hlen : (Lg.back x.1).posts.length = x.1.posts.length := by unfold Lg.back; simp
          have hsb : SlIn wr (.slice vba x.1.posts.length vbc) (fun k => Y < k) 2 postC (Lg.back x.1).posts := by
            rw [← hvb]
            rw [← hlen] at how
            exact (SlIn.own how (fun _ _ => rfl)).mono (fun k hk _ => (how.lt k hk).1)
          -- the ledger stands where it stood
          have hO2Y : ∀ y, O2 y → y < Y := fun y hy => by have := H6.out.1.lt hy; have := HYY.out; omega
          have hLr : Led wr p (Lg.book S x.1) O2 := ((H6.out.1.below HB7.out.1).tch HTC.out (fun y hy e => by have := hO2Y y hy; omega))
          have hBw : Below w.heap.size w wr := H6.out.2.2.2.trans ((HTC.out.below (show w.heap.size ≤ W7.heap.size by have := HZ7.out; omega) (fun q (e : q = Y) => by omega)).trans (Below.refl _ _) |> fun h => (HB7.out.1.mono (by have := HYY.out; omega)).trans h)
          have HSB := hid hsb
          have HBKK := hid hbk
          have HLR := hid hLr
          have HBW := hid hBw
          have HLI := hid (list_any wr p _ O2 hLr)
          clear how hbk hsb hLr hBw hvb htk y1 HBC HOW
          go_wp2_with fail
          refine (HLI.out).mono ?_
          rintro e w8 ⟨vall, cs, rfl, hcs, hrow, -, hb8⟩
          have hsl := (SlIn.own hrow (fun _ _ => rfl)).slOf
          obtain ⟨ya, yc, hye, z1, z2, z3⟩ := hsl
          subst hye
          have HZ3 := hid z3
          have HCS := hid hcs
          have HB8 := hid hb8
          have hbk8 := (hb8.block Y hyz).trans HBKK.out
          have hyz8 : Y < w8.heap.size := Nat.lt_of_lt_of_le hyz hb8.size
          have HBK8 := hid hbk8
          have hcl : cs.length ≤ 1000000 := by
            have h1 : cs.length = (Lg.book S x.1).books.length := by rw [← hcs, List.length_map]
            have h2 := H6.out.1.inv.fewB
            omega
          have HCB := hid (Lg.code_back HI.out HCZ.out (by omega))
          clear hcs hrow hb8 z3 hbk8
          go_wp2_with fail
          go_loopw [15] (fun iv wx => ∃ j : Nat, j ≤ cs.length ∧ iv = .int .i64 j ∧ Hid (Below w8.heap.size w8 wx) ∧ Hid (∀ z ∈ (cs.map Prod.fst).take j, z.id ≠ Lg.undo)) (fun iv _ => cs.length - (RowKit.intOf iv).toNat)
          case atStart => exact ⟨0, Nat.zero_le _, rfl, Below.refl _ _, by simp [Hid]⟩
          case round =>
            obtain ⟨j, hj, rfl, HWX, HNO⟩ := hrel
            have HB8r := hid (Below.step HB8.out HWX.out)
            have hbk8r := (HWX.out.block Y hyz8).trans HBK8.out
            have HBK8r := hid hbk8r
            have hyzr : Y < wr.heap.size := Nat.lt_of_lt_of_le hyz8 HWX.out.size
            clear hbk8r
            have b0 : wr.cell? ⟨Y, 0, none⟩ = some (.string Lg.undo) := by simp [World.cell?, HBK8r.out]
            have b1 : wr.cell? ⟨Y, 1, none⟩ = some (.int .i64 x.1.at_) := by simp [World.cell?, HBK8r.out]
            have b2 : wr.cell? ⟨Y, 2, none⟩ = some (.slice vba x.1.posts.length vbc) := by simp [World.cell?, HBK8r.out]
            have hpb : ∀ q ∈ (Lg.back x.1).posts, q.1.size ≤ 5000 := fun q hq => by
              unfold Lg.back at hq
              obtain ⟨u, hu, rfl⟩ := List.mem_map.1 hq
              have := hxp u hu
              simp only; omega
            have HB2K := hid (show Calls Tryd.prog 15 #[.pointer (some ⟨p, 0, none⟩), .agg #[.string Lg.undo, .int .i64 x.1.at_, .slice vba x.1.posts.length vbc]] wr (LPost p O2 wr (.int .i64 (Lg.code (Lg.book S x.1) (Lg.back x.1))) (Lg.book (Lg.book S x.1) (Lg.back x.1))) from
              book_any wr p (Lg.book S x.1) O2 (Lg.back x.1) (.slice vba x.1.posts.length vbc) (HLR.out.below HB8r.out) (HSB.out.slOf.below HB8r.out) (by show Lg.undo.size ≤ 5000; decide) hpb (by have := Lg.book_len S x.1; omega))
            have hBr := HBW.out.trans (HB8r.out.mono HBW.out.size)
            have HBR := hid hBr
            clear hpb hBr
            by_cases hlt : j < cs.length
            · obtain ⟨q, hq⟩ : ∃ q, cs[j]? = some q := ⟨_, List.getElem?_eq_getElem hlt⟩
              obtain ⟨g, o, hya, hr⟩ := HZ3.out (by omega)
              subst hya
              have e0 := (hr.below HWX.out).2 j q hq 0 _ rfl
              rw [Nat.add_zero] at e0
              have hg := (hr.below HWX.out).1
              have hj0 : (0 : Int) ≤ (j : Int) := by omega
              have hj1 : (j : Int) < (cs.length : Int) := by omega
              have hlb := list_beq q.1.id ⟨#[117, 110, 100, 111]⟩
              rw [show (⟨#[117, 110, 100, 111]⟩ : ByteArray).toList = [117, 110, 100, 111] by rw [ByteArray.toList_eq]] at hlb
              have hqm : (cs.map Prod.fst)[j]? = some q.1 := by rw [List.getElem?_map, hq]; rfl
              have HQM := hid hqm
              clear hr hq hqm
              by_cases hqu : q.1.id = ⟨#[117, 110, 100, 111]⟩
              · rw [decide_eq_true hqu] at hlb
                have hc9 : Lg.code (Lg.book S x.1) (Lg.back x.1) = 9 := by
                  rw [HCB.out, if_pos]
                  rw [List.any_eq_true]
                  exact ⟨q.1, by rw [← HCS.out]; exact List.mem_of_getElem? HQM.out, by rw [decide_eq_true_eq]; exact hqu⟩
                have HC9 := hid hc9
                clear hqu hc9
                go_wp2_with fail
                refine (HB2K.out).mono ?_
                rintro e w9 ⟨rfl, O3, hL3, hT3, hO3⟩
                rw [HC9.out]
                have hB9 : Below w.heap.size w w9 := HBR.out.trans (hT3.below HBR.out.size (fun y hy => by
                  rcases H6.out.2.2.1 y hy with h | h
                  · have := hOw y h; omega
                  · omega))
                have HB9 := hid hB9
                clear hL3 hT3 hO3 hB9
                go_wp2_with fail
                go_ret
                exact ⟨rfl, HB9.out⟩
              · rw [decide_eq_false hqu] at hlb
                have HQU := hid hqu
                clear hqu
                go_wp2_with fail
                go_roundw
                case rel =>
                  refine ⟨j + 1, by omega, by go_num, HWX.out, fun z hz => ?_⟩
                  rw [take_snoc HQM.out] at hz
                  rcases List.mem_append.1 hz with hz | hz
                  · exact HNO.out z hz
                  · simp at hz; subst hz; exact HQU.out
                case measure => simp [RowKit.intOf]; omega
            · have hc0 : Lg.code (Lg.book S x.1) (Lg.back x.1) = 0 := by
                rw [HCB.out, if_neg]
                rw [Bool.not_eq_true, List.any_eq_false]
                intro z hz
                rw [decide_eq_true_eq]
                refine HNO.out z ?_
                rw [List.take_of_length_le (by rw [List.length_map]; omega), HCS.out]
                exact hz
              have HC0 := hid hc0
              clear hc0
              go_wp2_with fail
              refine (HB2K.out).mono ?_
              rintro e w9 ⟨rfl, O3, hL3, hT3, hO3⟩
              rw [HC0.out]
              have hO2w : ∀ y, O2 y → w.heap.size ≤ y := fun y hy => by
                rcases H6.out.2.2.1 y hy with h | h
                · have := hOw y h; omega
                · omega
              have hB9 : Below w.heap.size w w9 := HBR.out.trans (hT3.below HBR.out.size hO2w)
              have HB9 := hid hB9
              have HT3 := hid hT3
              have HBA2 := hid (balances_any w9 p _ O3 _ ns 144001439 hL3 (HA.out.a.below hB9) HF1.out f3)
              clear hL3 hT3 hO3 hB9
              go_wp2_with fail
              refine (HBA2.out).mono ?_
              rintro e w10 ⟨vm, rfl, ho, hb10⟩
              have hsm := (bals_sl ho).slOf
              obtain ⟨ma, mc, hmv, m1, m2, m3⟩ := hsm
              rw [List.length_map] at hmv m1 m3
              subst hmv
              have HM3 := hid m3
              have HB10 := hid (HB9.out.trans (hb10.mono HB9.out.size))
              have HE := hid (show (ns.map fun a => Lg.balAt (Lg.book (Lg.book S x.1) (Lg.back x.1)) a 144001439) = ns.map fun a => Lg.balAt S a 144001439 from List.map_congr_left fun a _ => Lg.bal_undone HI.out HCZ.out HC0.out a)
              -- the old balances stand
              have hold : SlIn w10 (.slice na ns.length nc) (fun k => w3.heap.size ≤ k) 1 intC (ns.map fun a => Lg.balAt S a 144001439) := by
                obtain ⟨a', cap', e', q1', q2', q3'⟩ := HSN.out
                refine ⟨a', cap', e', q1', q2', fun hp => ?_⟩
                obtain ⟨g4, o4, ha4, hge, hr4⟩ := q3' hp
                refine ⟨g4, o4, ha4, hge, ?_⟩
                have h4lt := hr4.1
                have hn1 : ¬ O g4 := fun e => by have := HL.out.1.lt e; omega
                have r6 := hr4.tch H6.out.2.1 hn1
                have r7 := r6.below HB7.out.1
                have hY6 := HYY.out
                have hsz6 := H6.out.2.1.size
                have r8 := r7.tch HTC.out (fun e : g4 = Y => by omega)
                have r9 := (r8.below HB8r.out).tch HT3.out (fun e => by
                  rcases H6.out.2.2.1 g4 e with h | h
                  · exact hn1 h
                  · omega)
                exact r9.below hb10
              have HOLD := hid hold
              clear ho hb10 m3 hold
              go_wp2_with fail
              go_loopw [17] (fun iv wx => ∃ k : Nat, k ≤ ns.length ∧ iv = .int .i64 k ∧ Hid (Below w10.heap.size w10 wx)) (fun iv _ => ns.length - (RowKit.intOf iv).toNat)
              case atStart => exact ⟨0, Nat.zero_le _, rfl, Below.refl _ _⟩
              case round =>
                obtain ⟨k, hk, rfl, HBX⟩ := hrel
                by_cases hlt : k < ns.length
                · obtain ⟨a, ha⟩ : ∃ a, ns[k]? = some a := ⟨_, List.getElem?_eq_getElem hlt⟩
                  have hmx : (ns.map fun a => Lg.balAt S a 144001439)[k]? = some (Lg.balAt S a 144001439) := by rw [List.getElem?_map, ha]; rfl
                  obtain ⟨bv, hbv⟩ : ∃ bv, bv = Lg.balAt S a 144001439 := ⟨_, rfl⟩
                  rw [← hbv] at hmx
                  obtain ⟨g2, o2, hnv, hr2⟩ := HM3.out (by omega)
                  subst hnv
                  have c0 := (hr2.below HBX.out).2 k bv (by rw [HE.out]; exact hmx) 0 _ rfl
                  rw [Nat.add_zero, Nat.mul_one] at c0
                  have hg := (hr2.below HBX.out).1
                  obtain ⟨a', cap', e', _, _, h4⟩ := HOLD.out.below HBX.out
                  rw [List.length_map] at e' h4
                  cases e'
                  obtain ⟨g4, o4, hnv4, -, hr4⟩ := h4 (by omega)
                  subst hnv4
                  have d0 := hr4.2 k bv hmx 0 _ rfl
                  rw [Nat.add_zero, Nat.mul_one] at d0
                  have hg4 := hr4.1
                  have hk0 : (0 : Int) ≤ (k : Int) := by omega
                  have hk1 : (k : Int) < (ns.length : Int) := by omega
                  have hne : (bv != bv) = false := by simp
                  clear hr2 hr4 h4 hmx ha hbv
                  go_wp2_with fail
                  go_region
                  go_wp2_with fail
                  go_roundw
                  case rel => exact ⟨k + 1, by omega, by go_num, HBX.out.drew⟩
                  case measure => simp [RowKit.intOf]; omega
                · go_wp2_with fail
                  go_ret
                  exact ⟨rfl, HB10.out.trans (HBX.out.mono HB10.out.size)⟩
    · have hcb : (Lg.code S x.1 != 0) = true := by simpa using hcz
      clear hcz
      go_wp2_with fail
      go_ret
      exact ⟨rfl, H6.out.2.2.2⟩

end Go.Proofs.YtfkcphflcmpenaaDoor
