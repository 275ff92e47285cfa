/-
  list.Parse. Conditions: lengths; the library's tables.
-/
import Derived.Test.YtidkmhokolknbaaGreatDoorZLiPb
import Derived.Test.YtidkmhokolknbaaGreatDoorZLiT3
namespace Li

theorem lexN_len : ∀ (f cnt : Nat) (s : List UInt8) (l : List (Nat × Lx.Tk)), Lx.lexN f cnt s = .ok l → l.length ≤ f
  | 0, cnt, s, l, h => by simp [Lx.lexN] at h; subst h; simp
  | f + 1, cnt, s, l, h => by
    rw [Lx.lexN] at h
    split at h
    · simp at h; subst h; simp
    · rename_i c r hs
      split at h
      · simp at h
      · rename_i t ht
        split at h
        · simp at h
        · cases hr : Lx.lexN f (cnt + 1) ((c :: r).drop t.width) with
          | error e => rw [hr] at h; simp [Lx.shiftR] at h
          | ok m =>
            rw [hr] at h
            simp only [Lx.shiftR, Except.ok.injEq] at h
            have := lexN_len f _ _ _ hr
            rw [← h]
            simp [Lx.shift]; omega
theorem lex_len {s : List UInt8} {l : List (Nat × Lx.Tk)} {x y : Int} (h : Lx.lex s = (l, x, y)) : l.length ≤ s.length + 1 := by
  unfold Lx.lex at h
  split at h
  · simp at h; rw [h.1]; simp
  · cases hx : Lx.lx 0 s with
    | error e => rw [hx] at h; simp at h; rw [h.1]; simp
    | ok m =>
      rw [hx] at h
      simp at h
      rw [← h.1]
      exact lexN_len _ _ _ _ hx
theorem toksP_snoc : ∀ (l : List Lx.Tk) (c c1 c2 : Ch) (t : Lx.Tk), toksP c l = some c1 → tokP c1 t = some c2 → toksP c (l ++ [t]) = some c2
  | [], c, c1, c2, t, h1, h2 => by
    cases h1
    show (match tokP c t with | none => none | some c' => toksP c' []) = _
    rw [h2]
    rfl
  | a :: l, c, c1, c2, t, h1, h2 => by
    rw [List.cons_append, toksP]
    rw [toksP] at h1
    cases ha : tokP c a with
    | none => rw [ha] at h1; cases h1
    | some c' => rw [ha] at h1; exact toksP_snoc l c' c1 c2 t h1 h2
theorem toksP_bad : ∀ (l : List Lx.Tk) (c c1 : Ch) (t : Lx.Tk) (r : List Lx.Tk), toksP c l = some c1 → tokP c1 t = none → toksP c (l ++ t :: r) = none
  | [], c, c1, t, r, h1, h2 => by
    cases h1
    rw [List.nil_append, toksP, h2]
  | a :: l, c, c1, t, r, h1, h2 => by
    rw [List.cons_append, toksP]
    rw [toksP] at h1
    cases ha : tokP c a with
    | none => rfl
    | some c' => rw [ha] at h1; exact toksP_bad l c' c1 t r h1 h2
theorem tokP_id {c c' : Ch} {t : Lx.Tk} (h : tokP c t = some c') : c'.id = c.id ∧ c'.kind = c.kind ∧ (c'.en.id = c.en.id ∨ c'.en.id = c.id) := by
  unfold tokP at h
  split at h
  · cases h; exact ⟨rfl, rfl, .inl rfl⟩
  · split at h
    · cases hn : nameP t.text with
      | none => rw [hn] at h; cases h
      | some n => rw [hn] at h; cases h; exact ⟨rfl, rfl, .inr rfl⟩
    · cases h; exact ⟨rfl, rfl, .inl rfl⟩

end Li
namespace Go.Proofs.YtidkmhokolknbaaGreatDoor
open Go.RowKit Go.Lib Go.Maps

theorem kinds_idx (x : List UInt8) : max 0 (Lib.idxOfS [⟨#[]⟩, ⟨#[97, 100, 100]⟩, ⟨#[114, 101, 109, 111, 118, 101]⟩, ⟨#[99, 111, 114, 114, 101, 99, 116]⟩, ⟨#[118, 111, 105, 100]⟩] (bs x)) = Li.kindOf x := by
  have e : ∀ a : List UInt8, ((⟨a.toArray⟩ : ByteArray) = bs x) = (x = a) := fun a => by
    rw [show (⟨a.toArray⟩ : ByteArray) = bs a from rfl, bs_iff]
    exact propext eq_comm
  unfold Lib.idxOfS
  simp only [Lib.idxFromS]
  rw [show (⟨#[]⟩ : ByteArray) = ⟨([] : List UInt8).toArray⟩ from rfl, show (⟨#[97, 100, 100]⟩ : ByteArray) = ⟨Li.wAdd.toArray⟩ from rfl, show (⟨#[114, 101, 109, 111, 118, 101]⟩ : ByteArray) = ⟨Li.wRemove.toArray⟩ from rfl, show (⟨#[99, 111, 114, 114, 101, 99, 116]⟩ : ByteArray) = ⟨Li.wCorrect.toArray⟩ from rfl, show (⟨#[118, 111, 105, 100]⟩ : ByteArray) = ⟨Li.wVoid.toArray⟩ from rfl]
  simp only [e]
  unfold Li.kindOf
  by_cases h0 : x = []
  · subst h0; decide
  · rw [if_neg h0]
    by_cases h1 : x = Li.wAdd
    · rw [if_pos h1, if_pos h1]; decide
    · rw [if_neg h1, if_neg h1]
      by_cases h2 : x = Li.wRemove
      · rw [if_pos h2, if_pos h2]; decide
      · rw [if_neg h2, if_neg h2]
        by_cases h3 : x = Li.wCorrect
        · rw [if_pos h3, if_pos h3]; decide
        · rw [if_neg h3, if_neg h3]
          by_cases h4 : x = Li.wVoid
          · rw [if_pos h4, if_pos h4]; decide
          · rw [if_neg h4, if_neg h4]; decide

theorem kinds_max (x : List UInt8) {ix : Int} (h : ix = Lib.idxOfS [⟨#[]⟩, ⟨#[97, 100, 100]⟩, ⟨#[114, 101, 109, 111, 118, 101]⟩, ⟨#[99, 111, 114, 114, 101, 99, 116]⟩, ⟨#[118, 111, 105, 100]⟩] (bs x)) : max 0 ix = Li.kindOf x := by
  rw [← kinds_idx, ← h]
theorem tk_len {t : Lx.Tk} (h : Lx.TokOK t) : t.text.length ≤ 400 := by
  rcases h with ⟨_, _, h, _⟩ | ⟨_, _, h, _⟩ | ⟨_, _, h, _⟩ | ⟨_, _, c, ⟨h, _⟩ | ⟨h, _⟩⟩
  · omega
  · omega
  · exact h
  · rw [h]; simp
  · rw [h]; simp

theorem Tryz.infoName : (Tryz.prog.info? 73).map (fun i => (i.zero, i.size, i.bytes)) = some (some (.agg #[.int .i64 0, .slice none 0 0]), 2, 32) := by kernel_rfl

/-- names of the call's own -/
def NmOwn (B : Nat) (W : World) (v : Value) (l : List (Li.Nm × Value)) : Prop :=
  W.ownsRow B 73 2 v l.length (l.flatMap nmC) ∧ ∀ p ∈ l, W.ownsRow B 9 1 p.2 p.1.words.length (p.1.words.flatMap strC) ∧ shortN p.1
theorem NmOwn.below {B : Nat} {W W' : World} {v : Value} {l : List (Li.Nm × Value)} (h : NmOwn B W v l) (hb : Below W.heap.size W W') : NmOwn B W' v l :=
  ⟨ownsRow_below h.1 hb, fun p hp => ⟨ownsRow_below (h.2 p hp).1 hb, (h.2 p hp).2⟩⟩
theorem NmOwn.nms {B : Nat} {W : World} {v : Value} {l : List (Li.Nm × Value)} (h : NmOwn B W v l) : NmsIn W v (l.map Prod.fst) :=
  ⟨l, rfl, SlOf.own h.1 (fun _ _ => rfl), fun p hp => SlOf.own (h.2 p hp).1 (fun _ _ => rfl), fun p hp => (h.2 p hp).2⟩

/-- a change's five cells are stored -/
theorem ch_stored {W : World} {D : Nat} {a0 a1 a2 a3 a4 : Value} (b0 b1 b2 b3 b4 : Value) (h : W.heap[D]? = some (.cells #[a0, a1, a2, a3, a4] 27 (0, 0))) :
    (((((W.setCell ⟨D, 0, none⟩ b0).setCell ⟨D, 1, none⟩ b1).setCell ⟨D, 2, none⟩ b2).setCell ⟨D, 3, none⟩ b3).setCell ⟨D, 4, none⟩ b4).heap[D]? = some (.cells #[b0, b1, b2, b3, b4] 27 (0, 0)) ∧
    ∀ q, q ≠ D → (((((W.setCell ⟨D, 0, none⟩ b0).setCell ⟨D, 1, none⟩ b1).setCell ⟨D, 2, none⟩ b2).setCell ⟨D, 3, none⟩ b3).setCell ⟨D, 4, none⟩ b4).heap[q]? = W.heap[q]? := by
  refine ⟨by simp [World.setCell, Array.getElem?_modify, h], fun q hq => ?_⟩
  rw [Below.heap_setCell _ ⟨D, 4, none⟩ _ q hq, Below.heap_setCell _ ⟨D, 3, none⟩ _ q hq, Below.heap_setCell _ ⟨D, 2, none⟩ _ q hq, Below.heap_setCell _ ⟨D, 1, none⟩ _ q hq, Below.heap_setCell _ ⟨D, 0, none⟩ _ q hq]
theorem ch_below {n : Nat} {w W : World} {D : Nat} (b0 b1 b2 b3 b4 : Value) (h : Below n w W) (hD : n ≤ D) : Below n w (((((W.setCell ⟨D, 0, none⟩ b0).setCell ⟨D, 1, none⟩ b1).setCell ⟨D, 2, none⟩ b2).setCell ⟨D, 3, none⟩ b3).setCell ⟨D, 4, none⟩ b4) :=
  ((((h.setCell (p := ⟨D, 0, none⟩) hD _).setCell (p := ⟨D, 1, none⟩) hD _).setCell (p := ⟨D, 2, none⟩) hD _).setCell (p := ⟨D, 3, none⟩) hD _).setCell (p := ⟨D, 4, none⟩) hD _
theorem ch_load {W : World} {D : Nat} {a0 a1 a2 a3 a4 : Value} (h : W.heap[D]? = some (.cells #[a0, a1, a2, a3, a4] 27 (0, 0))) : (loadVar 27 ⟨D, 0, none⟩).run Tryz.prog W = .ok (.agg #[a0, a1, a2, a3, a4]) W :=
  run_loadVar_row W D _ 27 _ _ _ h Tryz.underlying27 rfl (by kernel_rfl)
/-- the cells of a box of five -/
theorem ch_cells {W : World} {D : Nat} {a0 a1 a2 a3 a4 : Value} (h : W.heap[D]? = some (.cells #[a0, a1, a2, a3, a4] 27 (0, 0))) :
    (W.cell? ⟨D, 0, none⟩ = some a0 ∧ W.cell? ⟨D, 1, none⟩ = some a1 ∧ W.cell? ⟨D, 2, none⟩ = some a2 ∧ W.cell? ⟨D, 3, none⟩ = some a3 ∧ W.cell? ⟨D, 4, none⟩ = some a4) ∧ (W.frozen? ⟨D, 0, none⟩ = false ∧ W.frozen? ⟨D, 1, none⟩ = false ∧ W.frozen? ⟨D, 2, none⟩ = false ∧ W.frozen? ⟨D, 3, none⟩ = false ∧ W.frozen? ⟨D, 4, none⟩ = false) ∧ D < W.heap.size :=
  ⟨⟨by simp [World.cell?, h], by simp [World.cell?, h], by simp [World.cell?, h], by simp [World.cell?, h], by simp [World.cell?, h]⟩, ⟨by simp [World.frozen?, h], by simp [World.frozen?, h], by simp [World.frozen?, h], by simp [World.frozen?, h], by simp [World.frozen?, h]⟩, (Array.getElem?_eq_some_iff.1 h).1⟩

/-- between two rounds of Parse: the change so far -/
def PaW (w1 W : World) (p : Nat) (c : Li.Ch) (u : Value) (ps : List (Li.Nm × Value)) : Prop :=
  ps.map Prod.fst = c.en.names ∧ W.heap[p]? = some (.cells #[.int .i64 c.kind, .string (bs c.id), .string (bs c.en.id), u, .int .i64 c.at_] 27 (0, 0)) ∧ NmOwn w1.heap.size W u ps ∧ Below w1.heap.size w1 W ∧ w1.heap.size ≤ p
theorem PaW.step {w1 W W' : World} {p : Nat} {c : Li.Ch} {u : Value} {ps : List (Li.Nm × Value)} (h : PaW w1 W p c u ps) (hb : Below W.heap.size W W') : PaW w1 W' p c u ps :=
  ⟨h.1, (hb.block _ (Array.getElem?_eq_some_iff.1 h.2.1).1).trans h.2.1, h.2.2.1.below hb, Below.step h.2.2.2.1 hb, h.2.2.2.2⟩
theorem set_grown_p (w : World) (B o : Nat) (u : Value) : w.grownBy (w.setCell ⟨B, o, none⟩ u) (some B) :=
  ⟨rfl, rfl, rfl, by simp [World.setCell], fun k _ hk => Below.heap_setCell w ⟨B, o, none⟩ u k (fun e => hk (by rw [e]))⟩
theorem own_set {W : World} {B : Nat} {e : TypeId} {z : Nat} {v : Value} {n : Nat} {xs : List Value} {p : Nat} {cs : Array Value} {t : TypeId} (i : Nat) (x : Value) (h : W.ownsRow B e z v n xs) (hp : W.heap[p]? = some (.cells cs t (0, 0))) (hne : e ≠ t) : (W.setCell ⟨p, i, none⟩ x).ownsRow B e z v n xs := by
  refine h.kept (set_grown_p W p i x) ?_
  cases hv : v.ownBlock with
  | none => exact .inl rfl
  | some q =>
    refine .inr (fun e2 => ?_)
    cases e2
    obtain ⟨_, cs2, h3⟩ := own_cells h hv
    rw [hp] at h3
    cases h3
    exact hne rfl
theorem NmOwn.set {B : Nat} {W : World} {v : Value} {l : List (Li.Nm × Value)} {p : Nat} {cs : Array Value} (i : Nat) (x : Value) (h : NmOwn B W v l) (hp : W.heap[p]? = some (.cells cs 27 (0, 0))) : NmOwn B (W.setCell ⟨p, i, none⟩ x) v l :=
  ⟨own_set i x h.1 hp (by decide), fun q hq => ⟨own_set i x (h.2 q hq).1 hp (by decide), (h.2 q hq).2⟩⟩
/-- the instant is set -/
theorem PaW.at_ {w1 W : World} {p : Nat} {c : Li.Ch} {u : Value} {ps : List (Li.Nm × Value)} (h : PaW w1 W p c u ps) (a : Int) : PaW w1 (W.setCell ⟨p, 4, none⟩ (.int .i64 a)) p { c with at_ := a } u ps := by
  obtain ⟨h1, h2, h3, h4, h5⟩ := h
  exact ⟨h1, by simp [World.setCell, Array.getElem?_modify, h2], h3.set 4 _ h2, h4.setCell (p := ⟨p, 4, none⟩) h5 _, h5⟩
/-- a name more -/
theorem PaW.append {w1 W X w8 : World} {p : Nat} {c : Li.Ch} {u v8 nv : Value} {ps : List (Li.Nm × Value)} {nm : Li.Nm} (h : PaW w1 W p c u ps) (hX : Below W.heap.size W X) (hg : X.grownBy w8 u.ownBlock) (ho : w8.ownsRow w1.heap.size 73 2 v8 (ps ++ [(nm, nv)]).length ((ps ++ [(nm, nv)]).flatMap nmC))
    (hn : X.ownsRow w1.heap.size 9 1 nv nm.words.length (nm.words.flatMap strC)) (hs : shortN nm) :
    PaW w1 ((w8.setCell ⟨p, 2, none⟩ (.string (bs c.id))).setCell ⟨p, 3, none⟩ v8) p { c with en := ⟨c.id, c.en.names ++ [nm]⟩ } v8 (ps ++ [(nm, nv)]) := by
  obtain ⟨h1, h2, h3, h4, h5⟩ := h
  have hXp := (hX.block _ (Array.getElem?_eq_some_iff.1 h2).1).trans h2
  have hXu := ownsRow_below h3.1 hX
  have hp8 : w8.heap[p]? = some (.cells #[.int .i64 c.kind, .string (bs c.id), .string (bs c.en.id), u, .int .i64 c.at_] 27 (0, 0)) :=
    (hg.block p (Array.getElem?_eq_some_iff.1 hXp).1 (fun e => by
      obtain ⟨_, cs, h7⟩ := own_cells hXu e.symm
      rw [hXp] at h7; cases h7)).trans hXp
  have kw : ∀ {v : Value} {n : Nat} {xs : List Value}, X.ownsRow w1.heap.size 9 1 v n xs → w8.ownsRow w1.heap.size 9 1 v n xs := fun {v n xs} ho => by
    refine ho.kept hg ?_
    cases hv : v.ownBlock with
    | none => exact .inl rfl
    | some q =>
      refine .inr (fun e => ?_)
      obtain ⟨_, cs1, g1⟩ := own_cells ho hv
      obtain ⟨_, cs2, g2⟩ := own_cells hXu e.symm
      rw [g1] at g2; cases g2
  have hN8 : NmOwn w1.heap.size w8 v8 (ps ++ [(nm, nv)]) := ⟨ho, fun q hq => by
    rcases List.mem_append.1 hq with hq | hq
    · exact ⟨kw (ownsRow_below (h3.2 q hq).1 hX), (h3.2 q hq).2⟩
    · simp only [List.mem_singleton] at hq
      subst hq
      exact ⟨kw hn, hs⟩⟩
  have hp9 : (w8.setCell ⟨p, 2, none⟩ (.string (bs c.id))).heap[p]? = some (.cells #[.int .i64 c.kind, .string (bs c.id), .string (bs c.id), u, .int .i64 c.at_] 27 (0, 0)) := by simp [World.setCell, Array.getElem?_modify, hp8]
  refine ⟨by rw [List.map_append, h1]; rfl, by simp [World.setCell, Array.getElem?_modify, hp8], (hN8.set 2 _ hp8).set 3 _ hp9, ?_, h5⟩
  have h6 : Below w1.heap.size w1 X := Below.step h4 hX
  have h8 : Below w1.heap.size w1 w8 := h6.grown hg h6.size (fun r e => (own_cells hXu e).1)
  exact (h8.setCell (p := ⟨p, 2, none⟩) h5 _).setCell (p := ⟨p, 3, none⟩) h5 _

/-- what Parse returns -/
def ParseP (s : List UInt8) (w : World) (e : Ending) (w' : World) : Prop :=
  Below w.heap.size w w' ∧ match Li.parse s with
    | some c => ∃ u l, e = .returned (.tuple #[chV c u, .int .i64 0]) ∧ l.map Prod.fst = c.en.names ∧ NmOwn w.heap.size w' u l
    | none => e = .returned (.tuple #[.agg #[.int .i64 0, .string ⟨#[]⟩, .string ⟨#[]⟩, .slice none 0 0, .int .i64 0], .int .i64 5])

set_option maxRecDepth 100000 in
set_option maxHeartbeats 8000000 in
theorem listParse_any (s : List UInt8) (w : World) (hs : s.length ≤ 5000) (hA : Tabs w) (hT : Tab10 w) : Calls Tryz.prog 20 #[.string (bs s)] w (ParseP s w) := by
  have HAA := hid hA
  have HTT := hid hT
  obtain ⟨W1, hW1⟩ : ∃ W1, W1 = w.alloc (.cells #[.int .i64 0, .string ⟨#[]⟩, .string ⟨#[]⟩, .slice none 0 0, .int .i64 0] 27) := ⟨_, rfl⟩
  have HX := hid (ChBox.new (id := []) (eid := []) hW1)
  have HB1 := hid HX.out.below
  have hd1 : W1.heap[w.heap.size]? = some (.cells #[.int .i64 0, .string ⟨#[]⟩, .string ⟨#[]⟩, .slice none 0 0, .int .i64 0] 27 (0, 0)) := by rw [hW1]; exact alloc_new w _
  have HL := hid (lex_any (bs s) W1 (by rw [bs_len]; unfold maxLen; omega))
  rw [bs_list] at HL
  clear hA hT
  go_enter Tryz.func20, Tryz.ntmps20
  go_upto_region 1 with (fail)
  rw [← hW1]
  clear hW1
  go_wp2_with fail
  refine (HL.out).mono ?_
  rintro e w1 ⟨v, rfl, ho, hb⟩
  have HT := TokSl.of_owns ho
  have HB := hid (Below.step HB1.out hb)
  have HD1 := hid ((hb.block _ (Array.getElem?_eq_some_iff.1 hd1).1).trans hd1)
  have HLT := fun l x y h => Fa.lex_toks (s := s) hs (l := l) (x := x) (y := y) h
  have HPP := hid (show Li.parse s = Li.parse s from rfl)
  clear ho hb HL hd1
  obtain ⟨r, hr⟩ : ∃ r, r = Lx.lex s := ⟨_, rfl⟩
  rw [← hr] at HT ⊢
  obtain ⟨l, x, y⟩ := r
  have HLX := hid hr.symm
  obtain ⟨htok, -⟩ := HLT l x y hr.symm
  have HTK := hid htok
  clear hr HLT htok HPP
  simp only at HT ⊢
  obtain ⟨⟨c0, c1, c2, c3, c4⟩, ⟨f0, f1, f2, f3, f4⟩, z1⟩ := ch_cells HD1.out
  by_cases hx : x = 0
  · have hxb : (x != 0) = false := by rw [hx]; rfl
    obtain ⟨cap, k1, k2, HT⟩ := HT
    by_cases hl2 : l.length < 2
    · have HE := hid (show Li.parse s = none by
        unfold Li.parse
        rw [HLX.out]
        simp only
        rw [if_neg (by rw [hx]; simp)]
        rcases l with _ | ⟨p0, _ | ⟨p1, r⟩⟩
        · rfl
        · rfl
        · exact absurd hl2 (by simp))
      obtain ⟨a, hv⟩ : ∃ a, v = .slice a l.length cap := by
        rcases HT with ⟨h, rfl⟩ | ⟨g, o, rfl, _⟩
        · exact ⟨none, by rw [h]; rfl⟩
        · exact ⟨_, rfl⟩
      subst hv
      have hl3 : (l.length : Int) < 2 := by omega
      clear HT hx hl2
      go_wp2_with fail
      refine post_cell_tmp rfl rfl (ch_load (ch_stored (.int .i64 0) (.string ⟨#[]⟩) (.string ⟨#[]⟩) (.slice none 0 0) (.int .i64 0) HD1.out).1) rfl rfl ?_
      refine ⟨ch_below _ _ _ _ _ HB.out (Nat.le_refl _), ?_⟩
      rw [HE.out]
      rfl
    · obtain ⟨p0, p1, r, rfl⟩ : ∃ p0 p1 r, l = p0 :: p1 :: r := by
        rcases l with _ | ⟨p0, _ | ⟨p1, r⟩⟩
        · exact absurd (show ([] : List (Nat × Lx.Tk)).length < 2 by simp) hl2
        · exact absurd (show [p0].length < 2 by simp) hl2
        · exact ⟨_, _, _, rfl⟩
      obtain ⟨g, o, rfl, hr⟩ : ∃ g o, v = .slice (some ⟨g, o, none⟩) (p0 :: p1 :: r).length cap ∧ TokRow w1 g o (p0 :: p1 :: r) := by
        rcases HT with ⟨h, _⟩ | h
        · cases h
        · exact h
      have HR := hid hr
      have t0 := (hr.2 0 p0 rfl).c3
      have t1 := (hr.2 1 p1 rfl).c3
      rw [Nat.zero_mul, Nat.add_zero] at t0
      rw [Nat.one_mul] at t1
      have hg := hr.1
      obtain ⟨n, hn⟩ : ∃ n, n = r.length := ⟨_, rfl⟩
      have hn2 : (p0 :: p1 :: r).length = n + 2 := by rw [hn]; simp
      rw [hn2] at k1 ⊢
      have HN := hid hn
      have HXX := hid hx
      have hl3 : ¬ ((n + 2 : Nat) : Int) < 2 := by omega
      have hl4 : ¬ (n : Int) + 2 ≤ 0 := by omega
      have hl5 : ¬ (n : Int) + 2 ≤ 1 := by omega
      have hk3 : n ≤ 9223372036854775805 := by unfold maxLen at k2; omega
      obtain ⟨ix, hix⟩ : ∃ ix, ix = Lib.idxOfS [⟨#[]⟩, ⟨#[97, 100, 100]⟩, ⟨#[114, 101, 109, 111, 118, 101]⟩, ⟨#[99, 111, 114, 114, 101, 99, 116]⟩, ⟨#[118, 111, 105, 100]⟩] (bs p0.2.text) := ⟨_, rfl⟩
      have hmx := kinds_max p0.2.text hix
      have HIX : Hid (∀ (X : World) (b : Nat), X.heap[b]? = some (.cells #[.string ⟨#[]⟩, .string ⟨#[97, 100, 100]⟩, .string ⟨#[114, 101, 109, 111, 118, 101]⟩, .string ⟨#[99, 111, 114, 114, 101, 99, 116]⟩, .string ⟨#[118, 111, 105, 100]⟩] 9 (0, 0)) →
          Calls Tryz.prog 50 #[.slice (some ⟨b, 0, none⟩) 5 5, .string (bs p0.2.text)] X (fun e w' => e = .returned (.int .i64 ix) ∧ w' = X)) := fun X b hb => by
        have := Tryz.slices_Index_string b 0 5 5 [⟨#[]⟩, ⟨#[97, 100, 100]⟩, ⟨#[114, 101, 109, 111, 118, 101]⟩, ⟨#[99, 111, 114, 114, 101, 99, 116]⟩, ⟨#[118, 111, 105, 100]⟩] (bs p0.2.text) X (by simp) (by omega) (fun j hj => by
          have : j = 0 ∨ j = 1 ∨ j = 2 ∨ j = 3 ∨ j = 4 := by simp at hj; omega
          rcases this with rfl | rfl | rfl | rfl | rfl <;> simp [World.cell?, hb])
        rw [hix]
        exact this
      obtain ⟨kd, hkd⟩ : ∃ kd, kd = Li.kindOf p0.2.text := ⟨_, rfl⟩
      rw [← hkd] at hmx
      have HKD := hid hkd
      clear hx hl2 HT hr hn hn2 hix hkd
      go_upto_region 4 with (fail)
      go_cut [7] from 29 to 40 (fun v7 wx => ∃ p, v7 = .pointer (some ⟨p, 0, none⟩) ∧ Hid (wx.heap[p]? = some (.cells #[.int .i64 kd, .string (bs p1.2.text), .string ⟨#[]⟩, .slice none 0 0, .int .i64 0] 27 (0, 0)) ∧ Below w1.heap.size w1 wx ∧ w1.heap.size ≤ p))
      case first =>
        refine wp_heldS (S := StillAt w1) (by kernel_rfl) ?_
        simp only [List.size_toArray, List.length_cons, List.length_nil, Nat.reduceAdd]
        intro hc
        have S0 : StillAt w1 (Array.replicate 14 false) w1.drew := (Below.refl _ _).drew
        refine wpAnyS_take (i := 1) (v := .slice (some ⟨g, o, none⟩) (n + 2) cap) rfl (by kernel_rfl) (by kernel_rfl) (by kernel_rfl) (fun _ _ _ h => h) (fun _ _ => Iff.rfl) hc (by first | rfl | simp [Region.wanted]) (fun wx hx => ?_) S0 (fun hc S0 => ?_)
        · go_simp
        try simp only [List.getElem_toArray, List.getElem_cons_succ, List.getElem_cons_zero, Act.put, List.setIfInBounds_toArray, List.set_cons_zero, List.set_cons_succ]
        refine wpAnyS_take (i := 2) (v := .pointer (some ⟨g, o, none⟩)) rfl (by kernel_rfl) (by kernel_rfl) (by kernel_rfl) (fun _ _ _ h => h) (fun _ _ => Iff.rfl) hc (by first | rfl | simp [Region.wanted]) (fun wx hx => ?_) S0 (fun hc S0 => ?_)
        · go_simp
        try simp only [List.getElem_toArray, List.getElem_cons_succ, List.getElem_cons_zero, Act.put, List.setIfInBounds_toArray, List.set_cons_zero, List.set_cons_succ]
        refine wpAnyS_take (i := 3) (v := .pointer (some ⟨g, o + 3, none⟩)) rfl (by kernel_rfl) (by kernel_rfl) (by kernel_rfl) (fun _ _ _ h => h) (fun _ _ => Iff.rfl) hc (by first | rfl | simp [Region.wanted]) (fun wx hx => ?_) S0 (fun hc S0 => ?_)
        · go_simp
        try simp only [List.getElem_toArray, List.getElem_cons_succ, List.getElem_cons_zero, Act.put, List.setIfInBounds_toArray, List.set_cons_zero, List.set_cons_succ]
        refine wpAnyS_take (i := 4) (v := .string (bs p0.2.text)) rfl (by kernel_rfl) (by kernel_rfl) (by kernel_rfl) (fun _ _ _ h => h) (fun _ _ => Iff.rfl) hc (by first | rfl | simp [Region.wanted]) (fun wx hx => ?_) S0 (fun hc S0 => ?_)
        · have q := (hx.still.cell (p := ⟨g, o + 3, none⟩) hg).trans t0
          go_simp
        try simp only [List.getElem_toArray, List.getElem_cons_succ, List.getElem_cons_zero, Act.put, List.setIfInBounds_toArray, List.set_cons_zero, List.set_cons_succ]
        refine wpAnyS_take (i := 7) (v := .slice (some ⟨g, o, none⟩) (n + 2) cap) rfl (by kernel_rfl) (by kernel_rfl) (by kernel_rfl) (fun _ _ _ h => h) (fun _ _ => Iff.rfl) hc (by first | rfl | simp [Region.wanted]) (fun wx hx => ?_) S0 (fun hc S0 => ?_)
        · go_simp
        try simp only [List.getElem_toArray, List.getElem_cons_succ, List.getElem_cons_zero, Act.put, List.setIfInBounds_toArray, List.set_cons_zero, List.set_cons_succ]
        refine wpAnyS_take (i := 8) (v := .pointer (some ⟨g, o + 4, none⟩)) rfl (by kernel_rfl) (by kernel_rfl) (by kernel_rfl) (fun _ _ _ h => h) (fun _ _ => Iff.rfl) hc (by first | rfl | simp [Region.wanted]) (fun wx hx => ?_) S0 (fun hc S0 => ?_)
        · go_simp
        try simp only [List.getElem_toArray, List.getElem_cons_succ, List.getElem_cons_zero, Act.put, List.setIfInBounds_toArray, List.set_cons_zero, List.set_cons_succ]
        refine wpAnyS_take (i := 9) (v := .pointer (some ⟨g, o + 4 + 3, none⟩)) rfl (by kernel_rfl) (by kernel_rfl) (by kernel_rfl) (fun _ _ _ h => h) (fun _ _ => Iff.rfl) hc (by first | rfl | simp [Region.wanted]) (fun wx hx => ?_) S0 (fun hc S0 => ?_)
        · go_simp
        try simp only [List.getElem_toArray, List.getElem_cons_succ, List.getElem_cons_zero, Act.put, List.setIfInBounds_toArray, List.set_cons_zero, List.set_cons_succ]
        refine wpAnyS_take (i := 10) (v := .string (bs p1.2.text)) rfl (by kernel_rfl) (by kernel_rfl) (by kernel_rfl) (fun _ _ _ h => h) (fun _ _ => Iff.rfl) hc (by first | rfl | simp [Region.wanted]) (fun wx hx => ?_) S0 (fun hc S0 => ?_)
        · have q := (hx.still.cell (p := ⟨g, o + 4 + 3, none⟩) hg).trans t1
          go_simp
        try simp only [List.getElem_toArray, List.getElem_cons_succ, List.getElem_cons_zero, Act.put, List.setIfInBounds_toArray, List.set_cons_zero, List.set_cons_succ]
        refine wpAnyS_two (i := 0) (k := 12) rfl rfl (by kernel_rfl) (by rfl) (by rfl) hc (fun K' hK => ?A) (fun K' hK => ?B)
        case' A =>
          go_simp
          refine (kinds_any w1.drew).mono ?_
          rintro e w4 ⟨rfl, hw4⟩
          have hb4 : Below w1.heap.size w1 w4 := by rw [hw4]; exact (Below.refl _ w1).drew.alloc (Nat.le_refl _) _
          have hi4 := HIX.out w4 w1.heap.size (by rw [hw4]; exact alloc_new w1.drew _)
          have HB4 := hid hb4
          have HI4 := hid hi4
          have HK4 := hid (show w4.heap[w1.heap.size]? = some (.cells #[.string ⟨#[]⟩, .string ⟨#[97, 100, 100]⟩, .string ⟨#[114, 101, 109, 111, 118, 101]⟩, .string ⟨#[99, 111, 114, 114, 101, 99, 116]⟩, .string ⟨#[118, 111, 105, 100]⟩] 9 (0, 0)) by rw [hw4]; exact alloc_new w1.drew _)
          clear hw4 hi4
          refine hK.out _ _ hb4 (fun hc => ?_)
          clear hK K'
          try simp only [List.getElem_toArray, List.getElem_cons_succ, List.getElem_cons_zero, Act.put, List.setIfInBounds_toArray, List.set_cons_zero, List.set_cons_succ]
          refine wpAnyS_more (S2 := StillAt w4) (fun _ _ h => Below.step hb4 h) _ _ _ _ ?_
          have S0 : StillAt w4 #[] w4 := Below.refl _ _
          refine wpAnyS_two (i := 5) (k := 12) rfl rfl (by kernel_rfl) (by rfl) (by rfl) hc (fun K' hK => ?C) (fun K' hK => ?D)
          case' C =>
            go_simp
            refine (HI4.out).mono ?_
            rintro e w5 ⟨rfl, rfl⟩
            refine hK.out _ _ (Below.refl _ _) (fun hc => ?_)
            clear hK K'
            have S0 : StillAt w5 #[] w5 := (Below.refl _ _)
            try simp only [List.getElem_toArray, List.getElem_cons_succ, List.getElem_cons_zero, Act.put, List.setIfInBounds_toArray, List.set_cons_zero, List.set_cons_succ]
            refine wpAnyS_take (i := 6) (v := .int .i64 kd) rfl (by kernel_rfl) (by kernel_rfl) (by kernel_rfl) (fun _ _ _ h => h) (fun _ _ => Iff.rfl) hc (by first | rfl | simp [Region.wanted]) (fun wx hx => ?_) S0 (fun hc S0 => ?_)
            · go_simp
            try simp only [List.getElem_toArray, List.getElem_cons_succ, List.getElem_cons_zero, Act.put, List.setIfInBounds_toArray, List.set_cons_zero, List.set_cons_succ]
            refine wpAnyS_take (i := 11) (v := .agg #[.int .i64 kd, .string (bs p1.2.text), .string ⟨#[]⟩, .slice none 0 0, .int .i64 0]) rfl (by kernel_rfl) (by kernel_rfl) (by kernel_rfl) (fun _ _ _ h => h) (fun _ _ => Iff.rfl) hc (by first | rfl | simp [Region.wanted]) (fun wx hx => ?_) S0 (fun hc S0 => ?_)
            · go_simp
            try simp only [List.getElem_toArray, List.getElem_cons_succ, List.getElem_cons_zero, Act.put, List.setIfInBounds_toArray, List.set_cons_zero, List.set_cons_succ]
            refine wpAnyS_one (i := 12) rfl (by kernel_rfl) (by rfl) hc (fun K' hK => ?_)
            go_simp
            refine hK.out _ _ ((Below.refl _ w5).alloc (Nat.le_refl _) _) (fun hc => ?_)
            clear hK K'
            try simp only [List.getElem_toArray, List.getElem_cons_succ, List.getElem_cons_zero, Act.put, List.setIfInBounds_toArray, List.set_cons_zero, List.set_cons_succ]
            refine wpAnyS_one (i := 13) rfl (by kernel_rfl) (by rfl) hc (fun K' hK => ?_)
            go_simp
            refine hK.out _ _ ((Below.refl _ w5).alloc (Nat.le_refl _) _) (fun hc => ?_)
            clear hK K'
            try simp only [List.getElem_toArray, List.getElem_cons_succ, List.getElem_cons_zero, Act.put, List.setIfInBounds_toArray, List.set_cons_zero, List.set_cons_succ]
            refine wpAnyS_done (by kernel_rfl) ?_ _
            clear hc S0
            go_wp2_with fail
            go_meet
            case rel => exact ⟨_, rfl, alloc_new w5 _, HB4.out.alloc HB4.out.size _, HB4.out.size⟩
          case' D =>
            go_simp
            refine hK.out _ _ ((Below.refl _ w4).alloc (Nat.le_refl _) _) (fun hc => ?_)
            clear hK K'
            try simp only [List.getElem_toArray, List.getElem_cons_succ, List.getElem_cons_zero, Act.put, List.setIfInBounds_toArray, List.set_cons_zero, List.set_cons_succ]
            refine wpAnyS_one (i := 5) rfl (by kernel_rfl) (by rfl) hc (fun K' hK => ?_)
            go_simp
            refine (HIX.out _ w1.heap.size ((Below.heap_alloc _ _ _ (Array.getElem?_eq_some_iff.1 HK4.out).1).trans HK4.out)).mono ?_
            rintro e w5 ⟨rfl, hw5⟩
            have S0 : StillAt w4 #[] w5 := by rw [hw5]; exact (Below.refl _ w4).alloc (Nat.le_refl _) _
            rw [hw5] at S0 ⊢
            refine hK.out _ _ ((Below.refl _ w4).alloc (Nat.le_refl _) _) (fun hc => ?_)
            clear hK K'
            try simp only [List.getElem_toArray, List.getElem_cons_succ, List.getElem_cons_zero, Act.put, List.setIfInBounds_toArray, List.set_cons_zero, List.set_cons_succ]
            refine wpAnyS_take (i := 6) (v := .int .i64 kd) rfl (by kernel_rfl) (by kernel_rfl) (by kernel_rfl) (fun _ _ _ h => h) (fun _ _ => Iff.rfl) hc (by first | rfl | simp [Region.wanted]) (fun wx hx => ?_) S0 (fun hc S0 => ?_)
            · go_simp
            try simp only [List.getElem_toArray, List.getElem_cons_succ, List.getElem_cons_zero, Act.put, List.setIfInBounds_toArray, List.set_cons_zero, List.set_cons_succ]
            refine wpAnyS_take (i := 11) (v := .agg #[.int .i64 kd, .string (bs p1.2.text), .string ⟨#[]⟩, .slice none 0 0, .int .i64 0]) rfl (by kernel_rfl) (by kernel_rfl) (by kernel_rfl) (fun _ _ _ h => h) (fun _ _ => Iff.rfl) hc (by first | rfl | simp [Region.wanted]) (fun wx hx => ?_) S0 (fun hc S0 => ?_)
            · go_simp
            try simp only [List.getElem_toArray, List.getElem_cons_succ, List.getElem_cons_zero, Act.put, List.setIfInBounds_toArray, List.set_cons_zero, List.set_cons_succ]
            refine wpAnyS_one (i := 13) rfl (by kernel_rfl) (by rfl) hc (fun K' hK => ?_)
            go_simp
            refine hK.out _ _ ((Below.refl _ w4).alloc (Nat.le_refl _) _) (fun hc => ?_)
            clear hK K'
            try simp only [List.getElem_toArray, List.getElem_cons_succ, List.getElem_cons_zero, Act.put, List.setIfInBounds_toArray, List.set_cons_zero, List.set_cons_succ]
            refine wpAnyS_done (by kernel_rfl) ?_ _
            clear hc S0
            go_wp2_with fail
            go_meet
            case rel => exact ⟨_, rfl, alloc_new w4 _, HB4.out.alloc HB4.out.size _, HB4.out.size⟩
        case' B =>
          go_simp
          refine hK.out _ _ ((Below.refl _ w1).alloc (Nat.le_refl _) _).drew (fun hc => ?_)
          clear hK K'
          try simp only [List.getElem_toArray, List.getElem_cons_succ, List.getElem_cons_zero, Act.put, List.setIfInBounds_toArray, List.set_cons_zero, List.set_cons_succ]
          obtain ⟨X, hX⟩ : ∃ X, X = (w1.alloc (.cells #[.int .i64 0, .string ⟨#[]⟩, .string ⟨#[]⟩, .slice none 0 0, .int .i64 0] 27)).drew := ⟨_, rfl⟩
          rw [← hX]
          have hXb : Below w1.heap.size w1 X := by rw [hX]; exact ((Below.refl _ w1).alloc (Nat.le_refl _) _).drew
          have hXp : X.heap[w1.heap.size]? = some (.cells #[.int .i64 0, .string ⟨#[]⟩, .string ⟨#[]⟩, .slice none 0 0, .int .i64 0] 27 (0, 0)) := by rw [hX]; exact alloc_new w1 _
          clear hX
          refine wpAnyS_one (i := 0) rfl (by kernel_rfl) (by rfl) hc (fun K' hK => ?_)
          go_simp
          refine (kinds_any X).mono ?_
          rintro e w5 ⟨rfl, hw5⟩
          have hb5 : Below X.heap.size X w5 := by rw [hw5]; exact (Below.refl _ X).alloc (Nat.le_refl _) _
          have HI5 := hid (HIX.out w5 X.heap.size (by rw [hw5]; exact alloc_new X _))
          have HP5 := hid ((hb5.block _ (Array.getElem?_eq_some_iff.1 hXp).1).trans hXp)
          have HB5 := hid (Below.step hXb hb5)
          clear hw5 hb5 hXb
          refine hK.out _ _ HB5.out (fun hc => ?_)
          clear hK K'
          have S0 : StillAt w1 #[] w5 := HB5.out
          try simp only [List.getElem_toArray, List.getElem_cons_succ, List.getElem_cons_zero, Act.put, List.setIfInBounds_toArray, List.set_cons_zero, List.set_cons_succ]
          refine wpAnyS_one (i := 5) rfl (by kernel_rfl) (by rfl) hc (fun K' hK => ?_)
          go_simp
          refine (HI5.out).mono ?_
          rintro e w6 ⟨rfl, rfl⟩
          refine hK.out _ _ HB5.out (fun hc => ?_)
          clear hK K'
          have S0 : StillAt w1 #[] w6 := HB5.out
          try simp only [List.getElem_toArray, List.getElem_cons_succ, List.getElem_cons_zero, Act.put, List.setIfInBounds_toArray, List.set_cons_zero, List.set_cons_succ]
          refine wpAnyS_take (i := 6) (v := .int .i64 kd) rfl (by kernel_rfl) (by kernel_rfl) (by kernel_rfl) (fun _ _ _ h => h) (fun _ _ => Iff.rfl) hc (by first | rfl | simp [Region.wanted]) (fun wx hx => ?_) S0 (fun hc S0 => ?_)
          · go_simp
          try simp only [List.getElem_toArray, List.getElem_cons_succ, List.getElem_cons_zero, Act.put, List.setIfInBounds_toArray, List.set_cons_zero, List.set_cons_succ]
          refine wpAnyS_take (i := 11) (v := .agg #[.int .i64 kd, .string (bs p1.2.text), .string ⟨#[]⟩, .slice none 0 0, .int .i64 0]) rfl (by kernel_rfl) (by kernel_rfl) (by kernel_rfl) (fun _ _ _ h => h) (fun _ _ => Iff.rfl) hc (by first | rfl | simp [Region.wanted]) (fun wx hx => ?_) S0 (fun hc S0 => ?_)
          · go_simp
          try simp only [List.getElem_toArray, List.getElem_cons_succ, List.getElem_cons_zero, Act.put, List.setIfInBounds_toArray, List.set_cons_zero, List.set_cons_succ]
          obtain ⟨⟨d0, d1, d2, d3, d4⟩, ⟨q0, q1, q2, q3, q4⟩, zq⟩ := ch_cells HP5.out
          refine wpAnyS_one (i := 13) rfl (by kernel_rfl) (by rfl) hc (fun K' hK => ?_)
          go_simp
          refine hK.out _ _ (ch_below _ _ _ _ _ HB5.out (Nat.le_refl _)) (fun hc => ?_)
          clear hK K'
          try simp only [List.getElem_toArray, List.getElem_cons_succ, List.getElem_cons_zero, Act.put, List.setIfInBounds_toArray, List.set_cons_zero, List.set_cons_succ]
          refine wpAnyS_done (by kernel_rfl) ?_ _
          clear hc S0
          go_wp2_with fail
          go_meet
          case rel => exact ⟨_, rfl, (ch_stored _ _ _ _ _ HP5.out).1, ch_below _ _ _ _ _ HB5.out (Nat.le_refl _), Nat.le_refl _⟩
      case rest =>
      obtain ⟨p, rfl, HP⟩ := hcut
      rename World => wx
      have HC0 := hid (show PaW w1 wx p ⟨kd, p1.2.text, ⟨[], []⟩, 0⟩ (.slice none 0 0) [] from ⟨rfl, HP.out.1, ⟨World.ownsRow_nil _ _ _ _, fun q hq => by cases hq⟩, HP.out.2.1, HP.out.2.2⟩)
      have HN5 := hid (show n ≤ 5001 by
        have := Li.lex_len HLX.out
        rw [HN.out]
        simp only [List.length_cons] at this
        omega)
      have hnn : (0 : Int) ≤ (n : Int) := by omega
      go_upto_region 5 with (fail)
      go_cut [42, 43, 44] from 41 to 44 (fun v42 v43 v44 wy => ∃ o2, v42 = .slice (some ⟨g, o2, none⟩) n (cap - 2) ∧ v43 = .int .i64 n ∧ v44 = .int .i64 0 ∧ Hid (0 < n → o2 = o + 8) ∧ wy = wx)
      case first =>
        by_cases hcap : cap = 2
        · have hn0 : n = 0 := by omega
          subst hn0
          subst hcap
          go_wp2_with fail
          go_meet
          case rel => exact ⟨_, rfl, rfl, rfl, fun h => absurd h (by omega), rfl⟩
        · have q1 : ¬ 2 = cap := fun e => hcap e.symm
          have q2 : (2 : Int) ≤ (n : Int) + 2 := by omega
          have q3 : ((n : Int) + 2 - 2) = (n : Int) := by omega
          go_wp2_with fail
          go_meet
          case rel => exact ⟨_, rfl, rfl, rfl, fun _ => rfl, rfl⟩
      case rest =>
      obtain ⟨o2, rfl, rfl, rfl, HO2, hwy⟩ := hcut
      rw [hwy]
      clear hwy
      go_wp2_with fail
      go_loopw [44] (fun iv wr => ∃ (k : Nat) (c : Li.Ch) (u : Value) (ps : List (Li.Nm × Value)), k ≤ n ∧ iv = .int .i64 k ∧ Hid (Li.toksP ⟨kd, p1.2.text, ⟨[], []⟩, 0⟩ ((Lx.toks r).take k) = some c ∧ PaW w1 wr p c u ps ∧ ps.length ≤ k ∧ c.id = p1.2.text ∧ (c.en.id = [] ∨ c.en.id = p1.2.text))) (fun iv _ => n - (RowKit.intOf iv).toNat)
      case atStart => exact ⟨0, _, _, _, Nat.zero_le _, rfl, rfl, HC0.out, Nat.le_refl _, rfl, .inl rfl⟩
      case round =>
        obtain ⟨k, c, u, ps, hk, rfl, HR5⟩ := hrel
        obtain ⟨-, hp5, ⟨hu5, -⟩, hbw, hpl⟩ := HR5.out.2.1
        obtain ⟨ua, uc, rfl⟩ := ownsRow_slice hu5
        have HBW := hid hbw
        have hn5 := HN5.out
        by_cases hlt : k < n
        · obtain ⟨q, hq⟩ : ∃ q, r[k]? = some q := ⟨_, List.getElem?_eq_getElem (by rw [← HN.out]; exact hlt)⟩
          have htq : (Lx.toks r)[k]? = some q.2 := by unfold Lx.toks; rw [List.getElem?_map, hq]; rfl
          have htk := HTK.out q (List.mem_cons_of_mem _ (List.mem_cons_of_mem _ (List.mem_of_getElem? hq)))
          have hrow := (HR.out.below hbw).2 (k + 2) q (by simpa using hq)
          have ho2 := HO2.out (by omega)
          obtain ⟨e0, e1, e2, e3⟩ := hrow
          have ea : o + (k + 2) * 4 = o2 + k * 4 := by omega
          rw [ea] at e0 e1 e2 e3
          have hgr := (HR.out.below hbw).1
          have hk0 : (0 : Int) ≤ (k : Int) := by omega
          have hk1 : (k : Int) < (n : Int) := by omega
          have hql := tk_len htk
          have HQ := hid (And.intro htq htk)
          clear htq htk ho2 ea hq
          obtain ⟨of_, ⟨kq, nq, tq⟩⟩ := q
          simp only at e0 e1 e2 e3 HQ hql
          obtain ⟨W5, hW5⟩ : ∃ W5, W5 = wr.alloc (.cells #[.int .i64 kq, .int .i64 of_, .int .i64 nq, .string (bs tq)] 81) := ⟨_, rfl⟩
          have hb5 : Below wr.heap.size wr W5 := by rw [hW5]; exact (Below.refl _ wr).alloc (Nat.le_refl _) _
          have hw5 : W5.heap[wr.heap.size]? = some (.cells #[.int .i64 kq, .int .i64 of_, .int .i64 nq, .string (bs tq)] 81 (0, 0)) := by rw [hW5]; exact alloc_new wr _
          have b0 : W5.cell? ⟨wr.heap.size, 0, none⟩ = some (.int .i64 kq) := by simp [World.cell?, hw5]
          have b2 : W5.cell? ⟨wr.heap.size, 2, none⟩ = some (.int .i64 nq) := by simp [World.cell?, hw5]
          have b3 : W5.cell? ⟨wr.heap.size, 3, none⟩ = some (.string (bs tq)) := by simp [World.cell?, hw5]
          have zb := (Array.getElem?_eq_some_iff.1 hw5).1
          have HP5 := hid (HR5.out.2.1.step hb5)
          obtain ⟨⟨d0, d1, d2, d3, d4⟩, ⟨g0, g1, g2, g3, g4⟩, zp⟩ := ch_cells HP5.out.2.1
          have HW5 := hid hw5
          clear hp5 hu5 hbw hb5 hw5
          go_upto_region 8 with (fail)
          rw [← hW5]
          clear hW5 e0 e1 e2 e3
          by_cases hk2 : kq = 2
          · have k2 : ((kq : Int) == 2) = true := by rw [beq_iff_eq]; omega
            have HT2 := hid (show Li.tokP c ⟨kq, nq, tq⟩ = some { c with at_ := nq } by unfold Li.tokP; rw [if_pos hk2])
            clear hk2
            go_wp2_with fail
            go_roundw
            case rel =>
              obtain ⟨h1, h2, h3, h4, h5⟩ := HR5.out
              exact ⟨k + 1, { c with at_ := nq }, _, ps, by omega, by go_num, by rw [take_snoc HQ.out.1]; exact Li.toksP_snoc _ _ _ _ _ h1 HT2.out, HP5.out.at_ nq, by omega, h4, h5⟩
            case measure => simp [RowKit.intOf]; omega
          · have k2 : ((kq : Int) == 2) = false := by rw [beq_eq_false_iff_ne]; omega
            by_cases hk3 : kq = 3
            · have k3 : ((kq : Int) == 3) = true := by rw [beq_iff_eq]; omega
              have HT3 := hid (show Li.tokP c ⟨kq, nq, tq⟩ = (Li.nameP tq).map fun m => { c with en := ⟨c.id, c.en.names ++ [m]⟩ } by unfold Li.tokP; rw [if_neg hk2, if_pos hk3])
              have HSP := hid (sParse_any (bs tq) W5 (by rw [bs_len]; omega) (HAA.out.below (Below.step HB.out HP5.out.2.2.2.1)))
              clear hk2 hk3
              go_wp2_with fail
              refine (HSP.out).mono ?_
              rintro e w6 ⟨sk, sv, er, off, rfl, hb6, hm⟩
              rw [bs_list] at hm
              cases hn6 : Li.nameP tq with
              | none =>
                rw [hn6] at hm
                obtain ⟨her, rfl⟩ := hm
                have erb : (er != 0) = true := by rw [bne_iff_ne]; exact her
                have HE := hid (show Li.parse s = none by
                  unfold Li.parse
                  rw [HLX.out]
                  simp only
                  rw [if_neg (by rw [HXX.out]; simp)]
                  have e1 : Lx.toks (p0 :: p1 :: r) = p0.2 :: p1.2 :: Lx.toks r := rfl
                  rw [e1]
                  simp only
                  rw [← HKD.out]
                  have h1 := Li.toksP_bad _ _ _ _ ((Lx.toks r).drop (k + 1)) HR5.out.1 (by rw [HT3.out, hn6]; rfl)
                  rw [← drop_cons HQ.out.1, List.take_append_drop] at h1
                  rw [h1])
                have HB6 := hid (Below.step HB.out (Below.step HP5.out.2.2.2.1 hb6))
                have HD6 := hid (((Below.step HP5.out.2.2.2.1 hb6).block _ (Array.getElem?_eq_some_iff.1 HD1.out).1).trans HD1.out)
                clear her hb6 hn6 d0 d1 d2 d3 d4 g0 g1 g2 g3 g4 zp b0 b2 b3 zb
                obtain ⟨⟨d0, d1, d2, d3, d4⟩, ⟨g0, g1, g2, g3, g4⟩, zp⟩ := ch_cells HD6.out
                go_wp2_with fail
                have hst := ch_stored (.int .i64 0) (.string ⟨#[]⟩) (.string ⟨#[]⟩) (.slice none 0 0) (.int .i64 0) HD6.out
                refine post_cell_tmp rfl rfl (ch_load ((Below.heap_alloc _ _ _ (Array.getElem?_eq_some_iff.1 hst.1).1).trans hst.1)) rfl rfl ?_
                refine ⟨(ch_below _ _ _ _ _ HB6.out (Nat.le_refl _)).alloc (by have := HB6.out.size; simp [World.setCell]; omega) _, ?_⟩
                rw [HE.out]
                rfl
              | some m =>
                rw [hn6] at hm
                obtain ⟨rfl, rfl, hom, hsm⟩ := hm
                obtain ⟨sa, sc, rfl⟩ := ownsRow_slice hom
                have HP6 := hid (HP5.out.step hb6)
                have HB6 := hid (Below.step HP5.out.2.2.2.1 hb6)
                have HOM := hid (And.intro (ownsRow_base hom HP5.out.2.2.2.1.size) hsm)
                have HTN := hid (show Li.tokP c ⟨kq, nq, tq⟩ = some { c with en := ⟨c.id, c.en.names ++ [m]⟩ } by rw [HT3.out, hn6]; rfl)
                clear hb6 hn6 hom hsm d0 d1 d2 d3 d4 g0 g1 g2 g3 g4 zp b0 b2 b3 zb
                obtain ⟨i0, hi0, hz0, hz1, hz2⟩ := info_parts Tryz.infoName
                obtain ⟨X7, hX7⟩ : ∃ X7, X7 = w6.alloc (.cells #[.int .i64 m.script, .slice sa m.words.length sc] 73) := ⟨_, rfl⟩
                obtain ⟨q0, q1, zq, hb7⟩ := name_box hX7
                have HP7 := hid (HP6.out.step hb7)
                have HB7 := hid (Below.step HB6.out hb7)
                have HOM7 := hid (ownsRow_below HOM.out.1 hb7)
                obtain ⟨⟨d0, d1, d2, d3, d4⟩, ⟨g0, g1, g2, g3, g4⟩, zp⟩ := ch_cells HP7.out.2.1
                have hpl7 := HR5.out.2.2.1
                clear hb7
                go_upto_region 15 with (fail)
                rw [← hX7]
                clear hX7
                refine wp_heldS (S := TwoS 10 10 (fun X => X.cell? ⟨p, 1, none⟩ = some (.string (bs c.id)) ∧ X.cell? ⟨p, 3, none⟩ = some (.slice ua ps.length uc)) (fun X => X.cell? ⟨w6.heap.size, 0, none⟩ = some (.int .i64 m.script) ∧ X.cell? ⟨w6.heap.size, 1, none⟩ = some (.slice sa m.words.length sc))) (by kernel_rfl) ?_
                simp only [List.size_toArray, List.length_cons, List.length_nil, Nat.reduceAdd]
                intro hc
                have S0 : TwoS 10 10 (fun X => X.cell? ⟨p, 1, none⟩ = some (.string (bs c.id)) ∧ X.cell? ⟨p, 3, none⟩ = some (.slice ua ps.length uc)) (fun X => X.cell? ⟨w6.heap.size, 0, none⟩ = some (.int .i64 m.script) ∧ X.cell? ⟨w6.heap.size, 1, none⟩ = some (.slice sa m.words.length sc)) (Array.replicate 11 false) X7.drew := ⟨.inr ⟨d1, d3⟩, .inr ⟨q0, q1⟩⟩
                refine wpAnyS_take (i := 0) (v := .pointer (some ⟨p, 1, none⟩)) rfl (by kernel_rfl) (by kernel_rfl) (by kernel_rfl) (fun _ _ _ h => h) (fun _ _ => TwoS.set_ (by decide) (by decide) _ _) hc (by first | rfl | simp [Region.wanted]) (fun wx hx => ?_) S0 (fun hc S0 => ?_)
                · go_simp
                try simp only [List.getElem_toArray, List.getElem_cons_zero, Act.put, List.setIfInBounds_toArray, List.set_cons_zero, List.set_cons_succ]
                refine wpAnyS_take (i := 1) (v := .string (bs c.id)) rfl (by kernel_rfl) (by kernel_rfl) (by kernel_rfl) (fun _ _ _ h => h) (fun _ _ => TwoS.set_ (by decide) (by decide) _ _) hc (by first | rfl | simp [Region.wanted]) (fun wx hx => ?_) S0 (fun hc S0 => ?_)
                · obtain ⟨y1, y2⟩ := hx.left (by kernel_rfl)
                  go_simp
                try simp only [List.getElem_toArray, List.getElem_cons_succ, List.getElem_cons_zero, Act.put, List.setIfInBounds_toArray, List.set_cons_zero, List.set_cons_succ]
                refine wpAnyS_take (i := 2) (v := .pointer (some ⟨p, 2, none⟩)) rfl (by kernel_rfl) (by kernel_rfl) (by kernel_rfl) (fun _ _ _ h => h) (fun _ _ => TwoS.set_ (by decide) (by decide) _ _) hc (by first | rfl | simp [Region.wanted]) (fun wx hx => ?_) S0 (fun hc S0 => ?_)
                · go_simp
                try simp only [List.getElem_toArray, List.getElem_cons_succ, List.getElem_cons_zero, Act.put, List.setIfInBounds_toArray, List.set_cons_zero, List.set_cons_succ]
                refine wpAnyS_take (i := 3) (v := .pointer (some ⟨p, 3, none⟩)) rfl (by kernel_rfl) (by kernel_rfl) (by kernel_rfl) (fun _ _ _ h => h) (fun _ _ => TwoS.set_ (by decide) (by decide) _ _) hc (by first | rfl | simp [Region.wanted]) (fun wx hx => ?_) S0 (fun hc S0 => ?_)
                · go_simp
                try simp only [List.getElem_toArray, List.getElem_cons_succ, List.getElem_cons_zero, Act.put, List.setIfInBounds_toArray, List.set_cons_zero, List.set_cons_succ]
                refine wpAnyS_take (i := 4) (v := .slice ua ps.length uc) rfl (by kernel_rfl) (by kernel_rfl) (by kernel_rfl) (fun _ _ _ h => h) (fun _ _ => TwoS.set_ (by decide) (by decide) _ _) hc (by first | rfl | simp [Region.wanted]) (fun wx hx => ?_) S0 (fun hc S0 => ?_)
                · obtain ⟨y1, y2⟩ := hx.left (by kernel_rfl)
                  go_simp
                try simp only [List.getElem_toArray, List.getElem_cons_succ, List.getElem_cons_zero, Act.put, List.setIfInBounds_toArray, List.set_cons_zero, List.set_cons_succ]
                refine wpAnyS_take (i := 5) (v := .agg #[.int .i64 m.script, .slice sa m.words.length sc]) rfl (by kernel_rfl) (by kernel_rfl) (by kernel_rfl) (fun _ _ _ h => h) (fun _ _ => TwoS.set_ (by decide) (by decide) _ _) hc (by first | rfl | simp [Region.wanted]) (fun wx hx => ?_) S0 (fun hc S0 => ?_)
                · obtain ⟨y1, y2⟩ := hx.right (by kernel_rfl)
                  go_simp
                try simp only [List.getElem_toArray, List.getElem_cons_succ, List.getElem_cons_zero, Act.put, List.setIfInBounds_toArray, List.set_cons_zero, List.set_cons_succ]
                refine wpAnyS_one (i := 6) rfl (by kernel_rfl) (by rfl) hc (fun K' hK => ?_)
                go_simp
                have r1 := (World.cell?_alloc_lt X7 (.cells #[.int .i64 m.script, .slice sa m.words.length sc] 73) ⟨p, 1, none⟩ zp).trans d1
                have r3 := (World.cell?_alloc_lt X7 (.cells #[.int .i64 m.script, .slice sa m.words.length sc] 73) ⟨p, 3, none⟩ zp).trans d3
                have s0 := (World.cell?_alloc_lt X7 (.cells #[.int .i64 m.script, .slice sa m.words.length sc] 73) ⟨w6.heap.size, 0, none⟩ zq).trans q0
                have s1 := (World.cell?_alloc_lt X7 (.cells #[.int .i64 m.script, .slice sa m.words.length sc] 73) ⟨w6.heap.size, 1, none⟩ zq).trans q1
                refine hK.out _ _ ⟨.inr ⟨r1, r3⟩, .inr ⟨s0, s1⟩⟩ (fun hc => ?_)
                clear hK K'
                try simp only [List.getElem_toArray, List.getElem_cons_succ, List.getElem_cons_zero, Act.put, List.setIfInBounds_toArray, List.set_cons_zero, List.set_cons_succ]
                have hown := (HP7.out.2.2.1.1.alloc (.cells #[.int .i64 m.script, .slice sa m.words.length sc] 73)).drew
                refine wpAnyS_one (i := 7) rfl (by kernel_rfl) (by rfl) hc (fun K' hK => ?_)
                refine wp_append_own _ _ _ 23 rfl w1.heap.size 73 i0 (.agg #[.int .i64 0, .slice none 0 0]) 2 32 Tryz.underlying23 hi0 hz0 hz1 hz2 rfl (by decide) _ _ _ rfl hown ⟨X7.heap.size, 0, none⟩ 1 1 [.int .i64 m.script, .slice sa m.words.length sc] rfl rfl (cells_new rfl) (by simp [Value.oneCell']) (by unfold maxLen; omega) (by omega) (by have := HB7.out.size; show _ ≤ (X7.alloc _).heap.size; rw [World.size_alloc]; omega) ?_
                intro v' w8 ho8 hg8 _
                obtain ⟨v8, c8, rfl⟩ := ownsRow_slice ho8
                have HPA := hid (HP7.out.append (nm := m) (nv := .slice sa m.words.length sc) (((Below.refl _ X7).alloc (Nat.le_refl _) (.cells #[.int .i64 m.script, .slice sa m.words.length sc] 73)).drew) hg8 (by rw [List.length_append, List.flatMap_append]; exact ho8) (HOM7.out.alloc (.cells #[.int .i64 m.script, .slice sa m.words.length sc] 73)).drew HOM.out.2)
                have far8 : ∀ (x : Nat) (o : Obj), X7.heap[x]? = some o → (∀ cs, o ≠ .cells cs 73 (0, 0)) → w8.heap[x]? = some o := fun x o ho hn =>
                  (hg8.block x (by show x < (X7.alloc _).heap.size; rw [World.size_alloc]; have := (Array.getElem?_eq_some_iff.1 ho).1; omega) (fun e => by
                    obtain ⟨_, cs, h3⟩ := own_cells HP7.out.2.2.1.1 e.symm
                    rw [ho] at h3
                    cases h3
                    exact hn cs rfl)).trans ((Below.heap_alloc X7 _ x (Array.getElem?_eq_some_iff.1 ho).1).trans ho)
                have hp8 := far8 _ _ HP7.out.2.1 (fun cs h => by cases h)
                obtain ⟨⟨e0, e1, e2, e3, e4⟩, ⟨l0, l1, l2, l3, l4⟩, zp8⟩ := ch_cells hp8
                have HNB := hid (show w8.cell? ⟨w6.heap.size, 0, none⟩ = some (.int .i64 m.script) ∧ w8.cell? ⟨w6.heap.size, 1, none⟩ = some (.slice sa m.words.length sc) by
                  have hb : w8.heap[w6.heap.size]? = X7.heap[w6.heap.size]? := (hg8.block _ (by show w6.heap.size < (X7.alloc _).heap.size; rw [World.size_alloc]; omega) (fun e => by
                    have := (HP6.out.2.2.1.1.lt _ e.symm).2
                    omega)).trans (Below.heap_alloc X7 _ _ zq)
                  exact ⟨(World.cell?_of_block (a := ⟨w6.heap.size, 0, none⟩) hb).trans q0, (World.cell?_of_block (a := ⟨w6.heap.size, 1, none⟩) hb).trans q1⟩)
                clear hown ho8 r1 r3 s0 s1 far8 hp8 hg8
                refine hK.out _ _ ⟨.inr ⟨e1, e3⟩, .inr HNB.out⟩ (fun hc => ?_)
                clear hK K'
                try simp only [List.getElem_toArray, List.getElem_cons_succ, List.getElem_cons_zero, Act.put, List.setIfInBounds_toArray, List.set_cons_zero, List.set_cons_succ]
                refine wpAnyS_one (i := 8) rfl (by kernel_rfl) (by rfl) hc (fun K' hK => ?_)
                go_simp
                refine hK.out _ _ ⟨.inr ⟨e1, e3⟩, .inr HNB.out⟩ (fun hc => ?_)
                clear hK K'
                try simp only [List.getElem_toArray, List.getElem_cons_succ, List.getElem_cons_zero, Act.put, List.setIfInBounds_toArray, List.set_cons_zero, List.set_cons_succ]
                refine wpAnyS_one (i := 9) rfl (by kernel_rfl) (by rfl) hc (fun K' hK => ?_)
                go_simp
                refine hK.out _ _ ⟨.inr ⟨e1, e3⟩, .inr HNB.out⟩ (fun hc => ?_)
                clear hK K'
                try simp only [List.getElem_toArray, List.getElem_cons_succ, List.getElem_cons_zero, Act.put, List.setIfInBounds_toArray, List.set_cons_zero, List.set_cons_succ]
                refine wpAnyS_one (i := 10) rfl (by kernel_rfl) (by rfl) hc (fun K' hK => ?_)
                go_simp
                refine hK.out _ _ ⟨.inl rfl, .inl rfl⟩ (fun hc => ?_)
                clear hK K'
                try simp only [List.getElem_toArray, List.getElem_cons_succ, List.getElem_cons_zero, Act.put, List.setIfInBounds_toArray, List.set_cons_zero, List.set_cons_succ]
                refine wpAnyS_done (by kernel_rfl) ?_ _
                clear hc S0
                go_wp2_with fail
                go_roundw
                case rel =>
                  obtain ⟨h1, h2, h3, h4, h5⟩ := HR5.out
                  exact ⟨k + 1, { c with en := ⟨c.id, c.en.names ++ [m]⟩ }, _, _, by omega, by go_num, by rw [take_snoc HQ.out.1]; exact Li.toksP_snoc _ _ _ _ _ h1 HTN.out, HPA.out, by simp; omega, h4, .inr h4⟩
                case measure => simp [RowKit.intOf]; omega
            · have k3 : ((kq : Int) == 3) = false := by rw [beq_eq_false_iff_ne]; omega
              have HT4 := hid (show Li.tokP c ⟨kq, nq, tq⟩ = some c by unfold Li.tokP; rw [if_neg hk2, if_neg hk3])
              clear hk2 hk3
              go_wp2_with fail
              go_roundw
              case rel =>
                obtain ⟨h1, h2, h3, h4, h5⟩ := HR5.out
                exact ⟨k + 1, c, _, ps, by omega, by go_num, by rw [take_snoc HQ.out.1]; exact Li.toksP_snoc _ _ _ _ _ h1 HT4.out, HP5.out, by omega, h4, h5⟩
              case measure => simp [RowKit.intOf]; omega
        · have hke : k = n := by omega
          have HTA := hid (show Li.toksP ⟨kd, p1.2.text, ⟨[], []⟩, 0⟩ (Lx.toks r) = some c by
            have := HR5.out.1
            rwa [List.take_of_length_le (by unfold Lx.toks; rw [List.length_map, ← HN.out]; omega)] at this)
          have hk1 : ¬ (k : Int) < (n : Int) := by omega
          have hidl : c.id.length ≤ 400 := by rw [HR5.out.2.2.2.1]; exact tk_len (HTK.out p1 (List.mem_cons_of_mem _ List.mem_cons_self))
          have heil : c.en.id.length ≤ 400 := by
            rcases HR5.out.2.2.2.2 with h | h
            · rw [h]; simp
            · rw [h, ← HR5.out.2.2.2.1]; exact hidl
          have HTX := hid (listText_any c.kind c.id c.en.id c.en.names (.slice ua ps.length uc) c.at_ wr (by rw [← HR5.out.2.1.1]; exact HR5.out.2.1.2.2.1.nms) (by omega) (by omega) (HAA.out.below (Below.step HB.out HBW.out)) (HTT.out.below (Below.step HB.out HBW.out)))
          have HPE := hid (show Li.parse s = if Li.text c = some s then some c else none by
            unfold Li.parse
            rw [HLX.out]
            simp only
            rw [if_neg (by rw [HXX.out]; simp)]
            have e1 : Lx.toks (p0 :: p1 :: r) = p0.2 :: p1.2 :: Lx.toks r := rfl
            rw [e1]
            simp only
            rw [← HKD.out, HTA.out])
          obtain ⟨⟨d0, d1, d2, d3, d4⟩, ⟨g0, g1, g2, g3, g4⟩, zp⟩ := ch_cells hp5
          have HP9 := hid HR5.out.2.1
          clear hp5 hu5 hbw hke hidl heil
          go_wp2_with fail
          refine (HTX.out).mono ?_
          rintro e w9 ⟨rfl, hb9⟩
          have HP10 := hid (HP9.out.step hb9)
          have HD9 := hid (((Below.step HBW.out hb9).block _ (Array.getElem?_eq_some_iff.1 HD1.out).1).trans HD1.out)
          have HB9 := hid (Below.step HB.out (Below.step HBW.out hb9))
          have hceq : (⟨c.kind, c.id, ⟨c.en.id, c.en.names⟩, c.at_⟩ : Li.Ch) = c := rfl
          rw [hceq]
          clear hb9 hceq d0 d1 d2 d3 d4 g0 g1 g2 g3 g4 zp
          obtain ⟨⟨d0, d1, d2, d3, d4⟩, ⟨g0, g1, g2, g3, g4⟩, zD⟩ := ch_cells HD9.out
          obtain ⟨⟨m0, m1, m2, m3, m4⟩, -, zp⟩ := ch_cells HP10.out.2.1
          cases hfc : Li.formed c with
          | false =>
            have HE := hid (show Li.parse s = none by
              rw [HPE.out, if_neg]
              unfold Li.text
              rw [hfc]
              simp)
            rw [if_neg (by decide)]
            clear hfc
            go_wp2_with fail
            refine post_cell_tmp rfl rfl (ch_load (ch_stored (.int .i64 0) (.string ⟨#[]⟩) (.string ⟨#[]⟩) (.slice none 0 0) (.int .i64 0) HD9.out).1) rfl rfl ?_
            refine ⟨ch_below _ _ _ _ _ HB9.out (Nat.le_refl _), ?_⟩
            rw [HE.out]
            rfl
          | true =>
            have htx : Li.text c = some (Li.body c) := by unfold Li.text; rw [if_pos hfc]
            rw [htx] at HPE ⊢
            simp only [Option.getD_some, if_true]
            have hnb := name_beq (Li.body c) s
            clear hfc htx
            by_cases hbs : Li.body c = s
            · rw [decide_eq_true hbs] at hnb
              have HE := hid (show Li.parse s = some c by rw [HPE.out, if_pos (by rw [hbs])])
              clear hbs
              go_wp2_with fail
              have hst := ch_stored (.int .i64 c.kind) (.string (bs c.id)) (.string (bs c.en.id)) (.slice ua ps.length uc) (.int .i64 c.at_) HD9.out
              refine post_cell_tmp rfl rfl (ch_load hst.1) rfl rfl ?_
              refine ⟨ch_below _ _ _ _ _ HB9.out (Nat.le_refl _), ?_⟩
              rw [HE.out]
              obtain ⟨h1, -, h3, -, -⟩ := HP10.out
              have hle := HB.out.size
              have far : ∀ g o, w1.heap.size ≤ g → w9.heap[g]? = some o → o.isCells = true → _ := fun g o hg ho _ => (hst.2 g (by
                have := (Array.getElem?_eq_some_iff.1 HD1.out).1
                show g ≠ w.heap.size
                omega)).trans ho
              exact ⟨_, ps, rfl, h1, ownsRow_base (ownsRow_far h3.1 far) hle, fun q hq => ⟨ownsRow_base (ownsRow_far (h3.2 q hq).1 far) hle, (h3.2 q hq).2⟩⟩
            · rw [decide_eq_false hbs] at hnb
              have HE := hid (show Li.parse s = none by rw [HPE.out, if_neg (fun e => hbs (Option.some.inj e))])
              clear hbs
              go_wp2_with fail
              refine post_cell_tmp rfl rfl (ch_load (ch_stored (.int .i64 0) (.string ⟨#[]⟩) (.string ⟨#[]⟩) (.slice none 0 0) (.int .i64 0) HD9.out).1) rfl rfl ?_
              refine ⟨ch_below _ _ _ _ _ HB9.out (Nat.le_refl _), ?_⟩
              rw [HE.out]
              rfl
  · have hxb : (x != 0) = true := by rw [bne_iff_ne]; exact hx
    have HE := hid (show Li.parse s = none by
      unfold Li.parse
      rw [HLX.out]
      simp only
      rw [if_pos hx])
    clear hx
    go_wp2_with fail
    refine post_cell_tmp rfl rfl (ch_load (ch_stored (.int .i64 0) (.string ⟨#[]⟩) (.string ⟨#[]⟩) (.slice none 0 0) (.int .i64 0) HD1.out).1) rfl rfl ?_
    refine ⟨ch_below _ _ _ _ _ HB.out (Nat.le_refl _), ?_⟩
    rw [HE.out]
    rfl

end Go.Proofs.YtidkmhokolknbaaGreatDoor
