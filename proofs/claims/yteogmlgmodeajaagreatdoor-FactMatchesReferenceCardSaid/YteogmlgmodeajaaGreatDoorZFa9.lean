/-
  fact.Parse. Conditions: texts of at most 4500 bytes.
-/
import Derived.Test.YteogmlgmodeajaaGreatDoorZFa8
import Derived.Test.YteogmlgmodeajaaGreatDoorZLexF
import Derived.Deep.DeepCutAuto
import Derived.Test.YteogmlgmodeajaaGreatDoorZStillAt
namespace Go.Proofs.YteogmlgmodeajaaGreatDoor
open Go.RowKit Go.Maps

/-- what Parse ends in -/
def ParseP (w : World) (r : Fa.Dom × Int × Int) (en : Ending) (w' : World) : Prop :=
  ∃ v, en = .returned (.tuple #[.agg #[v], .int .i64 r.2.1, .int .i64 r.2.2]) ∧ SlIn w' v (fun k => w.heap.size ≤ k) 4 factC r.1 ∧ Below w.heap.size w w'

theorem toks_in {w : World} {B : Nat} {v : Value} {l : List Fa.T} (h : w.ownsRow B 58 4 v l.length (tokCells l)) : SlIn w v (fun b => B ≤ b ∧ b < w.heap.size) 4 tkC l := by
  have h1 : w.ownsRow B 58 4 v l.length (l.flatMap tkC) := h
  exact (SlIn.own h1 fun x _ => rfl).mono fun k hk _ => h1.lt k hk

/-- the kinds' words -/
def kindsF : Value → Option Value
  | .string s => if s.data.toList = Fa.tFlag then some (.int .i64 1) else if s.data.toList = Fa.tNumber then some (.int .i64 2) else none
  | _ => none
def kindsF1 : Value → Option Value
  | .string s => if s.data.toList = Fa.tFlag then some (.int .i64 1) else none
  | _ => none
def flagV (p : Nat) : Value := .func (.func 31) #[.pointer (some ⟨p, 0, none⟩)] #[]
def spanV (p : Nat) : Value := .func (.func 32) #[.pointer (some ⟨p, 0, none⟩)] #[]
/-- what reads a kind's range -/
def rangesF (p : Nat) : Value → Option Value
  | .int .i64 n => if n = 1 then some (flagV p) else if n = 2 then some (spanV p) else none
  | _ => none
def rangesF1 (p : Nat) : Value → Option Value
  | .int .i64 n => if n = 1 then some (flagV p) else none
  | _ => none
theorem kinds_1 : kindsF1 (.string ⟨#[102, 108, 97, 103]⟩) = some (.int .i64 1) ∧ ∀ y, y ≠ .string ⟨#[102, 108, 97, 103]⟩ → kindsF1 y = none := by
  refine ⟨rfl, fun y hy => ?_⟩
  cases y with
  | string s =>
    have : s.data.toList ≠ Fa.tFlag := fun e => hy (by rw [bs_ext e]; rfl)
    simp [kindsF1, this]
  | _ => rfl
theorem kinds_2 : kindsF (.string ⟨#[110, 117, 109, 98, 101, 114]⟩) = some (.int .i64 2) ∧ ∀ y, y ≠ .string ⟨#[110, 117, 109, 98, 101, 114]⟩ → kindsF y = kindsF1 y := by
  refine ⟨rfl, fun y hy => ?_⟩
  cases y with
  | string s =>
    have : s.data.toList ≠ Fa.tNumber := fun e => hy (by rw [bs_ext e]; rfl)
    simp [kindsF, kindsF1, this]
  | _ => rfl
theorem int_key {n : Int} (h : (Lit.int .i64 n).wf = true) : keyOf Tryz.prog 3 (.int .i64 n) = some (.int .i64 n) := keyOf_int_mk Tryz.underlying3 h
theorem int_keyed_ : Keyed Tryz.prog 3 := int_keyed Tryz.underlying3
theorem ranges_1 (p : Nat) : rangesF1 p (.int .i64 1) = some (flagV p) ∧ ∀ y, y ≠ .int .i64 1 → rangesF1 p y = none := by
  refine ⟨rfl, fun y hy => ?_⟩
  unfold rangesF1
  split
  · rename_i n
    rw [if_neg (fun e => hy (by rw [e]))]
  · rfl
theorem ranges_2 (p : Nat) : rangesF p (.int .i64 2) = some (spanV p) ∧ ∀ y, y ≠ .int .i64 2 → rangesF p y = rangesF1 p y := by
  refine ⟨rfl, fun y hy => ?_⟩
  unfold rangesF rangesF1
  split
  · rename_i n
    by_cases h : n = 1
    · simp [h]
    · simp only [if_neg h]
      rw [if_neg (fun e => hy (by rw [e]))]
  · rfl

/-- a word's kind -/
def kindOf (a : List UInt8) : Int := if a = Fa.tFlag then 1 else if a = Fa.tNumber then 2 else 0
theorem kinds_get (a : List UInt8) : (kindsF (.string (bs a))).getD (.int .i64 0) = .int .i64 (kindOf a) := by
  have e : (bs a).data.toList = a := rfl
  unfold kindsF kindOf
  simp only [e]
  split
  · rfl
  · split <;> rfl
theorem zero_int (w : World) : (zeroValue 3).run Tryz.prog w = .ok (.int .i64 0) w := by kernel_rfl
theorem zero_fn (w : World) : (zeroValue 55).run Tryz.prog w = .ok .nilFunc w := by kernel_rfl
theorem tok_len {t : Lx.Tk} (h : Lx.TokOK t) : t.text.length ≤ 400 := by
  rcases h with ⟨_, _, h, _⟩ | ⟨_, _, h, _⟩ | ⟨_, _, h, _⟩ | ⟨_, _, c, ⟨h, _⟩ | ⟨h, _⟩⟩
  · omega
  · omega
  · exact h
  · rw [h]; simp
  · rw [h]; simp
/-- what stands there while Parse goes on -/
structure PW (w W : World) (mk mr p : Nat) (l : List Fa.T) (e k : Nat) (d : Fa.Dom) (v : Value) : Prop where
  res : Res W w.heap.size (w.heap.size + 1) (w.heap.size + 1 + 1) 24 v (.int .i64 0) (.int .i64 0)
  own : W.ownsRow (mr + 1) 62 4 v d.length (d.flatMap factC)
  rdr : RdrW (w.heap.size + 1 + 1) W p l k e
  km : MapF W Tryz.prog 9 mk 2 kindsF
  rm : MapF W Tryz.prog 3 mr 2 (rangesF p)
  below : Below w.heap.size w W
  l1 : w.heap.size + 1 + 1 < p
  l2 : p < mk
  l3 : mk < mr

/-- what stands there behind the range -/
def RangeW (w wr wx : World) (mk mr p : Nat) (l : List Fa.T) (e k : Nat) (d : Fa.Dom) (v : Value) (fb : Nat) (a word : List UInt8) (at_ : Nat) : Prop :=
  ∃ (u : Int × Int × Int) (k' : Nat), Fa.ranges word at_ e (l.drop k) = .ok (u, l.drop k') ∧ k ≤ k' ∧ PW w wx mk mr p l e k' d v ∧ Tch (fun b => b = p) wr wx ∧ wx.heap[fb]? = some (.cells #[.string (bs a), .int .i64 u.1, .int .i64 u.2.1, .int .i64 u.2.2] 62 (0, 0))

theorem PW.step {w W W' : World} {mk mr p e k : Nat} {l : List Fa.T} {d : Fa.Dom} {v : Value} (h : PW w W mk mr p l e k d v) (hb : Below W.heap.size W W') : PW w W' mk mr p l e k d v :=
  ⟨h.res.below hb, ownsRow_below h.own hb, h.rdr.below hb, h.km.below hb, h.rm.below hb, Below.step h.below hb, h.l1, h.l2, h.l3⟩
theorem PW.took {w W W' : World} {mk mr p e k k' : Nat} {l : List Fa.T} {d : Fa.Dom} {v : Value} (h : PW w W mk mr p l e k d v) (ht : Tch (fun b => b = p) W W') (hr : RdrW (w.heap.size + 1 + 1) W' p l k' e) : PW w W' mk mr p l e k' d v := by
  have h1 := h.l1
  have h2 := h.l2
  have h3 := h.l3
  refine ⟨h.res.tch ht ?_, ownsRow_tch h.own ht ?_, hr, h.km.tch ht (by omega), h.rm.tch ht (by omega), ?_, h1, h2, h3⟩
  · rintro q (rfl | rfl | rfl) e <;> omega
  · intro g hg e
    have := (h.own.lt g hg).1
    omega
  · exact h.below.trans (ht.below h.below.size fun q hq => by omega)
theorem ranges_none {a : List UInt8} (h : kindOf a = 0) (at_ e : Nat) (r : List Fa.T) : Fa.ranges a at_ e r = .error (5, at_) := by
  unfold kindOf at h
  unfold Fa.ranges
  by_cases h1 : a = Fa.tFlag
  · rw [if_pos h1] at h; omega
  · rw [if_neg h1] at h ⊢
    by_cases h2 : a = Fa.tNumber
    · rw [if_pos h2] at h; omega
    · rw [if_neg h2]
theorem kindOf_some {a : List UInt8} (h : kindOf a ≠ 0) : (a = Fa.tFlag ∧ kindOf a = 1) ∨ (a ≠ Fa.tFlag ∧ a = Fa.tNumber ∧ kindOf a = 2) := by
  unfold kindOf at h ⊢
  by_cases h1 : a = Fa.tFlag
  · left; exact ⟨h1, if_pos h1⟩
  · rw [if_neg h1] at h ⊢
    by_cases h2 : a = Fa.tNumber
    · right; exact ⟨h1, h2, if_pos h2⟩
    · rw [if_neg h2] at h; exact absurd rfl h
theorem ranges_flag {a : List UInt8} (h : a = Fa.tFlag) (at_ e : Nat) (r : List Fa.T) : Fa.ranges a at_ e r = .ok ((1, 0, 1), r) := by unfold Fa.ranges; rw [if_pos h]
theorem ranges_num {a : List UInt8} (h : a ≠ Fa.tFlag) (h2 : a = Fa.tNumber) {at_ e : Nat} {r r' : List Fa.T} {u : Int × Int} (hs : Fa.span e r = .ok (u, r')) : Fa.ranges a at_ e r = .ok ((2, u.1, u.2), r') := by
  obtain ⟨x, y⟩ := u
  unfold Fa.ranges; rw [if_neg h, if_pos h2, hs]
theorem ranges_bad {a : List UInt8} (h : a ≠ Fa.tFlag) (h2 : a = Fa.tNumber) {at_ e : Nat} {r : List Fa.T} {x : Fa.Fail} (hs : Fa.span e r = .error x) : Fa.ranges a at_ e r = .error x := by
  unfold Fa.ranges; rw [if_neg h, if_pos h2, hs]

theorem rangeW_put {w wr W : World} {mk mr p : Nat} {l : List Fa.T} {e k0 k k' : Nat} {d : Fa.Dom} {v : Value} {fb : Nat} {a word : List UInt8} {at_ : Nat} {u : Int × Int × Int} (h : PW w wr mk mr p l e k0 d v) (ht : Tch (fun b => b = p) wr W) (hr : Fa.ranges word at_ e (l.drop k) = .ok (u, l.drop k')) (hk : k ≤ k')
    (hR : RdrW (w.heap.size + 1 + 1) W p l k' e) {x y : Value} (hx : W.heap[fb]? = some (.cells #[.string (bs a), .int .i64 u.1, x, y] 62 (0, 0))) (hfb : wr.heap.size ≤ fb) (hp : p < fb) (_ : p < mk) :
    RangeW w wr ((W.setCell ⟨fb, 2, none⟩ (.int .i64 u.2.1)).setCell ⟨fb, 3, none⟩ (.int .i64 u.2.2)) mk mr p l e k d v fb a word at_ := by
  have hT : Tch (fun b => b = p) wr ((W.setCell ⟨fb, 2, none⟩ (.int .i64 u.2.1)).setCell ⟨fb, 3, none⟩ (.int .i64 u.2.2)) := (ht.setCell (a := ⟨fb, 2, none⟩) (.inr hfb) _).setCell (a := ⟨fb, 3, none⟩) (.inr hfb) _
  have hT2 : Tch (fun b => b = fb) W ((W.setCell ⟨fb, 2, none⟩ (.int .i64 u.2.1)).setCell ⟨fb, 3, none⟩ (.int .i64 u.2.2)) := ((Tch.refl (fun b => b = fb) W).setCell (a := ⟨fb, 2, none⟩) (.inl rfl) _).setCell (a := ⟨fb, 3, none⟩) (.inl rfl) _
  refine ⟨u, k', hr, hk, h.took hT (hR.tch hT2 fun b _ hb e => by omega), hT, ?_⟩
  exact blk_set (blk_set hx 2 _) 3 _

/-- a fact is added -/
theorem PW.grew {w W W4 Wa : World} {mk mr p e k : Nat} {l : List Fa.T} {d : Fa.Dom} {v v' : Value} {f : Fa.Fact} (h : PW w W mk mr p l e k d v) (hb : Below W.heap.size W Wa) (ho : W4.ownsRow (mr + 1) 62 4 v' (d.length + 1) (d.flatMap factC ++ factC f)) (hg : Wa.grownBy W4 v.ownBlock) :
    PW w (W4.setCell ⟨w.heap.size, 0, none⟩ v') mk mr p l e k (d ++ [f]) v' := by
  have h1 := h.l1
  have h2 := h.l2
  have h3 := h.l3
  have hT : Tch (fun b => v.ownBlock = some b) W W4 := (Tch.of_below hb _).grown hg fun r e => .inl e
  have hv : ∀ b, v.ownBlock = some b → mr + 1 ≤ b := fun b e => (h.own.lt b e).1
  have hT2 : Tch (fun b => b = w.heap.size) W4 (W4.setCell ⟨w.heap.size, 0, none⟩ v') := (Tch.refl (fun b => b = w.heap.size) W4).setCell (a := ⟨w.heap.size, 0, none⟩) (.inl rfl) _
  refine ⟨(h.res.tch hT ?_).setD v', ?_, (h.rdr.tch hT ?_).tch hT2 ?_, (h.km.tch hT ?_).tch hT2 ?_, (h.rm.tch hT ?_).tch hT2 ?_, ?_, h1, h2, h3⟩
  · rintro q (rfl | rfl | rfl) e <;> have := hv _ e <;> omega
  · rw [List.length_append, List.flatMap_append]
    have : [f].flatMap factC = factC f := by simp
    rw [this]
    exact ownsRow_setCell_below ho (a := ⟨w.heap.size, 0, none⟩) (by show w.heap.size < mr + 1; omega) _
  · intro b _ hb' e
    have := hv _ e
    omega
  · intro b hb' _
    show ¬ b = w.heap.size
    omega
  · intro e
    have := hv _ e
    omega
  · show ¬ mk = w.heap.size
    omega
  · intro e
    have := hv _ e
    omega
  · show ¬ mr = w.heap.size
    omega
  · exact (h.below.trans (hT.below h.below.size fun q hq => by have := hv q hq; omega)).setCell (Nat.le_refl _) _

/-- where the reader in block p is -/
def nextAt (w : World) (p : Nat) : Nat := match w.cell? ⟨p, 1, none⟩ with | some (.int _ n) => n.toNat | _ => 0
theorem RdrW.nextAt {B : Nat} {w : World} {p e k : Nat} {l : List Fa.T} (h : RdrW B w p l k e) : nextAt w p = k := by
  obtain ⟨ts, h1, h2, h3, -⟩ := h
  have : w.cell? ⟨p, 1, none⟩ = some (.int .i64 k) := by simp [World.cell?, h2]
  unfold Go.Proofs.YteogmlgmodeajaaGreatDoor.nextAt
  rw [this]
  simp
theorem RdrW.cells {B : Nat} {w : World} {p e k : Nat} {l : List Fa.T} (h : RdrW B w p l k e) : w.cell? ⟨p, 1, none⟩ = some (.int .i64 k) ∧ w.cell? ⟨p, 2, none⟩ = some (.int .i64 e) ∧ p < w.heap.size ∧ k ≤ l.length := by
  obtain ⟨ts, h1, h2, h3, -⟩ := h
  exact ⟨by simp [World.cell?, h2], by simp [World.cell?, h2], (Array.getElem?_eq_some_iff.1 h2).1, h3⟩
/-- thrown: Parse ends so -/
theorem PW.thrown {w W W' : World} {mk mr p e k : Nat} {l : List Fa.T} {d : Fa.Dom} {v : Value} {s : List UInt8} {x : Fa.Fail} (h : PW w W mk mr p l e k d v) (ht : Tch (fun b => b = p) W W') (hE : Fa.parse s = ([], x.1, x.2)) {fn : Func} (hfn : fn.results = #[.cell 2 24, .cell 3 29, .cell 4 3])
    {tmps : Array Value} (h2 : tmps.getD 2 undef = .pointer (some ⟨w.heap.size, 0, none⟩)) (h3 : tmps.getD 3 undef = .pointer (some ⟨w.heap.size + 1, 0, none⟩)) (h4 : tmps.getD 4 undef = .pointer (some ⟨w.heap.size + 1 + 1, 0, none⟩)) :
    bodyPostD Tryz.prog fn (ParseP w (Fa.parse s)) (.panic [{ v := .iface 95 (.agg #[.int .i64 x.1, .int .i64 x.2]), recovered := false }])
      { tmps := tmps, defers := [{ target := .fn (.func 28) #[.pointer (some ⟨w.heap.size, 0, none⟩), .pointer (some ⟨w.heap.size + 1, 0, none⟩), .pointer (some ⟨w.heap.size + 1 + 1, 0, none⟩)], args := #[] }] } W' := by
  have g1 := h.l1
  refine leaves_1 hfn h2 h3 h4 (h.res.tch ht (by rintro q (rfl | rfl | rfl) e <;> omega)) x fun w' hr ht' => ?_
  rw [hE]
  refine ⟨_, rfl, SlIn.nil _ _ _ _, ?_⟩
  have hb := h.below.trans (ht.below h.below.size fun q hq => by omega)
  exact hb.trans (ht'.below hb.size (by rintro q (rfl | rfl | rfl) <;> omega))

theorem parse_done {w W : World} {mk mr p e k : Nat} {l : List Fa.T} {d : Fa.Dom} {va : Option Addr} {cap : Nat} (h : PW w W mk mr p l e k d (.slice va d.length cap)) : ParseP w (d, 0, 0) (.returned (.tuple #[.agg #[.slice va d.length cap], .int .i64 0, .int .i64 0]))
    (((W.setCell ⟨w.heap.size, 0, none⟩ (.slice va d.length cap)).setCell ⟨w.heap.size + 1, 0, none⟩ (.int .i64 0)).setCell ⟨w.heap.size + 1 + 1, 0, none⟩ (.int .i64 0)) := by
  have h1 := h.l1
  have h2 := h.l2
  have h3 := h.l3
  have hT : Tch (res3 w.heap.size (w.heap.size + 1) (w.heap.size + 1 + 1)) W (((W.setCell ⟨w.heap.size, 0, none⟩ (.slice va d.length cap)).setCell ⟨w.heap.size + 1, 0, none⟩ (.int .i64 0)).setCell ⟨w.heap.size + 1 + 1, 0, none⟩ (.int .i64 0)) :=
    (((Tch.refl (res3 w.heap.size (w.heap.size + 1) (w.heap.size + 1 + 1)) W).setCell (a := ⟨w.heap.size, 0, none⟩) (.inl (.inl rfl)) _).setCell (a := ⟨w.heap.size + 1, 0, none⟩) (.inl (.inr (.inl rfl))) _).setCell (a := ⟨w.heap.size + 1 + 1, 0, none⟩) (.inl (.inr (.inr rfl))) _
  refine ⟨_, rfl, ?_, h.below.trans (hT.below h.below.size (by rintro q (rfl | rfl | rfl) <;> omega))⟩
  refine ((SlIn.own h.own fun x _ => rfl).mono (Q' := fun k => mr + 1 ≤ k) fun k hk _ => (h.own.lt k hk).1).tch hT ?_ |>.mono fun k hk _ => ?_
  · rintro k hk (rfl | rfl | rfl) <;> omega
  · show w.heap.size ≤ k
    have hk' : mr + 1 ≤ k := hk
    omega

set_option maxRecDepth 100000 in
set_option maxHeartbeats 8000000 in
theorem parse_any (s : List UInt8) (w : World) (hs : s.length ≤ 4500) : Calls Tryz.prog 6 #[.string (bs s)] w (ParseP w (Fa.parse s)) := by
  obtain ⟨i0, hi, hz0, hz1, hz2⟩ := info_parts Tryz.infoFact
  have HSZ := hid hs
  obtain ⟨W1, hW1⟩ : ∃ W1, W1 = ((w.alloc (.cells #[.slice none 0 0] 24)).alloc (.cells #[.int .i64 0] 29)).alloc (.cells #[.int .i64 0] 3) := ⟨_, rfl⟩
  have hz1' : W1.heap.size = w.heap.size + 3 := by rw [hW1]; simp
  have hb1 : Below w.heap.size w W1 := by rw [hW1]; exact (((Below.refl _ w).alloc (Nat.le_refl _) _).alloc (by simp) _).alloc (by simp; omega) _
  have hR1 : Res W1 w.heap.size (w.heap.size + 1) (w.heap.size + 1 + 1) 24 (.slice none 0 0) (.int .i64 0) (.int .i64 0) := by
    refine ⟨?_, ?_, ?_, by omega, by omega⟩
    · rw [hW1]
      exact (((One.new w _ _).below ((Below.refl _ _).alloc (Nat.le_refl _) _)).below ((Below.refl _ _).alloc (Nat.le_refl _) _))
    · rw [hW1]
      have := (One.new (w.alloc (.cells #[.slice none 0 0] 24)) 29 (.int .i64 0)).below ((Below.refl _ _).alloc (Nat.le_refl _) (.cells #[.int .i64 0] 3))
      simpa using this
    · rw [hW1]
      have := One.new ((w.alloc (.cells #[.slice none 0 0] 24)).alloc (.cells #[.int .i64 0] 29)) 3 (.int .i64 0)
      simpa using this
  have HLX := hid (lex_any (bs s) W1 (by rw [bs_size]; unfold maxLen; omega))
  rw [show (bs s).data.toList = s from rfl] at HLX
  rcases hl : Lx.lex s with ⟨l, x, y⟩
  rw [hl] at HLX
  have HL := hid hl
  have HB1 := hid hb1
  have HR1 := hid hR1
  have hll : l.length ≤ 5000 := by have := Fa.lex_len hl; omega
  have hsz : s.length ≤ 5000 := by omega
  clear hl hb1 hR1 hs
  go_enter_defers Tryz.func6, Tryz.ntmps6
  go_wp2_with fail
  rw [← hW1]
  clear hW1
  refine (HLX.out).mono ?_
  rintro en w2 ⟨v, rfl, ho2, hb2⟩
  obtain ⟨tva, tcap, rfl⟩ := ownsRow_slice ho2
  have hR2 := HR1.out.below hb2
  have HTK := hid (toks_in ho2)
  have HB2 := hid (Below.step HB1.out hb2)
  have c0 := hR2.d.cell
  have cf0 := hR2.d.frozen
  have c1 := hR2.e.cell
  have cf1 := hR2.e.frozen
  have c2 := hR2.a.cell
  have cf2 := hR2.a.frozen
  have cz2 := hR2.a.lt
  have HR2 := hid hR2
  have n01 : ¬ w.heap.size = w.heap.size + 1 := by omega
  clear hR2 ho2 hb2
  by_cases hx : x = 0
  · subst hx
    have hy : y = 0 := (Fa.lex_toks hsz HL.out).2.2.2.2.2 rfl
    subst hy
    have HAT := hid (Fa.At.start HL.out)
    have HOK := hid (Fa.lex_toks hsz HL.out).1
    have hmf : ∀ (fn : Fn) (first cap : Array Value) (w : World), (Instr.makeFunc fn first cap).run Tryz.prog w = .ok (.func fn first cap) w := fun _ _ _ _ => rfl
    obtain ⟨W3, hW3⟩ : ∃ W3, W3 = (w2.setCell ⟨w.heap.size + 1, 0, none⟩ (.int .i64 0)).setCell ⟨w.heap.size + 1 + 1, 0, none⟩ (.int .i64 0) := ⟨_, rfl⟩
    have hR3 : Res W3 w.heap.size (w.heap.size + 1) (w.heap.size + 1 + 1) 24 (.slice none 0 0) (.int .i64 0) (.int .i64 0) := by rw [hW3]; exact (HR2.out.setE _).setA _
    have hT3 : Tch (res3 w.heap.size (w.heap.size + 1) (w.heap.size + 1 + 1)) w2 W3 := by
      rw [hW3]
      exact ((Tch.refl (res3 w.heap.size (w.heap.size + 1) (w.heap.size + 1 + 1)) w2).setCell (a := ⟨w.heap.size + 1, 0, none⟩) (.inl (.inr (.inl rfl))) _).setCell (a := ⟨w.heap.size + 1 + 1, 0, none⟩) (.inl (.inr (.inr rfl))) _
    have hz3 : W3.heap.size = w2.heap.size := by rw [hW3]; simp
    obtain ⟨W4, hW4⟩ : ∃ W4, W4 = W3.alloc (.cells #[.slice tva l.length tcap, .int .i64 0, .int .i64 (bs s).size] 53) := ⟨_, rfl⟩
    have hb4 : Below W3.heap.size W3 W4 := by rw [hW4]; exact (Below.refl _ W3).alloc (Nat.le_refl _) _
    have hR4 : RdrW (w.heap.size + 1 + 1) W4 w2.heap.size l 0 s.length := by
      refine ⟨.slice tva l.length tcap, ?_, ?_, Nat.zero_le _, cz2⟩
      · exact ((HTK.out.tch hT3 (by rintro k ⟨hk, _⟩ (rfl | rfl | rfl) <;> omega)).below hb4).mono fun k hk _ => ⟨by have := hk.1; omega, hk.2⟩
      · rw [hW4, ← hz3, bs_size]; exact alloc_new W3 _
    have hz4 : W4.heap.size = w2.heap.size + 1 := by rw [hW4, World.size_alloc, hz3]
    have hB4 : Below w.heap.size w W4 := HB2.out.trans ((hT3.below HB2.out.size (by rintro q (rfl | rfl | rfl) <;> omega)).trans (hb4.mono (by rw [hz3]; exact HB2.out.size)))
    have hmm := @run_makeMap Tryz.prog
    obtain ⟨W5, hput1, hM5, hg5⟩ := (MapF.made W4 Tryz.prog 9).put str_keyed Tryz.underlying54 (by unfold maxLen; omega) (str_key (s := ⟨#[102, 108, 97, 103]⟩) (by unfold maxLen; decide)) kinds_1.1 kinds_1.2
    obtain ⟨W6, hput2, hM6, hg6⟩ := hM5.put str_keyed Tryz.underlying54 (by unfold maxLen; omega) (str_key (s := ⟨#[110, 117, 109, 98, 101, 114]⟩) (by unfold maxLen; decide)) kinds_2.1 kinds_2.2
    obtain ⟨W7, hput3, hM7, hg7⟩ := (MapF.made W6 Tryz.prog 3).put int_keyed_ Tryz.underlying56 (by unfold maxLen; omega) (int_key (n := 1) (by decide)) (ranges_1 w2.heap.size).1 (ranges_1 w2.heap.size).2
    obtain ⟨W8, hput4, hM8, hg8⟩ := hM7.put int_keyed_ Tryz.underlying56 (by unfold maxLen; omega) (int_key (n := 2) (by decide)) (ranges_2 w2.heap.size).1 (ranges_2 w2.heap.size).2
    have hk4 : W4.heap.size ≤ W5.heap.size := by have := hg5.size; simp at this; omega
    have hk5 : W4.heap.size < W6.heap.size := Nat.lt_of_lt_of_le (by have := hM5.lt; omega) hg6.size
    have hb46 : Below W4.heap.size W4 W6 := ((Below.refl _ W4).alloc (Nat.le_refl _) _).grown hg5 (by simp) (fun r e => by cases e; exact Nat.le_refl _) |>.grown hg6 hk4 (fun r e => by cases e; exact Nat.le_refl _)
    have hb68 : Below W6.heap.size W6 W8 := ((Below.refl _ W6).alloc (Nat.le_refl _) _).grown hg7 (by simp) (fun r e => by cases e; exact Nat.le_refl _) |>.grown hg8 (by have := hg7.size; simp at this; omega) (fun r e => by cases e; exact Nat.le_refl _)
    have HPW := hid (show PW w W8 W4.heap.size W6.heap.size w2.heap.size l s.length 0 [] (.slice none 0 0) from
      ⟨((hR3.below hb4).below hb46).below hb68, World.ownsRow_nil _ _ _ _, (hR4.below hb46).below hb68, (hM6.below hb68).mono (by omega), hM8.mono (by omega), Below.step (Below.step hB4 hb46) hb68, cz2, by omega, hk5⟩)
    unfold flagV at hput3
    unfold spanV at hput4
    clear hM5 hM6 hM7 hM8 hg5 hg6 hg7 hg8 hb46 hb68 hk4 hR3 hT3 hb4 hR4 hB4 hz3 hz4
    go_upto_region 6 with (fail)
    rw [← hW3, ← hW4]
    clear hW3 hW4
    go_wp2_with fail
    obtain ⟨mk, hmk⟩ : ∃ m, m = W4.heap.size := ⟨_, rfl⟩
    obtain ⟨mr, hmr⟩ : ∃ m, m = W6.heap.size := ⟨_, rfl⟩
    obtain ⟨p, hp⟩ : ∃ m, m = w2.heap.size := ⟨_, rfl⟩
    rw [← hmk, ← hmr, ← hp] at HPW
    rw [← hmk, ← hmr, ← hp]
    clear hmk hmr hp hput1 hput2 hput3 hput4 c0 cf0 c1 cf1 c2 cf2 cz2 hk5 hz1'
    go_loopw [] (fun wr => ∃ (k : Nat) (d : Fa.Dom) (v : Value), Hid (PW w wr mk mr p l s.length k d v) ∧ Hid (Fa.At s l d k) ∧ d.length ≤ 60) (fun wr => l.length - nextAt wr p)
    case atStart => exact ⟨0, [], _, HPW, HAT, by simp⟩
    case round =>
      obtain ⟨k, d, v, HP, HA, hd60⟩ := hrel
      obtain ⟨va, cap, rfl⟩ := ownsRow_slice HP.out.own
      obtain ⟨y1, y2, yz, hkl⟩ := HP.out.rdr.cells
      have hl2 : l.length ≤ 9223372036854775807 := by omega
      by_cases hlt : k < l.length
      · have hltI : (k : Int) < (l.length : Int) := by omega
        have HT1 := hid (take_tok 1 1 ⟨#[]⟩ [] rfl rfl wr p l k s.length HP.out.rdr hll)
        cases h1 : Fa.take 1 [] s.length (l.drop k) with
        | error x =>
          have HE := hid (HA.out.bad hlt (Fa.factP_1 h1))
          rw [h1] at HT1
          clear h1
          go_wp2_with fail
          refine (HT1.out).mono ?_
          rintro en w1 ⟨rfl, -, ht1⟩
          unfold thrown
          go_wp2_with fail
          exact HP.out.thrown ht1 HE.out rfl rfl rfl rfl
        | ok u =>
          obtain ⟨t1, r1⟩ := u
          obtain ⟨hr1, hk1, -⟩ := take_drop h1
          subst hr1
          rw [h1] at HT1
          have H1 := hid h1
          clear h1 hk1
          go_wp2_with fail
          refine (HT1.out).mono ?_
          rintro en w1 ⟨rfl, hR1, ht1⟩
          unfold tkV
          obtain ⟨W3, hW3⟩ : ∃ W3, W3 = w1.alloc (.cells #[.int .i64 t1.2.kind, .int .i64 t1.1, .int .i64 t1.2.n, .string (bs t1.2.text)] 58) := ⟨_, rfl⟩
          have hb3 : Below w1.heap.size w1 W3 := by rw [hW3]; exact (Below.refl _ w1).alloc (Nat.le_refl _) _
          have hB3 : TokB W3 w1.heap.size t1 := by rw [hW3]; exact tok_new w1 t1
          have HB3 := hid hB3
          have HP3 := hid ((HP.out.took ht1 hR1).step hb3)
          have HT3 := hid (ht1.step hb3)
          obtain ⟨x0, x1, x2, x3, xz⟩ := hB3.cells
          have c0 := HP3.out.res.d.cell
          have cz0 := HP3.out.res.d.lt
          have hpz1 : p < w1.heap.size := Nat.lt_of_lt_of_le yz ht1.size
          have HIX := hid (show ∀ W', Below W3.heap.size W3 W' → Calls Tryz.prog 16 #[.agg #[.slice va d.length cap], .string (bs t1.2.text)] W' (Gives (.int .i64 (Fa.idx d t1.2.text)) W') from fun W' hb => factAt_any d _ t1.2.text W' ((SlOf.own HP3.out.own fun x _ => rfl).below hb))
          have HCN := hid (fun W' => check_no 9 t1 W')
          have HCY := hid (fun W' => check_yes 9 t1 W')
          unfold tkV at HCN HCY
          have HK3 := hid (show ∀ wx, Below W3.heap.size W3 wx → Below W3.heap.size W3 wx ∧ wx.cell? ⟨w.heap.size, 0, none⟩ = some (.slice va d.length cap) ∧ wx.cell? ⟨w1.heap.size, 0, none⟩ = some (.int .i64 t1.2.kind) ∧ wx.cell? ⟨w1.heap.size, 1, none⟩ = some (.int .i64 t1.1) ∧ wx.cell? ⟨w1.heap.size, 2, none⟩ = some (.int .i64 t1.2.n) ∧ wx.cell? ⟨w1.heap.size, 3, none⟩ = some (.string (bs t1.2.text)) from
            fun wx hb => ⟨hb, (hb.cell (p := ⟨w.heap.size, 0, none⟩) cz0).trans c0, (hb.cell (p := ⟨w1.heap.size, 0, none⟩) xz).trans x0, (hb.cell (p := ⟨w1.heap.size, 1, none⟩) xz).trans x1, (hb.cell (p := ⟨w1.heap.size, 2, none⟩) xz).trans x2, (hb.cell (p := ⟨w1.heap.size, 3, none⟩) xz).trans x3⟩)
          clear hR1 ht1 hb3 hB3 y1 y2 x0 x1 x2 x3 c0
          go_upto_region 10 with (fail)
          rw [← hW3]
          clear hW3
          go_cut [] from 37 to 90 (fun wx => Below W3.heap.size W3 wx ∧ Fa.idx d t1.2.text < 0)
          case first =>
            refine wp_heldS (S := StillAt W3) (by kernel_rfl) ?_
            simp only [List.size_toArray, List.length_cons, List.length_nil, Nat.reduceAdd]
            intro hc
            have S0 : StillAt W3 (Array.replicate 7 false) W3.drew := (Below.refl _ _).drew
            refine wpAnyS_take (i := 0) (v := .agg #[.slice va d.length cap]) rfl (by kernel_rfl) (by kernel_rfl) (by kernel_rfl) (fun _ _ _ h => leaves_put rfl (i := 46) (by decide) h) (fun _ _ => Iff.rfl) hc (by rfl) (fun wx hx => ?_) S0 (fun hc S0 => ?_)
            · have g := (HK3.out _ hx.still).2.1
              go_simp
            simp only [List.getElem_toArray, List.getElem_cons_zero, Act.put, List.setIfInBounds_toArray, List.set_cons_zero, List.set_cons_succ]
            refine wpAnyS_take (i := 1) (v := .pointer (some ⟨w1.heap.size, 3, none⟩)) rfl (by kernel_rfl) (by kernel_rfl) (by kernel_rfl) (fun _ _ _ h => leaves_put rfl (i := 47) (by decide) h) (fun _ _ => Iff.rfl) hc (by rfl) (fun wx hx => ?_) S0 (fun hc S0 => ?_)
            · go_simp
            simp only [List.getElem_toArray, List.getElem_cons_succ, List.getElem_cons_zero, Act.put, List.setIfInBounds_toArray, List.set_cons_zero, List.set_cons_succ]
            refine wpAnyS_take (i := 2) (v := .string (bs t1.2.text)) rfl (by kernel_rfl) (by kernel_rfl) (by kernel_rfl) (fun _ _ _ h => leaves_put rfl (i := 48) (by decide) h) (fun _ _ => Iff.rfl) hc (by rfl) (fun wx hx => ?_) S0 (fun hc S0 => ?_)
            · have g := (HK3.out _ hx.still).2.2.2.2.2
              go_simp
            simp only [List.getElem_toArray, List.getElem_cons_succ, List.getElem_cons_zero, Act.put, List.setIfInBounds_toArray, List.set_cons_zero, List.set_cons_succ]
            refine wpAnyS_take (i := 5) (v := .agg #[.int .i64 t1.2.kind, .int .i64 t1.1, .int .i64 t1.2.n, .string (bs t1.2.text)]) rfl (by kernel_rfl) (by kernel_rfl) (by kernel_rfl) (fun _ _ _ h => leaves_put rfl (i := 51) (by decide) h) (fun _ _ => Iff.rfl) hc (by rfl) (fun wx hx => ?_) S0 (fun hc S0 => ?_)
            · obtain ⟨-, -, g0, g1, g2, g3⟩ := HK3.out _ hx.still
              go_simp
            simp only [List.getElem_toArray, List.getElem_cons_succ, List.getElem_cons_zero, Act.put, List.setIfInBounds_toArray, List.set_cons_zero, List.set_cons_succ]
            refine wpAnyS_one (i := 3) rfl (by kernel_rfl) (by rfl) hc (fun K' hK => ?_)
            go_simp
            refine (HIX.out _ (Below.refl _ _).drew).mono ?_
            rintro e wx ⟨rfl, hbx⟩
            have hbX : Below W3.heap.size W3 wx := Below.step (Below.refl _ _).drew hbx
            refine hK.out _ _ hbX (fun hc => ?_)
            clear hK K'
            try simp only [List.getElem_toArray, List.getElem_cons_succ, List.getElem_cons_zero, Act.put, List.setIfInBounds_toArray, List.set_cons_zero, List.set_cons_succ]
            refine wpAnyS_one (i := 4) rfl (by kernel_rfl) (by rfl) hc (fun K' hK => ?_)
            go_simp
            refine hK.out _ _ hbX (fun hc => ?_)
            clear hK K'
            refine wpAnyS_one (i := 6) rfl (by kernel_rfl) (by rfl) hc (fun K' hK => ?_)
            by_cases hi : 0 ≤ Fa.idx d t1.2.text
            · have hid1 : decide ((0 : Int) ≤ Fa.idx d t1.2.text) = true := decide_eq_true hi
              have HE := hid (HA.out.bad hlt (Fa.factP_2 H1.out hi))
              clear hi
              go_simp
              refine (HCY.out _).mono ?_
              rintro e wy ⟨rfl, hby⟩
              exact HP3.out.thrown (Tch.of_below (Below.step hbX hby) _) HE.out rfl rfl rfl rfl
            · have hid1 : decide ((0 : Int) ≤ Fa.idx d t1.2.text) = false := decide_eq_false hi
              have HI := hid hi
              clear hi
              go_simp
              refine (HCN.out _).mono ?_
              rintro e wy ⟨rfl, hby⟩
              have hbY : Below W3.heap.size W3 wy := Below.step hbX hby
              refine hK.out _ _ hbY (fun hc => ?_)
              clear hK K'
              refine wpAnyS_done (by kernel_rfl) ?_ _
              have HBY := hid hbY
              clear hc S0 hbY hbX hby hbx
              go_wp2_with fail
              go_meet
              case rel => exact ⟨HBY.out, by have := HI.out; omega⟩
          case rest =>
          obtain ⟨hb4, hi⟩ := hcut
          rename World => W4
          have HI : Hid (¬ 0 ≤ Fa.idx d t1.2.text) := fun h => by omega
          have HP4 := hid (HP3.out.step hb4)
          have HT4 := hid (HT3.out.step hb4)
          have HB4 := hid (HB3.out.below hb4)
          have hpz4 : w1.heap.size < W4.heap.size := Nat.lt_of_lt_of_le xz hb4.size
          obtain ⟨x0, x1, x2, x3, -⟩ := HB4.out.cells
          have c0 := HP4.out.res.d.cell
          have cz4 := HP4.out.res.d.lt
          have HCN2 := hid (fun W' => check_no 2 t1 W')
          have HCY2 := hid (fun W' => check_yes 2 t1 W')
          unfold tkV at HCN2 HCY2
          clear hi hb4 HIX HCN HCY HK3
          by_cases hl60 : d.length = 60
          · have hl6 : ((d.length : Int) == 60) = true := by rw [hl60]; rfl
            have HE := hid (HA.out.bad hlt (Fa.factP_3 H1.out (by have := HI.out; omega) hl60))
            clear hl60
            go_wp2_with fail
            refine (HCY2.out _).mono ?_
            rintro e wy ⟨rfl, hby⟩
            unfold thrown
            go_wp2_with fail
            exact HP4.out.thrown (x := (2, (t1.1 : Int))) (Tch.of_below hby _) HE.out rfl rfl rfl rfl
          · have hl6 : ((d.length : Int) == 60) = false := by rw [beq_eq_false_iff_ne]; omega
            have HL60 := hid hl60
            clear hl60
            go_wp2_with fail
            refine (HCN2.out _).mono ?_
            rintro e w5 ⟨rfl, hb5⟩
            have HP5 := hid (HP4.out.step hb5)
            have HT5 := hid (HT4.out.step hb5)
            have HB5 := hid (HB4.out.below hb5)
            have HTT := hid (take_tok 1 1 ⟨#[]⟩ [] rfl rfl w5 p l (k + 1) s.length HP5.out.rdr hll)
            have hpz5 : w1.heap.size < w5.heap.size := Nat.lt_of_lt_of_le hpz4 hb5.size
            clear hb5 x0 x1 x2 x3 c0 HCN2 HCY2
            cases h2 : Fa.take 1 [] s.length (l.drop (k + 1)) with
            | error x =>
              have HE := hid (HA.out.bad hlt (Fa.factP_4 H1.out (by have := HI.out; omega) HL60.out h2))
              rw [h2] at HTT
              clear h2
              go_wp2_with fail
              refine (HTT.out).mono ?_
              rintro en w6 ⟨rfl, -, ht6⟩
              unfold thrown
              go_wp2_with fail
              exact HP5.out.thrown ht6 HE.out rfl rfl rfl rfl
            | ok u =>
              obtain ⟨t2, r2⟩ := u
              obtain ⟨hr2, hk2, -, hm2, -⟩ := take_drop h2
              subst hr2
              rw [h2] at HTT
              have H2 := hid h2
              have HM2 := hid (tok_len (HOK.out _ (List.mem_of_getElem? hm2)))
              clear h2 hk2 hm2
              go_wp2_with fail
              refine (HTT.out).mono ?_
              rintro en w6 ⟨rfl, hR6, ht6⟩
              unfold tkV
              obtain ⟨W7, hW7⟩ : ∃ W7, W7 = w6.alloc (.cells #[.int .i64 t2.2.kind, .int .i64 t2.1, .int .i64 t2.2.n, .string (bs t2.2.text)] 58) := ⟨_, rfl⟩
              have hb7 : Below w6.heap.size w6 W7 := by rw [hW7]; exact (Below.refl _ w6).alloc (Nat.le_refl _) _
              have hB7 : TokB W7 w6.heap.size t2 := by rw [hW7]; exact tok_new w6 t2
              have HB7 := hid hB7
              have HP7 := hid ((HP5.out.took ht6 hR6).step hb7)
              have HT7 := hid ((HT5.out.trans ht6 fun b hb _ => hb).step hb7)
              have hB17 := (HB5.out.tch ht6 (by show ¬ w1.heap.size = p; omega)).below hb7
              have HB17 := hid hB17
              obtain ⟨x0, x1, x2, x3, xz7⟩ := hB7.cells
              obtain ⟨y0, y1, y2, y3, yz7⟩ := hB17.cells
              have hnl : (bs t2.2.text).size ≤ maxLen := by have := HM2.out; rw [bs_size]; unfold maxLen; omega
              have hget := HP7.out.km.get str_keyed Tryz.underlying54 (zero_int W7) (str_key hnl)
              rw [kinds_get] at hget
              clear hR6 ht6 hb7 hB7 hB17 hnl
              go_upto_region 13 with (fail)
              rw [← hW7]
              clear hW7
              obtain ⟨W8, hW8⟩ : ∃ W8, W8 = W7.alloc (.cells #[.string (bs t1.2.text), .int .i64 (kindOf t2.2.text), .int .i64 0, .int .i64 0] 62) := ⟨_, rfl⟩
              have hb8 : Below W7.heap.size W7 W8 := by rw [hW8]; exact (Below.refl _ W7).alloc (Nat.le_refl _) _
              have hs8 : W8.heap[W7.heap.size]? = some (.cells #[.string (bs t1.2.text), .int .i64 (kindOf t2.2.text), .int .i64 0, .int .i64 0] 62 (0, 0)) := by rw [hW8]; exact alloc_new W7 _
              have HP8 := hid (HP7.out.step hb8)
              have HT8 := hid (HT7.out.step hb8)
              have HB8 := hid (HB7.out.below hb8)
              have HS8 := hid hs8
              go_upto_region 14 with (fail)
              rw [← hW8]
              clear hW8
              clear x0 x1 x2 x3 y0 y1 y2 y3 hget
              obtain ⟨x0, x1, x2, x3, xz8⟩ := HB8.out.cells
              have z1 : W8.cell? ⟨W7.heap.size, 1, none⟩ = some (.int .i64 (kindOf t2.2.text)) := by simp [World.cell?, hs8]
              have zz8 : W7.heap.size < W8.heap.size := (Array.getElem?_eq_some_iff.1 hs8).1
              have HCN5 := hid (fun W' => check_no 5 t2 W')
              have HCY5 := hid (fun W' => check_yes 5 t2 W')
              unfold tkV at HCN5 HCY5
              have hwz : wr.heap.size ≤ W7.heap.size := HT7.out.size
              clear hb8 hs8
              by_cases hk0 : kindOf t2.2.text = 0
              · have hkb : (kindOf t2.2.text == 0) = true := by rw [hk0]; rfl
                have HE := hid (HA.out.bad hlt (Fa.factP_5 H1.out (by have := HI.out; omega) HL60.out H2.out (ranges_none hk0 _ _ _)))
                clear hk0
                go_wp2_with fail
                refine (HCY5.out _).mono ?_
                rintro e wy ⟨rfl, hby⟩
                unfold thrown
                go_wp2_with fail
                exact HP8.out.thrown (x := (5, (t2.1 : Int))) (Tch.of_below hby _) HE.out rfl rfl rfl rfl
              · have hkb : (kindOf t2.2.text == 0) = false := by rw [beq_eq_false_iff_ne]; exact hk0
                have HK := hid (kindOf_some hk0)
                clear hk0
                go_wp2_with fail
                refine (HCN5.out _).mono ?_
                rintro e w9 ⟨rfl, hb9⟩
                have HP9 := hid (HP8.out.step hb9)
                have HT9 := hid (HT8.out.step hb9)
                have HS9 := hid ((hb9.block _ zz8).trans HS8.out)
                have zz9 : W7.heap.size < w9.heap.size := Nat.lt_of_lt_of_le zz8 hb9.size
                clear hb9 x0 x1 x2 x3 z1 hkb HCN5 HCY5
                go_upto_region 15 with (fail)
                go_cut [] from 37 to 90 (fun wx => Hid (RangeW w wr wx mk mr p l s.length (k + 1 + 1) d (.slice va d.length cap) W7.heap.size t1.2.text t2.2.text t2.1))
                case first =>
                  have HX : Hid (w9.heap[W7.heap.size]? = some (.cells #[.string (bs t1.2.text), .int .i64 (kindOf t2.2.text), .int .i64 0, .int .i64 0] 62 (0, 0))) := HS9.out
                  rcases HK.out with ⟨hw, hkd⟩ | ⟨hw, hw2, hkd⟩
                  · rw [hkd] at HX
                    have z1 : w9.cell? ⟨W7.heap.size, 1, none⟩ = some (.int .i64 1) := by simp [World.cell?, HX.out]
                    have z2 : w9.cell? ⟨W7.heap.size, 2, none⟩ = some (.int .i64 0) := by simp [World.cell?, HX.out]
                    have z3 : w9.cell? ⟨W7.heap.size, 3, none⟩ = some (.int .i64 0) := by simp [World.cell?, HX.out]
                    have v9 : ∀ j, w9.frozen? ⟨W7.heap.size, j, none⟩ = false := fun j => frozen_of_row w9 _ j _ _ HX.out
                    have hget := HP9.out.rm.get int_keyed_ Tryz.underlying56 (zero_fn w9) (int_key (n := 1) (by decide))
                    have hget' : (Instr.lookup 56 (.map (some mr)) (.int .i64 1) false).run Tryz.prog w9 = .ok (.func (.func 31) #[.pointer (some ⟨p, 0, none⟩)] #[]) w9 := hget
                    have HRG := hid (ranges_flag hw t2.1 s.length (l.drop (k + 1 + 1)))
                    clear hw hkd hget
                    go_wp2_with fail
                    refine (flag_any _ w9).mono ?_
                    rintro en w10 ⟨rfl, rfl⟩
                    go_wp2_with fail
                    go_meet
                    case rel => exact rangeW_put (u := (1, 0, 1)) HP.out HT9.out HRG.out (by omega) HP9.out.rdr HX.out hwz (by omega) HP9.out.l2
                  · rw [hkd] at HX
                    have z1 : w9.cell? ⟨W7.heap.size, 1, none⟩ = some (.int .i64 2) := by simp [World.cell?, HX.out]
                    have hget := HP9.out.rm.get int_keyed_ Tryz.underlying56 (zero_fn w9) (int_key (n := 2) (by decide))
                    have hget' : (Instr.lookup 56 (.map (some mr)) (.int .i64 2) false).run Tryz.prog w9 = .ok (.func (.func 32) #[.pointer (some ⟨p, 0, none⟩)] #[]) w9 := hget
                    have HSP := hid (span_any w9 p l (k + 1 + 1) s.length HP9.out.rdr hll)
                    have HW1 := hid hw
                    have HW2 := hid hw2
                    clear hw hw2 hkd hget
                    cases h3 : Fa.span s.length (l.drop (k + 1 + 1)) with
                    | error x =>
                      have HE := hid (HA.out.bad hlt (Fa.factP_5 H1.out (by have := HI.out; omega) HL60.out H2.out (ranges_bad HW1.out HW2.out h3)))
                      rw [h3] at HSP
                      clear h3
                      go_wp2_with fail
                      refine (HSP.out).mono ?_
                      rintro en w10 ⟨rfl, ht10⟩
                      unfold thrown
                      go_wp2_with fail
                      exact HP9.out.thrown ht10 HE.out rfl rfl rfl rfl
                    | ok q =>
                      obtain ⟨q, r3⟩ := q
                      have HRG := fun (hr : r3 = l.drop (k + 1 + 1 + 3)) => hid (ranges_num HW1.out HW2.out (at_ := t2.1) (show Fa.span s.length (l.drop (k + 1 + 1)) = .ok (q, l.drop (k + 1 + 1 + 3)) by rw [← hr]; exact h3))
                      rw [h3] at HSP
                      clear h3
                      go_wp2_with fail
                      refine (HSP.out).mono ?_
                      rintro en w10 ⟨rfl, hr3, hR10, ht10⟩
                      have HRG2 := HRG hr3
                      clear HRG hr3
                      have HX10 := hid ((ht10.block _ zz9 (by show ¬ W7.heap.size = p; have := HP9.out.l2; omega)).trans HX.out)
                      clear z1 hget'
                      have z2 : w10.cell? ⟨W7.heap.size, 2, none⟩ = some (.int .i64 0) := by simp [World.cell?, HX10.out]
                      have z3 : w10.cell? ⟨W7.heap.size, 3, none⟩ = some (.int .i64 0) := by simp [World.cell?, HX10.out]
                      have v9 : ∀ j, w10.frozen? ⟨W7.heap.size, j, none⟩ = false := fun j => frozen_of_row w10 _ j _ _ HX10.out
                      have zz10 : W7.heap.size < w10.heap.size := Nat.lt_of_lt_of_le zz9 ht10.size
                      have HR10 := hid hR10
                      have HT10 := hid (HT9.out.trans ht10 fun b hb _ => hb)
                      clear hR10 ht10
                      go_wp2_with fail
                      go_meet
                      case rel => exact rangeW_put (u := (2, q.1, q.2)) HP.out HT10.out HRG2.out (by omega) HR10.out HX10.out hwz (by omega) HP9.out.l2
                case rest =>
                rename World => w10
                obtain ⟨u, k', hrg, hkk, hP10, hT10, hfb⟩ := hcut.out
                have HRG := hid hrg
                have HP10 := hid hP10
                have HT10 := hid hT10
                have HFB := hid hfb
                have HT4' := hid (take_tok 4 4 ⟨#[59]⟩ [59] rfl rfl w10 p l k' s.length hP10.rdr hll)
                have zz10 : W7.heap.size < w10.heap.size := (Array.getElem?_eq_some_iff.1 hfb).1
                clear hcut hrg hP10 hT10 hfb
                cases h4 : Fa.take 4 [59] s.length (l.drop k') with
                | error x =>
                  have HE := hid (HA.out.bad hlt (Fa.factP_6 H1.out (by have := HI.out; omega) HL60.out H2.out HRG.out h4))
                  rw [h4] at HT4'
                  clear h4
                  go_wp2_with fail
                  refine (HT4'.out).mono ?_
                  rintro en w11 ⟨rfl, -, ht11⟩
                  unfold thrown
                  go_wp2_with fail
                  exact HP10.out.thrown ht11 HE.out rfl rfl rfl rfl
                | ok q =>
                  obtain ⟨t4, r4⟩ := q
                  obtain ⟨hr4, hk4, -⟩ := take_drop h4
                  subst hr4
                  rw [h4] at HT4'
                  have HST := hid (HA.out.step hlt (show k < k' + 1 by omega) (Fa.factP_7 H1.out (by have := HI.out; omega) HL60.out H2.out HRG.out h4))
                  clear h4
                  go_wp2_with fail
                  refine (HT4'.out).mono ?_
                  rintro en w11 ⟨rfl, hR11, ht11⟩
                  unfold tkV
                  have HP11 := hid (HP10.out.took ht11 hR11)
                  have HF11 := hid ((ht11.block _ zz10 (by show ¬ W7.heap.size = p; have := HP9.out.l2; omega)).trans HFB.out)
                  have z0 : w11.cell? ⟨W7.heap.size, 0, none⟩ = some (.string (bs t1.2.text)) := by simp [World.cell?, HF11.out]
                  have z1 : w11.cell? ⟨W7.heap.size, 1, none⟩ = some (.int .i64 u.1) := by simp [World.cell?, HF11.out]
                  have z2 : w11.cell? ⟨W7.heap.size, 2, none⟩ = some (.int .i64 u.2.1) := by simp [World.cell?, HF11.out]
                  have z3 : w11.cell? ⟨W7.heap.size, 3, none⟩ = some (.int .i64 u.2.2) := by simp [World.cell?, HF11.out]
                  have zz11 : W7.heap.size < w11.heap.size := Nat.lt_of_lt_of_le zz10 ht11.size
                  have c0 := HP11.out.res.d.cell
                  have cf0 := HP11.out.res.d.frozen
                  have cz0' := HP11.out.res.d.lt
                  have hown := HP11.out.own.alloc (.cells #[.string (bs t1.2.text), .int .i64 u.1, .int .i64 u.2.1, .int .i64 u.2.2] 62)
                  have hmr : mr + 1 ≤ w11.heap.size := HP11.out.rm.lt
                  have hd60' : d.length < 60 := by have := HL60.out; omega
                  have hne : ∀ r, (Value.slice va d.length cap).ownBlock = some r → w.heap.size ≠ r := fun r e => by
                    have h1 := (HP11.out.own.lt r e).1
                    have h2 := HP11.out.l1
                    have h3 := HP11.out.l2
                    have h4 := HP11.out.l3
                    omega
                  have HD12 := hid (show ∀ w12, (w11.alloc (.cells #[.string (bs t1.2.text), .int .i64 u.1, .int .i64 u.2.1, .int .i64 u.2.2] 62)).grownBy w12 (Value.slice va d.length cap).ownBlock → One w12 w.heap.size 24 (.slice va d.length cap) from fun w12 hg => by
                    have hD := HP11.out.res.d.below ((Below.refl _ w11).alloc (Nat.le_refl _) (.cells #[.string (bs t1.2.text), .int .i64 u.1, .int .i64 u.2.1, .int .i64 u.2.2] 62))
                    exact (hg.block _ hD.lt (fun e => hne _ e.symm rfl)).trans hD)
                  clear hR11 ht11 hne
                  go_wp2_with (at_builtin; refine wpList_append_own _ rfl _ _ 22 rfl (mr + 1) 62 i0 (.agg #[.string ⟨#[]⟩, .int .i64 0, .int .i64 0, .int .i64 0]) 4 40 Tryz.underlying22 hi hz0 hz1 hz2 rfl (by decide) _ _ _ rfl hown ⟨w11.heap.size, 0, none⟩ 1 1 [.string (bs t1.2.text), .int .i64 u.1, .int .i64 u.2.1, .int .i64 u.2.2] rfl rfl (cells_new rfl) (by simp [Value.oneCell']) (by unfold maxLen; omega) (by omega) (by simp; omega) ?_; intro v' w12 ho12 hg12 _; obtain ⟨va', cap', rfl⟩ := ownsRow_slice ho12; have hD12 := HD12.out w12 hg12; have g0 := hD12.cell; have g1 := hD12.frozen; have g2 := hD12.lt)
                  have HG := hid (HP11.out.grew (f := ⟨t1.2.text, u.1, u.2.1, u.2.2⟩) ((Below.refl _ w11).alloc (Nat.le_refl _) _) ho12 hg12)
                  have HN1 := hid HG.out.rdr.nextAt
                  have HN2 := hid HP.out.rdr.nextAt
                  clear hD12 g0 g1 g2 ho12 hg12
                  go_roundw
                  case rel => exact ⟨k' + 1, _, _, HG, HST, by rw [List.length_append, List.length_singleton]; omega⟩
                  case measure =>
                    rw [HN1.out, HN2.out]
                    omega
      · have HE := hid (HA.out.done hlt)
        have c0 := HP.out.res.d.cell
        have cf0 := HP.out.res.d.frozen
        have cz0 := HP.out.res.d.lt
        have c1 := HP.out.res.e.cell
        have cf1 := HP.out.res.e.frozen
        have cz1 := HP.out.res.e.lt
        have c2 := HP.out.res.a.cell
        have cf2 := HP.out.res.a.frozen
        have cz2 := HP.out.res.a.lt
        go_wp2_with fail
        refine leaves_ret_1 (D := w.heap.size) (E := w.heap.size + 1) (A := w.heap.size + 1 + 1) (v := .slice va d.length cap) (er := .int .i64 0) (at_ := .int .i64 0) rfl rfl rfl rfl ?_ ?_
        · exact ((HP.out.res.setD _).setE _).setA _
        · rw [HE.out]
          exact parse_done HP.out
  · have hx1 : (x != 0) = true := by rw [bne_iff_ne]; exact hx
    have HE := hid (Fa.parse_bad HL.out hx)
    clear hx
    go_upto_region 3 with (fail)
    go_region
    all_goals (go_wp2_with fail)
    refine leaves_ret_0 (D := w.heap.size) (E := w.heap.size + 1) (A := w.heap.size + 1 + 1) (v := .slice none 0 0) (er := .int .i64 x) (at_ := .int .i64 y) rfl rfl rfl rfl ?_ ?_
    · exact (((((HR2.out.setE _).setA _).setD _).setE _).setA _).drew
    · rw [HE.out]
      exact ⟨_, rfl, SlIn.nil _ _ _ _, ((((((HB2.out.setCell (Nat.le_succ _) _).setCell (by show w.heap.size ≤ w.heap.size + 1 + 1; omega) _).setCell (Nat.le_refl _) _).setCell (Nat.le_succ _) _).setCell (by show w.heap.size ≤ w.heap.size + 1 + 1; omega) _).drew)⟩

end Go.Proofs.YteogmlgmodeajaaGreatDoor
