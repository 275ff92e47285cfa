/-
  fact.ParseCase. Conditions: texts of at most 4500 bytes, lengths of names and of the domain.
-/
import Derived.Test.YteogmlgmodeajaaGreatDoorZFa10
import Derived.Test.YteogmlgmodeajaaGreatDoorZStillAt
namespace Go.Proofs.YteogmlgmodeajaaGreatDoor
open Go.RowKit Go.Maps

theorem made_ints (n : Nat) : (madeCells (Value.int .i64 0).cells (n * 1)).toList = (List.replicate n (0 : Int)).flatMap numC := by
  rw [flat_num]
  unfold madeCells
  apply List.ext_getElem?
  intro i
  by_cases h : i < n
  · simp [h, Value.cells, Nat.mod_one]
  · simp [h]

/-- what ParseCase ends in -/
def CaseP (w : World) (r : List Int × Int × Int) (en : Ending) (w' : World) : Prop :=
  ∃ v, en = .returned (.tuple #[v, .int .i64 r.2.1, .int .i64 r.2.2]) ∧ SlIn w' v (fun k => w.heap.size ≤ k) 1 numC r.1 ∧ Below w.heap.size w w'

theorem MapC.tch {P : Program} {k : TypeId} {b n : Nat} {f : Value → Option Value} {w w' : World} {O : Nat → Prop} (h : MapC w P k b n f) (ht : Tch O w w') (hb : ¬ O b) : MapC w' P k b n f := by
  obtain ⟨D, ⟨es, clock, h1, r⟩, h2, h3⟩ := h
  exact ⟨D, ⟨es, clock, (ht.block b (Array.getElem?_eq_some_iff.1 h1).1 hb).trans h1, r⟩, h2, h3⟩

/-- what stands there while ParseCase goes on -/
structure CW (w W : World) (ms p : Nat) (l : List Fa.T) (e k : Nat) (d : Fa.Dom) (c : List Int) (g : List (List UInt8)) (vf v : Value) : Prop where
  dom : One W w.heap.size 24 vf
  res : Res W (w.heap.size + 1) (w.heap.size + 1 + 1) (w.heap.size + 1 + 1 + 1) 26 v (.int .i64 0) (.int .i64 0)
  own : W.ownsRow (p + 1) 3 1 v c.length (c.flatMap numC)
  rdr : RdrW (w.heap.size + 1 + 1 + 1) W p l k e
  miss : MapC W Tryz.prog 9 ms (d.length - g.length) (missF (d.map Fa.Fact.name) g)
  below : Below w.heap.size w W
  l1 : w.heap.size + 1 + 1 + 1 < p
  l2 : ∀ b, v.ownBlock = some b → b < ms
  l3 : p < ms

section
variable {w W W' : World} {ms p e k k' : Nat} {l : List Fa.T} {d : Fa.Dom} {c : List Int} {g : List (List UInt8)} {vf v : Value}
theorem CW.step (h : CW w W ms p l e k d c g vf v) (hb : Below W.heap.size W W') : CW w W' ms p l e k d c g vf v :=
  ⟨h.dom.below hb, h.res.below hb, ownsRow_below h.own hb, h.rdr.below hb, h.miss.below hb, Below.step h.below hb, h.l1, h.l2, h.l3⟩
theorem CW.took (h : CW w W ms p l e k d c g vf v) (ht : Tch (fun b => b = p) W W') (hr : RdrW (w.heap.size + 1 + 1 + 1) W' p l k' e) : CW w W' ms p l e k' d c g vf v := by
  have h1 := h.l1
  have h3 := h.l3
  refine ⟨h.dom.tch ht (by omega), h.res.tch ht ?_, ownsRow_tch h.own ht ?_, hr, h.miss.tch ht (by omega), ?_, h1, h.l2, h3⟩
  · rintro q (rfl | rfl | rfl) e <;> omega
  · intro g hg e
    have := (h.own.lt g hg).1
    omega
  · exact h.below.trans (ht.below h.below.size fun q hq => by omega)
/-- thrown: ParseCase ends so -/
theorem CW.thrown {s : List UInt8} {x : Fa.Fail} (h : CW w W ms p l e k d c g vf v) (ht : Tch (fun b => b = p) W W') (hE : Fa.parseCase d s = ([], x.1, x.2)) {fn : Func} (hfn : fn.results = #[.cell 4 26, .cell 5 29, .cell 6 3])
    {tmps : Array Value} (h2 : tmps.getD 4 undef = .pointer (some ⟨w.heap.size + 1, 0, none⟩)) (h3 : tmps.getD 5 undef = .pointer (some ⟨w.heap.size + 1 + 1, 0, none⟩)) (h4 : tmps.getD 6 undef = .pointer (some ⟨w.heap.size + 1 + 1 + 1, 0, none⟩)) :
    bodyPostD Tryz.prog fn (CaseP w (Fa.parseCase d s)) (.panic [{ v := .iface 95 (.agg #[.int .i64 x.1, .int .i64 x.2]), recovered := false }])
      { tmps := tmps, defers := [{ target := .fn (.func 37) #[.pointer (some ⟨w.heap.size + 1, 0, none⟩), .pointer (some ⟨w.heap.size + 1 + 1, 0, none⟩), .pointer (some ⟨w.heap.size + 1 + 1 + 1, 0, none⟩)], args := #[] }] } W' := by
  have g1 := h.l1
  refine leaves_2 hfn h2 h3 h4 (h.res.tch ht (by rintro q (rfl | rfl | rfl) e <;> omega)) x fun w' hr ht' => ?_
  rw [hE]
  refine ⟨_, rfl, SlIn.nil _ _ _ _, ?_⟩
  have hb := h.below.trans (ht.below h.below.size fun q hq => by omega)
  exact hb.trans (ht'.below hb.size (by rintro q (rfl | rfl | rfl) <;> omega))
/-- a value is put, its name is missing no more -/
theorem CW.put {gc i n cap : Nat} {x : Int} {a : List UInt8} {W2 : World} (h : CW w W ms p l e k d c g vf (.slice (some ⟨gc, 0, none⟩) n cap)) (hn : c.length = n) (hg : (W.setCell ⟨gc, i, none⟩ (.int .i64 x)).grownBy W2 (some ms)) (hm : MapC W2 Tryz.prog 9 ms (d.length - (g ++ [a]).length) (missF (d.map Fa.Fact.name) (g ++ [a]))) :
    CW w W2 ms p l e k d (c.set i x) (g ++ [a]) vf (.slice (some ⟨gc, 0, none⟩) n cap) := by
  subst hn
  have h1 := h.l1
  have h3 := h.l3
  have hgc := h.own.lt gc rfl
  have hgm := h.l2 gc rfl
  have hT : Tch (fun b => b = gc ∨ b = ms) W W2 := ((Tch.refl (fun b => b = gc ∨ b = ms) W).setCell (a := ⟨gc, i, none⟩) (.inl (.inl rfl)) _).grown hg fun r e => by cases e; exact .inl (.inr rfl)
  refine ⟨h.dom.tch hT (by rintro (e | e) <;> omega), h.res.tch hT (by rintro q (rfl | rfl | rfl) (e | e) <;> omega), ?_, h.rdr.tch hT (by rintro b hb1 hb2 (e | e) <;> omega), hm, h.below.trans (hT.below h.below.size (by rintro q (e | e) <;> omega)), h1, h.l2, h3⟩
  rw [List.length_set]
  exact (own_set h.own i x).kept hg (.inr (fun e => by have e' : gc = ms := Option.some.inj e; omega))
/-- ParseCase returns the case -/
theorem CW.done {gc n cap : Nat} (h : CW w W ms p l e k d c g vf (.slice (some ⟨gc, 0, none⟩) n cap)) (hn : c.length = n) : CaseP w (c, 0, 0) (.returned (.tuple #[.slice (some ⟨gc, 0, none⟩) n cap, .int .i64 0, .int .i64 0]))
    (((W.setCell ⟨w.heap.size + 1, 0, none⟩ (.slice (some ⟨gc, 0, none⟩) n cap)).setCell ⟨w.heap.size + 1 + 1, 0, none⟩ (.int .i64 0)).setCell ⟨w.heap.size + 1 + 1 + 1, 0, none⟩ (.int .i64 0)) := by
  subst hn
  have h1 := h.l1
  have hT : Tch (res3 (w.heap.size + 1) (w.heap.size + 1 + 1) (w.heap.size + 1 + 1 + 1)) W (((W.setCell ⟨w.heap.size + 1, 0, none⟩ (.slice (some ⟨gc, 0, none⟩) c.length cap)).setCell ⟨w.heap.size + 1 + 1, 0, none⟩ (.int .i64 0)).setCell ⟨w.heap.size + 1 + 1 + 1, 0, none⟩ (.int .i64 0)) :=
    (((Tch.refl (res3 (w.heap.size + 1) (w.heap.size + 1 + 1) (w.heap.size + 1 + 1 + 1)) W).setCell (a := ⟨w.heap.size + 1, 0, none⟩) (.inl (.inl rfl)) _).setCell (a := ⟨w.heap.size + 1 + 1, 0, none⟩) (.inl (.inr (.inl rfl))) _).setCell (a := ⟨w.heap.size + 1 + 1 + 1, 0, none⟩) (.inl (.inr (.inr rfl))) _
  refine ⟨_, rfl, ?_, h.below.trans (hT.below h.below.size (by rintro q (rfl | rfl | rfl) <;> omega))⟩
  refine ((SlIn.own h.own fun x _ => rfl).mono (Q' := fun k => p + 1 ≤ k) fun k hk _ => (h.own.lt k hk).1).tch hT ?_ |>.mono fun k hk _ => ?_
  · rintro k hk (rfl | rfl | rfl) <;> omega
  · show w.heap.size ≤ k
    have hk' : p + 1 ≤ k := hk
    omega
end

/-- what stands there behind the comma -/
def StartW (w wr wx : World) (ms p : Nat) (l : List Fa.T) (e k : Nat) (d : Fa.Dom) (c : List Int) (g : List (List UInt8)) (vf v : Value) : Prop :=
  ∃ (t0 : Fa.T) (k1 : Nat), Fa.start (decide (k = 0)) e (l.drop k) = .ok (t0, l.drop k1) ∧ k ≤ k1 ∧ CW w wx ms p l e k1 d c g vf v ∧ Tch (fun b => b = p) wr wx

/-- what stands there while the names are laid down -/
structure MW (W0 wr : World) (ms k : Nat) (d : Fa.Dom) : Prop where
  map : MapC wr Tryz.prog 9 ms k (missF ((d.take k).map Fa.Fact.name) [])
  tch : Tch (fun x => x = ms) W0 wr

set_option maxRecDepth 100000 in
set_option maxHeartbeats 8000000 in
theorem parseCase_any (d : Fa.Dom) (vf : Value) (s : List UInt8) (w : World) (h : SlOf w vf 4 factC d) (hn : ∀ f ∈ d, f.name.length ≤ 5000) (hd : d.length ≤ 5000) (hs : s.length ≤ 4500) :
    Calls Tryz.prog 8 #[.agg #[vf], .string (bs s)] w (CaseP w (Fa.parseCase d s)) := by
  obtain ⟨i0, hi0, hz0, hzz1, hzz2⟩ := info_parts Tryz.infoInt
  have HSZ := hid hs
  have HS := hid h
  have HNM := hid hn
  obtain ⟨W1, hW1⟩ : ∃ W1, W1 = (((w.alloc (.cells #[vf] 24)).alloc (.cells #[.slice none 0 0] 26)).alloc (.cells #[.int .i64 0] 29)).alloc (.cells #[.int .i64 0] 3) := ⟨_, rfl⟩
  have hz1' : W1.heap.size = w.heap.size + 4 := by rw [hW1]; simp
  have hb1 : Below w.heap.size w W1 := by rw [hW1]; exact ((((Below.refl _ w).alloc (Nat.le_refl _) _).alloc (by simp) _).alloc (by simp; omega) _).alloc (by simp; omega) _
  have hD1 : One W1 w.heap.size 24 vf := by
    rw [hW1]
    exact ((((One.new w _ _).below ((Below.refl _ _).alloc (Nat.le_refl _) _)).below ((Below.refl _ _).alloc (Nat.le_refl _) _)).below ((Below.refl _ _).alloc (Nat.le_refl _) _))
  have hR1 : Res W1 (w.heap.size + 1) (w.heap.size + 1 + 1) (w.heap.size + 1 + 1 + 1) 26 (.slice none 0 0) (.int .i64 0) (.int .i64 0) := by
    refine ⟨?_, ?_, ?_, by omega, by omega⟩
    · rw [hW1]
      have := ((One.new (w.alloc (.cells #[vf] 24)) 26 (.slice none 0 0)).below ((Below.refl _ _).alloc (Nat.le_refl _) (.cells #[.int .i64 0] 29))).below ((Below.refl _ _).alloc (Nat.le_refl _) (.cells #[.int .i64 0] 3))
      simpa using this
    · rw [hW1]
      have := (One.new ((w.alloc (.cells #[vf] 24)).alloc (.cells #[.slice none 0 0] 26)) 29 (.int .i64 0)).below ((Below.refl _ _).alloc (Nat.le_refl _) (.cells #[.int .i64 0] 3))
      simpa using this
    · rw [hW1]
      have := One.new (((w.alloc (.cells #[vf] 24)).alloc (.cells #[.slice none 0 0] 26)).alloc (.cells #[.int .i64 0] 29)) 3 (.int .i64 0)
      simpa using this
  have HVC := hid (factValid_any d vf W1 (h.below hb1) hn hd)
  have HLX := hid (fun W => lex_any (bs s) W (by rw [bs_size]; unfold maxLen; omega))
  rw [show (bs s).data.toList = s from rfl] at HLX
  rcases hl : Lx.lex s with ⟨l, x, y⟩
  rw [hl] at HLX
  have HL := hid hl
  have HB1 := hid hb1
  have HR1 := hid hR1
  have HD1 := hid hD1
  have hll : l.length ≤ 5000 := by have := Fa.lex_len hl; omega
  have hsz : s.length ≤ 5000 := by omega
  obtain ⟨va, cap, rfl, k1, k2, -⟩ := h
  have c1 := hD1.cell
  have z1 := hD1.lt
  have hd2 : d.length ≤ 9223372036854775807 := by omega
  clear hl hb1 hR1 hD1 hs hn
  go_enter_defers Tryz.func8, Tryz.ntmps8
  go_wp2_with fail
  rw [← hW1]
  clear hW1
  refine (HVC.out).mono ?_
  rintro en w2 ⟨rfl, hb2⟩
  have HR2 := hid (HR1.out.below hb2)
  have HD2 := hid (HD1.out.below hb2)
  have HB2 := hid (Below.step HB1.out hb2)
  have hz2 := hb2.size
  have n01 : ¬ w.heap.size + 1 = w.heap.size + 1 + 1 := by omega
  clear hb2 c1
  have c0 := HR2.out.d.cell
  have cf0 := HR2.out.d.frozen
  have cz0 := HR2.out.d.lt
  have c1 := HR2.out.e.cell
  have cf1 := HR2.out.e.frozen
  have cz1 := HR2.out.e.lt
  have c2 := HR2.out.a.cell
  have cf2 := HR2.out.a.frozen
  have cz2 := HR2.out.a.lt
  cases hv : Fa.valid d with
  | false =>
    have HE := hid (Fa.parseCase_arg (s := s) hv)
    clear hv
    go_wp2_with fail
    refine leaves_ret_02 (D := w.heap.size + 1) (E := w.heap.size + 1 + 1) (A := w.heap.size + 1 + 1 + 1) (v := .slice none 0 0) (er := .int .i64 1) (at_ := .int .i64 0) rfl rfl rfl rfl ?_ ?_
    · exact ((HR2.out.setD _).setE _).setA _
    · rw [HE.out]
      exact ⟨_, rfl, SlIn.nil _ _ _ _, ((HB2.out.setCell (by show w.heap.size ≤ w.heap.size + 1; omega) _).setCell (by show w.heap.size ≤ w.heap.size + 1 + 1; omega) _).setCell (by show w.heap.size ≤ w.heap.size + 1 + 1 + 1; omega) _⟩
  | true =>
    have HV := hid hv
    clear hv
    go_wp2_with fail
    refine (HLX.out w2).mono ?_
    rintro en w3 ⟨v, rfl, ho3, hb3⟩
    obtain ⟨tva, tcap, rfl⟩ := ownsRow_slice ho3
    have HTK := hid (toks_in ho3)
    have HB3 := hid (Below.step HB2.out hb3)
    have HR3 := hid (HR2.out.below hb3)
    have HD3 := hid (HD2.out.below hb3)
    clear ho3 c0 cf0 cz0 c1 cf1 cz1 c2 cf2 cz2
    have hz3' := hb3.size
    clear hb3
    have c0 := HR3.out.d.cell
    have cf0 := HR3.out.d.frozen
    have cz0 := HR3.out.d.lt
    have c1 := HR3.out.e.cell
    have cf1 := HR3.out.e.frozen
    have cz1 := HR3.out.e.lt
    have c2 := HR3.out.a.cell
    have cf2 := HR3.out.a.frozen
    have cz2 := HR3.out.a.lt
    by_cases hx : x = 0
    · subst hx
      have hy : y = 0 := (Fa.lex_toks hsz HL.out).2.2.2.2.2 rfl
      subst hy
      have HAT := hid (Fa.AtC.start HV.out HL.out)
      have HOK := hid (Fa.lex_toks hsz HL.out).1
      have hmf : ∀ (fn : Fn) (first cap : Array Value) (w : World), (Instr.makeFunc fn first cap).run Tryz.prog w = .ok (.func fn first cap) w := fun _ _ _ _ => rfl
      obtain ⟨W4, hW4⟩ : ∃ W4, W4 = (w3.setCell ⟨w.heap.size + 1 + 1, 0, none⟩ (.int .i64 0)).setCell ⟨w.heap.size + 1 + 1 + 1, 0, none⟩ (.int .i64 0) := ⟨_, rfl⟩
      have hR4 : Res W4 (w.heap.size + 1) (w.heap.size + 1 + 1) (w.heap.size + 1 + 1 + 1) 26 (.slice none 0 0) (.int .i64 0) (.int .i64 0) := by rw [hW4]; exact (HR3.out.setE _).setA _
      have hT4 : Tch (res3 (w.heap.size + 1) (w.heap.size + 1 + 1) (w.heap.size + 1 + 1 + 1)) w3 W4 := by
        rw [hW4]
        exact ((Tch.refl (res3 (w.heap.size + 1) (w.heap.size + 1 + 1) (w.heap.size + 1 + 1 + 1)) w3).setCell (a := ⟨w.heap.size + 1 + 1, 0, none⟩) (.inl (.inr (.inl rfl))) _).setCell (a := ⟨w.heap.size + 1 + 1 + 1, 0, none⟩) (.inl (.inr (.inr rfl))) _
      have hD4 : One W4 w.heap.size 24 (.slice va d.length cap) := HD3.out.tch hT4 (by rintro (e | e | e) <;> omega)
      have hz4 : W4.heap.size = w3.heap.size := by rw [hW4]; simp
      obtain ⟨W5, hW5⟩ : ∃ W5, W5 = W4.alloc (.cells #[.slice tva l.length tcap, .int .i64 0, .int .i64 (bs s).size] 53) := ⟨_, rfl⟩
      have hb5 : Below W4.heap.size W4 W5 := by rw [hW5]; exact (Below.refl _ W4).alloc (Nat.le_refl _) _
      have hR5 : RdrW (w.heap.size + 1 + 1 + 1) W5 w3.heap.size l 0 s.length := by
        refine ⟨.slice tva l.length tcap, ?_, ?_, Nat.zero_le _, cz2⟩
        · exact ((HTK.out.tch hT4 (by rintro k ⟨hk, _⟩ (rfl | rfl | rfl) <;> omega)).below hb5).mono fun k hk _ => ⟨by have := hk.1; omega, hk.2⟩
        · rw [hW5, ← hz4, bs_size]; exact alloc_new W4 _
      have hz5 : W5.heap.size = w3.heap.size + 1 := by rw [hW5, World.size_alloc, hz4]
      have hB5 : Below w.heap.size w W5 := HB3.out.trans ((hT4.below HB3.out.size (by rintro q (rfl | rfl | rfl) <;> omega)).trans (hb5.mono (by rw [hz4]; exact HB3.out.size)))
      have HR5 := hid (hR4.below hb5)
      have HD5 := hid (hD4.below hb5)
      have HRD5 := hid hR5
      have HB5 := hid hB5
      clear hR4 hT4 hD4 hb5 hR5 hB5
      go_upto_region 8 with (fail)
      rw [← hW4, ← hW5]
      clear hW4 hW5 hz4 c0 cf0 cz0 c1 cf1 cz1 c2 cf2
      have d4 := HD5.out.cell
      have dz4 := HD5.out.lt
      have e4 := HR5.out.d.cell
      have ef4 := HR5.out.d.frozen
      have ez4 := HR5.out.d.lt
      obtain ⟨W6, hmk, hown6, hg6⟩ := run_make_full (P := Tryz.prog) (w := W5) (w3.heap.size + 1) 26 3 i0 (.int .i64 0) 1 Tryz.underlying26 hi0 hz0 hzz1 .i64 .i64 d.length (by rw [hzz2]; omega) (by unfold maxLen; omega) (by omega)
      have hb6 : Below W5.heap.size W5 W6 := Below.grown (Below.refl _ W5) hg6 (Nat.le_refl _) (fun r e => by cases e)
      rw [made_ints] at hown6
      have hmz := (hown6.lt W5.heap.size rfl).2
      have HR6 := hid (HR5.out.below hb6)
      have HD6 := hid (HD5.out.below hb6)
      have HRD6 := hid (HRD5.out.below hb6)
      have HB6 := hid (Below.step HB5.out hb6)
      have e6 := HR6.out.d.cell
      have ef6 := HR6.out.d.frozen
      have ez6 := HR6.out.d.lt
      obtain ⟨W7, hW7⟩ : ∃ W7, W7 = W6.setCell ⟨w.heap.size + 1, 0, none⟩ (.slice (some ⟨w3.heap.size + 1, 0, none⟩) d.length d.length) := ⟨_, rfl⟩
      have hR7 : Res W7 (w.heap.size + 1) (w.heap.size + 1 + 1) (w.heap.size + 1 + 1 + 1) 26 (.slice (some ⟨w3.heap.size + 1, 0, none⟩) d.length d.length) (.int .i64 0) (.int .i64 0) := by rw [hW7]; exact HR6.out.setD _
      have hT7 : Tch (fun b => b = w.heap.size + 1) W6 W7 := by rw [hW7]; exact (Tch.refl (fun b => b = w.heap.size + 1) W6).setCell (a := ⟨w.heap.size + 1, 0, none⟩) (.inl rfl) _
      rw [hz5] at hown6 hmz
      have hown7 : W7.ownsRow (w3.heap.size + 1) 3 1 (.slice (some ⟨w3.heap.size + 1, 0, none⟩) d.length d.length) d.length ((List.replicate d.length (0 : Int)).flatMap numC) := by rw [hW7]; exact ownsRow_setCell_below hown6 (a := ⟨w.heap.size + 1, 0, none⟩) (by show w.heap.size + 1 < w3.heap.size + 1; omega) _
      have hD7 := HD6.out.tch hT7 (by omega)
      have hRD7 := HRD6.out.tch hT7 fun b hb1 hb2 e => by omega
      have hB7 : Below w.heap.size w W7 := HB6.out.trans (hT7.below HB6.out.size fun q e => by omega)
      have hz7 : W7.heap.size = W6.heap.size := by rw [hW7]; simp
      have hmm := @run_makeMap Tryz.prog
      obtain ⟨W8, hW8⟩ : ∃ W8, W8 = W7.alloc (.map #[] 0) := ⟨_, rfl⟩
      have hb8 : Below W7.heap.size W7 W8 := by rw [hW8]; exact (Below.refl _ W7).alloc (Nat.le_refl _) _
      obtain ⟨ms, hms⟩ : ∃ m, m = W7.heap.size := ⟨_, rfl⟩
      have hM8 : MapC W8 Tryz.prog 9 ms 0 (missF [] []) := by rw [hW8, hms, miss_nil]; exact MapC.made W7 _ _
      have HR8 := hid (hR7.below hb8)
      have HO8 := hid (ownsRow_below hown7 hb8)
      have HD8 := hid (hD7.below hb8)
      have HRD8 := hid (hRD7.below hb8)
      have HB8 := hid (Below.step hB7 hb8)
      have hms3 : w3.heap.size + 1 < ms := by omega
      have HMW : Hid (MW W8 W8 ms 0 d) := ⟨hM8, Tch.refl _ _⟩
      clear hR7 hT7 hown6 hown7 hD7 hRD7 hB7 hb6 hM8
      go_upto_region 9 with (fail)
      rw [← hW7]
      have HMS := hid hms
      have HW8 := hid hW8
      clear d4 dz4 e4 ef4 ez4 hW7 hW8 hms hmz hz7 hb8 hmk hz5 hg6 e6 ef6 ez6
      go_upto_region 10 with (fail)
      rw [← HW8.out, ← HMS.out]
      clear HW8 HMS
      have d8 := HD8.out.cell
      have dz8 := HD8.out.lt
      go_wp2_with fail
      go_loopw [42] (fun iv wr => ∃ k : Nat, k ≤ d.length ∧ iv = .int .i64 k ∧ Hid (MW W8 wr ms k d)) (fun iv _ => d.length - (RowKit.intOf iv).toNat)
      case atStart => exact ⟨0, Nat.zero_le _, rfl, HMW⟩
      case round =>
        obtain ⟨k, hk, rfl, HK⟩ := hrel
        clear d8
        have hneD : ¬ w.heap.size = ms := by omega
        have d8 : wr.cell? ⟨w.heap.size, 0, none⟩ = some (.slice va d.length cap) := (HD8.out.tch HK.out.tch hneD).cell
        have dzr := (HD8.out.tch HK.out.tch hneD).lt
        have HBR := hid (HB8.out.trans (HK.out.tch.below HB8.out.size fun q e => by omega))
        by_cases hlt : k < d.length
        · obtain ⟨f, hf⟩ : ∃ f, d[k]? = some f := ⟨_, List.getElem?_eq_getElem hlt⟩
          obtain ⟨gf, of_, rfl, hg, e0, e1, e2, e3⟩ := fact_cells HS.out hf HBR.out
          have hk0 : (0 : Int) ≤ (k : Int) := by omega
          have hk1 : (k : Int) < (d.length : Int) := by omega
          have hnl : (bs f.name).size ≤ maxLen := by have := HNM.out f (List.mem_of_getElem? hf); rw [bs_size]; unfold maxLen; omega
          have HF := hid hf
          obtain ⟨W9, hW9⟩ : ∃ W9, W9 = wr.alloc (.cells #[.string (bs f.name), .int .i64 f.kind, .int .i64 f.lo, .int .i64 f.hi] 62) := ⟨_, rfl⟩
          have hb9 : Below wr.heap.size wr W9 := by rw [hW9]; exact (Below.refl _ wr).alloc (Nat.le_refl _) _
          have hs9 : W9.heap[wr.heap.size]? = some (.cells #[.string (bs f.name), .int .i64 f.kind, .int .i64 f.lo, .int .i64 f.hi] 62 (0, 0)) := by rw [hW9]; exact alloc_new wr _
          have x0 : W9.cell? ⟨wr.heap.size, 0, none⟩ = some (.string (bs f.name)) := by simp [World.cell?, hs9]
          have xz : wr.heap.size < W9.heap.size := (Array.getElem?_eq_some_iff.1 hs9).1
          have hnot : missF ((d.take k).map Fa.Fact.name) [] (.string (bs f.name)) = none := by
            have e : (bs f.name).data.toList = f.name := rfl
            unfold missF
            simp only [e]
            rw [if_neg]
            rintro ⟨h1, _⟩
            exact absurd HV.out (by rw [valid_twice hf h1]; simp)
          obtain ⟨W10, hput, hM10, hg10⟩ := (HK.out.map.below hb9).put_new str_keyed Tryz.underlying68 (zero_bool W9) (by unfold maxLen; omega) (str_key hnl) hnot (miss_more ((d.take k).map Fa.Fact.name) f.name).1 (miss_more ((d.take k).map Fa.Fact.name) f.name).2
          have HMW' := hid (show MW W8 W10 ms (k + 1) d from ⟨by rw [take_snoc hf, List.map_append]; exact hM10, (HK.out.tch.step hb9).grown hg10 (fun r e => by cases e; exact .inl rfl)⟩)
          clear hf hb9 hs9 hnot hM10 hg10
          go_upto_region 13 with (fail)
          rw [← hW9]
          clear hW9 e0 e1 e2 e3
          go_wp2_with fail
          go_roundw
          case rel => exact ⟨k + 1, by omega, by go_num, HMW'⟩
          case measure => simp [RowKit.intOf]; omega
        · have hke : k = d.length := by omega
          subst hke
          have HM := hid HK.out.map
          rw [List.take_length] at HM
          have hne8 : ∀ q, q < ms → ¬ q = ms := fun q hq => by omega
          have HC0 := hid (show CW w wr ms w3.heap.size l s.length 0 d (List.replicate d.length 0) [] (.slice va d.length cap) (.slice (some ⟨w3.heap.size + 1, 0, none⟩) d.length d.length) from
            ⟨HD8.out.tch HK.out.tch hneD, HR8.out.tch HK.out.tch (by rintro q (rfl | rfl | rfl) e <;> omega), by rw [List.length_replicate]; exact ownsRow_tch HO8.out HK.out.tch (fun q hq e => by have hq' : w3.heap.size + 1 = q := Option.some.inj hq; have e' : q = ms := e; omega), HRD8.out.tch HK.out.tch (fun b _ hb e => by omega), HM.out, HBR.out, by omega, fun b hb => by cases hb; exact hms3, by omega⟩)
          clear d8 dzr hlt
          obtain ⟨p, hp⟩ : ∃ m, m = w3.heap.size := ⟨_, rfl⟩
          have HP := hid hp
          rw [← hp] at HC0
          clear hp
          go_wp2_with fail
          rw [← HP.out]
          clear HP
          go_loopw [] (fun wr => ∃ (k : Nat) (c : List Int) (g : List (List UInt8)), Hid (CW w wr ms p l s.length k d c g (.slice va d.length cap) (.slice (some ⟨p + 1, 0, none⟩) d.length d.length)) ∧ Hid (Fa.AtC d s l c g k) ∧ Hid (Fa.FitTo d c g)) (fun wr => l.length - nextAt wr p)
          case atStart => exact ⟨0, _, [], HC0, HAT, ⟨by simp, by simp, by simp, by simp⟩⟩
          case round =>
            obtain ⟨k, c, g, HC, HA, HF⟩ := hrel
            obtain ⟨y1, y2, yz, hkl⟩ := HC.out.rdr.cells
            have hl2 : l.length ≤ 9223372036854775807 := by omega
            have HCL := hid HF.out.len
            by_cases hlt : k < l.length
            · have hltI : (k : Int) < (l.length : Int) := by omega
              have c0 := HC.out.dom.cell
              have cz0 := HC.out.dom.lt
              go_upto_if 61 with (fail)
              go_cut [] from 50 to 114 (fun wx => Hid (StartW w wr wx ms p l s.length k d c g (.slice va d.length cap) (.slice (some ⟨p + 1, 0, none⟩) d.length d.length)))
              case first =>
                by_cases hk0 : k = 0
                · subst hk0
                  go_wp2_with fail
                  go_meet
                  case rel => exact ⟨_, 0, rfl, Nat.le_refl _, HC.out, Tch.refl _ _⟩
                · have hkp : 0 < k := by omega
                  have HKF := hid (show decide (k = 0) = false from decide_eq_false hk0)
                  have HT1 := hid (take_tok 4 4 ⟨#[44]⟩ [44] rfl rfl wr p l k s.length HC.out.rdr hll)
                  clear hk0
                  cases h1 : Fa.take 4 [44] s.length (l.drop k) with
                  | error x =>
                    have HE := hid (HA.out.bad hlt (Fa.valP_1 (show Fa.start (decide (k = 0)) s.length (l.drop k) = .error x by rw [HKF.out]; exact h1)))
                    rw [h1] at HT1
                    clear h1
                    go_wp2_with fail
                    refine (HT1.out).mono ?_
                    rintro en w4 ⟨rfl, -, ht4⟩
                    unfold thrown
                    go_wp2_with fail
                    exact HC.out.thrown ht4 HE.out rfl rfl rfl rfl
                  | ok u =>
                    obtain ⟨t0, r0⟩ := u
                    obtain ⟨hr0, hk1, -⟩ := take_drop h1
                    subst hr0
                    have HST := hid (show Fa.start (decide (k = 0)) s.length (l.drop k) = .ok (t0, l.drop (k + 1)) by rw [HKF.out]; exact h1)
                    rw [h1] at HT1
                    clear h1 hk1
                    go_wp2_with fail
                    refine (HT1.out).mono ?_
                    rintro en w4 ⟨rfl, hR4, ht4⟩
                    unfold tkV
                    go_wp2_with fail
                    go_meet
                    case rel => exact ⟨_, k + 1, HST.out, Nat.le_succ _, HC.out.took ht4 hR4, ht4⟩
              case rest =>
              rename World => w4
              obtain ⟨t0, k1, hst, hkk, hC4, hT4⟩ := hcut.out
              have HST := hid hst
              have HC4 := hid hC4
              have HT4 := hid hT4
              have hpz4 : p < w4.heap.size := Nat.lt_of_lt_of_le yz hT4.size
              clear hcut hst hC4 hT4 c0 cz0 y1 y2
              have HTN := hid (take_tok 1 1 ⟨#[]⟩ [] rfl rfl w4 p l k1 s.length HC4.out.rdr hll)
              cases h1 : Fa.take 1 [] s.length (l.drop k1) with
              | error x =>
                have HE := hid (HA.out.bad hlt (Fa.valP_2 HST.out h1))
                rw [h1] at HTN
                clear h1
                go_wp2_with fail
                refine (HTN.out).mono ?_
                rintro en w5 ⟨rfl, -, ht5⟩
                unfold thrown
                go_wp2_with fail
                exact HC4.out.thrown ht5 HE.out rfl rfl rfl rfl
              | ok u =>
                obtain ⟨t1, r1⟩ := u
                obtain ⟨hr1, hk1, -, hm1, -⟩ := take_drop h1
                subst hr1
                rw [h1] at HTN
                have H1 := hid h1
                have HM1 := hid (tok_len (HOK.out _ (List.mem_of_getElem? hm1)))
                clear h1 hk1 hm1
                go_wp2_with fail
                refine (HTN.out).mono ?_
                rintro en w5 ⟨rfl, hR5, ht5⟩
                unfold tkV
                obtain ⟨W6', hW6⟩ : ∃ W6', W6' = w5.alloc (.cells #[.int .i64 t1.2.kind, .int .i64 t1.1, .int .i64 t1.2.n, .string (bs t1.2.text)] 58) := ⟨_, rfl⟩
                have hb6 : Below w5.heap.size w5 W6' := by rw [hW6]; exact (Below.refl _ w5).alloc (Nat.le_refl _) _
                have hB6 : TokB W6' w5.heap.size t1 := by rw [hW6]; exact tok_new w5 t1
                have HB6t := hid hB6
                have HC6 := hid ((HC4.out.took ht5 hR5).step hb6)
                have HT6 := hid ((HT4.out.trans ht5 fun b hb _ => hb).step hb6)
                have hpz5 : p < w5.heap.size := Nat.lt_of_lt_of_le hpz4 ht5.size
                have hsz5 : wr.heap.size ≤ w5.heap.size := Nat.le_trans HT4.out.size ht5.size
                obtain ⟨x0, x1, x2, x3, xz6⟩ := hB6.cells
                have c0 := HC6.out.dom.cell
                have cz0 := HC6.out.dom.lt
                have HIX := hid (factAt_any d (.slice va d.length cap) t1.2.text W6' (HS.out.below HC6.out.below))
                clear hR5 ht5 hb6 hB6
                go_upto_region 19 with (fail)
                rw [← hW6]
                clear hW6
                go_wp2_with fail
                refine (HIX.out).mono ?_
                rintro e w7 ⟨rfl, hb7⟩
                have HC7 := hid (HC6.out.step hb7)
                have HT7 := hid (HT6.out.step hb7)
                have HB7t := hid (HB6t.out.below hb7)
                clear hb7 x0 x1 x2 x3 c0 cz0 HIX
                obtain ⟨x0, x1, x2, x3, xz7⟩ := HB7t.out.cells
                have HCN7 := hid (fun W' => check_no 7 t1 W')
                have HCY7 := hid (fun W' => check_yes 7 t1 W')
                have HCN9 := hid (fun W' => check_no 9 t1 W')
                have HCY9 := hid (fun W' => check_yes 9 t1 W')
                unfold tkV at HCN7 HCY7 HCN9 HCY9
                by_cases hi : Fa.idx d t1.2.text < 0
                · have hid1 : decide (Fa.idx d t1.2.text < (0 : Int)) = true := decide_eq_true hi
                  have HE := hid (HA.out.bad hlt (Fa.valP_3 HST.out H1.out hi))
                  clear hi
                  go_wp2_with fail
                  refine (HCY7.out _).mono ?_
                  rintro e wy ⟨rfl, hby⟩
                  unfold thrown
                  go_wp2_with fail
                  exact HC7.out.thrown (x := (7, (t1.1 : Int))) (Tch.of_below hby _) HE.out rfl rfl rfl rfl
                · have hid1 : decide (Fa.idx d t1.2.text < (0 : Int)) = false := decide_eq_false hi
                  have hmem : t1.2.text ∈ d.map Fa.Fact.name := by
                    by_cases hm : t1.2.text ∈ d.map Fa.Fact.name
                    · exact hm
                    · exact absurd (Fa.idx_neg.2 hm) hi
                  have HMEM := hid hmem
                  have HI : Hid (0 ≤ Fa.idx d t1.2.text) := by show 0 ≤ Fa.idx d t1.2.text; omega
                  clear hi hmem
                  go_wp2_with fail
                  refine (HCN7.out _).mono ?_
                  rintro e w8 ⟨rfl, hb8⟩
                  have HC8 := hid (HC7.out.step hb8)
                  have HT8 := hid (HT7.out.step hb8)
                  have HB8t := hid (HB7t.out.below hb8)
                  clear hb8 x0 x1 x2 x3 hid1
                  obtain ⟨x0, x1, x2, x3, xz8⟩ := HB8t.out.cells
                  have hnl : (bs t1.2.text).size ≤ maxLen := by have := HM1.out; rw [bs_size]; unfold maxLen; omega
                  have hget := HC8.out.miss.mapF.get str_keyed Tryz.underlying68 (zero_bool w8) (str_key hnl)
                  rw [miss_get] at hget
                  by_cases hg : t1.2.text ∈ g
                  · rw [decide_eq_false (fun h => h.2 hg)] at hget
                    have HE := hid (HA.out.bad hlt (Fa.valP_4 HST.out H1.out (by have := HI.out; omega) hg))
                    clear hg hnl
                    go_wp2_with fail
                    refine (HCY9.out _).mono ?_
                    rintro e wy ⟨rfl, hby⟩
                    unfold thrown
                    go_wp2_with fail
                    exact HC8.out.thrown (x := (9, (t1.1 : Int))) (Tch.of_below hby _) HE.out rfl rfl rfl rfl
                  · rw [decide_eq_true (And.intro HMEM.out hg)] at hget
                    have HG := hid hg
                    clear hg hnl
                    go_wp2_with fail
                    refine (HCN9.out _).mono ?_
                    rintro e w9 ⟨rfl, hb9⟩
                    have HC9 := hid (HC8.out.step hb9)
                    have HT9 := hid (HT8.out.step hb9)
                    have HB9t := hid (HB8t.out.below hb9)
                    have hpz9 : w5.heap.size < w9.heap.size := HB9t.out.cells.2.2.2.2
                    clear hb9 x0 x1 x2 x3 hget HCN7 HCY7 HCN9 HCY9
                    have HTE := hid (take_tok 4 4 ⟨#[61]⟩ [61] rfl rfl w9 p l (k1 + 1) s.length HC9.out.rdr hll)
                    cases h2 : Fa.take 4 [61] s.length (l.drop (k1 + 1)) with
                    | error x =>
                      have HE := hid (HA.out.bad hlt (Fa.valP_5 HST.out H1.out (by have := HI.out; omega) HG.out h2))
                      rw [h2] at HTE
                      clear h2
                      go_wp2_with fail
                      refine (HTE.out).mono ?_
                      rintro en w10 ⟨rfl, -, ht10⟩
                      unfold thrown
                      go_wp2_with fail
                      exact HC9.out.thrown ht10 HE.out rfl rfl rfl rfl
                    | ok u =>
                      obtain ⟨t2, r2⟩ := u
                      obtain ⟨hr2, hk2, -⟩ := take_drop h2
                      subst hr2
                      rw [h2] at HTE
                      have H2 := hid h2
                      clear h2 hk2
                      go_wp2_with fail
                      refine (HTE.out).mono ?_
                      rintro en w10 ⟨rfl, hR10, ht10⟩
                      unfold tkV
                      have HC10 := hid (HC9.out.took ht10 hR10)
                      have HT10 := hid (HT9.out.trans ht10 fun b hb _ => hb)
                      have HB10t := hid (HB9t.out.tch ht10 (by show ¬ w5.heap.size = p; omega))
                      clear hR10 ht10
                      have HTN2 := hid (take_tok 2 2 ⟨#[]⟩ [] rfl rfl w10 p l (k1 + 1 + 1) s.length HC10.out.rdr hll)
                      cases h3 : Fa.take 2 [] s.length (l.drop (k1 + 1 + 1)) with
                      | error x =>
                        have HE := hid (HA.out.bad hlt (Fa.valP_6 HST.out H1.out (by have := HI.out; omega) HG.out H2.out h3))
                        rw [h3] at HTN2
                        clear h3
                        go_wp2_with fail
                        refine (HTN2.out).mono ?_
                        rintro en w11 ⟨rfl, -, ht11⟩
                        unfold thrown
                        go_wp2_with fail
                        exact HC10.out.thrown ht11 HE.out rfl rfl rfl rfl
                      | ok u =>
                        obtain ⟨t3, r3⟩ := u
                        obtain ⟨hr3, hk3, -⟩ := take_drop h3
                        subst hr3
                        rw [h3] at HTN2
                        obtain ⟨i, hi1, hi2, hi3⟩ := Fa.idx_yes HMEM.out
                        obtain ⟨f, hf⟩ : ∃ f, d[i]? = some f := ⟨_, List.getElem?_eq_getElem hi2⟩
                        have HV7 := hid (Fa.valP_7 (d := d) HST.out H1.out (by have := HI.out; omega) HG.out H2.out h3 (f := f) (by rw [hi1, Int.toNat_natCast]; exact hf))
                        have HI1 := hid hi1
                        have HFN := hid (show f.name = t1.2.text by rw [List.getElem?_map, hf] at hi3; simpa using hi3)
                        have HFF := hid hf
                        clear h3 hk3 hi1 hi3
                        go_wp2_with fail
                        refine (HTN2.out).mono ?_
                        rintro en w11 ⟨rfl, hR11, ht11⟩
                        unfold tkV
                        obtain ⟨W12, hW12⟩ : ∃ W12, W12 = w11.alloc (.cells #[.int .i64 t3.2.kind, .int .i64 t3.1, .int .i64 t3.2.n, .string (bs t3.2.text)] 58) := ⟨_, rfl⟩
                        have hb12 : Below w11.heap.size w11 W12 := by rw [hW12]; exact (Below.refl _ w11).alloc (Nat.le_refl _) _
                        have hB12 : TokB W12 w11.heap.size t3 := by rw [hW12]; exact tok_new w11 t3
                        have HB12t := hid hB12
                        have HC12 := hid ((HC10.out.took ht11 hR11).step hb12)
                        have HT12 := hid ((HT10.out.trans ht11 fun b hb _ => hb).step hb12)
                        have HB12n := hid ((HB10t.out.tch ht11 (by show ¬ w5.heap.size = p; omega)).below hb12)
                        obtain ⟨x0, x1, x2, x3, xz12⟩ := hB12.cells
                        have c0 := HC12.out.dom.cell
                        have cz0 := HC12.out.dom.lt
                        obtain ⟨gf, of_, hva, hgf, e0, e1, e2, e3⟩ := fact_cells HS.out hf HC12.out.below
                        subst hva
                        have hi0 : (0 : Int) ≤ (i : Int) := by omega
                        have hi2I : (i : Int) < (d.length : Int) := by omega
                        have hidx := HI1.out
                        have HCN10 := hid (fun W' => check_no 10 t3 W')
                        have HCY10 := hid (fun W' => check_yes 10 t3 W')
                        unfold tkV at HCN10 HCY10
                        clear hR11 ht11 hb12 hB12 hf
                        go_upto_region 24 with (fail)
                        rw [← hW12]
                        clear hW12
                        go_cut [13] from 50 to 114 (fun v13 wx => v13 = .int .i64 i ∧ Below W12.heap.size W12 wx ∧ ¬ (t3.2.n : Int) < f.lo ∧ ¬ f.hi < (t3.2.n : Int))
                        case first =>
                          try rw [hidx]
                          clear hidx
                          refine wp_heldS (S := StillAt W12) (by kernel_rfl) ?_
                          simp only [List.size_toArray, List.length_cons, List.length_nil, Nat.reduceAdd]
                          intro hc
                          have S0 : StillAt W12 (Array.replicate 22 false) W12.drew := (Below.refl _ _).drew
                          refine wpAnyS_take (i := 0) (v := .pointer (some ⟨w11.heap.size, 2, none⟩)) rfl (by kernel_rfl) (by kernel_rfl) (by kernel_rfl) (fun _ _ _ h => leaves_put2 rfl (i := 85) (by decide) h) (fun _ _ => Iff.rfl) hc (by rfl) (fun wx hx => ?_) S0 (fun hc S0 => ?_)
                          · go_simp
                          try simp only [List.getElem_toArray, List.getElem_cons_zero, Act.put, List.setIfInBounds_toArray, List.set_cons_zero, List.set_cons_succ]
                          refine wpAnyS_take (i := 1) (v := .int .i64 t3.2.n) rfl (by kernel_rfl) (by kernel_rfl) (by kernel_rfl) (fun _ _ _ h => leaves_put2 rfl (i := 86) (by decide) h) (fun _ _ => Iff.rfl) hc (by rfl) (fun wx hx => ?_) S0 (fun hc S0 => ?_)
                          · have g := (hx.still.cell (p := ⟨w11.heap.size, 2, none⟩) xz12).trans x2
                            go_simp
                          try simp only [List.getElem_toArray, List.getElem_cons_succ, List.getElem_cons_zero, Act.put, List.setIfInBounds_toArray, List.set_cons_zero, List.set_cons_succ]
                          refine wpAnyS_take (i := 2) (v := .pointer (some ⟨w.heap.size, 0, none⟩)) rfl (by kernel_rfl) (by kernel_rfl) (by kernel_rfl) (fun _ _ _ h => leaves_put2 rfl (i := 87) (by decide) h) (fun _ _ => Iff.rfl) hc (by rfl) (fun wx hx => ?_) S0 (fun hc S0 => ?_)
                          · go_simp
                          try simp only [List.getElem_toArray, List.getElem_cons_succ, List.getElem_cons_zero, Act.put, List.setIfInBounds_toArray, List.set_cons_zero, List.set_cons_succ]
                          refine wpAnyS_take (i := 3) (v := .slice (some ⟨gf, of_, none⟩) d.length cap) rfl (by kernel_rfl) (by kernel_rfl) (by kernel_rfl) (fun _ _ _ h => leaves_put2 rfl (i := 88) (by decide) h) (fun _ _ => Iff.rfl) hc (by rfl) (fun wx hx => ?_) S0 (fun hc S0 => ?_)
                          · have g := (hx.still.cell (p := ⟨w.heap.size, 0, none⟩) cz0).trans c0
                            go_simp
                          try simp only [List.getElem_toArray, List.getElem_cons_succ, List.getElem_cons_zero, Act.put, List.setIfInBounds_toArray, List.set_cons_zero, List.set_cons_succ]
                          refine wpAnyS_take (i := 4) (v := .int .i64 i) rfl (by kernel_rfl) (by kernel_rfl) (by kernel_rfl) (fun _ _ _ h => leaves_put2 rfl (i := 89) (by decide) h) (fun _ _ => Iff.rfl) hc (by rfl) (fun wx hx => ?_) S0 (fun hc S0 => ?_)
                          · go_simp
                          try simp only [List.getElem_toArray, List.getElem_cons_succ, List.getElem_cons_zero, Act.put, List.setIfInBounds_toArray, List.set_cons_zero, List.set_cons_succ]
                          refine wpAnyS_take (i := 5) (v := .pointer (some ⟨gf, of_ + i * 4, none⟩)) rfl (by kernel_rfl) (by kernel_rfl) (by kernel_rfl) (fun _ _ _ h => leaves_put2 rfl (i := 90) (by decide) h) (fun _ _ => Iff.rfl) hc (by rfl) (fun wx hx => ?_) S0 (fun hc S0 => ?_)
                          · go_simp
                          try simp only [List.getElem_toArray, List.getElem_cons_succ, List.getElem_cons_zero, Act.put, List.setIfInBounds_toArray, List.set_cons_zero, List.set_cons_succ]
                          refine wpAnyS_take (i := 6) (v := .pointer (some ⟨gf, of_ + i * 4 + 2, none⟩)) rfl (by kernel_rfl) (by kernel_rfl) (by kernel_rfl) (fun _ _ _ h => leaves_put2 rfl (i := 91) (by decide) h) (fun _ _ => Iff.rfl) hc (by rfl) (fun wx hx => ?_) S0 (fun hc S0 => ?_)
                          · go_simp
                          try simp only [List.getElem_toArray, List.getElem_cons_succ, List.getElem_cons_zero, Act.put, List.setIfInBounds_toArray, List.set_cons_zero, List.set_cons_succ]
                          refine wpAnyS_take (i := 7) (v := .int .i64 f.lo) rfl (by kernel_rfl) (by kernel_rfl) (by kernel_rfl) (fun _ _ _ h => leaves_put2 rfl (i := 92) (by decide) h) (fun _ _ => Iff.rfl) hc (by rfl) (fun wx hx => ?_) S0 (fun hc S0 => ?_)
                          · have g := (hx.still.cell (p := ⟨gf, of_ + i * 4 + 2, none⟩) hgf).trans e2
                            go_simp
                          try simp only [List.getElem_toArray, List.getElem_cons_succ, List.getElem_cons_zero, Act.put, List.setIfInBounds_toArray, List.set_cons_zero, List.set_cons_succ]
                          refine wpAnyS_take (i := 8) (v := .bool (decide ((t3.2.n : Int) < f.lo))) rfl (by kernel_rfl) (by kernel_rfl) (by kernel_rfl) (fun _ _ _ h => leaves_put2 rfl (i := 93) (by decide) h) (fun _ _ => Iff.rfl) hc (by rfl) (fun wx hx => ?_) S0 (fun hc S0 => ?_)
                          · go_simp
                          try simp only [List.getElem_toArray, List.getElem_cons_succ, List.getElem_cons_zero, Act.put, List.setIfInBounds_toArray, List.set_cons_zero, List.set_cons_succ]
                          refine wpAnyS_take (i := 9) (v := .bool (decide ((t3.2.n : Int) < f.lo))) rfl (by kernel_rfl) (by kernel_rfl) (by kernel_rfl) (fun _ _ _ h => leaves_put2 rfl (i := 94) (by decide) h) (fun _ _ => Iff.rfl) hc (by rfl) (fun wx hx => ?_) S0 (fun hc S0 => ?_)
                          · go_simp
                          try simp only [List.getElem_toArray, List.getElem_cons_succ, List.getElem_cons_zero, Act.put, List.setIfInBounds_toArray, List.set_cons_zero, List.set_cons_succ]
                          by_cases q1 : (t3.2.n : Int) < f.lo
                          · have d1 : decide ((t3.2.n : Int) < f.lo) = true := decide_eq_true q1
                            have HE := hid (HA.out.bad hlt (HV7.out.trans (if_pos (.inl q1))))
                            rw [d1]
                            clear q1 d1
                            refine wpAnyS_skip (i := 10) rfl (by kernel_rfl) (by kernel_rfl) (by kernel_rfl) (fun _ _ _ h => leaves_put2 rfl (i := 95) (by decide) h) (fun _ _ => Iff.rfl) hc (by rfl) S0 (fun hc S0 => ?_)
                            try simp only [List.getElem_toArray, List.getElem_cons_succ, List.getElem_cons_zero, Act.put, List.setIfInBounds_toArray, List.set_cons_zero, List.set_cons_succ]
                            refine wpAnyS_skip (i := 11) rfl (by kernel_rfl) (by kernel_rfl) (by kernel_rfl) (fun _ _ _ h => leaves_put2 rfl (i := 96) (by decide) h) (fun _ _ => Iff.rfl) hc (by rfl) S0 (fun hc S0 => ?_)
                            try simp only [List.getElem_toArray, List.getElem_cons_succ, List.getElem_cons_zero, Act.put, List.setIfInBounds_toArray, List.set_cons_zero, List.set_cons_succ]
                            refine wpAnyS_skip (i := 12) rfl (by kernel_rfl) (by kernel_rfl) (by kernel_rfl) (fun _ _ _ h => leaves_put2 rfl (i := 97) (by decide) h) (fun _ _ => Iff.rfl) hc (by rfl) S0 (fun hc S0 => ?_)
                            try simp only [List.getElem_toArray, List.getElem_cons_succ, List.getElem_cons_zero, Act.put, List.setIfInBounds_toArray, List.set_cons_zero, List.set_cons_succ]
                            refine wpAnyS_skip (i := 13) rfl (by kernel_rfl) (by kernel_rfl) (by kernel_rfl) (fun _ _ _ h => leaves_put2 rfl (i := 98) (by decide) h) (fun _ _ => Iff.rfl) hc (by rfl) S0 (fun hc S0 => ?_)
                            try simp only [List.getElem_toArray, List.getElem_cons_succ, List.getElem_cons_zero, Act.put, List.setIfInBounds_toArray, List.set_cons_zero, List.set_cons_succ]
                            refine wpAnyS_skip (i := 14) rfl (by kernel_rfl) (by kernel_rfl) (by kernel_rfl) (fun _ _ _ h => leaves_put2 rfl (i := 99) (by decide) h) (fun _ _ => Iff.rfl) hc (by rfl) S0 (fun hc S0 => ?_)
                            try simp only [List.getElem_toArray, List.getElem_cons_succ, List.getElem_cons_zero, Act.put, List.setIfInBounds_toArray, List.set_cons_zero, List.set_cons_succ]
                            refine wpAnyS_skip (i := 15) rfl (by kernel_rfl) (by kernel_rfl) (by kernel_rfl) (fun _ _ _ h => leaves_put2 rfl (i := 100) (by decide) h) (fun _ _ => Iff.rfl) hc (by rfl) S0 (fun hc S0 => ?_)
                            try simp only [List.getElem_toArray, List.getElem_cons_succ, List.getElem_cons_zero, Act.put, List.setIfInBounds_toArray, List.set_cons_zero, List.set_cons_succ]
                            refine wpAnyS_skip (i := 16) rfl (by kernel_rfl) (by kernel_rfl) (by kernel_rfl) (fun _ _ _ h => leaves_put2 rfl (i := 101) (by decide) h) (fun _ _ => Iff.rfl) hc (by rfl) S0 (fun hc S0 => ?_)
                            try simp only [List.getElem_toArray, List.getElem_cons_succ, List.getElem_cons_zero, Act.put, List.setIfInBounds_toArray, List.set_cons_zero, List.set_cons_succ]
                            refine wpAnyS_skip (i := 17) rfl (by kernel_rfl) (by kernel_rfl) (by kernel_rfl) (fun _ _ _ h => leaves_put2 rfl (i := 102) (by decide) h) (fun _ _ => Iff.rfl) hc (by rfl) S0 (fun hc S0 => ?_)
                            try simp only [List.getElem_toArray, List.getElem_cons_succ, List.getElem_cons_zero, Act.put, List.setIfInBounds_toArray, List.set_cons_zero, List.set_cons_succ]
                            refine wpAnyS_skip (i := 18) rfl (by kernel_rfl) (by kernel_rfl) (by kernel_rfl) (fun _ _ _ h => leaves_put2 rfl (i := 103) (by decide) h) (fun _ _ => Iff.rfl) hc (by rfl) S0 (fun hc S0 => ?_)
                            try simp only [List.getElem_toArray, List.getElem_cons_succ, List.getElem_cons_zero, Act.put, List.setIfInBounds_toArray, List.set_cons_zero, List.set_cons_succ]
                            refine wpAnyS_take (i := 19) (v := .bool true) rfl (by kernel_rfl) (by kernel_rfl) (by kernel_rfl) (fun _ _ _ h => leaves_put2 rfl (i := 104) (by decide) h) (fun _ _ => Iff.rfl) hc (by rfl) (fun wx hx => ?_) S0 (fun hc S0 => ?_)
                            · go_simp
                            try simp only [List.getElem_toArray, List.getElem_cons_succ, List.getElem_cons_zero, Act.put, List.setIfInBounds_toArray, List.set_cons_zero, List.set_cons_succ]
                            refine wpAnyS_take (i := 20) (v := .agg #[.int .i64 t3.2.kind, .int .i64 t3.1, .int .i64 t3.2.n, .string (bs t3.2.text)]) rfl (by kernel_rfl) (by kernel_rfl) (by kernel_rfl) (fun _ _ _ h => leaves_put2 rfl (i := 105) (by decide) h) (fun _ _ => Iff.rfl) hc (by rfl) (fun wx hx => ?_) S0 (fun hc S0 => ?_)
                            · have g0 := (hx.still.cell (p := ⟨w11.heap.size, 0, none⟩) xz12).trans x0
                              have g1 := (hx.still.cell (p := ⟨w11.heap.size, 1, none⟩) xz12).trans x1
                              have g2 := (hx.still.cell (p := ⟨w11.heap.size, 2, none⟩) xz12).trans x2
                              have g3 := (hx.still.cell (p := ⟨w11.heap.size, 3, none⟩) xz12).trans x3
                              go_simp
                            try simp only [List.getElem_toArray, List.getElem_cons_succ, List.getElem_cons_zero, Act.put, List.setIfInBounds_toArray, List.set_cons_zero, List.set_cons_succ]
                            refine wpAnyS_one (i := 21) rfl (by kernel_rfl) (by rfl) hc (fun K' hK => ?_)
                            go_simp
                            refine (HCY10.out _).mono ?_
                            rintro e wy ⟨rfl, hby⟩
                            exact HC12.out.thrown (Tch.of_below (Below.step (Below.refl _ _).drew hby) _) HE.out rfl rfl rfl rfl
                          · have d1 : decide ((t3.2.n : Int) < f.lo) = false := decide_eq_false q1
                            have HQ1 := hid q1
                            rw [d1]
                            clear q1 d1
                            refine wpAnyS_take (i := 10) (v := .pointer (some ⟨w11.heap.size, 2, none⟩)) rfl (by kernel_rfl) (by kernel_rfl) (by kernel_rfl) (fun _ _ _ h => leaves_put2 rfl (i := 95) (by decide) h) (fun _ _ => Iff.rfl) hc (by rfl) (fun wx hx => ?_) S0 (fun hc S0 => ?_)
                            · go_simp
                            try simp only [List.getElem_toArray, List.getElem_cons_succ, List.getElem_cons_zero, Act.put, List.setIfInBounds_toArray, List.set_cons_zero, List.set_cons_succ]
                            refine wpAnyS_take (i := 11) (v := .int .i64 t3.2.n) rfl (by kernel_rfl) (by kernel_rfl) (by kernel_rfl) (fun _ _ _ h => leaves_put2 rfl (i := 96) (by decide) h) (fun _ _ => Iff.rfl) hc (by rfl) (fun wx hx => ?_) S0 (fun hc S0 => ?_)
                            · have g := (hx.still.cell (p := ⟨w11.heap.size, 2, none⟩) xz12).trans x2
                              go_simp
                            try simp only [List.getElem_toArray, List.getElem_cons_succ, List.getElem_cons_zero, Act.put, List.setIfInBounds_toArray, List.set_cons_zero, List.set_cons_succ]
                            refine wpAnyS_take (i := 12) (v := .pointer (some ⟨w.heap.size, 0, none⟩)) rfl (by kernel_rfl) (by kernel_rfl) (by kernel_rfl) (fun _ _ _ h => leaves_put2 rfl (i := 97) (by decide) h) (fun _ _ => Iff.rfl) hc (by rfl) (fun wx hx => ?_) S0 (fun hc S0 => ?_)
                            · go_simp
                            try simp only [List.getElem_toArray, List.getElem_cons_succ, List.getElem_cons_zero, Act.put, List.setIfInBounds_toArray, List.set_cons_zero, List.set_cons_succ]
                            refine wpAnyS_take (i := 13) (v := .slice (some ⟨gf, of_, none⟩) d.length cap) rfl (by kernel_rfl) (by kernel_rfl) (by kernel_rfl) (fun _ _ _ h => leaves_put2 rfl (i := 98) (by decide) h) (fun _ _ => Iff.rfl) hc (by rfl) (fun wx hx => ?_) S0 (fun hc S0 => ?_)
                            · have g := (hx.still.cell (p := ⟨w.heap.size, 0, none⟩) cz0).trans c0
                              go_simp
                            try simp only [List.getElem_toArray, List.getElem_cons_succ, List.getElem_cons_zero, Act.put, List.setIfInBounds_toArray, List.set_cons_zero, List.set_cons_succ]
                            refine wpAnyS_take (i := 14) (v := .int .i64 i) rfl (by kernel_rfl) (by kernel_rfl) (by kernel_rfl) (fun _ _ _ h => leaves_put2 rfl (i := 99) (by decide) h) (fun _ _ => Iff.rfl) hc (by rfl) (fun wx hx => ?_) S0 (fun hc S0 => ?_)
                            · go_simp
                            try simp only [List.getElem_toArray, List.getElem_cons_succ, List.getElem_cons_zero, Act.put, List.setIfInBounds_toArray, List.set_cons_zero, List.set_cons_succ]
                            refine wpAnyS_take (i := 15) (v := .pointer (some ⟨gf, of_ + i * 4, none⟩)) rfl (by kernel_rfl) (by kernel_rfl) (by kernel_rfl) (fun _ _ _ h => leaves_put2 rfl (i := 100) (by decide) h) (fun _ _ => Iff.rfl) hc (by rfl) (fun wx hx => ?_) S0 (fun hc S0 => ?_)
                            · go_simp
                            try simp only [List.getElem_toArray, List.getElem_cons_succ, List.getElem_cons_zero, Act.put, List.setIfInBounds_toArray, List.set_cons_zero, List.set_cons_succ]
                            refine wpAnyS_take (i := 16) (v := .pointer (some ⟨gf, of_ + i * 4 + 3, none⟩)) rfl (by kernel_rfl) (by kernel_rfl) (by kernel_rfl) (fun _ _ _ h => leaves_put2 rfl (i := 101) (by decide) h) (fun _ _ => Iff.rfl) hc (by rfl) (fun wx hx => ?_) S0 (fun hc S0 => ?_)
                            · go_simp
                            try simp only [List.getElem_toArray, List.getElem_cons_succ, List.getElem_cons_zero, Act.put, List.setIfInBounds_toArray, List.set_cons_zero, List.set_cons_succ]
                            refine wpAnyS_take (i := 17) (v := .int .i64 f.hi) rfl (by kernel_rfl) (by kernel_rfl) (by kernel_rfl) (fun _ _ _ h => leaves_put2 rfl (i := 102) (by decide) h) (fun _ _ => Iff.rfl) hc (by rfl) (fun wx hx => ?_) S0 (fun hc S0 => ?_)
                            · have g := (hx.still.cell (p := ⟨gf, of_ + i * 4 + 3, none⟩) hgf).trans e3
                              go_simp
                            try simp only [List.getElem_toArray, List.getElem_cons_succ, List.getElem_cons_zero, Act.put, List.setIfInBounds_toArray, List.set_cons_zero, List.set_cons_succ]
                            refine wpAnyS_take (i := 18) (v := .bool (decide (f.hi < (t3.2.n : Int)))) rfl (by kernel_rfl) (by kernel_rfl) (by kernel_rfl) (fun _ _ _ h => leaves_put2 rfl (i := 103) (by decide) h) (fun _ _ => Iff.rfl) hc (by rfl) (fun wx hx => ?_) S0 (fun hc S0 => ?_)
                            · go_simp
                            try simp only [List.getElem_toArray, List.getElem_cons_succ, List.getElem_cons_zero, Act.put, List.setIfInBounds_toArray, List.set_cons_zero, List.set_cons_succ]
                            refine wpAnyS_take (i := 19) (v := .bool (decide (f.hi < (t3.2.n : Int)))) rfl (by kernel_rfl) (by kernel_rfl) (by kernel_rfl) (fun _ _ _ h => leaves_put2 rfl (i := 104) (by decide) h) (fun _ _ => Iff.rfl) hc (by rfl) (fun wx hx => ?_) S0 (fun hc S0 => ?_)
                            · go_simp
                            try simp only [List.getElem_toArray, List.getElem_cons_succ, List.getElem_cons_zero, Act.put, List.setIfInBounds_toArray, List.set_cons_zero, List.set_cons_succ]
                            refine wpAnyS_take (i := 20) (v := .agg #[.int .i64 t3.2.kind, .int .i64 t3.1, .int .i64 t3.2.n, .string (bs t3.2.text)]) rfl (by kernel_rfl) (by kernel_rfl) (by kernel_rfl) (fun _ _ _ h => leaves_put2 rfl (i := 105) (by decide) h) (fun _ _ => Iff.rfl) hc (by rfl) (fun wx hx => ?_) S0 (fun hc S0 => ?_)
                            · have g0 := (hx.still.cell (p := ⟨w11.heap.size, 0, none⟩) xz12).trans x0
                              have g1 := (hx.still.cell (p := ⟨w11.heap.size, 1, none⟩) xz12).trans x1
                              have g2 := (hx.still.cell (p := ⟨w11.heap.size, 2, none⟩) xz12).trans x2
                              have g3 := (hx.still.cell (p := ⟨w11.heap.size, 3, none⟩) xz12).trans x3
                              go_simp
                            try simp only [List.getElem_toArray, List.getElem_cons_succ, List.getElem_cons_zero, Act.put, List.setIfInBounds_toArray, List.set_cons_zero, List.set_cons_succ]
                            refine wpAnyS_one (i := 21) rfl (by kernel_rfl) (by rfl) hc (fun K' hK => ?_)
                            by_cases q2 : f.hi < (t3.2.n : Int)
                            · have d2 : decide (f.hi < (t3.2.n : Int)) = true := decide_eq_true q2
                              have HE := hid (HA.out.bad hlt (HV7.out.trans (if_pos (.inr q2))))
                              clear q2
                              go_simp
                              refine (HCY10.out _).mono ?_
                              rintro e wy ⟨rfl, hby⟩
                              exact HC12.out.thrown (Tch.of_below (Below.step (Below.refl _ _).drew hby) _) HE.out rfl rfl rfl rfl
                            · have d2 : decide (f.hi < (t3.2.n : Int)) = false := decide_eq_false q2
                              have HQ2 := hid q2
                              clear q2
                              go_simp
                              refine (HCN10.out _).mono ?_
                              rintro e wy ⟨rfl, hby⟩
                              have hbY : Below W12.heap.size W12 wy := Below.step (Below.refl _ _).drew hby
                              refine hK.out _ _ hbY (fun hc => ?_)
                              clear hK K'
                              refine wpAnyS_done (by kernel_rfl) ?_ _
                              have HBY := hid hbY
                              clear hc S0 hbY hby d2
                              go_wp2_with fail
                              go_meet
                              case rel => exact ⟨rfl, HBY.out, HQ1.out, HQ2.out⟩
                        case rest =>
                        obtain ⟨rfl, hb13, hq1, hq2⟩ := hcut
                        rename World => w13
                        have HC13 := hid (HC12.out.step hb13)
                        have HT13 := hid (HT12.out.step hb13)
                        have HB13n := hid (HB12n.out.below hb13)
                        have HB13t := hid (HB12t.out.below hb13)
                        have HV8 := hid (HV7.out.trans (if_neg (by omega)))
                        obtain ⟨cx, hcx⟩ : ∃ cx, c[i]? = some cx := ⟨_, List.getElem?_eq_getElem (by rw [HCL.out]; exact hi2)⟩
                        obtain ⟨g0, hg0, -, hg1, -, hg2, hg3⟩ := own_cell (n := d.length) (by have h := HC13.out.own; rw [HCL.out] at h; exact h) hcx
                        have hg0' : p + 1 = g0 := by have := Option.some.inj hg0; exact congrArg Addr.block this
                        subst hg0'
                        have HNMF : Hid (d[i]? = some f ∧ f.name = t1.2.text ∧ f.lo ≤ (t3.2.n : Int) ∧ (t3.2.n : Int) ≤ f.hi) := ⟨HFF.out, HFN.out, by omega, by omega⟩
                        have HF2 := hid (show Fa.FitTo d (c.set i (t3.2.n : Int)) (g ++ [t1.2.text]) by
                          have h1 := HNMF.out
                          rw [← h1.2.1]
                          exact HF.out.step (Fa.valid_parts HV.out).2.1 h1.1 h1.2.2.1 h1.2.2.2 (by rw [h1.2.1]; exact HG.out))
                        obtain ⟨m, hm⟩ : ∃ m, d.length - g.length = m + 1 := ⟨d.length - g.length - 1, by
                          have := Fa.nodup_le _ _ HF2.out.nodup HF2.out.sub
                          simp at this
                          omega⟩
                        have hT14 : Tch (fun b => b = p + 1) w13 (w13.setCell ⟨p + 1, i, none⟩ (.int .i64 (t3.2.n : Int))) := (Tch.refl (fun b => b = p + 1) w13).setCell (a := ⟨p + 1, i, none⟩) (.inl rfl) _
                        have hms14 := HC13.out.miss.tch hT14 (by have := HC13.out.l2 (p + 1) rfl; omega)
                        rw [hm] at hms14
                        have hnl : (bs t1.2.text).size ≤ maxLen := by have := HM1.out; rw [bs_size]; unfold maxLen; omega
                        have hsome : (missF (d.map Fa.Fact.name) g (.string (bs t1.2.text))).isSome = true := by
                          have e : (bs t1.2.text).data.toList = t1.2.text := rfl
                          unfold missF
                          simp only [e]
                          rw [if_pos ⟨HMEM.out, HG.out⟩]
                          rfl
                        obtain ⟨w15, hdel, hM15, hg15⟩ := hms14.del str_keyed Tryz.underlying68 (zero_bool _) (str_key hnl) hsome (miss_less (d.map Fa.Fact.name) g t1.2.text).1 (miss_less (d.map Fa.Fact.name) g t1.2.text).2 0
                        have HC15 := hid (HC13.out.put HCL.out hg15 (by rw [List.length_append, List.length_singleton, show d.length - (g.length + 1) = m by omega]; exact hM15))
                        have HST2 := hid (HA.out.step hlt (show k < k1 + 1 + 1 + 1 by omega) HV8.out)
                        rw [show Fa.idx d t1.2.text = (i : Int) from HI1.out, Int.toNat_natCast] at HST2
                        have HN1 := hid HC15.out.rdr.nextAt
                        have HN2 := hid HC.out.rdr.nextAt
                        have c0' := HC13.out.res.d.cell
                        have cz0' := HC13.out.res.d.lt
                        obtain ⟨x0, x1, x2, x3, xz13⟩ := HB13t.out.cells
                        have hB14 := HB13n.out.tch hT14 (by show ¬ w5.heap.size = p + 1; have := (HC.out.own.lt (p + 1) rfl).2; omega)
                        obtain ⟨y0, y1, y2, y3, yz14⟩ := hB14.cells
                        clear hms14 hM15 hg15 hT14 hB14 hsome hnl hcx hg0 hb13
                        go_wp2_with fail
                        go_roundw
                        case rel => exact ⟨k1 + 1 + 1 + 1, _, _, HC15, HST2, HF2⟩
                        case measure =>
                          rw [HN1.out, HN2.out]
                          omega
            · have HE := hid (HA.out.done hlt)
              have hlen := HC.out.miss.len Tryz.underlying68 3
              have HCE : Hid (∀ W', Calls Tryz.prog 34 #[.bool false, .int .i64 11, .agg #[.int .i64 0, .int .i64 ((bs s).size : Int), .int .i64 0, .string ⟨#[]⟩]] W' (Gives (.tuple #[]) W')) := fun W' => check_no 11 ((bs s).size, ⟨0, 0, []⟩) W'
              have HCF : Hid (∀ W', Calls Tryz.prog 34 #[.bool true, .int .i64 11, .agg #[.int .i64 0, .int .i64 ((bs s).size : Int), .int .i64 0, .string ⟨#[]⟩]] W' (fun en w' => en = thrown (11, ((bs s).size : Int)) ∧ Below W'.heap.size W' w')) := fun W' => check_yes 11 ((bs s).size, ⟨0, 0, []⟩) W'
              by_cases hgl : g.length < d.length
              · have hE2 := HE.out
                rw [if_pos hgl, ← bs_size s] at hE2
                have HE2 := hid hE2
                have hpos : decide (0 < d.length - g.length) = true := decide_eq_true (by omega)
                clear hE2 hgl
                go_wp2_with fail
                refine (HCF.out _).mono ?_
                rintro e wy ⟨rfl, hby⟩
                unfold thrown
                go_wp2_with fail
                exact HC.out.thrown (x := (11, ((bs s).size : Int))) (Tch.of_below hby _) HE2.out rfl rfl rfl rfl
              · have hE2 := HE.out
                rw [if_neg hgl] at hE2
                have HE2 := hid hE2
                have hz : d.length - g.length = 0 := by omega
                rw [hz] at hlen
                clear hE2 hgl hz
                go_wp2_with fail
                refine (HCE.out _).mono ?_
                rintro e wy ⟨rfl, hby⟩
                have HCY := hid (HC.out.step hby)
                clear hby
                have c0 := HCY.out.res.d.cell
                have cf0 := HCY.out.res.d.frozen
                have cz0 := HCY.out.res.d.lt
                have c1 := HCY.out.res.e.cell
                have cf1 := HCY.out.res.e.frozen
                have cz1 := HCY.out.res.e.lt
                have c2 := HCY.out.res.a.cell
                have cf2 := HCY.out.res.a.frozen
                have cz2' := HCY.out.res.a.lt
                go_wp2_with fail
                refine leaves_ret_2 (D := w.heap.size + 1) (E := w.heap.size + 1 + 1) (A := w.heap.size + 1 + 1 + 1) (v := .slice (some ⟨p + 1, 0, none⟩) d.length d.length) (er := .int .i64 0) (at_ := .int .i64 0) rfl rfl rfl rfl ?_ ?_
                · exact ((HCY.out.res.setD _).setE _).setA _
                · rw [HE2.out]
                  exact HCY.out.done HCL.out
    · have hx1 : (x != 0) = true := by rw [bne_iff_ne]; exact hx
      have HE := hid (Fa.parseCase_bad HV.out HL.out hx)
      clear hx
      go_upto_region 5 with (fail)
      go_region
      all_goals (go_wp2_with fail)
      all_goals refine leaves_ret_02 (D := w.heap.size + 1) (E := w.heap.size + 1 + 1) (A := w.heap.size + 1 + 1 + 1) (v := .slice none 0 0) (er := .int .i64 x) (at_ := .int .i64 y) rfl rfl rfl rfl ?_ ?_
      all_goals
        first
          | exact ((((HR3.out.setE _).setA _).setD _).setE _).setA _ |>.drew
          | exact ((((HR3.out.setE _).setA _).setE _).setA _).drew
          | (rw [HE.out]
             exact ⟨_, rfl, SlIn.nil _ _ _ _, (((((HB3.out.setCell (by show w.heap.size ≤ w.heap.size + 1 + 1; omega) _).setCell (by show w.heap.size ≤ w.heap.size + 1 + 1 + 1; omega) _).setCell (by show w.heap.size ≤ w.heap.size + 1; omega) _).setCell (by show w.heap.size ≤ w.heap.size + 1 + 1; omega) _).setCell (by show w.heap.size ≤ w.heap.size + 1 + 1 + 1; omega) _).drew⟩)

end Go.Proofs.YteogmlgmodeajaaGreatDoor
