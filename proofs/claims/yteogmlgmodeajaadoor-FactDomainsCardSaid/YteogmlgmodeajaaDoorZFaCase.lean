/-
  Facts, plain laws on cases: the text of a case is read back, in any order; what is read fits. NO PROGRAM IN THIS TEXT.
-/
import Derived.Test.YteogmlgmodeajaaDoorZFaLaws
namespace Fa
open Lx

/-! ### a case's text as tokens -/

def pairToks (p : Fact × Int) : List Tk := [tkName p.1.name, tkSym 61, tkNum p.2.toNat]
def restToks (ps : List (Fact × Int)) : List Tk := ps.flatMap fun p => tkSym 44 :: pairToks p
def allToks (first : Bool) (ps : List (Fact × Int)) : List Tk := if first then (match ps with | [] => [] | p :: q => pairToks p ++ restToks q) else restToks ps

theorem rd_pair {p : Fact × Int} (hn : nm p.1.name = true) (h0 : 0 ≤ p.2) (h1 : p.2 ≤ 1000000) {r : List UInt8} (hr : r = [] ∨ ∃ x, r = 44 :: x) : Rd (pairText p) (pairToks p) r := by
  have hb : ∀ (t : Tk) (x : List UInt8), Good t (32 :: x) := fun t x => good_blank (by decide) x
  have e1 : pairText p = p.1.name ++ ([32] ++ ([61] ++ ([32] ++ dec p.2.toNat))) := by unfold pairText; simp
  have e2 : pairToks p = [tkName p.1.name] ++ ([] ++ ([tkSym 61] ++ ([] ++ [tkNum p.2.toNat]))) := rfl
  rw [e1, e2]
  refine (rd_name hn (hb _ _)).app ((rd_blank _).app ((rd_sym (by decide) (by decide) (by decide) _).app ((rd_blank _).app (rd_num (by omega) ?_))))
  rcases hr with rfl | ⟨x, rfl⟩
  · exact Good.nil _
  · exact good_not_word (by simp) (by decide) _
def okPair (p : Fact × Int) : Prop := nm p.1.name = true ∧ 0 ≤ p.2 ∧ p.2 ≤ 1000000
theorem rd_rest : ∀ (ps : List (Fact × Int)), (∀ p ∈ ps, okPair p) → Rd ((ps.map pairText).flatMap fun y => [44, 32] ++ y) (restToks ps) []
  | [], _ => Rd.nil []
  | p :: ps, h => by
    obtain ⟨h1, h2, h3⟩ := h p List.mem_cons_self
    rw [List.map_cons, List.flatMap_cons, restToks, List.flatMap_cons]
    refine Rd.app (s := [44, 32] ++ pairText p) (L := tkSym 44 :: pairToks p) ?_ (rd_rest ps fun q hq => h q (List.mem_cons_of_mem _ hq))
    refine Rd.app (s := [44, 32]) (L := [tkSym 44]) ?_ (rd_pair h1 h2 h3 ?_)
    · exact Rd.app (s := [44]) (s' := [32]) (rd_sym (by decide) (by decide) (by decide) _) (rd_blank _)
    · cases ps with
      | nil => left; rfl
      | cons q ps => right; exact ⟨_, rfl⟩
theorem rd_joined {ps : List (Fact × Int)} (h : ∀ p ∈ ps, okPair p) : Rd (joined (ps.map pairText)) (allToks true ps) [] := by
  cases ps with
  | nil => exact Rd.nil []
  | cons p ps =>
    obtain ⟨h1, h2, h3⟩ := h p List.mem_cons_self
    refine Rd.app (s := pairText p) (L := pairToks p) (rd_pair h1 h2 h3 ?_) (rd_rest ps fun q hq => h q (List.mem_cons_of_mem _ hq))
    cases ps with
    | nil => left; rfl
    | cons q ps => right; exact ⟨_, rfl⟩

theorem pair_len {p : Fact × Int} (h : okPair p) : (pairText p).length ≤ 34 := by
  obtain ⟨h1, h2, h3⟩ := h
  have := nm_len h1
  have := dec_len (n := p.2.toNat) 7 (by decide) (by omega)
  unfold pairText
  simp
  omega
theorem rest_len : ∀ (ps : List (Fact × Int)), (∀ p ∈ ps, okPair p) → ((ps.map pairText).flatMap fun y => [44, 32] ++ y).length ≤ 36 * ps.length
  | [], _ => by simp
  | p :: ps, h => by
    have h1 := pair_len (h p List.mem_cons_self)
    have h2 := rest_len ps fun q hq => h q (List.mem_cons_of_mem _ hq)
    rw [List.map_cons, List.flatMap_cons, List.length_append, List.length_append, List.length_cons]
    simp only [List.length_cons, List.length_nil]
    omega
theorem joined_len {ps : List (Fact × Int)} (h : ∀ p ∈ ps, okPair p) : (joined (ps.map pairText)).length ≤ 36 * ps.length := by
  cases ps with
  | nil => simp [joined]
  | cons p ps =>
    have h1 := pair_len (h p List.mem_cons_self)
    have h2 := rest_len ps fun q hq => h q (List.mem_cons_of_mem _ hq)
    rw [List.map_cons, joined, List.length_append, List.length_cons]
    omega

/-! ### reading a case -/

/-- a pair as it may be for a domain -/
def Fit (d : Dom) (p : Fact × Int) : Prop := p.1 ∈ d ∧ within p = true
theorem Fit.ok {d : Dom} (hv : valid d = true) {p : Fact × Int} (h : Fit d p) : okPair p ∧ p.1.lo ≤ p.2 ∧ p.2 ≤ p.1.hi := by
  obtain ⟨h1, h2⟩ := h
  obtain ⟨k1, k2⟩ := (valid_parts hv).1 p.1 h1
  unfold within at h2
  simp only [Bool.and_eq_true, decide_eq_true_eq] at h2
  refine ⟨⟨k2, ?_⟩, h2⟩
  rcases okKind_cases k1 with ⟨_, a, b⟩ | ⟨_, a, b, c⟩ <;> omega

theorem valP_ok {d : Dom} {gone : List (List UInt8)} {first : Bool} {e : Nat} {ts : List T} {p : Fact × Int} {L : List Tk} (hv : valid d = true) (h : Fit d p) (hg : p.1.name ∉ gone)
    (ht : toks ts = (if first then [] else [tkSym 44]) ++ (pairToks p ++ L)) : ∃ r, valP d gone first e ts = .ok ((idx d p.1.name, p.2, p.1.name), r) ∧ toks r = L := by
  obtain ⟨⟨_, h0, h1⟩, hlo, hhi⟩ := h.ok hv
  obtain ⟨i, hi⟩ := List.getElem?_of_mem h.1
  have hx := idx_at (valid_parts hv).2.1 hi
  have hstart : ∃ t r0, (if first then (Except.ok (((0, ⟨0, 0, []⟩) : T), ts) : Except Fail (T × List T)) else take 4 [44] e ts) = .ok (t, r0) ∧ toks r0 = pairToks p ++ L := by
    cases first with
    | true => exact ⟨_, ts, rfl, by simpa using ht⟩
    | false =>
      simp only [Bool.false_eq_true, if_false, List.cons_append, List.nil_append] at ht ⊢
      obtain ⟨p1, r1, rfl, ht1⟩ := toks_cons ht
      exact ⟨_, r1, take_ok 4 [44] rfl (.inr rfl), ht1⟩
  obtain ⟨t, r0, hs, ht⟩ := hstart
  unfold valP
  rw [hs]
  simp only
  unfold pairToks at ht
  obtain ⟨p1, r1, rfl, ht1⟩ := toks_cons ht
  obtain ⟨p2, r2, rfl, ht2⟩ := toks_cons ht1
  obtain ⟨p3, r3, rfl, ht3⟩ := toks_cons ht2
  refine ⟨r3, ?_, ht3⟩
  rw [take_ok 1 [] rfl (.inl rfl)]
  simp only
  rw [if_neg (show ¬ idx d p.1.name < 0 by rw [hx]; omega), if_neg hg, take_ok 4 [61] rfl (.inr rfl)]
  simp only
  rw [take_ok 2 [] rfl (.inl rfl)]
  simp only [hx, Int.toNat_natCast, hi]
  rw [if_neg (by omega), Int.toNat_of_nonneg h0]

def setAll (d : Dom) (c : List Int) (ps : List (Fact × Int)) : List Int := ps.foldl (fun c p => c.set (idx d p.1.name).toNat p.2) c

theorem valsN_ok {d : Dom} (hv : valid d = true) : ∀ (ps : List (Fact × Int)) (c : List Int) (g : List (List UInt8)) (first : Bool) (n e : Nat) (ts : List T), ps.length < n → (∀ p ∈ ps, Fit d p) → (g ++ ps.map fun p => p.1.name).Nodup → toks ts = allToks first ps →
    valsN n d c g first e ts = .ok (setAll d c ps, g ++ ps.map fun p => p.1.name)
  | [], c, g, first, n + 1, e, ts, _, _, _, ht => by
    have : ts = [] := by cases ts <;> cases first <;> simp [toks, allToks, restToks] at ht ⊢
    subst this
    simp [valsN, setAll]
  | p :: ps, c, g, first, n + 1, e, ts, hl, hf, hn, ht => by
    have hg : p.1.name ∉ g := by
      rw [List.nodup_append] at hn
      intro hm
      exact hn.2.2 _ hm p.1.name (by simp) rfl
    have ht' : toks ts = (if first then [] else [tkSym 44]) ++ (pairToks p ++ restToks ps) := by rw [ht]; cases first <;> simp [allToks, restToks]
    obtain ⟨r, h1, h2⟩ := valP_ok (e := e) hv (hf p List.mem_cons_self) hg ht'
    have hne : ∃ t r', ts = t :: r' := by
      cases ts with
      | nil =>
        have e1 := congrArg List.length ht'
        simp [toks, pairToks] at e1
      | cons t r' => exact ⟨t, r', rfl⟩
    obtain ⟨t, r', rfl⟩ := hne
    rw [valsN]
    rw [h1]
    simp only
    have := valsN_ok hv ps (c.set (idx d p.1.name).toNat p.2) (g ++ [p.1.name]) false n e r (by simp at hl; omega) (fun q hq => hf q (List.mem_cons_of_mem _ hq)) (by simpa using hn) (by rw [h2]; rfl)
    rw [this]
    simp [setAll]

theorem rest_toks_len : ∀ ps : List (Fact × Int), ps.length ≤ (restToks ps).length
  | [] => Nat.zero_le _
  | p :: ps => by
    have h2 := rest_toks_len ps
    unfold restToks at h2 ⊢
    rw [List.flatMap_cons, List.length_append, List.length_cons, List.length_cons]
    omega
theorem all_toks_len (ps : List (Fact × Int)) : ps.length ≤ (allToks true ps).length := by
  cases ps with
  | nil => exact Nat.zero_le _
  | cons p ps =>
    have := rest_toks_len ps
    simp [allToks, pairToks]; omega

/-- pairs of a domain's facts, each once, are read so -/
theorem parse_pairs {d : Dom} (hv : valid d = true) {ps : List (Fact × Int)} (hf : ∀ p ∈ ps, Fit d p) (hn : (ps.map fun p => p.1.name).Nodup) (hl : ps.length = d.length) :
    parseCase d (joined (ps.map pairText)) = (setAll d (List.replicate d.length 0) ps, 0, 0) := by
  have hok : ∀ p ∈ ps, okPair p := fun p hp => ((hf p hp).ok hv).1
  have h60 := (valid_parts hv).2.2
  have hlen := joined_len hok
  obtain ⟨l, h1, h2⟩ := (rd_joined hok).eq
  have hx : lex (joined (ps.map pairText)) = (l, 0, 0) := by rw [lex_lu (by omega), h1]
  unfold parseCase
  rw [if_pos hv, hx]
  simp only [ne_eq, not_true_eq_false, if_false]
  unfold valsT
  have := valsN_ok hv ps (List.replicate d.length 0) [] true (l.length + 1) (joined (ps.map pairText)).length l (by have := all_toks_len ps; have := toks_length l; rw [h2] at this; omega) hf (by simpa using hn) h2
  rw [this]
  simp only
  rw [if_neg (by simp; omega)]

theorem setAll_len (d : Dom) : ∀ (ps : List (Fact × Int)) (c : List Int), (setAll d c ps).length = c.length
  | [], _ => rfl
  | p :: ps, c => by
    show (setAll d (c.set _ _) ps).length = _
    rw [setAll_len d ps]; simp
theorem setAll_other (d : Dom) : ∀ (ps : List (Fact × Int)) (c : List Int) (i : Nat), (∀ p ∈ ps, (idx d p.1.name).toNat ≠ i) → (setAll d c ps)[i]? = c[i]?
  | [], _, _, _ => rfl
  | p :: ps, c, i, h => by
    show (setAll d (c.set _ _) ps)[i]? = _
    rw [setAll_other d ps _ i fun q hq => h q (List.mem_cons_of_mem _ hq), List.getElem?_set_ne (h p List.mem_cons_self)]
theorem setAll_at {d : Dom} (hv : (d.map Fact.name).Nodup) : ∀ (ps : List (Fact × Int)) (c : List Int) (i : Nat) (f : Fact) (v : Int), (∀ p ∈ ps, p.1 ∈ d) → (ps.map fun p => p.1.name).Nodup → d[i]? = some f → (f, v) ∈ ps → i < c.length → (setAll d c ps)[i]? = some v
  | p :: ps, c, i, f, v, hd, hn, hf, hm, hi => by
    show (setAll d (c.set _ _) ps)[i]? = _
    rw [List.map_cons, List.nodup_cons] at hn
    rcases List.mem_cons.1 hm with e | hm
    · subst e
      have hx := idx_at hv hf
      rw [setAll_other]
      · simp only [hx, Int.toNat_natCast]
        rw [List.getElem?_set_self hi]
      · intro q hq e
        obtain ⟨j, hj⟩ := List.getElem?_of_mem (hd q (List.mem_cons_of_mem _ hq))
        have hy := idx_at hv hj
        rw [hy, Int.toNat_natCast] at e
        subst e
        rw [hf] at hj
        simp only [Option.some.injEq] at hj
        exact hn.1 (List.mem_map.2 ⟨q, hq, by rw [← hj]⟩)
    · exact setAll_at hv ps _ i f v (fun q hq => hd q (List.mem_cons_of_mem _ hq)) hn.2 hf hm (by simpa using hi)

theorem fits_parts {d : Dom} {c : List Int} (h : fits d c = true) : valid d = true ∧ c.length = d.length ∧ ∀ p ∈ d.zip c, within p = true := by
  unfold fits at h
  simp only [Bool.and_eq_true, List.all_eq_true, decide_eq_true_eq] at h
  exact ⟨h.1.1, h.1.2, h.2⟩
theorem fits_mk {d : Dom} {c : List Int} (h1 : valid d = true) (h2 : c.length = d.length) (h3 : ∀ p ∈ d.zip c, within p = true) : fits d c = true := by
  unfold fits
  simp only [Bool.and_eq_true, List.all_eq_true, decide_eq_true_eq]
  exact ⟨⟨h1, h2⟩, h3⟩
theorem zip_fst_nodup {d : Dom} {c : List Int} (hn : (d.map Fact.name).Nodup) (hl : c.length = d.length) : ((d.zip c).map fun p => p.1.name).Nodup := by
  have : (d.zip c).map (fun p => p.1.name) = d.map Fact.name := by
    have e := List.map_fst_zip (l₁ := d) (l₂ := c) (by omega)
    conv => rhs; rw [← e, List.map_map]
    rfl
  rw [this]; exact hn

/-- whatever pairs a case's are, in whatever order -/
theorem parse_same {d : Dom} {c : List Int} (h : fits d c = true) {ps : List (Fact × Int)} (hm : ∀ p, p ∈ ps ↔ p ∈ d.zip c) (hn : (ps.map fun p => p.1.name).Nodup) (hl : ps.length = d.length) :
    parseCase d (joined (ps.map pairText)) = (c, 0, 0) := by
  obtain ⟨h1, h2, h3⟩ := fits_parts h
  have hd := (valid_parts h1).2.1
  have hfit : ∀ p ∈ ps, Fit d p := fun p hp => by
    have hz := (hm p).1 hp
    refine ⟨?_, h3 p hz⟩
    obtain ⟨a, b⟩ := p
    exact (List.of_mem_zip hz).1
  rw [parse_pairs h1 hfit hn hl]
  congr 1
  apply List.ext_getElem?
  intro i
  by_cases hi : i < d.length
  · have hc : i < c.length := by omega
    have hz : (d[i], c[i]) ∈ ps := (hm _).2 (by
      rw [List.mem_iff_getElem?]
      exact ⟨i, by rw [List.getElem?_zip_eq_some]; exact ⟨List.getElem?_eq_getElem hi, List.getElem?_eq_getElem hc⟩⟩)
    rw [setAll_at hd ps _ i d[i] c[i] (fun p hp => (hfit p hp).1) hn (List.getElem?_eq_getElem hi) hz (by simp; omega), List.getElem?_eq_getElem hc]
  · rw [List.getElem?_eq_none (by rw [setAll_len]; simp; omega), List.getElem?_eq_none (by omega)]

/-- a case's text is read as the case -/
theorem parse_caseText {d : Dom} {c : List Int} (h : fits d c = true) : parseCase d (caseText d c) = (c, 0, 0) := by
  obtain ⟨h1, h2, h3⟩ := fits_parts h
  unfold caseText
  rw [if_pos h]
  exact parse_same h (fun p => Iff.rfl) (zip_fst_nodup (valid_parts h1).2.1 h2) (by simp; omega)
theorem caseText_inj {d : Dom} {a b : List Int} (ha : fits d a = true) (hb : fits d b = true) (h : caseText d a = caseText d b) : a = b := by
  have h1 := parse_caseText ha
  rw [h, parse_caseText hb] at h1
  simp at h1
  exact h1.symm
theorem caseText_len (d : Dom) (c : List Int) : (caseText d c).length ≤ 2160 := by
  unfold caseText
  split
  · rename_i h
    obtain ⟨h1, h2, h3⟩ := fits_parts h
    have h60 := (valid_parts h1).2.2
    have := joined_len (ps := d.zip c) fun p hp => by
      refine (Fit.ok h1 ⟨?_, h3 p hp⟩).1
      obtain ⟨a, b⟩ := p
      exact (List.of_mem_zip hp).1
    have e : (d.zip c).length ≤ d.length := by simp; omega
    omega
  · simp
theorem nodup_rev {α : Type} {l : List α} (h : l.Nodup) : l.reverse.Nodup := by
  unfold List.Nodup at h ⊢
  rw [List.pairwise_reverse]
  exact h.imp fun e => e.symm
/-- turned round -/
theorem valid_reverse {d : Dom} (h : valid d = true) : valid d.reverse = true := by
  obtain ⟨h1, h2, h3⟩ := valid_parts h
  exact valid_mk (fun f hf => h1 f (List.mem_reverse.1 hf)) (by rw [List.map_reverse]; exact nodup_rev h2) (by simpa using h3)
theorem zip_rev : ∀ {d : Dom} {c : List Int} (_ : c.length = d.length), d.reverse.zip c.reverse = (d.zip c).reverse
  | [], [], _ => rfl
  | f :: d, x :: c, h => by
    have h' : c.length = d.length := by simpa using h
    rw [List.reverse_cons, List.reverse_cons, List.zip_append (by simp [h']), zip_rev h']
    simp
theorem fits_reverse {d : Dom} {c : List Int} (h : fits d c = true) : fits d.reverse c.reverse = true := by
  obtain ⟨h1, h2, h3⟩ := fits_parts h
  refine fits_mk (valid_reverse h1) (by simpa using h2) fun p hp => ?_
  rw [zip_rev h2] at hp
  exact h3 p (List.mem_reverse.1 hp)
theorem parse_reverse {d : Dom} {c : List Int} (h : fits d c = true) : parseCase d (caseText d.reverse c.reverse) = (c, 0, 0) := by
  obtain ⟨h1, h2, h3⟩ := fits_parts h
  unfold caseText
  rw [if_pos (fits_reverse h), zip_rev h2]
  refine parse_same h (fun p => List.mem_reverse) ?_ (by simp; omega)
  rw [List.map_reverse]
  exact nodup_rev (zip_fst_nodup (valid_parts h1).2.1 h2)

/-! ### what is read fits -/

theorem valP_out {d : Dom} {gone : List (List UInt8)} {first : Bool} {e : Nat} {ts r : List T} {i v : Int} {a : List UInt8} (h : valP d gone first e ts = .ok ((i, v, a), r)) :
    ∃ (k : Nat) (f : Fact), i = (k : Int) ∧ idx d a = (k : Int) ∧ d[k]? = some f ∧ f.name = a ∧ f.lo ≤ v ∧ v ≤ f.hi ∧ a ∉ gone ∧ r <:+ ts ∧ r.length < ts.length := by
  unfold valP at h
  split at h
  · simp at h
  · rename_i t0 r0 h0
    have hs : r0 <:+ ts := by
      cases first with
      | true => simp only [if_true, Except.ok.injEq, Prod.mk.injEq] at h0; rw [h0.2]; exact List.suffix_refl _
      | false =>
        simp only [Bool.false_eq_true, if_false] at h0
        obtain ⟨rfl, -, -⟩ := take_rest h0
        exact List.suffix_cons _ _
    split at h
    · simp at h
    · rename_i t1 r1 h1
      obtain ⟨rfl, -, -⟩ := take_rest h1
      split at h
      · simp at h
      · rename_i hi
        split at h
        · simp at h
        · rename_i hg
          split at h
          · simp at h
          · rename_i t2 r2 h2
            obtain ⟨rfl, -, -⟩ := take_rest h2
            split at h
            · simp at h
            · rename_i t3 r3 h3
              obtain ⟨rfl, -, -⟩ := take_rest h3
              split at h
              · simp at h
              · rename_i f hf
                split at h
                · simp at h
                · rename_i hc
                  simp only [Except.ok.injEq, Prod.mk.injEq] at h
                  obtain ⟨⟨rfl, rfl, rfl⟩, rfl⟩ := h
                  have hm : t1.2.text ∈ d.map Fact.name := by
                    by_cases hm : t1.2.text ∈ d.map Fact.name
                    · exact hm
                    · exact absurd (idx_neg.2 hm) hi
                  obtain ⟨k, q1, q2, q3⟩ := idx_yes hm
                  rw [q1, Int.toNat_natCast] at hf
                  refine ⟨k, f, q1, q1, hf, ?_, by omega, by omega, hg, ?_, ?_⟩
                  · rw [List.getElem?_map, hf] at q3
                    simpa using q3
                  · obtain ⟨m, hm⟩ := hs
                    exact ⟨m ++ [t1, t2, t3], by rw [← hm]; simp⟩
                  · obtain ⟨m, hm⟩ := hs
                    rw [← hm]; simp; omega
theorem valP_err {d : Dom} {gone : List (List UInt8)} {first : Bool} {e : Nat} {ts : List T} {a b : Int} (h : valP d gone first e ts = .error (a, b)) (hp : ∀ p ∈ ts, p.1 ≤ e) : 0 < a ∧ b ≤ e := by
  unfold valP at h
  split at h
  · rename_i x h0
    simp at h; subst h
    cases first with
    | true => simp at h0
    | false => simp only [Bool.false_eq_true, if_false] at h0; exact take_err h0 hp
  · rename_i t0 r0 h0
    have hs : ∀ p ∈ r0, p.1 ≤ e := by
      cases first with
      | true => simp only [if_true, Except.ok.injEq, Prod.mk.injEq] at h0; rw [← h0.2]; exact hp
      | false =>
        simp only [Bool.false_eq_true, if_false] at h0
        obtain ⟨rfl, -, -⟩ := take_rest h0
        exact fun p q => hp p (by simp [q])
    split at h
    · rename_i x h1
      simp at h; subst h
      exact take_err h1 hs
    · rename_i t1 r1 h1
      obtain ⟨rfl, -, -⟩ := take_rest h1
      have hp1 := hs t1 List.mem_cons_self
      split at h
      · simp at h; omega
      · rename_i hi
        split at h
        · simp at h; omega
        · split at h
          · rename_i x h2
            simp at h; subst h
            exact take_err h2 fun p q => hs p (by simp [q])
          · rename_i t2 r2 h2
            obtain ⟨rfl, -, -⟩ := take_rest h2
            split at h
            · rename_i x h3
              simp at h; subst h
              exact take_err h3 fun p q => hs p (by simp [q])
            · rename_i t3 r3 h3
              obtain ⟨rfl, -, -⟩ := take_rest h3
              split at h
              · rename_i hf
                have := idx_lt d t1.2.text
                have hlt : (idx d t1.2.text).toNat < d.length := by omega
                rw [List.getElem?_eq_getElem hlt] at hf
                cases hf
              · split at h
                · simp at h
                  have := hs t3 (by simp)
                  omega
                · simp at h

/-- so far it fits -/
structure FitTo (d : Dom) (c : List Int) (g : List (List UInt8)) : Prop where
  len : c.length = d.length
  nodup : g.Nodup
  sub : ∀ a ∈ g, a ∈ d.map Fact.name
  at_ : ∀ (k : Nat) (f : Fact), d[k]? = some f → f.name ∈ g → ∃ v, c[k]? = some v ∧ f.lo ≤ v ∧ v ≤ f.hi

theorem FitTo.step {d : Dom} (hd : (d.map Fact.name).Nodup) {c : List Int} {g : List (List UInt8)} (h : FitTo d c g) {k : Nat} {f : Fact} {v : Int} (hf : d[k]? = some f) (h1 : f.lo ≤ v) (h2 : v ≤ f.hi) (hg : f.name ∉ g) : FitTo d (c.set k v) (g ++ [f.name]) := by
  have hk := (List.getElem?_eq_some_iff.1 hf).1
  refine ⟨by rw [List.length_set]; exact h.len, ?_, fun a ha => ?_, fun j q hq hm => ?_⟩
  · rw [List.nodup_append]
    refine ⟨h.nodup, by simp, fun x hx y hy e => ?_⟩
    simp at hy
    subst hy; subst e
    exact hg hx
  · rcases List.mem_append.1 ha with ha | ha
    · exact h.sub a ha
    · simp at ha; subst ha
      exact List.mem_map_of_mem (List.mem_of_getElem? hf)
  · by_cases e : k = j
    · subst e
      rw [hf] at hq; cases hq
      exact ⟨v, by rw [List.getElem?_set_self (by rw [h.len]; exact hk)], h1, h2⟩
    · rw [List.getElem?_set_ne e]
      rcases List.mem_append.1 hm with hm | hm
      · exact h.at_ j q hq hm
      · simp at hm
        exfalso
        have e1 := idx_at hd hf
        have e2 := idx_at hd hq
        rw [hm, e1] at e2
        omega

theorem nodup_le {α : Type} [DecidableEq α] : ∀ (g l : List α), g.Nodup → (∀ a ∈ g, a ∈ l) → g.length ≤ l.length
  | [], _, _, _ => Nat.zero_le _
  | x :: g, l, hn, hs => by
    rw [List.nodup_cons] at hn
    have hx := hs x List.mem_cons_self
    have := nodup_le g (l.erase x) hn.2 fun a ha => (List.mem_erase_of_ne (fun e => hn.1 (by rw [← e]; exact ha))).2 (hs a (List.mem_cons_of_mem _ ha))
    have hl := List.length_erase_of_mem hx
    have hpos := List.length_pos_of_mem hx
    rw [List.length_cons]
    omega
theorem nodup_all {α : Type} [DecidableEq α] {g l : List α} (hn : g.Nodup) (hs : ∀ a ∈ g, a ∈ l) (hl : l.length ≤ g.length) : ∀ a ∈ l, a ∈ g := by
  intro a ha
  by_cases hg : a ∈ g
  · exact hg
  · have := nodup_le (a :: g) l (List.nodup_cons.2 ⟨hg, hn⟩) (fun x hx => by rcases List.mem_cons.1 hx with e | hx; (· rw [e]; exact ha); (· exact hs x hx))
    simp at this
    omega

theorem FitTo.done {d : Dom} (hv : valid d = true) {c : List Int} {g : List (List UInt8)} (h : FitTo d c g) (hl : d.length ≤ g.length) : fits d c = true := by
  refine fits_mk hv h.len fun p hp => ?_
  obtain ⟨k, hk⟩ := List.getElem?_of_mem hp
  rw [List.getElem?_zip_eq_some] at hk
  have hm : p.1.name ∈ g := nodup_all h.nodup h.sub (by simpa using hl) _ (List.mem_map_of_mem (List.mem_of_getElem? hk.1))
  obtain ⟨v, h1, h2, h3⟩ := h.at_ k p.1 hk.1 hm
  rw [hk.2] at h1
  cases h1
  unfold within
  simp [h2, h3]

theorem valsN_out {d : Dom} (hv : valid d = true) : ∀ (n : Nat) (c : List Int) (g : List (List UInt8)) (first : Bool) (e : Nat) (ts : List T) (c' : List Int) (g' : List (List UInt8)), FitTo d c g → valsN n d c g first e ts = .ok (c', g') → FitTo d c' g'
  | 0, c, g, first, e, ts, c', g', hf, h => by
    simp [valsN] at h
    obtain ⟨rfl, rfl⟩ := h
    exact hf
  | n + 1, c, g, first, e, ts, c', g', hf, h => by
    cases ts with
    | nil =>
      rw [valsN] at h
      simp at h
      obtain ⟨rfl, rfl⟩ := h
      exact hf
    | cons t r =>
      rw [valsN] at h
      split at h
      · simp at h
      · rename_i i v a r' hp
        obtain ⟨k, f, rfl, _, q1, rfl, q2, q3, q4, _, _⟩ := valP_out hp
        rw [Int.toNat_natCast] at h
        exact valsN_out hv n _ _ _ e r' c' g' (hf.step (valid_parts hv).2.1 q1 q2 q3 q4) h
theorem valsN_err {d : Dom} : ∀ (n : Nat) (c : List Int) (g : List (List UInt8)) (first : Bool) (e : Nat) (ts : List T) (a b : Int), (∀ p ∈ ts, p.1 ≤ e) → valsN n d c g first e ts = .error (a, b) → 0 < a ∧ b ≤ e
  | 0, c, g, first, e, ts, a, b, _, h => by simp [valsN] at h
  | n + 1, c, g, first, e, ts, a, b, hp, h => by
    cases ts with
    | nil => rw [valsN] at h; simp at h
    | cons t r =>
      rw [valsN] at h
      split at h
      · rename_i x hx
        simp at h; subst h
        exact valP_err hx hp
      · rename_i i v q r' hq
        obtain ⟨_, _, _, _, _, _, _, _, _, ⟨m, hm⟩, _⟩ := valP_out hq
        exact valsN_err n _ _ _ e r' a b (fun p hp' => hp p (by rw [← hm]; simp [hp'])) h

theorem parseCase_out {d : Dom} {s : List UInt8} (h : s.length ≤ 5000) : ((parseCase d s).2.1 ≠ 0 → (parseCase d s).1 = [] ∧ (parseCase d s).2.2 ≤ s.length) ∧ ((parseCase d s).2.1 = 0 → fits d (parseCase d s).1 = true ∧ (parseCase d s).2.2 = 0) := by
  unfold parseCase
  by_cases hv : valid d = true
  · rw [if_pos hv]
    rcases hl : lex s with ⟨l, x, y⟩
    obtain ⟨h1, h2, h3, h4, h5, h6⟩ := lex_toks h hl
    simp only
    by_cases hx : x = 0
    · rw [if_neg (by simpa using hx)]
      cases hp : valsT d (List.replicate d.length 0) [] true s.length l with
      | error z =>
        obtain ⟨a, b⟩ := z
        obtain ⟨q1, q2⟩ := valsN_err _ _ _ _ _ _ _ _ h2 hp
        exact ⟨fun _ => ⟨rfl, q2⟩, fun e => by simp at e; omega⟩
      | ok z =>
        obtain ⟨c, g⟩ := z
        have hf := valsN_out hv _ _ _ _ _ _ _ _ ⟨by simp, by simp, by simp, by simp⟩ hp
        simp only
        split
        · exact ⟨fun _ => ⟨rfl, by simp⟩, fun e => by simp at e⟩
        · rename_i hl
          exact ⟨fun e => absurd rfl e, fun _ => ⟨hf.done hv (by omega), rfl⟩⟩
    · rw [if_pos hx]
      exact ⟨fun _ => ⟨rfl, h4⟩, fun e => absurd e hx⟩
  · rw [if_neg hv]
    exact ⟨fun _ => ⟨rfl, by simp⟩, fun e => by simp at e⟩

end Fa
