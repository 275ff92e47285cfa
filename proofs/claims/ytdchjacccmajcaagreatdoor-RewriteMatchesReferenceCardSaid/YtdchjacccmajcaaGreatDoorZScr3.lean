/-
  script.Letters: the letters of a word, or an error. Conditions: lengths; the library's tables.
-/
import Derived.Test.YtdchjacccmajcaaGreatDoorZScr2
import Derived.Test.YtdchjacccmajcaaGreatDoorZMBase
import Derived.OwnWalk
import Derived.Deep.AppendLies
import Derived.Maps.AppendAt
import Derived.Deep.RegionLaw
namespace Go.Proofs.YtdchjacccmajcaaGreatDoor
open Go.RowKit Go.Lib Go.Shelf

attribute [local go_sem] Oper.semAt_some

set_option maxRecDepth 100000 in
theorem letters_mk (k : Int) (s : ByteArray) (w : World) : Calls Tryz.prog 46 #[.int .i64 k, .string s] w fun e w' =>
    e = .returned (.func (.func 79) #[] #[.pointer (some ⟨w.heap.size, 0, none⟩), .pointer (some ⟨w.heap.size + 1, 0, none⟩)]) ∧ w' = (w.alloc (.cells #[.int .i64 k] 3)).alloc (.cells #[.string s] 9) := by
  go_enter Tryz.func46, Tryz.ntmps46
  go_wp2
  go_ret
  exact ⟨rfl, rfl⟩

theorem info_str : (Tryz.prog.info? 9).map (fun i => (i.zero, i.size, i.bytes)) = some (some (.string ⟨#[]⟩), 1, 16) := by kernel_rfl

/-- what Letters returns -/
def LettersPost (k : Int) (s : List UInt8) (w : World) (e : Ending) (w' : World) : Prop :=
  match Sc.lets k s with
  | none => e = .returned (.tuple #[.slice none 0 0, .int .i64 1]) ∧ Below w.heap.size w w'
  | some ls => ∃ v, e = .returned (.tuple #[v, .int .i64 0]) ∧ w'.ownsRow w.heap.size 9 1 v ls.length (ls.map fun l => .string (bs l)) ∧ Below w.heap.size w w'

/-- between two rounds: the letters so far, the rest -/
def LetI (k : Int) (s : List UInt8) (B o m : Nat) (w : World) (b : List UInt8) (W : World) : Prop :=
  ∃ ls v, Sc.cuts k s = (ls ++ (Sc.cuts k b).1, (Sc.cuts k b).2) ∧ o ≤ ls.length ∧ ls.length ≤ m ∧ b.length ≤ 1000000 ∧ W.heap[B]? = some (.cells #[v] 28 (0, 0)) ∧ W.heap[B + 1]? = some (.cells #[.string (bs b)] 9 (0, 0)) ∧
    W.ownsRow (B + 4) 9 1 v ls.length (ls.map fun l => .string (bs l)) ∧ (v = .slice none 0 0 ↔ ls = []) ∧ Below B w W

theorem own_cells {w : World} {base : Nat} {e : TypeId} {size : Nat} {v : Value} {n : Nat} {xs : List Value} (h : w.ownsRow base e size v n xs) {g : Nat} (hg : v.ownBlock = some g) : base ≤ g ∧ ∃ cs, w.heap[g]? = some (.cells cs e (0, 0)) := by
  rcases h.2 with ⟨rfl, _⟩ | ⟨g', cap, cur, rfl, hb, hh, _⟩
  · cases hg
  · obtain rfl : g' = g := by simpa [Value.ownBlock] using hg
    exact ⟨hb, _, hh⟩

theorem letI_stays (k : Int) (s : List UInt8) (B o m : Nat) (w : World) : Stays (B + 4) (some (B + 3)) (LetI k s B o m w) := by
  rintro b A A' row ⟨ls, v, h1, h0, h2, h2', h3, h4, h5, h6, h7⟩ hg hr
  have far : ∀ q o, q < B + 3 → A.heap[q]? = some o → A'.heap[q]? = some o := fun q o hq ho =>
    (hg.block q (Array.getElem?_eq_some_iff.1 ho).1 (fun e => by
      rcases hr q e.symm with h | ⟨h, _⟩
      · cases h; omega
      · omega)).trans ho
  refine ⟨ls, v, h1, h0, h2, h2', far _ _ (by omega) h3, far _ _ (by omega) h4, h5.kept hg ?_, h6, h7.grown hg (Nat.le_of_lt (Array.getElem?_eq_some_iff.1 h3).1) (fun r e => ?_)⟩
  · cases hv : v.ownBlock with
    | none => exact .inl rfl
    | some g =>
      obtain ⟨hb, cs, hc⟩ := own_cells h5 hv
      refine .inr (fun e => ?_)
      rcases hr g e.symm with h | ⟨_, o, ho, hn⟩
      · cases h; omega
      · rw [hc] at ho; cases ho; cases hn
  · rcases hr r e with h | ⟨h, _⟩
    · cases h; omega
    · omega

theorem below_record {B : Nat} {w W : World} {D : Nat} {o : Obj} (o' : Obj) (h : Below B w W) (hD : B ≤ D) (hK : W.heap[D]? = some o) : Below B w (W.putObj D o') :=
  h.grown (grownBy_putObj' W D o') (by have := (Array.getElem?_eq_some_iff.1 hK).1; omega) (fun r e => by cases e; exact hD)

theorem own_record {W : World} {base : Nat} {e : TypeId} {size : Nat} {v : Value} {n : Nat} {xs : List Value} {D : Nat} {o : Obj} (o' : Obj) (h : W.ownsRow base e size v n xs) (hK : W.heap[D]? = some o) (ho : o.isCells = false) :
    (W.putObj D o').ownsRow base e size v n xs := by
  refine h.kept (grownBy_putObj' W D o') ?_
  cases hv : v.ownBlock with
  | none => exact .inl rfl
  | some g =>
    refine .inr (fun e => ?_)
    cases e
    obtain ⟨_, cs, hc⟩ := own_cells h hv
    rw [hK] at hc; cases hc; cases ho

/-- a round has broken off: thirteen letters -/
def LetX (k : Int) (s : List UInt8) (B : Nat) (w : World) (c : Code) (b : List UInt8) (W : World) : Prop :=
  c = .exit 0 ∧ LetI k s B 13 13 w b W

theorem letX_stays (k : Int) (s : List UInt8) (B : Nat) (w : World) (c : Code) : Stays (B + 4) (some (B + 3)) (LetX k s B w c) :=
  fun b A A' row h hg hr => ⟨h.1, letI_stays k s B 13 13 w b A A' row h.2 hg hr⟩

theorem letKeep_record (B : Nat) (W : World) (l : Nat) (o o' : Obj) (hl : B + 4 ≤ l) (h : W.heap[l]? = some o) (ho : o.isCells = false) : LetKeep (B + 2) (B + 3) W (W.putObj l o') :=
  ⟨by simp, World.putObj_heap_other (by omega), World.putObj_heap_other (by omega), fun ht => ht.grown (grownBy_putObj' W l o') (fun q v o1 e hc => by
    cases e
    exfalso
    obtain ⟨o2, h2, h3⟩ := cells_of_cell hc
    rw [h] at h2; cases h2; rw [ho] at h3; cases h3)⟩

theorem LetKeep.trans {Bk Bs : Nat} {A B C : World} (h : LetKeep Bk Bs A B) (k : LetKeep Bk Bs B C) : LetKeep Bk Bs A C :=
  ⟨Nat.le_trans h.size k.size, k.k.trans h.k, k.s.trans h.s, fun t => k.tabs (h.tabs t)⟩

set_option maxRecDepth 100000 in
set_option maxHeartbeats 2000000 in
theorem letters_any (k : Int) (s : ByteArray) (w : World) (hs : s.size ≤ 1000000) (hT : Tabs w) : Calls Tryz.prog 24 #[.int .i64 k, .string s] w (LettersPost k s.data.toList w) := by
  refine (callsIn_wide (n := 9)).1 ?_
  refine callsIn_of_wp_marks Tryz.func24 rfl trivial ?_ rfl
  simp only [Tryz.ntmps24, List.size_toArray, List.length_cons, List.length_nil, Nat.reduceAdd, Nat.reduceSub, Array.replicate_succ, Array.replicate_zero, List.push_toArray, List.append_toArray, List.nil_append, List.cons_append]
  refine wpIn_wide.2 ?_
  go_wp2_with fail
  refine (letters_mk k s _).mono ?_
  rintro e w1 ⟨rfl, hw1⟩
  have hB : w.heap.size + 4 = w1.heap.size := by rw [hw1]; simp
  have c0 : w1.heap[w.heap.size]? = some (.cells #[.slice none 0 0] 28 (0, 0)) := by
    rw [hw1]; exact (Below.heap_alloc _ _ _ (by simp; try omega)).trans ((Below.heap_alloc _ _ _ (by simp; try omega)).trans ((Below.heap_alloc _ _ _ (by simp)).trans (World.alloc_heap_new w _)))
  have c1 : w1.heap[w.heap.size + 1]? = some (.cells #[.string s] 9 (0, 0)) := by
    rw [hw1]
    refine (Below.heap_alloc _ _ _ (by simp; try omega)).trans ((Below.heap_alloc _ _ _ (by simp)).trans ?_)
    have := World.alloc_heap_new (w.alloc (.cells #[.slice none 0 0] 28)) (.cells #[.string s] 9)
    rwa [World.size_alloc] at this
  have c2 : w1.heap[w.heap.size + 2]? = some (.cells #[.int .i64 k] 3 (0, 0)) := by
    rw [hw1]
    refine (Below.heap_alloc _ _ _ (by simp)).trans ?_
    have := World.alloc_heap_new ((w.alloc (.cells #[.slice none 0 0] 28)).alloc (.cells #[.string s] 9)) (.cells #[.int .i64 k] 3)
    rwa [World.size_alloc, World.size_alloc] at this
  have c3 : w1.heap[w.heap.size + 3]? = some (.cells #[.string s] 9 (0, 0)) := by
    rw [hw1]
    have := World.alloc_heap_new (((w.alloc (.cells #[.slice none 0 0] 28)).alloc (.cells #[.string s] 9)).alloc (.cells #[.int .i64 k] 3)) (.cells #[.string s] 9)
    rwa [World.size_alloc, World.size_alloc, World.size_alloc] at this
  have hb1 : Below w.heap.size w w1 := by
    rw [hw1]; exact ((((Below.refl _ w).alloc (Nat.le_refl _) _).alloc (by simp) _).alloc (by simp; try omega) _).alloc (by simp; try omega) _
  have hT1 := hid (hT.below hb1)
  simp only [World.size_alloc]
  have C := hid (And.intro c0 (And.intro c1 (And.intro c2 (And.intro c3 hw1))))
  clear c0 c1 c2 c3 hw1
  have hB' := hid hB
  clear hB
  go_wp2_with fail
  refine (wpIn_wide (n := 9)).1 (wp_iter (own := some (w.heap.size + 3)) rfl (by omega) (gf := 79) (lb := #[.pointer (some ⟨w.heap.size + 2, 0, none⟩), .pointer (some ⟨w.heap.size + 3, 0, none⟩)]) rfl trivial (enters_of Tryz.func79 (by kernel_rfl) rfl)
    (letters_iter k (w.heap.size + 2) (w.heap.size + 3) (by omega) 8 (by omega)) s.data.toList (fun r e => by cases e; have := hB'.out; omega)
    (fun W hW => ?st) (fun b vals b' h => ?ps) (fun h1 h2 => h1.trans h2) (fun W l o o' hl => letKeep_record w.heap.size W l o o' (by have := hB'.out; omega))
    (LetI k s.data.toList w.heap.size 0 12 w) (LetX k s.data.toList w.heap.size w) ?hI ?hIx ?h0 ?hround ?hdone ?hstop)
  case st =>
    obtain ⟨c0, c1, c2, c3, _⟩ := C.out
    exact ⟨(hW.block _ (Array.getElem?_eq_some_iff.1 c2).1).trans c2, (hW.block _ (Array.getElem?_eq_some_iff.1 c3).1).trans c3, hT1.out.below hW, by simpa using hs⟩
  case ps =>
    unfold nxLetter at h
    split at h
    · cases h
    · cases h; rfl
  case hI => rw [← hB'.out]; exact letI_stays _ _ _ _ _ _
  case hIx => intro c; rw [← hB'.out]; exact letX_stays _ _ _ _ _
  case h0 =>
    obtain ⟨c0, c1, c2, c3, _⟩ := C.out
    exact ⟨[], .slice none 0 0, rfl, Nat.zero_le _, by simp, by simpa using hs, c0, c1, World.ownsRow_nil _ _ _ _, by simp, hb1⟩
  case hround =>
    rw [← hB'.out]
    intro l b vals b' W hl hlo hnx hi
    have hi3 := fun W3 hg => letI_stays _ _ _ _ _ _ b W W3 (some l) hi hg (fun r e => by cases e; exact .inr ⟨by omega, hlo⟩)
    have hz : Sc.len k b ≠ 0 := by
      intro h
      unfold nxLetter at hnx
      rw [if_pos h] at hnx
      cases hnx
    unfold nxLetter at hnx
    rw [if_neg hz] at hnx
    obtain ⟨rfl, rfl⟩ : #[Value.string (bs (b.take (Sc.len k b)))] = vals ∧ b.drop (Sc.len k b) = b' := by
      have := Option.some.inj hnx
      exact ⟨congrArg Prod.fst this, congrArg Prod.snd this⟩
    clear hnx
    gi_wp2
    refine ⟨KeepsFrom.refl _ _, ⟨Nat.le_refl _, rfl, rfl, fun h => h⟩, fun W3 hg3 => ?_⟩
    obtain ⟨ls, v, e1, _, e2, e3, b0, b1, hown, hnil, hbw⟩ := hi3 W3 hg3
    obtain ⟨a, cap, rfl⟩ := ownsRow_slice hown
    obtain ⟨q0, f0⟩ := cell_blk b0
    obtain ⟨q1, f1⟩ := cell_blk b1
    have hle := Sc.len_le k b
    have HI := hid hi
    clear hi hi3
    obtain ⟨m, hm⟩ : ∃ m, m = Sc.len k b := ⟨_, rfl⟩
    rw [← hm] at hz hle ⊢
    have HM := hid hm
    clear hm
    gi_wp2_with (fail)
    have hsz : (bs (b.take m)).size = m := by rw [bs_len, List.length_take]; omega
    have x2 : (bs b).extract m (bs b).size = bs (b.drop m) := by rw [extract_bs, bs_len, List.take_of_length_le (by simp [bs])]; rfl
    have x3 : (m : Int) ≤ ((bs b).size : Int) := by rw [bs_len]; omega
    have x4 : m ≤ (bs b).size := by rw [bs_len]; omega
    refine round_heldS (S := TwoS 8 9 (fun W => W.cell? ⟨w.heap.size, 0, none⟩ = some (.slice a ls.length cap)) (fun W => W.cell? ⟨w.heap.size + 1, 0, none⟩ = some (.string (bs b)))) (by kernel_rfl) (by kernel_rfl) (fun ⟨_, _, h⟩ => h) ?_
    simp only [List.size_toArray, List.length_cons, List.length_nil, Nat.reduceAdd]
    intro hc
    have S0 : TwoS 8 9 (fun W => W.cell? ⟨w.heap.size, 0, none⟩ = some (.slice a ls.length cap)) (fun W => W.cell? ⟨w.heap.size + 1, 0, none⟩ = some (.string (bs b))) (Array.replicate 10 false) W3.drew := ⟨.inr q0, .inr q1⟩
    refine wpAnyS_take (i := 0) (v := .slice a ls.length cap) rfl (by kernel_rfl) (by kernel_rfl) (by kernel_rfl) (fun _ _ _ h => h) (fun _ _ => TwoS.set_ (by decide) (by decide) _ _) hc (by rfl) (fun wx hx => ?_) S0 (fun hc S0 => ?_)
    · have g := hx.left (by kernel_rfl)
      go_simp
    simp only [Act.put, List.setIfInBounds_toArray]
    refine wpAnyS_take (i := 1) (v := .string (bs (b.take m))) rfl (by kernel_rfl) (by kernel_rfl) (by kernel_rfl) (fun _ _ _ h => h) (fun _ _ => TwoS.set_ (by decide) (by decide) _ _) hc (by rfl) (fun wx hx => ?_) S0 (fun hc S0 => ?_)
    · go_simp
    simp only [Act.put]
    refine wpAnyS_take (i := 4) (v := .string (bs b)) rfl (by kernel_rfl) (by kernel_rfl) (by kernel_rfl) (fun _ _ _ h => h) (fun _ _ => TwoS.set_ (by decide) (by decide) _ _) hc (by rfl) (fun wx hx => ?_) S0 (fun hc S0 => ?_)
    · have g := hx.right (by kernel_rfl)
      go_simp
    simp only [Act.put]
    refine wpAnyS_take (i := 5) (v := .string (bs (b.take m))) rfl (by kernel_rfl) (by kernel_rfl) (by kernel_rfl) (fun _ _ _ h => h) (fun _ _ => TwoS.set_ (by decide) (by decide) _ _) hc (by rfl) (fun wx hx => ?_) S0 (fun hc S0 => ?_)
    · go_simp
    simp only [Act.put]
    refine wpAnyS_take (i := 6) (v := .int .i64 m) rfl (by kernel_rfl) (by kernel_rfl) (by kernel_rfl) (fun _ _ _ h => h) (fun _ _ => TwoS.set_ (by decide) (by decide) _ _) hc (by rfl) (fun wx hx => ?_) S0 (fun hc S0 => ?_)
    · go_simp
    simp only [Act.put]
    refine wpAnyS_take (i := 7) (v := .string (bs (b.drop m))) rfl (by kernel_rfl) (by kernel_rfl) (by kernel_rfl) (fun _ _ _ h => h) (fun _ _ => TwoS.set_ (by decide) (by decide) _ _) hc (by rfl) (fun wx hx => ?_) S0 (fun hc S0 => ?_)
    · go_simp
    simp only [Act.put]
    refine wpAnyS_one (i := 2) rfl (by kernel_rfl) (by rfl) hc (fun K' hK => ?_)
    go_simp
    refine hK.out _ _ ⟨.inr ?_, .inr ?_⟩ (fun hc => ?_)
    · exact (World.cell?_alloc_lt _ _ _ (Array.getElem?_eq_some_iff.1 b0).1).trans q0
    · exact (World.cell?_alloc_lt _ _ _ (Array.getElem?_eq_some_iff.1 b1).1).trans q1
    clear hK K'
    obtain ⟨i0, hi0, hz0, hz1, hz2⟩ := info_parts info_str
    have hown1 := (hown.alloc (.cells #[.string (bs (b.take m))] 9)).drew
    have hsz3 : w.heap.size + 4 ≤ W3.heap.size := by
      obtain ⟨o, ho, _⟩ := hlo
      have := (Array.getElem?_eq_some_iff.1 ho).1
      have := hg3.size
      omega
    refine wpAnyS_law (i := 3) rfl (by kernel_rfl) hc (fun K' hK => ?_)
    refine step_append_lies _ rfl _ _ 28 rfl (w.heap.size + 4) 9 i0 (.string ⟨#[]⟩) 1 16 Tryz.underlying28 hi0 hz0 hz1 hz2 rfl (by decide) _ _ _ rfl hown1 ⟨W3.heap.size, 0, none⟩ 1 1 [.string (bs (b.take m))] rfl rfl (cell_one_new _ _ _) (by simp [Value.oneCell']) (by decide) (by unfold maxLen; omega) (by omega) (by simp; omega) (W3.heap.size + 1) (by simp) ?_
    intro g cap' w4 hown4 hgr4 hat hlt4
    have hgB : w.heap.size + 4 ≤ g := by
      rcases hat with h | h
      · exact (own_cells hown h).1
      · omega
    have far4 : ∀ q o, q < w.heap.size + 4 → W3.heap[q]? = some o → w4.heap[q]? = some o := fun q o hq ho =>
      (hgr4.block q (by show q < (W3.alloc _).heap.size; rw [World.size_alloc]; omega) (fun e => by
        have := (own_cells hown e.symm).1; omega)).trans ((Below.heap_alloc W3 _ q (by omega)).trans ho)
    have b04 := far4 _ _ (by omega) b0
    have b14 := far4 _ _ (by omega) b1
    obtain ⟨q04, f04⟩ := cell_blk b04
    obtain ⟨q14, f14⟩ := cell_blk b14
    refine hK.out _ _ ⟨.inr q04, .inr q14⟩ (fun hc => ?_)
    clear hK K'
    simp only [List.getElem_toArray, List.getElem_cons_succ, List.getElem_cons_zero, Act.put, List.setIfInBounds_toArray, List.set_cons_zero, List.set_cons_succ]
    refine wpAnyS_one (i := 8) rfl (by kernel_rfl) (by rfl) hc (fun K' hK => ?_)
    go_simp
    have b05 := set_blk (u := .slice (some ⟨g, 0, none⟩) (ls.length + 1) cap') b04
    have b15 := (Below.heap_setCell w4 ⟨w.heap.size, 0, none⟩ (.slice (some ⟨g, 0, none⟩) (ls.length + 1) cap') (w.heap.size + 1) (by simp)).trans b14
    obtain ⟨q15, f15⟩ := cell_blk b15
    refine hK.out _ _ ⟨.inl rfl, .inr q15⟩ (fun hc => ?_)
    clear hK K'
    refine wpAnyS_one (i := 9) rfl (by kernel_rfl) (by rfl) hc (fun K' hK => ?_)
    go_simp
    refine hK.out _ _ ⟨.inl rfl, .inl rfl⟩ (fun hc => ?_)
    clear hK K'
    refine wpAnyS_done (by kernel_rfl) ?_ _
    obtain ⟨w6, hw6⟩ : ∃ w6, w6 = (w4.setCell ⟨w.heap.size, 0, none⟩ (.slice (some ⟨g, 0, none⟩) (ls.length + 1) cap')).setCell ⟨w.heap.size + 1, 0, none⟩ (.string (bs (b.drop m))) := ⟨_, rfl⟩
    have b06 : w6.heap[w.heap.size]? = some (.cells #[.slice (some ⟨g, 0, none⟩) (ls.length + 1) cap'] 28 (0, 0)) := by
      rw [hw6]; exact (Below.heap_setCell _ ⟨w.heap.size + 1, 0, none⟩ _ w.heap.size (by simp)).trans b05
    have b16 : w6.heap[w.heap.size + 1]? = some (.cells #[.string (bs (b.drop m))] 9 (0, 0)) := by rw [hw6]; exact set_blk b15
    have hset : ∀ q, q ≠ w.heap.size → q ≠ w.heap.size + 1 → w6.heap[q]? = w4.heap[q]? := fun q h1 h2 => by
      rw [hw6]; exact (Below.heap_setCell _ ⟨w.heap.size + 1, 0, none⟩ _ q h2).trans (Below.heap_setCell _ ⟨w.heap.size, 0, none⟩ _ q h1)
    have hs6 : w6.heap.size = w4.heap.size := by rw [hw6]; simp [World.setCell]
    have hg46 : ∀ row, (some w.heap.size = row ∨ True) → True := fun _ _ => trivial
    have own6 : w6.ownsRow (w.heap.size + 4) 9 1 (.slice (some ⟨g, 0, none⟩) (ls.length + 1) cap') (ls.length + 1) ((ls ++ [b.take m]).map fun l => .string (bs l)) := by
      rw [List.map_append]
      rw [hw6]
      refine (hown4.kept (set_grown w4 w.heap.size _) (.inr ?_)).kept (set_grown _ (w.heap.size + 1) _) (.inr ?_)
      · simp [Value.ownBlock]; omega
      · simp [Value.ownBlock]; omega
    have hb6 : Below w.heap.size w w6 := by
      have h4 : Below w.heap.size w w4 := ((hbw.alloc (by omega) (.cells #[.string (bs (b.take m))] 9)).drew).grown hgr4 (by show w.heap.size ≤ (W3.alloc _).heap.size; rw [World.size_alloc]; omega) (fun r e => by have := (own_cells hown e).1; omega)
      rw [hw6]
      exact (h4.setCell (p := ⟨w.heap.size, 0, none⟩) (Nat.le_refl _) _).setCell (p := ⟨w.heap.size + 1, 0, none⟩) (by simp) _
    have sz34 : W3.heap.size ≤ w4.heap.size := Nat.le_trans (by show W3.heap.size ≤ (W3.alloc _).heap.size; rw [World.size_alloc]; omega) hgr4.size
    have hkf : KeepsFrom (w.heap.size + 4) W3 w6 := by
      refine ⟨by omega, fun q o hq ho hn => ?_⟩
      rw [hset q (by omega) (by omega)]
      refine (hgr4.block q (by show q < (W3.alloc _).heap.size; rw [World.size_alloc]; have := (Array.getElem?_eq_some_iff.1 ho).1; omega) (fun e => ?_)).trans ((Below.heap_alloc W3 _ q (Array.getElem?_eq_some_iff.1 ho).1).trans ho)
      obtain ⟨_, cs, hcs⟩ := own_cells hown e.symm
      rw [ho] at hcs; cases hcs; cases hn
    have hlk : LetKeep (w.heap.size + 2) (w.heap.size + 3) W3 w6 := by
      have far6 : ∀ q, q < w.heap.size + 4 → w.heap.size + 1 < q → w6.heap[q]? = W3.heap[q]? := fun q h1 h2 => by
        rw [hset q (by omega) (by omega)]
        refine (hgr4.block q (by show q < (W3.alloc _).heap.size; rw [World.size_alloc]; omega) (fun e => ?_)).trans (Below.heap_alloc W3 _ q (by omega))
        have := (own_cells hown e.symm).1; omega
      exact ⟨by omega, far6 _ (by omega) (by omega), far6 _ (by omega) (by omega), fun _ => hT.below hb6⟩
    have e4 : Sc.cuts k s.data.toList = ((ls ++ [b.take m]) ++ (Sc.cuts k (b.drop m)).1, (Sc.cuts k (b.drop m)).2) := by
      rw [e1, Sc.cuts_step (by rw [← HM.out]; exact hz), ← HM.out]; simp
    have FIN := hid (And.intro hkf (And.intro hlk (And.intro own6 (And.intro hb6 (And.intro b06 b16)))))
    have E4 := hid e4
    obtain ⟨q06, f06⟩ := cell_blk b06
    rw [← hw6]
    clear hw6 b06 b16 hset hs6 hg46 own6 hb6 hkf hlk e4 hown4 hown1 hgr4 hat far4 b04 b14 q04 f04 q14 f14 b05 b15 q15 f15 hnil hown b0 b1 q0 f0 q1 f1 e1 hc S0 x2 x3 x4 hsz
    by_cases h12 : (12 : Int) < ((ls.length : Int) + 1)
    · gi_wp2
      obtain ⟨hkf, hlk, own6, hb6, b06, b16⟩ := FIN.out
      exact ⟨hkf, rfl, ls ++ [b.take m], _, E4.out, by simp; omega, by simp; omega, by simp; omega, b06, b16, by rw [List.length_append]; exact own6, by simp, hb6⟩
    · gi_wp2
      obtain ⟨hkf, hlk, own6, hb6, b06, b16⟩ := FIN.out
      exact ⟨hkf, hlk, ls ++ [b.take m], _, E4.out, Nat.zero_le _, by simp; omega, by simp; omega, b06, b16, by rw [List.length_append]; exact own6, by simp, hb6⟩
  case hdone =>
    rw [← hB'.out]
    intro D b W hD hnx hi hK
    obtain ⟨ls, v, e1, _, e2, _, b0, b1, hown, hnil, hbw⟩ := hi
    have hz : Sc.len k b = 0 := by
      unfold nxLetter at hnx
      split at hnx
      · assumption
      · cases hnx
    rw [Sc.cuts_stop hz, List.append_nil] at e1
    obtain ⟨a, cap, rfl⟩ := ownsRow_slice hown
    obtain ⟨q0, _⟩ := cell_blk b0
    obtain ⟨q1, _⟩ := cell_blk b1
    have e2' : (ls.length : Int) ≤ 12 := by omega
    cases b with
    | cons c b =>
      have hne : (bs (c :: b)).toList.isEmpty = false := by rw [ByteArray.toList_eq]; rfl
      have hL := hid (show Sc.lets k s.data.toList = none by unfold Sc.lets; rw [e1, if_neg (by simp)])
      have HH := hid (And.intro hbw hK)
      clear e1 hown hnil hnx hz e2 hK hbw b0 b1
      go_wp2
      refine ⟨by simp, .inl ⟨_, _, rfl, run_takeDeferred HH.out.2, _, results_tmp2 rfl _ _ _, ?_⟩⟩
      unfold LettersPost
      rw [hL.out]
      exact ⟨rfl, below_record _ HH.out.1 (by omega) HH.out.2⟩
    | nil =>
      have hne : (bs []).toList.isEmpty = true := by rw [ByteArray.toList_eq]; rfl
      cases ls with
      | nil =>
        have hL := hid (show Sc.lets k s.data.toList = none by unfold Sc.lets; rw [e1, if_neg (by simp)])
        have HH := hid (And.intro hbw hK)
        clear e1 hown hnil hnx hz e2 hK hbw b0 b1
        go_wp2
        refine ⟨by simp, .inl ⟨_, _, rfl, run_takeDeferred HH.out.2, _, results_tmp2 rfl _ _ _, ?_⟩⟩
        unfold LettersPost
        rw [hL.out]
        exact ⟨rfl, below_record _ HH.out.1 (by omega) HH.out.2⟩
      | cons x ls =>
        have hL := hid (show Sc.lets k s.data.toList = some (x :: ls) by unfold Sc.lets; rw [e1, if_pos ⟨rfl, by simp, e2⟩])
        have HH := hid (And.intro hbw (And.intro hK hown))
        have hn0 : (((x :: ls).length : Int) == 0) = false := by rw [beq_eq_false_iff_ne]; simp; omega
        have hn1 : ¬ (12 : Int) < ((x :: ls).length : Int) := by omega
        clear e1 hown hnil hnx hz e2 hK hbw b0 b1
        generalize hlen : (x :: ls).length = N at *
        have hlen' := hid hlen
        clear hlen
        go_wp2
        refine ⟨by simp, .inl ⟨_, _, rfl, run_takeDeferred HH.out.2.1, _, results_tmp2 rfl _ _ _, ?_⟩⟩
        unfold LettersPost
        rw [hL.out]
        exact ⟨_, rfl, by rw [hlen'.out]; exact ownsRow_base (own_record _ HH.out.2.2 HH.out.2.1 rfl) (by omega), below_record _ HH.out.1 (by omega) HH.out.2.1⟩
  case hstop =>
    rw [← hB'.out]
    intro D c b W hD hx hK
    obtain ⟨rfl, ls, v, e1, h13, h13', _, b0, b1, hown, hnil, hbw⟩ := hx
    obtain ⟨a, cap, rfl⟩ := ownsRow_slice hown
    obtain ⟨q0, _⟩ := cell_blk b0
    obtain ⟨q1, _⟩ := cell_blk b1
    have hl13 : ls.length = 13 := by omega
    have hL := hid (show Sc.lets k s.data.toList = none by unfold Sc.lets; rw [e1, if_neg (by simp; omega)])
    have HH := hid (And.intro hbw hK)
    rw [hl13] at q0
    clear e1 hown hnil h13 h13' hK hbw b0 b1 hl13
    refine wpIn_wide.2 ?_
    cases b with
    | cons c b =>
      have hne : (bs (c :: b)).toList.isEmpty = false := by rw [ByteArray.toList_eq]; rfl
      go_wp2
      refine ⟨by simp, .inl ⟨_, _, rfl, run_takeDeferred HH.out.2, _, results_tmp2 rfl _ _ _, ?_⟩⟩
      unfold LettersPost
      rw [hL.out]
      exact ⟨rfl, below_record _ HH.out.1 (by omega) HH.out.2⟩
    | nil =>
      have hne : (bs []).toList.isEmpty = true := by rw [ByteArray.toList_eq]; rfl
      go_wp2
      refine ⟨by simp, .inl ⟨_, _, rfl, run_takeDeferred HH.out.2, _, results_tmp2 rfl _ _ _, ?_⟩⟩
      unfold LettersPost
      rw [hL.out]
      exact ⟨rfl, below_record _ HH.out.1 (by omega) HH.out.2⟩

end Go.Proofs.YtdchjacccmajcaaGreatDoor
