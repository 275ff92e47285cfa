/-
  rewrite.checkDrops. Conditions: lengths; the library's tables.
-/
import Derived.Test.YtdchjacccmajcaaGreatDoorZRew1
import Derived.Test.YtdchjacccmajcaaGreatDoorZKey
import Derived.Test.YtdchjacccmajcaaGreatDoorZMBase
namespace Rw

theorem allOk_take {α : Type} (ok : α → Bool) (key : α → Int × List UInt8 × List UInt8) {l : List α} {k : Nat} {x : α} (hx : l[k]? = some x) :
    allOk ok key (l.take (k + 1)) [] = (allOk ok key (l.take k) [] && (!((l.take k).map key).contains (key x) && ok x)) := by
  obtain ⟨hk, he⟩ := List.getElem?_eq_some_iff.1 hx
  rw [List.take_succ_eq_append_getElem hk, he, allOk_append]
  simp [allOk]

theorem allOk_false {α : Type} (ok : α → Bool) (key : α → Int × List UInt8 × List UInt8) {l : List α} {k : Nat} (h : allOk ok key (l.take k) [] = false) : allOk ok key l [] = false := by
  conv => lhs; rw [← List.take_append_drop k l]
  rw [allOk_append, h]; rfl

end Rw
namespace Go.Proofs.YtdchjacccmajcaaGreatDoor
open Go.RowKit Go.Lib Go.Maps

def keyV (q : Int × List UInt8 × List UInt8) : Value := .agg #[.int .i64 q.1, .string (bs q.2.1), .string (bs q.2.2)]

open Classical in
/-- the map of the keys that have come -/
noncomputable def seenF (keys : List (Int × List UInt8 × List UInt8)) (x : Value) : Option Value := if ∃ q ∈ keys, keyV q = x then some (.bool true) else none

theorem seenF_get (keys : List (Int × List UInt8 × List UInt8)) (q : Int × List UInt8 × List UInt8) : (seenF keys (keyV q)).getD (.bool false) = .bool (keys.contains q) := by
  unfold seenF
  by_cases h : q ∈ keys
  · rw [if_pos ⟨q, h, rfl⟩]; simp [h]
  · rw [if_neg (fun ⟨p, hp, he⟩ => h (by have := key_eq.1 he; rw [show p = q from this] at hp; exact hp))]; simp [h]

theorem seenF_snoc (keys : List (Int × List UInt8 × List UInt8)) (q : Int × List UInt8 × List UInt8) : seenF (keys ++ [q]) (keyV q) = some (.bool true) ∧ ∀ y, y ≠ keyV q → seenF (keys ++ [q]) y = seenF keys y := by
  constructor
  · unfold seenF; rw [if_pos ⟨q, by simp, rfl⟩]
  · intro y hy
    unfold seenF
    by_cases h : ∃ p ∈ keys, keyV p = y
    · obtain ⟨p, hp, he⟩ := h
      rw [if_pos ⟨p, by simp [hp], he⟩, if_pos ⟨p, hp, he⟩]
    · rw [if_neg h, if_neg]
      rintro ⟨p, hp, he⟩
      rw [List.mem_append] at hp
      rcases hp with hp | hp
      · exact h ⟨p, hp, he⟩
      · simp at hp; subst hp; exact hy he.symm

/-- a drop's cells -/
def dropCells (d : Rw.Drop) : List Value := [.int .i64 d.script, .string (bs d.word), .int .i64 d.cost]
/-- a drop that can lie in memory, its word short -/
def DropFits (d : Rw.Drop) : Prop := (Lit.int .i64 d.script).wf = true ∧ d.word.length ≤ 1000

theorem addr_at (g j : Nat) : (⟨g, 0, none⟩ : Addr).add j = ⟨g, j, none⟩ := by unfold Addr.add; split <;> simp_all

set_option maxRecDepth 100000 in
set_option maxHeartbeats 2000000 in
theorem check_any (l : List Rw.Drop) (v : Value) (most : Int) (w : World) (hv : SlOf w v 3 dropCells l) (hl : l.length ≤ 1000000) (hf : ∀ d ∈ l, DropFits d) (hT : Tabs w) :
    Calls Tryz.prog 39 #[v, .int .i64 most] w (Gives (.bool (Rw.dropsOk l most)) w) := by
  obtain ⟨a, cap, rfl, h1, h2, h3⟩ := hv
  have hR := hid h3
  have hF := hid hf
  have hmm := @run_makeMap Tryz.prog
  clear h3 hf
  go_enter Tryz.func39, Tryz.ntmps39
  go_wp2
  go_loopw [12] (fun i wr => ∃ k : Nat, k ≤ l.length ∧ i = .int .i64 k ∧ Hid (MapF wr Tryz.prog 70 w.heap.size k (seenF ((l.take k).map Rw.Drop.key))) ∧ Below w.heap.size w wr ∧ Hid (Rw.allOk (Rw.dropOk most) Rw.Drop.key (l.take k) [] = true)) (fun i _ => l.length - (intOf i).toNat)
  case atStart => exact ⟨0, Nat.zero_le _, rfl, (MapF.made w Tryz.prog 70).congr (fun x _ _ => by simp [seenF]), (Below.refl _ _).alloc (Nat.le_refl _) _, rfl⟩
  case round =>
    obtain ⟨k, hk, rfl, hM, hbr, hA⟩ := hrel
    by_cases hlt : k < l.length
    · obtain ⟨g, o, rfl, hr⟩ := hR.out (by omega)
      obtain ⟨d, hd⟩ : ∃ d, l[k]? = some d := ⟨_, List.getElem?_eq_getElem hlt⟩
      have hc := (hr.below hbr).2 k d hd
      have c0 := hc 0 _ rfl
      have c1 := hc 1 _ rfl
      have c2 := hc 2 _ rfl
      rw [Nat.add_zero] at c0
      have hg := (hr.below hbr).1
      have hk0 : (0 : Int) ≤ (k : Int) := by omega
      have hk1 : (k : Int) < (l.length : Int) := by omega
      have hfd := hF.out d (List.mem_of_getElem? hd)
      have hwl : (bs d.word).size ≤ 1000000 := by rw [bs_len]; have := hfd.2; omega
      obtain ⟨kl, hkl⟩ := key_some d.script (bs d.word) (bs []) hfd.1 (by unfold maxLen; omega) (by decide)
      obtain ⟨W2, hW2⟩ : ∃ W2, W2 = (wr.alloc (.cells #[.int .i64 d.script, .string (bs d.word), .int .i64 d.cost] 58)).alloc (.cells #[.int .i64 d.script, .string (bs d.word), .string ⟨#[]⟩] 70) := ⟨_, rfl⟩
      have hb2 : Below wr.heap.size wr W2 := by rw [hW2]; exact ((Below.refl _ wr).alloc (Nat.le_refl _) _).alloc (by simp) _
      have hM2 := hid (hM.out.below hb2)
      have hget := hM2.out.get key_keyed Tryz.underlying68 (zero_bool W2) hkl
      rw [show (Value.agg #[.int .i64 d.script, .string (bs d.word), .string (bs [])]) = keyV d.key from rfl, seenF_get, hW2] at hget
      have hstep := hid (Rw.allOk_take (Rw.dropOk most) Rw.Drop.key hd)
      have hbad : ∀ b : Bool, True := fun _ => trivial
      cases hs : ((l.take k).map Rw.Drop.key).contains d.key with
      | true =>
        have hno := hid (show Rw.dropsOk l most = false by
          unfold Rw.dropsOk
          rw [Rw.allOk_false _ _ (k := k + 1) (by rw [hstep.out, hs]; simp)]; rfl)
        rw [hs] at hget
        have hget' : (Instr.lookup 68 (.map (some w.heap.size)) (.agg #[.int .i64 d.script, .string (bs d.word), .string ⟨#[]⟩]) false).run Tryz.prog ((wr.alloc (.cells #[.int .i64 d.script, .string (bs d.word), .int .i64 d.cost] 58)).alloc (.cells #[.int .i64 d.script, .string (bs d.word), .string ⟨#[]⟩] 70)) = .ok (.bool true) ((wr.alloc (.cells #[.int .i64 d.script, .string (bs d.word), .int .i64 d.cost] 58)).alloc (.cells #[.int .i64 d.script, .string (bs d.word), .string ⟨#[]⟩] 70)) := hget
        have HB := hid (hbr.trans (hb2.mono hbr.size))
        clear hc hr hs hget hkl hd
        go_wp2
        go_ret
        rw [← hW2]
        exact ⟨ret_bool hno.out.symm, HB.out⟩
      | false =>
        rw [hs] at hget
        have hget' : (Instr.lookup 68 (.map (some w.heap.size)) (.agg #[.int .i64 d.script, .string (bs d.word), .string ⟨#[]⟩]) false).run Tryz.prog ((wr.alloc (.cells #[.int .i64 d.script, .string (bs d.word), .int .i64 d.cost] 58)).alloc (.cells #[.int .i64 d.script, .string (bs d.word), .string ⟨#[]⟩] 70)) = .ok (.bool false) ((wr.alloc (.cells #[.int .i64 d.script, .string (bs d.word), .int .i64 d.cost] 58)).alloc (.cells #[.int .i64 d.script, .string (bs d.word), .string ⟨#[]⟩] 70)) := hget
        have hT2 := hid ((hT.below hbr).below hb2)
        have HS := hid hs
        have HB := hid (hbr.trans (hb2.mono hbr.size))
        have D0 : ∀ j u, ([.int .i64 d.script, .string (bs d.word), .int .i64 d.cost] : List Value)[j]? = some u → W2.cell? ⟨wr.heap.size, j, none⟩ = some u := fun j u hu => by
          rw [hW2]
          have h := cells_new (w := wr) (n := wr.heap.size) (t := 58) rfl j u hu
          rw [addr_at] at h
          exact (World.cell?_alloc_lt _ _ _ (by simp)).trans h
        have D1 : ∀ j u, ([.int .i64 d.script, .string (bs d.word), .string ⟨#[]⟩] : List Value)[j]? = some u → W2.cell? ⟨wr.heap.size + 1, j, none⟩ = some u := fun j u hu => by
          rw [hW2]
          have h := cells_new (w := wr.alloc (.cells #[.int .i64 d.script, .string (bs d.word), .int .i64 d.cost] 58)) (n := wr.heap.size + 1) (t := 70) (by simp) j u hu
          rw [addr_at] at h
          exact h
        have hn0 : wr.heap.size < W2.heap.size := by rw [hW2, World.size_alloc, World.size_alloc]; omega
        have hn1 : wr.heap.size + 1 < W2.heap.size := by rw [hW2, World.size_alloc, World.size_alloc]; omega
        have HD := hid (And.intro D0 D1)
        have HK := hid hkl
        have HDD := hid hd
        have HFO := hid (folded_any d.script (bs d.word) most W2 hwl hT2.out)
        rw [show (bs d.word).data.toList = d.word from rfl] at HFO
        clear hc hr hget hkl hd hs D0 D1
        go_wp2_with fail
        rw [← hW2]
        have HW2 := hid hW2
        clear hW2 hget'
        cases hfo : Rw.folded d.script d.word most with
        | false =>
          have hno := hid (show Rw.dropsOk l most = false by
            unfold Rw.dropsOk
            rw [Rw.allOk_false _ _ (k := k + 1) (by rw [hstep.out]; simp [Rw.dropOk, hfo])]; rfl)
          rw [hfo] at HFO
          clear hfo
          refine (HFO.out).mono ?_
          rintro e w3 ⟨rfl, hb3⟩
          go_wp2
          go_ret
          exact ⟨ret_bool hno.out.symm, HB.out.trans (hb3.mono HB.out.size)⟩
        | true =>
          rw [hfo] at HFO
          have HFT := hid hfo
          clear hfo
          refine (HFO.out).mono ?_
          rintro e w3 ⟨rfl, hb3⟩
          have B3 := hid (HB.out.trans (hb3.mono HB.out.size))
          have hM3 := hid (hM2.out.below hb3)
          have x2 : w3.cell? ⟨wr.heap.size, 2, none⟩ = some (.int .i64 d.cost) := (hb3.cell (p := ⟨wr.heap.size, 2, none⟩) hn0).trans (HD.out.1 2 _ rfl)
          have y0 : w3.cell? ⟨wr.heap.size + 1, 0, none⟩ = some (.int .i64 d.script) := (hb3.cell (p := ⟨wr.heap.size + 1, 0, none⟩) hn1).trans (HD.out.2 0 _ rfl)
          have y1 : w3.cell? ⟨wr.heap.size + 1, 1, none⟩ = some (.string (bs d.word)) := (hb3.cell (p := ⟨wr.heap.size + 1, 1, none⟩) hn1).trans (HD.out.2 1 _ rfl)
          have y2 : w3.cell? ⟨wr.heap.size + 1, 2, none⟩ = some (.string ⟨#[]⟩) := (hb3.cell (p := ⟨wr.heap.size + 1, 2, none⟩) hn1).trans (HD.out.2 2 _ rfl)
          clear hb3
          cases hco : Rw.isCost d.cost with
          | false =>
            have hno := hid (show Rw.dropsOk l most = false by
              unfold Rw.dropsOk
              rw [Rw.allOk_false _ _ (k := k + 1) (by rw [hstep.out]; simp [Rw.dropOk, hco])]; rfl)
            have HCO := hid (isCost_any d.cost w3)
            rw [hco] at HCO
            clear hco
            go_wp2_with fail
            refine (HCO.out).mono ?_
            rintro e w4 ⟨rfl, rfl⟩
            go_wp2
            go_ret
            exact ⟨ret_bool hno.out.symm, B3.out⟩
          | true =>
            have hyes := hid (show Rw.allOk (Rw.dropOk most) Rw.Drop.key (l.take (k + 1)) [] = true by
              rw [hstep.out, hA.out, HS.out]; simp [Rw.dropOk, hco, HFT.out])
            have HCO := hid (isCost_any d.cost w3)
            rw [hco] at HCO
            clear hco
            go_wp2_with fail
            refine (HCO.out).mono ?_
            rintro e w4 ⟨rfl, rfl⟩
            go_wp2_with (at_mapUpdate; refine wpList_put _ rfl _ _ _ 68 4 rfl key_keyed Tryz.underlying68 rfl hM3.out (by unfold maxLen; omega) _ _ kl rfl rfl HK.out (seenF ((l.take k).map Rw.Drop.key ++ [d.key])) (seenF_snoc _ d.key).1 (seenF_snoc _ d.key).2 ?_; intro w5 hM5 hg5)
            go_roundw
            case rel =>
              refine ⟨k + 1, by omega, by go_num, ?_, B3.out.grown hg5 B3.out.size (fun r e => by cases e; exact Nat.le_refl _), hyes⟩
              have e : (l.take (k + 1)).map Rw.Drop.key = (l.take k).map Rw.Drop.key ++ [d.key] := by
                obtain ⟨hk', he⟩ := List.getElem?_eq_some_iff.1 HDD.out
                rw [List.take_succ_eq_append_getElem hk', he]; simp
              rw [e]; exact hM5
            case measure => simp [intOf]; omega
    · have hks : k = l.length := by omega
      subst hks
      have hend := hid (show Rw.dropsOk l most = decide (l.length ≤ 40) by
        unfold Rw.dropsOk
        have := hA.out
        rw [List.take_length] at this
        rw [this]; simp)
      go_wp2
      go_ret
      exact ⟨ret_bool (by rw [hend.out]; exact decide_eq_decide.2 (by omega)), hbr⟩

end Go.Proofs.YtdchjacccmajcaaGreatDoor
