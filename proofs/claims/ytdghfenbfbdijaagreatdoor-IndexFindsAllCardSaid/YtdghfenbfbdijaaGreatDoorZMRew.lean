/-
 Several texts in one: ZRew1, ZKey, ZRew2, ZRew3. Conditions: as each law says.
-/
import Derived.Test.YtdghfenbfbdijaaGreatDoorZMPlain
import Derived.Test.YtdghfenbfbdijaaGreatDoorZMScr
import Derived.Shelf.Strings.SlTrimAscii
import Derived.Test.YtdghfenbfbdijaaGreatDoorZMBase
import Derived.DeepKeys4
namespace Go.Proofs.YtdghfenbfbdijaaGreatDoor
open Go.RowKit Go.Lib
theorem str_ne {a b : ByteArray} (h : a.data.toList ≠ b.data.toList) : (a.toList == b.toList) = false := by
 rw [ByteArray.toList_eq,ByteArray.toList_eq,beq_eq_false_iff_ne]; exact h
theorem isCost_any (n : Int) (w : World) : Calls Tryz.prog 48 #[.int .i64 n] w fun e w' => e = .returned (.bool (Rw.isCost n)) ∧ w = w' := by
 go_enter Tryz.func48,Tryz.ntmps48
 by_cases h : (0 : Int) ≤ n
 ·have he : Rw.isCost n = decide (n ≤ 1000) := by simp [Rw.isCost,h]
  have HE := hid he
  clear he
  go_wp2
  go_ret
  exact ⟨ret_bool HE.out.symm,rfl⟩
 ·have he : Rw.isCost n = false := by simp [Rw.isCost,h]
  have HE := hid he
  clear he
  go_wp2
  go_ret
  exact ⟨ret_bool HE.out.symm,rfl⟩
theorem drop_nil (p : UInt8 → Bool) : ∀ l : List UInt8,l.dropWhile p = [] ↔ l.all p = true
 | [] => by simp
 | c :: l => by
  rw [List.dropWhile_cons,List.all_cons]
  split
  ·rename_i h; rw [drop_nil p l,h]; simp
  ·rename_i h; simp [h]
theorem drop_all (p : UInt8 → Bool) : ∀ l : List UInt8,(l.dropWhile p).all p = true ↔ l.all p = true
 | [] => by simp
 | c :: l => by
  rw [List.dropWhile_cons,List.all_cons]
  split
  ·rename_i h; rw [drop_all p l,h]; simp
  ·rename_i h; simp [h]
theorem trim_nil (s cs : List UInt8) : (Lib.trimS s cs = []) ↔ s.all cs.contains = true := by
 unfold Lib.trimS Lib.trimLeftS Lib.trimRightS
 rw [drop_nil,List.all_reverse]
 have := drop_all (fun x => cs.contains x) s.reverse
 rw [this,List.all_reverse]
theorem trim_any (s : ByteArray) (w : World) (hs : s.size ≤ 9223372036854775807) :
  Calls Tryz.prog 83 #[.string s,.string ⟨#[97,98,99,100,101,102,103,104,105,106,107,108,109,110,111,112,113,114,115,116,117,118,119,120,121,122]⟩] w fun e w' =>
   e = .returned (.string ⟨(Lib.trimS s.data.toList Sc.small).toArray⟩) ∧ Below w.heap.size w w' :=
 Any.strings_Trim_laid Tryz.lays160 (by kernel_rfl) s _ w hs (by decide) (ascii_of_all (by decide))
set_option maxRecDepth 100000 in
theorem isForm_any (s : ByteArray) (w : World) (hs : s.size ≤ 1000000) : Calls Tryz.prog 50 #[.string s] w (Gives (.bool (Rw.isForm s.data.toList)) w) := by
 have hsz : s.data.toList.length = s.size := by simp
 by_cases h3 : (s.size : Int) ≤ 3
 ·have HT := hid (trim_any s w (by omega))
  cases ht : Lib.trimS s.data.toList Sc.small with
  | nil =>
   have he := hid (show Rw.isForm s.data.toList = true by
    unfold Rw.isForm
    rw [(trim_nil _ _).1 ht,decide_eq_true (by omega)]; rfl)
   rw [ht] at HT
   have hne : (⟨([] : List UInt8).toArray⟩ : ByteArray).toList.isEmpty = true := by rw [ByteArray.toList_eq]; rfl
   clear ht
   go_enter Tryz.func50,Tryz.ntmps50
   go_wp2_with fail
   refine (HT.out).mono ?_
   rintro e w1 ⟨rfl,hb1⟩
   go_wp2
   go_ret
   exact ⟨ret_bool he.out.symm,hb1⟩
  | cons c l =>
   have he := hid (show Rw.isForm s.data.toList = false by
    unfold Rw.isForm
    have : s.data.toList.all Sc.small.contains = false := by
     rw [Bool.eq_false_iff]; intro h
     rw [(trim_nil _ _).2 h] at ht; cases ht
    rw [this,Bool.and_false])
   rw [ht] at HT
   have hne : (⟨(c :: l).toArray⟩ : ByteArray).toList.isEmpty = false := by rw [ByteArray.toList_eq]; rfl
   clear ht
   go_enter Tryz.func50,Tryz.ntmps50
   go_wp2_with fail
   refine (HT.out).mono ?_
   rintro e w1 ⟨rfl,hb1⟩
   go_wp2
   go_ret
   exact ⟨ret_bool he.out.symm,hb1⟩
 ·have he := hid (show Rw.isForm s.data.toList = false by
   unfold Rw.isForm
   rw [decide_eq_false (by omega),Bool.false_and])
  go_enter Tryz.func50,Tryz.ntmps50
  go_wp2
  go_ret
  exact ⟨ret_bool he.out.symm,Below.refl _ _⟩
set_option maxRecDepth 100000 in
set_option maxHeartbeats 800000 in
theorem folded_any (k : Int) (s : ByteArray) (most : Int) (w : World) (hs : s.size ≤ 1000000) (hT : Tabs w) : Calls Tryz.prog 49 #[.int .i64 k,.string s,.int .i64 most] w (Gives (.bool (Rw.folded k s.data.toList most)) w) := by
 cases hl : Sc.lets k s.data.toList with
 | none =>
  have he := hid (show Rw.folded k s.data.toList most = false by unfold Rw.folded; rw [hl])
  have HL := hid hl
  clear hl
  go_enter Tryz.func49,Tryz.ntmps49
  go_wp2_with fail
  refine (fold_any k s w hs hT).mono ?_
  rintro e w1 h1
  unfold FoldPost at h1
  rw [HL.out] at h1
  obtain ⟨rfl,hb1⟩ := h1
  go_wp2
  go_ret
  exact ⟨ret_bool he.out.symm,hb1⟩
 | some ls =>
  have HL := hid hl
  by_cases hf : Sc.fold s.data.toList = s.data.toList
  ·have he := hid (show Rw.folded k s.data.toList most = decide ((ls.length : Int) ≤ most) by unfold Rw.folded; rw [hl]; simp [hf])
   have HF := hid hf
   have hlen := (Sc.lets_len hl).2
   clear hl hf
   go_enter Tryz.func49,Tryz.ntmps49
   go_wp2_with fail
   refine (fold_any k s w hs hT).mono ?_
   rintro e w1 h1
   unfold FoldPost at h1
   rw [HL.out] at h1
   obtain ⟨rfl,hb1⟩ := h1
   rw [HF.out]
   have e1 : bs s.data.toList = s := rfl
   rw [e1]
   clear e1
   have hT1 := hid (hT.below hb1)
   have HB := hid hb1
   clear hb1
   go_wp2_with fail
   refine (letters_any k s w1 hs hT1.out).mono ?_
   rintro e w2 h2
   unfold LettersPost at h2
   rw [HL.out] at h2
   obtain ⟨v,rfl,ho,hb2⟩ := h2
   obtain ⟨a,cap,rfl⟩ := ownsRow_slice ho
   have HZ := hid (HB.out.trans (hb2.mono HB.out.size))
   clear ho hb2
   go_wp2
   go_ret
   exact ⟨ret_bool he.out.symm,HZ.out⟩
  ·have he := hid (show Rw.folded k s.data.toList most = false by unfold Rw.folded; rw [hl]; simp [hf])
   have hne : ((bs (Sc.fold s.data.toList)).toList == s.toList) = false := str_ne hf
   clear hl hf
   go_enter Tryz.func49,Tryz.ntmps49
   go_wp2_with fail
   refine (fold_any k s w hs hT).mono ?_
   rintro e w1 h1
   unfold FoldPost at h1
   rw [HL.out] at h1
   obtain ⟨rfl,hb1⟩ := h1
   go_wp2
   go_ret
   exact ⟨ret_bool he.out.symm,hb1⟩
end Go.Proofs.YtdghfenbfbdijaaGreatDoor
namespace Go.Proofs.YtdghfenbfbdijaaGreatDoor
open Go.RowKit Go.Maps
theorem laid_out : laidOutB Tryz.prog = true := by kernel_rfl
theorem key_keyed : Keyed Tryz.prog 117 :=
 Keyed.of_law (deep_law_laid laid_out (m := 9) (by decide) (of_decide_eq_true (by kernel_rfl)) (by kernel_rfl) (by kernel_rfl))
theorem key_some (s : Int) (f t : ByteArray) (hs : (Lit.int .i64 s).wf = true) (hf : f.size ≤ maxLen) (ht : t.size ≤ maxLen) : ∃ kl,keyOf Tryz.prog 117 (.agg #[.int .i64 s,.string f,.string t]) = some kl := by
 have hd : ∃ d,Tryz.prog.types.size + 1 = d + 2 := ⟨Tryz.prog.types.size - 1,by have : 1 ≤ Tryz.prog.types.size := of_decide_eq_true (by kernel_rfl); omega⟩
 obtain ⟨d,hd⟩ := hd
 have hk : Tryz.prog.keyType 117 = true := by kernel_rfl
 have hc : Tryz.prog.cellsOf 117 = 3 := by kernel_rfl
 have hc3 : Tryz.prog.cellsOf 3 = 1 := by kernel_rfl
 have hc9 : Tryz.prog.cellsOf 9 = 1 := by kernel_rfl
 unfold keyOf
 rw [Tryz.underlying117]
 simp only [hk,Value.formed,Tryz.underlying117,hc,Value.cells]
 rw [hd]
 simp [Program.keyLits,Tryz.underlying117,hc,hc3,hc9,Tryz.underlying3,Tryz.underlying9,hs,hf,ht]
theorem key_eq {s s' : Int} {f f' t t' : List UInt8} : (Value.agg #[.int .i64 s,.string (bs f),.string (bs t)] = Value.agg #[.int .i64 s',.string (bs f'),.string (bs t')]) ↔ (s,f,t) = (s',f',t') := by
 constructor
 ·intro h
  simp [bs] at h
  obtain ⟨h1,h2,h3⟩ := h
  rw [h1,h2,h3]
 ·intro h
  simp only [Prod.mk.injEq] at h
  obtain ⟨h1,h2,h3⟩ := h
  rw [h1,h2,h3]
theorem zero_bool (w : World) : (zeroValue 4).run Tryz.prog w = .ok (.bool false) w := by kernel_rfl
end Go.Proofs.YtdghfenbfbdijaaGreatDoor
namespace Rw
theorem allOk_take {α : Type} (ok : α → Bool) (key : α → Int × List UInt8 × List UInt8) {l : List α} {k : Nat} {x : α} (hx : l[k]? = some x) :
  allOk ok key (l.take (k + 1)) [] = (allOk ok key (l.take k) [] && (!((l.take k).map key).contains (key x) && ok x)) := by
 obtain ⟨hk,he⟩ := List.getElem?_eq_some_iff.1 hx
 rw [List.take_succ_eq_append_getElem hk,he,allOk_append]
 simp [allOk]
theorem allOk_false {α : Type} (ok : α → Bool) (key : α → Int × List UInt8 × List UInt8) {l : List α} {k : Nat} (h : allOk ok key (l.take k) [] = false) : allOk ok key l [] = false := by
 conv => lhs; rw [← List.take_append_drop k l]
 rw [allOk_append,h]; rfl
end Rw
namespace Go.Proofs.YtdghfenbfbdijaaGreatDoor
open Go.RowKit Go.Lib Go.Maps
def keyV (q : Int × List UInt8 × List UInt8) : Value := .agg #[.int .i64 q.1,.string (bs q.2.1),.string (bs q.2.2)]
open Classical in
noncomputable def seenF (keys : List (Int × List UInt8 × List UInt8)) (x : Value) : Option Value := if ∃ q ∈ keys,keyV q = x then some (.bool true) else none
theorem seenF_get (keys : List (Int × List UInt8 × List UInt8)) (q : Int × List UInt8 × List UInt8) : (seenF keys (keyV q)).getD (.bool false) = .bool (keys.contains q) := by
 unfold seenF
 by_cases h : q ∈ keys
 ·rw [if_pos ⟨q,h,rfl⟩]; simp [h]
 ·rw [if_neg (fun ⟨p,hp,he⟩ => h (by have := key_eq.1 he; rw [show p = q from this] at hp; exact hp))]; simp [h]
theorem seenF_snoc (keys : List (Int × List UInt8 × List UInt8)) (q : Int × List UInt8 × List UInt8) : seenF (keys ++ [q]) (keyV q) = some (.bool true) ∧ ∀ y,y ≠ keyV q → seenF (keys ++ [q]) y = seenF keys y := by
 constructor
 ·unfold seenF; rw [if_pos ⟨q,by simp,rfl⟩]
 ·intro y hy
  unfold seenF
  by_cases h : ∃ p ∈ keys,keyV p = y
  ·obtain ⟨p,hp,he⟩ := h
   rw [if_pos ⟨p,by simp [hp],he⟩,if_pos ⟨p,hp,he⟩]
  ·rw [if_neg h,if_neg]
   rintro ⟨p,hp,he⟩
   rw [List.mem_append] at hp
   rcases hp with hp | hp
   ·exact h ⟨p,hp,he⟩
   ·simp at hp; subst hp; exact hy he.symm
def dropCells (d : Rw.Drop) : List Value := [.int .i64 d.script,.string (bs d.word),.int .i64 d.cost]
def DropFits (d : Rw.Drop) : Prop := (Lit.int .i64 d.script).wf = true ∧ d.word.length ≤ 1000
theorem addr_at (g j : Nat) : (⟨g,0,none⟩ : Addr).add j = ⟨g,j,none⟩ := by unfold Addr.add; split <;> simp_all
set_option maxRecDepth 100000 in
set_option maxHeartbeats 2000000 in
theorem check_any (l : List Rw.Drop) (v : Value) (most : Int) (w : World) (hv : SlOf w v 3 dropCells l) (hl : l.length ≤ 1000000) (hf : ∀ d ∈ l,DropFits d) (hT : Tabs w) :
  Calls Tryz.prog 51 #[v,.int .i64 most] w (Gives (.bool (Rw.dropsOk l most)) w) := by
 obtain ⟨a,cap,rfl,h1,h2,h3⟩ := hv
 have hR := hid h3
 have hF := hid hf
 have hmm := @run_makeMap Tryz.prog
 clear h3 hf
 go_enter Tryz.func51,Tryz.ntmps51
 go_wp2
 go_loopw [12] (fun i wr => ∃ k : Nat,k ≤ l.length ∧ i = .int .i64 k ∧ Hid (MapF wr Tryz.prog 117 w.heap.size k (seenF ((l.take k).map Rw.Drop.key))) ∧ Below w.heap.size w wr ∧ Hid (Rw.allOk (Rw.dropOk most) Rw.Drop.key (l.take k) [] = true)) (fun i _ => l.length - (intOf i).toNat)
 case atStart => exact ⟨0,Nat.zero_le _,rfl,(MapF.made w Tryz.prog 117).congr (fun x _ _ => by simp [seenF]),(Below.refl _ _).alloc (Nat.le_refl _) _,rfl⟩
 case round =>
  obtain ⟨k,hk,rfl,hM,hbr,hA⟩ := hrel
  by_cases hlt : k < l.length
  ·obtain ⟨g,o,rfl,hr⟩ := hR.out (by omega)
   obtain ⟨d,hd⟩ : ∃ d,l[k]? = some d := ⟨_,List.getElem?_eq_getElem hlt⟩
   have hc := (hr.below hbr).2 k d hd
   have c0 := hc 0 _ rfl
   have c1 := hc 1 _ rfl
   have c2 := hc 2 _ rfl
   rw [Nat.add_zero] at c0
   have hg := (hr.below hbr).1
   have hk0 : (0 : Int) ≤ (k : Int) := by omega
   have hk1 : (k : Int) < (l.length : Int) := by omega
   have hfd := hF.out d (List.mem_of_getElem? hd)
   have hwl : (bs d.word).size ≤ 1000000 := by rw [bs_len]; have := hfd.2; omega
   obtain ⟨kl,hkl⟩ := key_some d.script (bs d.word) (bs []) hfd.1 (by unfold maxLen; omega) (by decide)
   obtain ⟨W2,hW2⟩ := exq ((wr.alloc (.cells #[.int .i64 d.script,.string (bs d.word),.int .i64 d.cost] 69)).alloc (.cells #[.int .i64 d.script,.string (bs d.word),.string ⟨#[]⟩] 117))
   have hb2 : Below wr.heap.size wr W2 := by rw [hW2]; exact ((Below.refl _ wr).alloc (Nat.le_refl _) _).alloc (by simp) _
   have hM2 := hid (hM.out.below hb2)
   have hget := hM2.out.get key_keyed Tryz.underlying115 (zero_bool W2) hkl
   rw [show (Value.agg #[.int .i64 d.script,.string (bs d.word),.string (bs [])]) = keyV d.key from rfl,seenF_get,hW2] at hget
   have hstep := hid (Rw.allOk_take (Rw.dropOk most) Rw.Drop.key hd)
   have hbad : ∀ b : Bool,True := fun _ => trivial
   cases hs : ((l.take k).map Rw.Drop.key).contains d.key with
   | true =>
    have hno := hid (show Rw.dropsOk l most = false by
     unfold Rw.dropsOk
     rw [Rw.allOk_false _ _ (k := k + 1) (by rw [hstep.out,hs]; simp)]; rfl)
    rw [hs] at hget
    have hget' : (Instr.lookup 115 (.map (some w.heap.size)) (.agg #[.int .i64 d.script,.string (bs d.word),.string ⟨#[]⟩]) false).run Tryz.prog ((wr.alloc (.cells #[.int .i64 d.script,.string (bs d.word),.int .i64 d.cost] 69)).alloc (.cells #[.int .i64 d.script,.string (bs d.word),.string ⟨#[]⟩] 117)) = .ok (.bool true) ((wr.alloc (.cells #[.int .i64 d.script,.string (bs d.word),.int .i64 d.cost] 69)).alloc (.cells #[.int .i64 d.script,.string (bs d.word),.string ⟨#[]⟩] 117)) := hget
    have HB := hid (hbr.trans (hb2.mono hbr.size))
    clear hc hr hs hget hkl hd
    go_wp2
    go_ret
    rw [← hW2]
    exact ⟨ret_bool hno.out.symm,HB.out⟩
   | false =>
    rw [hs] at hget
    have hget' : (Instr.lookup 115 (.map (some w.heap.size)) (.agg #[.int .i64 d.script,.string (bs d.word),.string ⟨#[]⟩]) false).run Tryz.prog ((wr.alloc (.cells #[.int .i64 d.script,.string (bs d.word),.int .i64 d.cost] 69)).alloc (.cells #[.int .i64 d.script,.string (bs d.word),.string ⟨#[]⟩] 117)) = .ok (.bool false) ((wr.alloc (.cells #[.int .i64 d.script,.string (bs d.word),.int .i64 d.cost] 69)).alloc (.cells #[.int .i64 d.script,.string (bs d.word),.string ⟨#[]⟩] 117)) := hget
    have hT2 := hid ((hT.below hbr).below hb2)
    have HS := hid hs
    have HB := hid (hbr.trans (hb2.mono hbr.size))
    have D0 : ∀ j u,([.int .i64 d.script,.string (bs d.word),.int .i64 d.cost] : List Value)[j]? = some u → W2.cell? ⟨wr.heap.size,j,none⟩ = some u := fun j u hu => by
     rw [hW2]
     have h := cells_new (w := wr) (n := wr.heap.size) (t := 69) rfl j u hu
     rw [addr_at] at h
     exact (World.cell?_alloc_lt _ _ _ (by simp)).trans h
    have D1 : ∀ j u,([.int .i64 d.script,.string (bs d.word),.string ⟨#[]⟩] : List Value)[j]? = some u → W2.cell? ⟨wr.heap.size + 1,j,none⟩ = some u := fun j u hu => by
     rw [hW2]
     have h := cells_new (w := wr.alloc (.cells #[.int .i64 d.script,.string (bs d.word),.int .i64 d.cost] 69)) (n := wr.heap.size + 1) (t := 117) (by simp) j u hu
     rw [addr_at] at h
     exact h
    have hn0 : wr.heap.size < W2.heap.size := by rw [hW2,World.size_alloc,World.size_alloc]; omega
    have hn1 : wr.heap.size + 1 < W2.heap.size := by rw [hW2,World.size_alloc,World.size_alloc]; omega
    have HD := hid (And.intro D0 D1)
    have HK := hid hkl
    have HDD := hid hd
    have HFO := hid (folded_any d.script (bs d.word) most W2 hwl hT2.out)
    rw [show (bs d.word).data.toList = d.word from rfl] at HFO
    clear hc hr hget hkl hd hs D0 D1
    go_wp2_with fail
    rw [← hW2]
    have HW2 := hid hW2
    clear hW2 hget'
    cases hfo : Rw.folded d.script d.word most with
    | false =>
     have hno := hid (show Rw.dropsOk l most = false by
      unfold Rw.dropsOk
      rw [Rw.allOk_false _ _ (k := k + 1) (by rw [hstep.out]; simp [Rw.dropOk,hfo])]; rfl)
     rw [hfo] at HFO
     clear hfo
     refine (HFO.out).mono ?_
     rintro e w3 ⟨rfl,hb3⟩
     go_wp2
     go_ret
     exact ⟨ret_bool hno.out.symm,HB.out.trans (hb3.mono HB.out.size)⟩
    | true =>
     rw [hfo] at HFO
     have HFT := hid hfo
     clear hfo
     refine (HFO.out).mono ?_
     rintro e w3 ⟨rfl,hb3⟩
     have B3 := hid (HB.out.trans (hb3.mono HB.out.size))
     have hM3 := hid (hM2.out.below hb3)
     have x2 : w3.cell? ⟨wr.heap.size,2,none⟩ = some (.int .i64 d.cost) := (hb3.cell (p := ⟨wr.heap.size,2,none⟩) hn0).trans (HD.out.1 2 _ rfl)
     have y0 : w3.cell? ⟨wr.heap.size + 1,0,none⟩ = some (.int .i64 d.script) := (hb3.cell (p := ⟨wr.heap.size + 1,0,none⟩) hn1).trans (HD.out.2 0 _ rfl)
     have y1 : w3.cell? ⟨wr.heap.size + 1,1,none⟩ = some (.string (bs d.word)) := (hb3.cell (p := ⟨wr.heap.size + 1,1,none⟩) hn1).trans (HD.out.2 1 _ rfl)
     have y2 : w3.cell? ⟨wr.heap.size + 1,2,none⟩ = some (.string ⟨#[]⟩) := (hb3.cell (p := ⟨wr.heap.size + 1,2,none⟩) hn1).trans (HD.out.2 2 _ rfl)
     clear hb3
     cases hco : Rw.isCost d.cost with
     | false =>
      have hno := hid (show Rw.dropsOk l most = false by
       unfold Rw.dropsOk
       rw [Rw.allOk_false _ _ (k := k + 1) (by rw [hstep.out]; simp [Rw.dropOk,hco])]; rfl)
      have HCO := hid (isCost_any d.cost w3)
      rw [hco] at HCO
      clear hco
      go_wp2_with fail
      refine (HCO.out).mono ?_
      rintro e w4 ⟨rfl,rfl⟩
      go_wp2
      go_ret
      exact ⟨ret_bool hno.out.symm,B3.out⟩
     | true =>
      have hyes := hid (show Rw.allOk (Rw.dropOk most) Rw.Drop.key (l.take (k + 1)) [] = true by
       rw [hstep.out,hA.out,HS.out]; simp [Rw.dropOk,hco,HFT.out])
      have HCO := hid (isCost_any d.cost w3)
      rw [hco] at HCO
      clear hco
      go_wp2_with fail
      refine (HCO.out).mono ?_
      rintro e w4 ⟨rfl,rfl⟩
      go_wp2_with (at_mapUpdate; refine wpList_put _ rfl _ _ _ 115 4 rfl key_keyed Tryz.underlying115 rfl hM3.out (by unfold maxLen; omega) _ _ kl rfl rfl HK.out (seenF ((l.take k).map Rw.Drop.key ++ [d.key])) (seenF_snoc _ d.key).1 (seenF_snoc _ d.key).2 ?_; intro w5 hM5 hg5)
      go_roundw
      case rel =>
       refine ⟨k + 1,by omega,by go_num,?_,B3.out.grown hg5 B3.out.size (fun r e => by cases e; exact Nat.le_refl _),hyes⟩
       have e : (l.take (k + 1)).map Rw.Drop.key = (l.take k).map Rw.Drop.key ++ [d.key] := by
        obtain ⟨hk',he⟩ := List.getElem?_eq_some_iff.1 HDD.out
        rw [List.take_succ_eq_append_getElem hk',he]; simp
       rw [e]; exact hM5
      case measure => simp [intOf]; omega
  ·have hks : k = l.length := by omega
   subst hks
   have hend := hid (show Rw.dropsOk l most = decide (l.length ≤ 40) by
    unfold Rw.dropsOk
    have := hA.out
    rw [List.take_length] at this
    rw [this]; simp)
   go_wp2
   go_ret
   exact ⟨ret_bool (by rw [hend.out]; exact decide_eq_decide.2 (by omega)),hbr⟩
end Go.Proofs.YtdghfenbfbdijaaGreatDoor
namespace Go.Proofs.YtdghfenbfbdijaaGreatDoor
open Go.RowKit Go.Lib Go.Maps
def ruleCells (r : Rw.Rule) : List Value := [.int .i64 r.script,.string (bs r.from_),.string (bs r.to_),.int .i64 r.cost]
def RuleFits (r : Rw.Rule) : Prop := (Lit.int .i64 r.script).wf = true ∧ r.from_.length ≤ 1000 ∧ r.to_.length ≤ 1000
structure TableAt (w : World) (t : Rw.Table) (v : Value) : Prop where
 at_ : ∃ vr vd ve,v = .agg #[vr,vd,ve,.int .i64 t.drop,.int .i64 t.order,.int .i64 t.initial] ∧ SlOf w vr 4 ruleCells t.rules ∧ SlOf w vd 3 dropCells t.drops ∧ SlOf w ve 3 dropCells t.ends
 rules : ∀ r ∈ t.rules,RuleFits r
 drops : ∀ d ∈ t.drops,DropFits d
 ends : ∀ d ∈ t.ends,DropFits d
 few : t.rules.length ≤ 1000000 ∧ t.drops.length ≤ 1000000 ∧ t.ends.length ≤ 1000000
theorem TableAt.below {w w' : World} {t : Rw.Table} {v : Value} (h : TableAt w t v) (hb : Below w.heap.size w w') : TableAt w' t v := by
 obtain ⟨⟨vr,vd,ve,e,h1,h2,h3⟩,h4,h5,h6,h7⟩ := h
 exact ⟨⟨vr,vd,ve,e,h1.below hb,h2.below hb,h3.below hb⟩,h4,h5,h6,h7⟩
set_option maxRecDepth 100000 in
set_option maxHeartbeats 4000000 in
theorem valid_any (t : Rw.Table) (v : Value) (w : World) (ht : TableAt w t v) (hT : Tabs w) : Calls Tryz.prog 32 #[v] w (Gives (.bool (Rw.valid t)) w) := by
 obtain ⟨⟨vr,vd,ve,rfl,sr,sd,se⟩,fr,fd,fe,hl1,hl2,hl3⟩ := ht
 obtain ⟨a,cap,rfl,h1,h2,h3⟩ := sr
 have hR := hid h3
 have hF := hid fr
 have hD := hid (And.intro sd fd)
 have hE := hid (And.intro se fe)
 have hTT := hid hT
 have hmm := @run_makeMap Tryz.prog
 clear h3 fr sd fd se fe hT
 obtain ⟨w1,hw1⟩ := exq (w.alloc (.cells #[.slice a t.rules.length cap,vd,ve,.int .i64 t.drop,.int .i64 t.order,.int .i64 t.initial] 25))
 have hb1 := bnew hw1
 have X : ∀ j u,([.slice a t.rules.length cap,vd,ve,.int .i64 t.drop,.int .i64 t.order,.int .i64 t.initial] : List Value)[j]? = some u → w1.cell? ⟨w.heap.size,j,none⟩ = some u := fun j u hu => by
  have h := cells_new (w := w) (n := w.heap.size) (t := 25) rfl j u hu
  rw [addr_at] at h
  rw [hw1]; exact h
 have hn1 : w.heap.size < w1.heap.size := by rw [hw1]; simp
 have x0 := X 0 _ rfl
 have x1 := X 1 _ rfl
 have x2 := X 2 _ rfl
 have x3 := X 3 _ rfl
 have x4 := X 4 _ rfl
 have x5 := X 5 _ rfl
 have HX := hid X
 clear X
 by_cases z0 : t.rules.length = 0
 ·have hno := hid (show Rw.valid t = false by unfold Rw.valid; rw [decide_eq_false (by simpa using List.length_eq_zero_iff.1 z0)]; rfl)
  rw [z0] at *
  go_enter Tryz.func32,Tryz.ntmps32
  go_wp2
  go_ret
  exact ⟨ret_bool hno.out.symm,(Below.refl _ w).alloc (Nat.le_refl _) _⟩
 have z0' : (0 : Int) < (t.rules.length : Int) := by omega
 have hne := hid (show t.rules ≠ [] from fun e => z0 (by rw [e]; rfl))
 by_cases z1 : t.rules.length ≤ 80
 case neg =>
  have hno := hid (show Rw.valid t = false by unfold Rw.valid; rw [decide_eq_false z1]; simp)
  have z1' : (80 : Int) < (t.rules.length : Int) := by omega
  go_enter Tryz.func32,Tryz.ntmps32
  go_wp2
  go_ret
  rw [← hw1]
  exact ⟨ret_bool hno.out.symm,hb1⟩
 have z1' : (t.rules.length : Int) ≤ 80 := by omega
 have z1h := hid z1
 have z2' : ((t.rules.length : Int) == 0) = false := by rw [beq_eq_false_iff_ne]; omega
 have z3' : ¬ (80 : Int) < (t.rules.length : Int) := by omega
 cases c1 : Rw.isCost t.drop with
 | false =>
  have hno := hid (show Rw.valid t = false by unfold Rw.valid; rw [c1]; simp)
  have HC := hid (isCost_any t.drop w1)
  rw [c1] at HC
  go_enter Tryz.func32,Tryz.ntmps32
  go_wp2_with fail
  rw [← hw1]
  have HW1 := hid hw1
  clear hw1
  refine (HC.out).mono ?_
  rintro e w2 ⟨rfl,rfl⟩
  go_wp2
  go_ret
  exact ⟨ret_bool hno.out.symm,hb1⟩
 | true =>
 cases c2 : Rw.isCost t.order with
 | false =>
  have hno := hid (show Rw.valid t = false by unfold Rw.valid; rw [c2]; simp)
  have HC := hid (isCost_any t.drop w1)
  rw [c1] at HC
  have HC2 := hid (isCost_any t.order w1)
  rw [c2] at HC2
  go_enter Tryz.func32,Tryz.ntmps32
  go_wp2_with fail
  rw [← hw1]
  have HW1 := hid hw1
  clear hw1
  refine (HC.out).mono ?_
  rintro e w2 ⟨rfl,rfl⟩
  go_wp2_with fail
  refine (HC2.out).mono ?_
  rintro e w2 ⟨rfl,rfl⟩
  go_wp2
  go_ret
  exact ⟨ret_bool hno.out.symm,hb1⟩
 | true =>
 cases c3 : Rw.isCost t.initial with
 | false =>
  have hno := hid (show Rw.valid t = false by unfold Rw.valid; rw [c3]; simp)
  have HC := hid (isCost_any t.drop w1)
  rw [c1] at HC
  have HC2 := hid (isCost_any t.order w1)
  rw [c2] at HC2
  have HC3 := hid (isCost_any t.initial w1)
  rw [c3] at HC3
  go_enter Tryz.func32,Tryz.ntmps32
  go_wp2_with fail
  rw [← hw1]
  have HW1 := hid hw1
  clear hw1
  refine (HC.out).mono ?_
  rintro e w2 ⟨rfl,rfl⟩
  go_wp2_with fail
  refine (HC2.out).mono ?_
  rintro e w2 ⟨rfl,rfl⟩
  go_wp2_with fail
  refine (HC3.out).mono ?_
  rintro e w2 ⟨rfl,rfl⟩
  go_wp2
  go_ret
  exact ⟨ret_bool hno.out.symm,hb1⟩
 | true =>
 have hv0 := hid (show Rw.valid t = (Rw.allOk Rw.ruleOk Rw.Rule.key t.rules [] && Rw.dropsOk t.drops 12 && Rw.dropsOk t.ends 4) by
  unfold Rw.valid; rw [c1,c2,c3,decide_eq_true hne.out,decide_eq_true z1]; simp)
 have HC := hid (isCost_any t.drop w1)
 rw [c1] at HC
 have HC2 := hid (isCost_any t.order w1)
 rw [c2] at HC2
 have HC3 := hid (isCost_any t.initial w1)
 rw [c3] at HC3
 clear c1 c2 c3
 go_enter Tryz.func32,Tryz.ntmps32
 go_wp2_with fail
 rw [← hw1]
 have HW1 := hid hw1
 clear hw1
 refine (HC.out).mono ?_
 rintro e w2 ⟨rfl,rfl⟩
 go_wp2_with fail
 refine (HC2.out).mono ?_
 rintro e w2 ⟨rfl,rfl⟩
 go_wp2_with fail
 refine (HC3.out).mono ?_
 rintro e w2 ⟨rfl,rfl⟩
 go_wp2
 have hM0 := (MapF.made w1 Tryz.prog 117)
 go_loopw [39] (fun i wr => ∃ k : Nat,k ≤ t.rules.length ∧ i = .int .i64 k ∧ Hid (MapF wr Tryz.prog 117 w1.heap.size k (seenF ((t.rules.take k).map Rw.Rule.key))) ∧ Below w1.heap.size w1 wr ∧ Hid (Rw.allOk Rw.ruleOk Rw.Rule.key (t.rules.take k) [] = true)) (fun i _ => t.rules.length - (intOf i).toNat)
 case atStart => exact ⟨0,Nat.zero_le _,rfl,hM0.congr (fun x _ _ => by simp [seenF]),(Below.refl _ _).alloc (Nat.le_refl _) _,rfl⟩
 case round =>
  obtain ⟨k,hk,rfl,hM,hbr,hA⟩ := hrel
  by_cases hlt : k < t.rules.length
  ·obtain ⟨g,o,rfl,hr⟩ := hR.out (by omega)
   obtain ⟨d,hd⟩ : ∃ d,t.rules[k]? = some d := ⟨_,List.getElem?_eq_getElem hlt⟩
   have hb0r := hb1.trans (hbr.mono hb1.size)
   have hc := (hr.below hb0r).2 k d hd
   have c0 := hc 0 _ rfl
   have c1 := hc 1 _ rfl
   have c2 := hc 2 _ rfl
   have c3 := hc 3 _ rfl
   rw [Nat.add_zero] at c0
   have hg := (hr.below hb0r).1
   have hk0 : (0 : Int) ≤ (k : Int) := by omega
   have hk1 : (k : Int) < (t.rules.length : Int) := by omega
   have hfd := hF.out d (List.mem_of_getElem? hd)
   have hwl : (bs d.from_).size ≤ 1000000 := by rw [bs_len]; have := hfd.2.1; omega
   have htl : (bs d.to_).size ≤ 1000000 := by rw [bs_len]; have := hfd.2.2; omega
   obtain ⟨kl,hkl⟩ := key_some d.script (bs d.from_) (bs d.to_) hfd.1 (by unfold maxLen; omega) (by unfold maxLen; omega)
   obtain ⟨W2,hW2⟩ := exq ((wr.alloc (.cells #[.int .i64 d.script,.string (bs d.from_),.string (bs d.to_),.int .i64 d.cost] 71)).alloc (.cells #[.int .i64 d.script,.string (bs d.from_),.string (bs d.to_)] 117))
   have hb2 : Below wr.heap.size wr W2 := by rw [hW2]; exact ((Below.refl _ wr).alloc (Nat.le_refl _) _).alloc (by simp) _
   have hM2 := hid (hM.out.below hb2)
   have hget := hM2.out.get key_keyed Tryz.underlying115 (zero_bool W2) hkl
   rw [show (Value.agg #[.int .i64 d.script,.string (bs d.from_),.string (bs d.to_)]) = keyV d.key from rfl,seenF_get,hW2] at hget
   have hstep := hid (Rw.allOk_take Rw.ruleOk Rw.Rule.key hd)
   have HB := hid (hb0r.trans (hb2.mono hb0r.size))
   cases hs : ((t.rules.take k).map Rw.Rule.key).contains d.key with
   | true =>
    have hno := hid (show Rw.valid t = false by
     rw [hv0.out,Rw.allOk_false _ _ (k := k + 1) (by rw [hstep.out,hs]; simp)]; rfl)
    rw [hs] at hget
    have hget' : (Instr.lookup 115 (.map (some w1.heap.size)) (.agg #[.int .i64 d.script,.string (bs d.from_),.string (bs d.to_)]) false).run Tryz.prog ((wr.alloc (.cells #[.int .i64 d.script,.string (bs d.from_),.string (bs d.to_),.int .i64 d.cost] 71)).alloc (.cells #[.int .i64 d.script,.string (bs d.from_),.string (bs d.to_)] 117)) = .ok (.bool true) ((wr.alloc (.cells #[.int .i64 d.script,.string (bs d.from_),.string (bs d.to_),.int .i64 d.cost] 71)).alloc (.cells #[.int .i64 d.script,.string (bs d.from_),.string (bs d.to_)] 117)) := hget
    clear hc hr hs hget hkl hd hb0r
    go_wp2
    go_ret
    rw [← hW2]
    exact ⟨ret_bool hno.out.symm,HB.out⟩
   | false =>
    rw [hs] at hget
    have hget' : (Instr.lookup 115 (.map (some w1.heap.size)) (.agg #[.int .i64 d.script,.string (bs d.from_),.string (bs d.to_)]) false).run Tryz.prog ((wr.alloc (.cells #[.int .i64 d.script,.string (bs d.from_),.string (bs d.to_),.int .i64 d.cost] 71)).alloc (.cells #[.int .i64 d.script,.string (bs d.from_),.string (bs d.to_)] 117)) = .ok (.bool false) ((wr.alloc (.cells #[.int .i64 d.script,.string (bs d.from_),.string (bs d.to_),.int .i64 d.cost] 71)).alloc (.cells #[.int .i64 d.script,.string (bs d.from_),.string (bs d.to_)] 117)) := hget
    have hT2 := hid ((hTT.out.below hb0r).below hb2)
    have HS := hid hs
    have HB1 := hid (hbr.trans (hb2.mono hbr.size))
    have D0 : ∀ j u,(ruleCells d)[j]? = some u → W2.cell? ⟨wr.heap.size,j,none⟩ = some u := fun j u hu => by
     rw [hW2]
     have h := cells_new (w := wr) (n := wr.heap.size) (t := 71) rfl j u hu
     rw [addr_at] at h
     exact (World.cell?_alloc_lt _ _ _ (by simp)).trans h
    have D1 : ∀ j u,([.int .i64 d.script,.string (bs d.from_),.string (bs d.to_)] : List Value)[j]? = some u → W2.cell? ⟨wr.heap.size + 1,j,none⟩ = some u := fun j u hu => by
     rw [hW2]
     have h := cells_new (w := wr.alloc (.cells #[.int .i64 d.script,.string (bs d.from_),.string (bs d.to_),.int .i64 d.cost] 71)) (n := wr.heap.size + 1) (t := 117) (by simp) j u hu
     rw [addr_at] at h
     exact h
    have hn0 : wr.heap.size < W2.heap.size := by rw [hW2,World.size_alloc,World.size_alloc]; omega
    have hn1' : wr.heap.size + 1 < W2.heap.size := by rw [hW2,World.size_alloc,World.size_alloc]; omega
    have HD := hid (And.intro D0 D1)
    have HK := hid hkl
    have HDD := hid hd
    have HFO := hid (folded_any d.script (bs d.from_) 3 W2 hwl hT2.out)
    rw [show (bs d.from_).data.toList = d.from_ from rfl] at HFO
    clear hc hr hget hkl hd hs D0 D1 hb0r
    go_wp2_with fail
    rw [← hW2]
    have HW2 := hid hW2
    clear hW2 hget'
    cases hfo : Rw.folded d.script d.from_ 3 with
    | false =>
     have hno := hid (show Rw.valid t = false by
      rw [hv0.out,Rw.allOk_false _ _ (k := k + 1) (by rw [hstep.out]; simp [Rw.ruleOk,hfo])]; rfl)
     rw [hfo] at HFO
     clear hfo
     refine (HFO.out).mono ?_
     rintro e w3 ⟨rfl,hb3⟩
     go_wp2
     go_ret
     exact ⟨ret_bool hno.out.symm,HB.out.trans (hb3.mono HB.out.size)⟩
    | true =>
     rw [hfo] at HFO
     have HFT := hid hfo
     clear hfo
     refine (HFO.out).mono ?_
     rintro e w3 ⟨rfl,hb3⟩
     have B3 := hid (HB.out.trans (hb3.mono HB.out.size))
     have B31 := hid (HB1.out.trans (hb3.mono HB1.out.size))
     have hM3 := hid (hM2.out.below hb3)
     have x2' : w3.cell? ⟨wr.heap.size,2,none⟩ = some (.string (bs d.to_)) := (hb3.cell (p := ⟨wr.heap.size,2,none⟩) hn0).trans (HD.out.1 2 _ rfl)
     have x3' : w3.cell? ⟨wr.heap.size,3,none⟩ = some (.int .i64 d.cost) := (hb3.cell (p := ⟨wr.heap.size,3,none⟩) hn0).trans (HD.out.1 3 _ rfl)
     have y0 : w3.cell? ⟨wr.heap.size + 1,0,none⟩ = some (.int .i64 d.script) := (hb3.cell (p := ⟨wr.heap.size + 1,0,none⟩) hn1').trans (HD.out.2 0 _ rfl)
     have y1 : w3.cell? ⟨wr.heap.size + 1,1,none⟩ = some (.string (bs d.from_)) := (hb3.cell (p := ⟨wr.heap.size + 1,1,none⟩) hn1').trans (HD.out.2 1 _ rfl)
     have y2 : w3.cell? ⟨wr.heap.size + 1,2,none⟩ = some (.string (bs d.to_)) := (hb3.cell (p := ⟨wr.heap.size + 1,2,none⟩) hn1').trans (HD.out.2 2 _ rfl)
     have HI := hid (isForm_any (bs d.to_) w3 htl)
     rw [show (bs d.to_).data.toList = d.to_ from rfl] at HI
     have hn03 := Nat.lt_of_lt_of_le hn0 hb3.size
     have hn13 := Nat.lt_of_lt_of_le hn1' hb3.size
     clear hb3
     cases hfm : Rw.isForm d.to_ with
     | false =>
      have hno := hid (show Rw.valid t = false by
       rw [hv0.out,Rw.allOk_false _ _ (k := k + 1) (by rw [hstep.out]; simp [Rw.ruleOk,hfm])]; rfl)
      rw [hfm] at HI
      clear hfm
      go_wp2_with fail
      refine (HI.out).mono ?_
      rintro e w4 ⟨rfl,hb4⟩
      go_wp2
      go_ret
      exact ⟨ret_bool hno.out.symm,B3.out.trans (hb4.mono B3.out.size)⟩
     | true =>
     rw [hfm] at HI
     have HFM := hid hfm
     clear hfm
     go_wp2_with fail
     refine (HI.out).mono ?_
     rintro e w4 ⟨rfl,hb4⟩
     have B4 := hid (B3.out.trans (hb4.mono B3.out.size))
     have B41 := hid (B31.out.trans (hb4.mono B31.out.size))
     have hM4 := hid (hM3.out.below hb4)
     have x3'' := (hb4.cell (p := ⟨wr.heap.size,3,none⟩) hn03).trans x3'
     have y0' := (hb4.cell (p := ⟨wr.heap.size + 1,0,none⟩) hn13).trans y0
     have y1' := (hb4.cell (p := ⟨wr.heap.size + 1,1,none⟩) hn13).trans y1
     have y2' := (hb4.cell (p := ⟨wr.heap.size + 1,2,none⟩) hn13).trans y2
     clear hb4 x2' x3' y0 y1 y2
     cases hco : Rw.isCost d.cost with
     | false =>
      have hno := hid (show Rw.valid t = false by
       rw [hv0.out,Rw.allOk_false _ _ (k := k + 1) (by rw [hstep.out]; simp [Rw.ruleOk,hco])]; rfl)
      have HCO := hid (isCost_any d.cost w4)
      rw [hco] at HCO
      clear hco
      go_wp2_with fail
      refine (HCO.out).mono ?_
      rintro e w5 ⟨rfl,rfl⟩
      go_wp2
      go_ret
      exact ⟨ret_bool hno.out.symm,B4.out⟩
     | true =>
      have hyes := hid (show Rw.allOk Rw.ruleOk Rw.Rule.key (t.rules.take (k + 1)) [] = true by
       rw [hstep.out,hA.out,HS.out]; simp [Rw.ruleOk,hco,HFT.out,HFM.out])
      have HCO := hid (isCost_any d.cost w4)
      rw [hco] at HCO
      clear hco
      go_wp2_with fail
      refine (HCO.out).mono ?_
      rintro e w5 ⟨rfl,rfl⟩
      go_wp2_with (at_mapUpdate; refine wpList_put _ rfl _ _ _ 115 4 rfl key_keyed Tryz.underlying115 rfl hM4.out (by unfold maxLen; omega) _ _ kl rfl rfl HK.out (seenF ((t.rules.take k).map Rw.Rule.key ++ [d.key])) (seenF_snoc _ d.key).1 (seenF_snoc _ d.key).2 ?_; intro w6 hM6 hg6)
      go_roundw
      case rel =>
       refine ⟨k + 1,by omega,by go_num,?_,B41.out.grown hg6 B41.out.size (fun r e => by cases e; exact Nat.le_refl _),hyes⟩
       have e : (t.rules.take (k + 1)).map Rw.Rule.key = (t.rules.take k).map Rw.Rule.key ++ [d.key] := by
        obtain ⟨hk',he⟩ := List.getElem?_eq_some_iff.1 HDD.out
        rw [List.take_succ_eq_append_getElem hk',he]; simp
       rw [e]; exact hM6
      case measure => simp [intOf]; omega
  ·have hks : k = t.rules.length := by omega
   subst hks
   have hend := hid (show Rw.valid t = (Rw.dropsOk t.drops 12 && Rw.dropsOk t.ends 4) by
    have h := hA.out
    rw [List.take_length] at h
    rw [hv0.out,h]; rfl)
   have b0 := hid (hb1.trans (hbr.mono hb1.size))
   have HC4 := hid (check_any t.drops vd 12 wr (hD.out.1.below b0.out) hl2 hD.out.2 (hTT.out.below b0.out))
   have q1 := (hbr.cell (p := ⟨w.heap.size,1,none⟩) hn1).trans x1
   have q2 := (hbr.cell (p := ⟨w.heap.size,2,none⟩) hn1).trans x2
   have hn2 := Nat.lt_of_lt_of_le hn1 hbr.size
   clear hbr
   cases hd1 : Rw.dropsOk t.drops 12 with
   | false =>
    have hno := hid (show Rw.valid t = false by rw [hend.out,hd1]; rfl)
    rw [hd1] at HC4
    clear hd1
    go_wp2_with fail
    refine (HC4.out).mono ?_
    rintro e w3 ⟨rfl,hb3⟩
    go_wp2
    go_ret
    exact ⟨ret_bool hno.out.symm,b0.out.trans (hb3.mono b0.out.size)⟩
   | true =>
    have hye := hid (show Rw.valid t = Rw.dropsOk t.ends 4 by rw [hend.out,hd1]; rfl)
    rw [hd1] at HC4
    clear hd1
    go_wp2_with fail
    refine (HC4.out).mono ?_
    rintro e w3 ⟨rfl,hb3⟩
    have b3 := hid (b0.out.trans (hb3.mono b0.out.size))
    have q2' := (hb3.cell (p := ⟨w.heap.size,2,none⟩) hn2).trans q2
    clear hb3
    go_wp2_with fail
    refine (check_any t.ends ve 4 w3 (hE.out.1.below b3.out) hl3 hE.out.2 (hTT.out.below b3.out)).mono ?_
    rintro e w4 ⟨rfl,hb4⟩
    go_wp2
    go_ret
    exact ⟨ret_bool hye.out.symm,b3.out.trans (hb4.mono b3.out.size)⟩
end Go.Proofs.YtdghfenbfbdijaaGreatDoor
