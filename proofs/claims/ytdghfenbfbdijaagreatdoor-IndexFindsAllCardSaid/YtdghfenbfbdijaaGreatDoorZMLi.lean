import Derived.Test.YtdghfenbfbdijaaGreatDoorZMBase
import Derived.Test.YtdghfenbfbdijaaGreatDoorZMLexB
import Derived.Test.YtdghfenbfbdijaaGreatDoorZMAlA
import Derived.Test.YtdghfenbfbdijaaGreatDoorZMIxA
import Derived.Test.YtdghfenbfbdijaaGreatDoorZMScr
namespace Go.Proofs.YtdghfenbfbdijaaGreatDoor
open Go.RowKit Go.Maps Go.Lib
theorem list_beq (a b : ByteArray) : (a.toList == b.toList) = decide (a = b) := by
 rw [byteList_beq]
 have : a.data.toList = b.data.toList ↔ a = b := ⟨fun h => by
  obtain ⟨⟨x⟩⟩ := a; obtain ⟨⟨y⟩⟩ := b; simp at h; rw [h],fun h => by rw [h]⟩
 simp only [this]
theorem take_snoc {α : Type} {l : List α} {k : Nat} {x : α} (h : l[k]? = some x) : l.take (k + 1) = l.take k ++ [x] := by
 obtain ⟨hk,hx⟩ := List.getElem?_eq_some_iff.1 h
 rw [List.take_succ_eq_append_getElem hk,hx]
theorem drop_cons {α : Type} {l : List α} {k : Nat} {x : α} (h : l[k]? = some x) : l.drop k = x :: l.drop (k + 1) := by
 obtain ⟨hk,hx⟩ := List.getElem?_eq_some_iff.1 h
 rw [List.drop_eq_getElem_cons hk,hx]
end Go.Proofs.YtdghfenbfbdijaaGreatDoor
namespace Go.Proofs.YtdghfenbfbdijaaGreatDoor
open Go.RowKit Go.Lib Go.Maps
def lettersOk (k : Int) (l : List (List UInt8)) : Bool := l.all fun w => (Sc.lets k w).isSome
theorem lettersOk_step {k : Int} {l : List (List UInt8)} {i : Nat} {x : List UInt8} (hx : l[i]? = some x) : lettersOk k (l.take (i + 1)) = (lettersOk k (l.take i) && (Sc.lets k x).isSome) := by
 unfold lettersOk
 rw [take_snoc hx,List.all_append]
 simp
theorem lettersOk_no {k : Int} {l : List (List UInt8)} {x : List UInt8} (hx : x ∈ l) (h : Sc.lets k x = none) : lettersOk k l = false := by
 rw [Bool.eq_false_iff]; intro e
 unfold lettersOk at e
 have := List.all_eq_true.1 e x hx
 rw [h] at this
 cases this
theorem nmOk_of (n : Li.Nm) : Li.nmOk n = (lettersOk n.script n.words && decide (0 < n.words.length) && decide (n.words.length ≤ 6)) := rfl
theorem name_box {w W : World} {k : Int} {v : Value} (h : W = w.alloc (.cells #[.int .i64 k,v] 46)) : W.cell? ⟨w.heap.size,0,none⟩ = some (.int .i64 k) ∧ W.cell? ⟨w.heap.size,1,none⟩ = some v ∧ w.heap.size < W.heap.size ∧ Below w.heap.size w W := by
 subst h
 exact ⟨by rw [World.cell?_alloc_at _ _ _ _ rfl]; rfl,by rw [World.cell?_alloc_at _ _ _ _ rfl]; rfl,by rw [World.size_alloc]; omega,(Below.refl _ w).alloc (Nat.le_refl _) _⟩
set_option maxRecDepth 100000 in
set_option maxHeartbeats 4000000 in
theorem scrValid_any (n : Li.Nm) (v : Value) (w : World) (h : NmAt w (n,v)) (hw : ∀ x ∈ n.words,x.length ≤ 1000000) (hT : Tabs w) : Calls Tryz.prog 37 #[nmV (n,v)] w (Gives (.bool (Li.nmOk n)) w) := by
 unfold nmV
 simp only
 obtain ⟨W1,hW1⟩ := exq (w.alloc (.cells #[.int .i64 n.script,v] 46))
 obtain ⟨c0,c1,z1,hb1⟩ := name_box hW1
 have HB := hid hb1
 have HS := hid h
 have HN := hid hw
 have HT := hid (hT.below hb1)
 have HC := hid (And.intro c0 c1)
 have HZ := hid z1
 obtain ⟨va,cap,e,k1,k2,-⟩ := h
 simp only at e k1 k2
 subst e
 have hl1 : n.words.length ≤ 9223372036854775807 := by unfold maxLen at k2; omega
 clear k1 k2 hb1 hw hT
 go_enter Tryz.func37,Tryz.ntmps37
 go_upto_region 1 with (fail)
 rw [← hW1]
 clear hW1
 go_wp2_with fail
 go_loopw [10] (fun iv wr => ∃ k : Nat,k ≤ n.words.length ∧ iv = .int .i64 k ∧ Hid (lettersOk n.script (n.words.take k) = true) ∧ Hid (Below W1.heap.size W1 wr)) (fun iv _ => n.words.length - (RowKit.intOf iv).toNat)
 case atStart => exact ⟨0,Nat.zero_le _,rfl,by simp [Hid,lettersOk],Below.refl _ _⟩
 case round =>
  obtain ⟨k,hk,rfl,HV,HR⟩ := hrel
  have HBR := hid (Below.step HB.out HR.out)
  clear c0 c1 z1
  have c0 := (HR.out.cell (p := ⟨w.heap.size,0,none⟩) HZ.out).trans HC.out.1
  have c1 := (HR.out.cell (p := ⟨w.heap.size,1,none⟩) HZ.out).trans HC.out.2
  have z1 := Nat.lt_of_lt_of_le HZ.out HR.out.size
  by_cases hlt : k < n.words.length
  ·obtain ⟨x,hx⟩ : ∃ x,n.words[k]? = some x := ⟨_,List.getElem?_eq_getElem hlt⟩
   obtain ⟨g,o,rfl,hg,e0⟩ : ∃ g o,va = some ⟨g,o,none⟩ ∧ g < wr.heap.size ∧ wr.cell? ⟨g,o + k,none⟩ = some (.string (bs x)) := by
    obtain ⟨a',cap',ev,-,-,hr⟩ := HS.out.below HBR.out
    simp only at ev hr
    cases ev
    obtain ⟨g,o,ea,hr⟩ := hr (by omega)
    refine ⟨g,o,ea,hr.1,?_⟩
    have := hr.2 k x hx 0 _ rfl
    simpa using this
   have hk0 : (0 : Int) ≤ (k : Int) := by omega
   have hk1 : (k : Int) < (n.words.length : Int) := by omega
   have HX := hid hx
   have HL := hid (letters_any n.script (bs x) wr (by rw [bs_len]; exact HN.out x (List.mem_of_getElem? hx)) (HT.out.below HR.out))
   clear hx
   go_wp2_with fail
   refine (HL.out).mono ?_
   rintro e2 w2 h2
   unfold LettersPost at h2
   rw [show (bs x).data.toList = x from rfl] at h2
   cases hl : Sc.lets n.script x with
   | none =>
    rw [hl] at h2
    obtain ⟨rfl,hb2⟩ := h2
    have HB2 := hid (Below.step HBR.out hb2)
    have HE := hid (show Li.nmOk n = false by rw [nmOk_of,lettersOk_no (List.mem_of_getElem? HX.out) hl]; rfl)
    clear hl hb2
    go_wp2_with fail
    go_ret
    exact ⟨by rw [HE.out]; rfl,HB2.out⟩
   | some ls =>
    rw [hl] at h2
    obtain ⟨v2,rfl,-,hb2⟩ := h2
    have HR2 := hid (Below.step HR.out hb2)
    have HE := hid (show lettersOk n.script (n.words.take (k + 1)) = true by rw [lettersOk_step HX.out,HV.out,hl]; rfl)
    clear hl hb2
    go_wp2_with fail
    go_roundw
    case rel => exact ⟨k + 1,by omega,by go_num,HE,HR2⟩
    case measure => simp [RowKit.intOf]; omega
  ·have HE := hid (show Li.nmOk n = (decide (0 < n.words.length) && decide (n.words.length ≤ 6)) by
    have hv := HV.out
    rw [List.take_of_length_le (by omega)] at hv
    rw [nmOk_of,hv]; rfl)
   by_cases h0 : 0 < n.words.length
   ·have HE2 := hid (show Li.nmOk n = decide ((n.words.length : Int) ≤ 6) by
     rw [HE.out,decide_eq_true h0,Bool.true_and]
     exact decide_eq_decide.2 (by omega))
    go_wp2_with fail
    go_ret
    exact ⟨by rw [HE2.out]; rfl,HBR.out⟩
   ·have HE2 := hid (show Li.nmOk n = false by rw [HE.out,decide_eq_false h0]; rfl)
    go_wp2_with fail
    go_ret
    exact ⟨by rw [HE2.out]; rfl,HBR.out⟩
def shortN (n : Li.Nm) : Prop := ∀ x ∈ n.words,x.length ≤ 1000000
set_option maxRecDepth 100000 in
theorem wrong_any (p : Li.Nm × Value) (w : World) (h : NmAt w p) (hw : shortN p.1) (hT : Tabs w) : Calls Tryz.prog 57 #[nmV p] w (Gives (.bool (!Li.nmOk p.1)) w) := by
 obtain ⟨W1,hW1⟩ := exq (w.alloc (.cells #[.int .i64 p.1.script,p.2] 46))
 obtain ⟨c0,c1,z1,hb1⟩ := name_box hW1
 have HB := hid hb1
 have HV := hid (scrValid_any p.1 p.2 W1 (h.below hb1) hw (hT.below hb1))
 unfold nmV at HV ⊢
 clear h hT hb1
 go_enter Tryz.func57,Tryz.ntmps57
 go_upto_region 1 with (fail)
 rw [← hW1]
 clear hW1
 go_wp2_with fail
 refine (HV.out).mono ?_
 rintro e w1 ⟨rfl,hb⟩
 have HB1 := hid (Below.step HB.out hb)
 clear hb
 go_wp2_with fail
 go_ret
 exact ⟨rfl,HB1.out⟩
def hasBad (l : List (Li.Nm × Value)) : Bool := l.any fun p => !Li.nmOk p.1
def IdxN (l : List (Li.Nm × Value)) (W : World) (e : Ending) (W' : World) : Prop :=
 Below W.heap.size W W' ∧ ∃ i : Int,e = .returned (.int .i64 i) ∧ decide (0 ≤ i) = hasBad l
structure NmsAt (w : World) (v : Value) (l : List (Li.Nm × Value)) : Prop where
 sl : SlOf w v 2 nmC l
 at_ : ∀ p ∈ l,NmAt w p
 short : ∀ p ∈ l,shortN p.1
theorem NmsAt.below {w w' : World} {v : Value} {l : List (Li.Nm × Value)} (h : NmsAt w v l) (hb : Below w.heap.size w w') : NmsAt w' v l := ⟨h.sl.below hb,fun p hp => (h.at_ p hp).below hb,h.short⟩
set_option maxRecDepth 100000 in
set_option maxHeartbeats 2000000 in
theorem idx_name (l : List (Li.Nm × Value)) (v : Value) (W : World) (h : NmsAt W v l) (hT : Tabs W) :
  Calls Tryz.prog 90 #[v,.func (.func 57) #[] #[]] W (IdxN l W) := by
 have HA := hid h
 have HT := hid hT
 obtain ⟨⟨a,cap,rfl,h1,h2,h3⟩,-,-⟩ := h
 have hl1 : l.length ≤ 9223372036854775807 := by unfold maxLen at h2; omega
 have H3 := hid h3
 clear h3 hT h1 h2
 go_enter Tryz.func90,Tryz.ntmps90
 go_wp2_with fail
 go_loopw [8] (fun k wr => ∃ n : Nat,n ≤ l.length ∧ k = .int .i64 n ∧ Hid (hasBad (l.take n) = false) ∧ Below W.heap.size W wr) (fun k _ => l.length - (intOf k).toNat)
 case atStart => exact ⟨0,Nat.zero_le _,rfl,rfl,Below.refl _ _⟩
 case round =>
  obtain ⟨n,hn,rfl,HNO,hb⟩ := hrel
  by_cases hlt : n < l.length
  ·obtain ⟨g,o,rfl,hr⟩ := H3.out (by omega)
   obtain ⟨q,hq⟩ : ∃ q,l[n]? = some q := ⟨_,List.getElem?_eq_getElem hlt⟩
   have hc := (hr.below hb).2 n q hq
   have c0 := hc 0 _ rfl
   have c1 := hc 1 _ rfl
   rw [Nat.add_zero] at c0
   have hg := (hr.below hb).1
   have hn0 : (0 : Int) ≤ (n : Int) := by omega
   have hn1 : (n : Int) < (l.length : Int) := by omega
   have hm := List.mem_of_getElem? hq
   have HC := hid (wrong_any q wr ((HA.out.at_ q hm).below hb) (HA.out.short q hm) (HT.out.below hb))
   unfold nmV at HC
   have hstep : hasBad (l.take (n + 1)) = (hasBad (l.take n) || !Li.nmOk q.1) := by
    unfold hasBad
    rw [take_snoc hq,List.any_append]
    simp
   have HP := hid (And.intro hq hstep)
   have HBB := hid hb
   clear hc hr hq hb hstep hm
   go_wp2_with fail
   refine (HC.out).mono ?_
   rintro e w1 ⟨rfl,hb1⟩
   have HB1 := hid (Below.trans HBB.out (hb1.mono HBB.out.size))
   clear hb1
   cases he : Li.nmOk q.1 with
   | false =>
    have HE := hid he
    clear he
    go_wp2_with fail
    go_ret
    refine ⟨HB1.out,(n : Int),rfl,?_⟩
    rw [show hasBad l = true from by
     unfold hasBad
     rw [List.any_eq_true]
     exact ⟨q,List.mem_of_getElem? HP.out.1,by rw [HE.out]; rfl⟩]
    simp
   | true =>
    have HE := hid he
    clear he
    go_wp2_with fail
    go_roundw
    case rel =>
     refine ⟨n + 1,by omega,by go_num,?_,HB1.out⟩
     have := HP.out.2
     rw [HNO.out,HE.out] at this
     exact this
    case measure => simp [intOf]; omega
  ·have hne : n = l.length := by omega
   subst hne
   have HBB := hid hb
   clear hb
   go_wp2_with fail
   go_ret
   refine ⟨HBB.out,-1,rfl,?_⟩
   have := HNO.out
   rw [List.take_length] at this
   rw [this]; rfl
set_option maxRecDepth 100000 in
set_option maxHeartbeats 2000000 in
theorem contains_name (l : List (Li.Nm × Value)) (v : Value) (W : World) (h : NmsAt W v l) (hT : Tabs W) :
  Calls Tryz.prog 56 #[v,.func (.func 57) #[] #[]] W (Gives (.bool (hasBad l)) W) := by
 have HC := hid (idx_name l v W h hT)
 obtain ⟨⟨a,cap,rfl,h1,h2,h3⟩,-,-⟩ := h
 clear h3 hT
 go_enter Tryz.func56,Tryz.ntmps56
 go_wp2_with fail
 refine (HC.out).mono ?_
 rintro e w1 ⟨hb1,i,rfl,hi⟩
 have HI := hid hi
 have HB1 := hid hb1
 clear hi hb1
 go_wp2_with fail
 go_ret
 exact ⟨ret_bool HI.out,HB1.out⟩
end Go.Proofs.YtdghfenbfbdijaaGreatDoor
