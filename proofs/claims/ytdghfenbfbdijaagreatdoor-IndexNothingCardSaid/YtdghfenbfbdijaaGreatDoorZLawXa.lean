/-
 IndexNothing: an index that is none refuses everything and has no entries. Conditions: the arguments lie in memory; the library's tables.
-/
import Derived.Test.YtdghfenbfbdijaaGreatDoorZIy4
namespace Go.Proofs.YtdghfenbfbdijaaGreatDoor
open Go.RowKit Go.Lib Go.Maps

set_option maxRecDepth 100000 in
set_option maxHeartbeats 8000000 in
theorem nothing_law (t : Rw.Table) (tv : Value) (bd : Int) (fid : List UInt8) (fns : List Li.Nm) (fv : Value) (id : List UInt8) (n : Li.Nm) (nv : Value) (W : World) (ht : TableRaw W t tv) (hf : NmSl W fv fns) (hn : SlOf W nv 1 strC n.words) (hT : Tabs W) :
  Calls Tryz.prog 8 #[tv, .int .i64 bd, .agg #[.string (bs fid), fv], .string (bs id), .agg #[.int .i64 n.script, nv]] W (Gives (.bool true) W) := by
 have HT := hid ht
 have HTT := hid hT
 have HF := hid hf
 have HN := hid hn
 obtain ⟨⟨vr, vd, ve, rfl, ⟨ar, cr, rfl, -⟩, ⟨ad, cd, rfl, -⟩, ⟨ae, ce, rfl, -⟩⟩, -, -, -⟩ := ht
 obtain ⟨fl, hfl, ⟨fa, fc, rfl, -⟩, -⟩ := hf
 have hfe : fl.length = fns.length := by rw [← hfl, List.length_map]
 rw [hfe] at HF ⊢
 obtain ⟨na, nc, rfl, -⟩ := hn
 clear hT hfl hfe
 obtain ⟨Wa, hWa⟩ : ∃ X, X = W.alloc (.cells #[.slice ar t.rules.length cr, .slice ad t.drops.length cd, .slice ae t.ends.length ce, .int .i64 t.drop, .int .i64 t.order, .int .i64 t.initial] 25) := ⟨_, rfl⟩
 obtain ⟨Wb, hWb⟩ : ∃ X, X = Wa.alloc (.cells #[.string (bs fid), .slice fa fns.length fc] 40) := ⟨_, rfl⟩
 obtain ⟨W1, hW1⟩ : ∃ X, X = Wb.alloc (.cells #[.int .i64 n.script, .slice na n.words.length nc] 46) := ⟨_, rfl⟩
 have sa : Wa.heap.size = W.heap.size + 1 := by rw [hWa, World.size_alloc]
 have sb : Wb.heap.size = W.heap.size + 2 := by rw [hWb, World.size_alloc, sa]
 have ba : Below W.heap.size W Wa := by rw [hWa]; exact (Below.refl _ _).alloc (Nat.le_refl _) _
 have bb : Below Wa.heap.size Wa Wb := by rw [hWb]; exact (Below.refl _ _).alloc (Nat.le_refl _) _
 have bc : Below Wb.heap.size Wb W1 := by rw [hW1]; exact (Below.refl _ _).alloc (Nat.le_refl _) _
 have T1 := hid (show Blk W1 W.heap.size 25 [.slice ar t.rules.length cr, .slice ad t.drops.length cd, .slice ae t.ends.length ce, .int .i64 t.drop, .int .i64 t.order, .int .i64 t.initial] by
  have : Blk Wa W.heap.size 25 [.slice ar t.rules.length cr, .slice ad t.drops.length cd, .slice ae t.ends.length ce, .int .i64 t.drop, .int .i64 t.order, .int .i64 t.initial] := by rw [hWa]; exact Blk.new W _ _
  exact (this.below bb).below bc)
 have F1 := hid (show Blk W1 (W.heap.size + 1) 40 [.string (bs fid), .slice fa fns.length fc] by
  have : Blk Wb (W.heap.size + 1) 40 [.string (bs fid), .slice fa fns.length fc] := by rw [hWb, ← sa]; exact Blk.new Wa _ _
  exact this.below bc)
 have N1 := hid (show Blk W1 (W.heap.size + 2) 46 [.int .i64 n.script, .slice na n.words.length nc] by rw [hW1, ← sb]; exact Blk.new Wb _ _)
 have B1 := hid (Below.step (Below.step ba bb) bc)
 rw [hWb, hWa] at hW1
 have HH := hid (head_true W1 (HTT.out.below B1.out))
 clear ba bb bc sa sb hWa hWb
 go_enter Tryz.func8, Tryz.ntmps8
 go_upto_region 1 with (fail)
 try simp only [Nat.add_assoc, Nat.reduceAdd]
 rw [← hW1]
 clear hW1
 go_wp2_with fail
 refine (HH.out).mono ?_
 rintro e W2 ⟨rfl, hb2⟩
 have B2 := hid (Below.step B1.out hb2)
 have T2 := hid (T1.out.below hb2)
 have F2 := hid (F1.out.below hb2)
 have N2 := hid (N1.out.below hb2)
 clear hb2 HH
 obtain ⟨X1, hX1⟩ : ∃ X, X = W2.alloc (.cells #[.string (bs fid), .slice fa fns.length fc] 40) := ⟨_, rfl⟩
 obtain ⟨X2, hX2⟩ : ∃ X, X = X1.alloc (.cells #[.string (bs id)] 9) := ⟨_, rfl⟩
 obtain ⟨X3, hX3⟩ : ∃ X, X = X2.alloc (.cells #[.int .i64 n.script, .slice na n.words.length nc] 46) := ⟨_, rfl⟩
 have s1 : X1.heap.size = W2.heap.size + 1 := by rw [hX1, World.size_alloc]
 have s2 : X2.heap.size = W2.heap.size + 2 := by rw [hX2, World.size_alloc, s1]
 have b1 : Below W2.heap.size W2 X1 := by rw [hX1]; exact (Below.refl _ _).alloc (Nat.le_refl _) _
 have b2 : Below X1.heap.size X1 X2 := by rw [hX2]; exact (Below.refl _ _).alloc (Nat.le_refl _) _
 have b3 : Below X2.heap.size X2 X3 := by rw [hX3]; exact (Below.refl _ _).alloc (Nat.le_refl _) _
 have B3 := hid (Below.step B2.out (Below.step (Below.step b1 b2) b3))
 have T3 := hid (((T2.out.below b1).below b2).below b3)
 have F3 := hid (((F2.out.below b1).below b2).below b3)
 have N3 := hid (((N2.out.below b1).below b2).below b3)
 have k1 : Blk X3 W2.heap.size 40 [.string (bs fid), .slice fa fns.length fc] := by
  have : Blk X1 W2.heap.size 40 [.string (bs fid), .slice fa fns.length fc] := by rw [hX1]; exact Blk.new _ _ _
  exact (this.below b2).below b3
 have k3 : Blk X3 (W2.heap.size + 2) 46 [.int .i64 n.script, .slice na n.words.length nc] := by rw [hX3, ← s2]; exact Blk.new X2 _ _
 have HS := hid (small_any t _ [(⟨fid, fns⟩, .slice fa fns.length fc)] (.slice (some ⟨W2.heap.size, 0, none⟩) 1 1) (some ⟨W2.heap.size + 1, 0, none⟩) 1 1 [n] (.slice (some ⟨W2.heap.size + 2, 0, none⟩) 1 1) X3 (HT.out.below B3.out)
  ⟨SlOf.block k1 rfl (fun _ _ => rfl) rfl (by decide), fun p hp => by rw [List.mem_singleton.1 hp]; exact HF.out.below B3.out⟩
  ⟨[(n, .slice na n.words.length nc)], rfl, SlOf.block k3 rfl (fun _ _ => rfl) rfl (by decide), fun p hp => by rw [List.mem_singleton.1 hp]; exact HN.out.below B3.out⟩ (by decide))
 rw [hX2, hX1] at hX3
 have t0 := T2.out.cell (j := 0) rfl
 have t1 := T2.out.cell (j := 1) rfl
 have t2 := T2.out.cell (j := 2) rfl
 have t3 := T2.out.cell (j := 3) rfl
 have t4 := T2.out.cell (j := 4) rfl
 have t5 := T2.out.cell (j := 5) rfl
 have tl := T2.out.lt
 have f0 := F2.out.cell (j := 0) rfl
 have f1 := F2.out.cell (j := 1) rfl
 have fl' := F2.out.lt
 have n0 := N2.out.cell (j := 0) rfl
 have n1 := N2.out.cell (j := 1) rfl
 have nl := N2.out.lt
 clear s1 s2 b1 b2 b3 k1 k3 hX1 hX2
 go_wp2_with fail
 try simp only [Nat.add_assoc, Nat.reduceAdd]
 rw [← hX3]
 clear hX3 t0 t1 t2 t3 t4 t5 tl f0 f1 fl' n0 n1 nl
 refine (HS.out).mono ?_
 rintro e W3 ⟨rfl, hb3⟩
 have B4 := hid (Below.step B3.out hb3)
 have T4 := hid (T3.out.below hb3)
 have F4 := hid (F3.out.below hb3)
 have N4 := hid (N3.out.below hb3)
 clear hb3 HS
 cases hs : smallZ t (List.map Prod.fst [((⟨fid, fns⟩ : Li.En), (Value.slice fa fns.length fc))]) 1 [n] with
 | false =>
  clear hs
  go_wp2_with fail
  go_ret
  exact ⟨rfl, B4.out⟩
 | true =>
 have hfew : Rw.fewB t = true := by
  unfold smallZ at hs
  simp only [Bool.and_eq_true] at hs
  exact hs.1.1.1.1
 have TA := hid (HT.out.few10 hfew)
 clear hs hfew
 have HNW := hid (new_any t _ _ _ bd W3 (TA.out.below B4.out) (HTT.out.below B4.out))
 have t0 := T4.out.cell (j := 0) rfl
 have t1 := T4.out.cell (j := 1) rfl
 have t2 := T4.out.cell (j := 2) rfl
 have t3 := T4.out.cell (j := 3) rfl
 have t4 := T4.out.cell (j := 4) rfl
 have t5 := T4.out.cell (j := 5) rfl
 have tl := T4.out.lt
 go_wp2_with fail
 refine (HNW.out).mono ?_
 rintro e W4 ⟨hb4, hor⟩
 have B5 := hid (Below.step B4.out hb4)
 have F5 := hid (F4.out.below hb4)
 have N5 := hid (N4.out.below hb4)
 clear t0 t1 t2 t3 t4 t5 tl hb4 HNW
 have HFI := hid (ixFind_nil n.script na n.words.length nc W4)
 have n0 := N5.out.cell (j := 0) rfl
 have n1 := N5.out.cell (j := 1) rfl
 have nl := N5.out.lt
 have hrest : ∀ K : Prop, K → K := fun K h => h
 have e1 : e = .returned (.tuple #[.pointer none, .int .i64 1]) ∨ ∃ px, e = .returned (.tuple #[.pointer (some ⟨px, 0, none⟩), .int .i64 0]) := by
  rcases hor with ⟨-, h⟩ | ⟨-, px, eb, cb, h, -⟩
  ·exact .inl h
  ·exact .inr ⟨px, h⟩
 clear hor hrest
 rcases e1 with rfl | ⟨px, rfl⟩
 all_goals (go_wp2_with fail)
 all_goals refine (HFI.out).mono ?_
 all_goals rintro e W5 ⟨rfl, hb5⟩
 all_goals have B6 := hid (Below.step B5.out hb5)
 all_goals have F6 := hid (F5.out.below hb5)
 all_goals clear n0 n1 nl hb5 HFI
 all_goals have f0 := F6.out.cell (j := 0) rfl
 all_goals have f1 := F6.out.cell (j := 1) rfl
 all_goals have fl' := F6.out.lt
 all_goals have HPU := hid (ixPut_nil fid fa fns.length fc W5)
 all_goals (go_wp2_with fail)
 all_goals refine (HPU.out).mono ?_
 all_goals rintro e W6 ⟨rfl, hb6⟩
 all_goals have B7 := hid (Below.step B6.out hb6)
 all_goals clear f0 f1 fl' hb6 HPU
 all_goals have HDR := hid (ixDrop_nil id W6)
 all_goals (go_wp2_with fail)
 all_goals refine (HDR.out).mono ?_
 all_goals rintro e W7 ⟨rfl, hb7⟩
 all_goals have B8 := hid (Below.step B7.out hb7)
 all_goals clear hb7 HDR
 all_goals have HEN := hid (ixEntries_nil W7)
 all_goals (go_wp2_with fail)
 all_goals refine (HEN.out).mono ?_
 all_goals rintro e W8 ⟨rfl, hb8⟩
 all_goals have B9 := hid (Below.step B8.out hb8)
 all_goals clear hb8 HEN
 all_goals (go_wp2_with fail)
 all_goals go_ret
 all_goals exact ⟨rfl, B9.out⟩

end Go.Proofs.YtdghfenbfbdijaaGreatDoor
