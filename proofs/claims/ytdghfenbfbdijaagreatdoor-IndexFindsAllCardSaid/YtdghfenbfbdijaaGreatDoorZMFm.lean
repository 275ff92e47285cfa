import Derived.Test.YtdghfenbfbdijaaGreatDoorZMFo
import Derived.Test.YtdghfenbfbdijaaGreatDoorZMBase
import Derived.Maps.AppendAt
import Derived.Test.YtdghfenbfbdijaaGreatDoorZMAlA
import Derived.Shelf.SlIter.Nil
import Derived.Shelf.SortM.Plain
import Derived.Shelf.SortM.SortNone
import Derived.Test.YtdghfenbfbdijaaGreatDoorZShelf
namespace Go.Proofs.YtdghfenbfbdijaaGreatDoor
open Go.RowKit Go.Lib Go.Maps
end Go.Proofs.YtdghfenbfbdijaaGreatDoor
namespace Fo
theorem Re.short {L : List (List UInt8)} {rs : List Al.R} (h0 : ∀ r ∈ rs,0 < r.from_.length ∧ r.to_.length ≤ 3) {i : Nat} {f : List UInt8} {c : Int} (h : Re L rs i f c) : f.length ≤ 3 * (L.length - i) := by
 induction h with
 | nil => simp
 | cons hr hf h ih =>
  have h1 := h0 _ hr
  have h2 := fits_le hf
  rw [List.length_append]
  omega
theorem EndsOk.short {L : List (List UInt8)} {rs : List Al.R} (hg : Good rs) (h0 : ∀ r ∈ rs,0 < r.from_.length ∧ r.to_.length ≤ 3) (hL : L.length ≤ 1000) {most : Int} {i : Nat} {F : List UInt8 → Option Int} (h : EndsOk L rs most i F) {f : List UInt8} {c : Int} (hf : F f = some c) : f.length ≤ 3000 ∧ 0 ≤ c ∧ c ≤ 1000000 := by
 have h1 := (h.least hg hf).1
 have h2 := h1.short h0
 have h3 := h1.cost hg
 omega
theorem CandW.short {L : List (List UInt8)} {rs : List Al.R} (hg : Good rs) (h0 : ∀ r ∈ rs,0 < r.from_.length ∧ r.to_.length ≤ 3) (hL : L.length ≤ 1000) {most b : Int} {i : Nat} {E : Nat → List UInt8 → Option Int} (hE : ∀ j,i < j → j ≤ L.length → EndsOk L rs most j (E j)) {ss : List Stp} (hs : ∀ s ∈ ss,s ∈ steps L rs i) {s : Stp} (hs2 : s ∈ steps L rs i) {done : List UInt8 → Bool} {f : List UInt8} {c : Int} (h : CandW E most b ss s done f c) : f.length ≤ 3000 ∧ 0 ≤ c ∧ c ≤ 1000000 := by
 obtain ⟨h1,-⟩ := candW_re hg hE hs hs2 h
 have h2 := h1.short h0
 have h3 := h1.cost hg
 omega
end Fo
namespace Go.Proofs.YtdghfenbfbdijaaGreatDoor
open Go.RowKit Go.Lib Go.Maps
theorem wp_append_at {P : Program} {w : World} {o : Oper} {a : Act} {K : Act → World → Prop} {Q : Exit → Act → World → Prop} (s x : Operand) (t : TypeId)
  (ho : o.op = .call { callee := .builtin .append,args := #[s,x],argTypes := #[t,t] })
  (base : Nat) (e : TypeId) (i : TypeInfo) (z : Value) (size bytes : Nat) (ht : P.underlying t = some (.slice e)) (hi : P.info? e = some i) (hz : i.zero = some z)
  (hsize : i.size = size) (hby : i.bytes = bytes) (hzs : z.cells.size = size) (hsz : 0 < size)
  (v : Value) (n : Nat) (xs : List Value) (hs : a.eval s = v) (hown : w.ownsRow base e size v n xs)
  (ad : Addr) (m c : Nat) (news : List Value) (hx : a.eval x = .slice (some ad) m c) (hl : news.length = m * size) (hnews : ∀ j u,news[j]? = some u → w.cell? (ad.add j) = some u) (h1 : ∀ u ∈ news,u.oneCell' = true)
  (h63 : n + m ≤ maxLen) (hbytes : (n + m) * bytes ≤ 140737488355328) (hbase : base ≤ w.heap.size)
  (h : ∀ v' w',w'.ownsRow base e size v' (n + m) (xs ++ news) → w.grownBy w' v.ownBlock → (v'.ownBlock = v.ownBlock ∨ v'.ownBlock = some w.heap.size) → K (a.put o.dst v') w') : o.wp P a w K Q := by
 obtain ⟨v',w',hr,h2,h3,_,h5⟩ := run_append_own_at (P := P) w base t o.type e i z size bytes ht hi hz hsize hby hzs hsz v n xs hown ad m c news hl hnews h1 h63 hbytes hbase
 unfold Oper.wp execOp
 simp only [ho,resolve,invoke,builtin,Sem.run_bind,Sem.run_pure,Result.andThen_ok,List.map_toArray,List.map_cons,List.map_nil,hs,hx,hr]
 exact h v' w' h2 h3 h5
theorem strF_keyed : Keyed Tryz.prog 9 := string_keyed Tryz.underlying9
theorem strF_key {s : ByteArray} (hs : s.size ≤ maxLen) : keyOf Tryz.prog 9 (.string s) = some (.string s.data.toList) := Go.WideMaps.keyOf_string_mk Tryz.underlying9 hs
theorem Blk.tch {O : Nat → Prop} {w w' : World} {b : Nat} {e : TypeId} {vs : List Value} (h : Blk w b e vs) (ht : Tch O w w') (hb : ¬ O b) : Blk w' b e vs := (ht.block b h.lt hb).trans h
structure DInv (Y : World) (mi R0 : Nat) (C : List UInt8 → Int → Prop) (F : List UInt8 → Option Int) (nn cnt : Nat) (w : World) : Prop where
 m : MapF w Tryz.prog 9 mi nn (numF F)
 le : nn + cnt ≤ 80000
 h : Fo.Holds C F
 tch : Tch (fun x => x = mi ∨ x = R0) Y w
structure CInv (X : World) (mi : Nat) (C : List UInt8 → Int → Prop) (F : List UInt8 → Option Int) (nn : Nat) (w : World) : Prop where
 m : MapF w Tryz.prog 9 mi nn (numF F)
 le : nn ≤ 40000
 h : Fo.Holds C F
 tch : Tch (fun x => x = mi) X w
end Go.Proofs.YtdghfenbfbdijaaGreatDoor
namespace Go.Proofs.YtdghfenbfbdijaaGreatDoor
open Go.RowKit Go.Maps Go.Sort Go.Shelf Go.Proofs
theorem sorts_in (m : Nat) : AnyZ.SortsIn Tryz.prog Tryz.sorted63_ren Fence.wide m :=
 ⟨fun blk off cap ss W hH hblk hsz => callsIn_wide.2 (AnyM.slices_Sort_string Tryz.sort95 blk off cap ss W hH hblk hsz),
  fun p cap W => callsIn_wide.2 (AnyM.slices_Sort_string_none Tryz.sort95 p cap W)⟩
theorem maps_keys (mb : Option Nat) (W : World) : Calls Tryz.prog 64 #[.map mb] W fun e w' => e = .returned (.func (.func 96) #[] #[.pointer (some ⟨W.heap.size,0,none⟩)]) ∧ w' = W.alloc (.cells #[.map mb] 75) :=
 callsIn_wide.1 (AnyZ.keys_in Tryz.keys64 Fence.wide 5 trivial rfl mb W)
set_option maxHeartbeats 1000000 in
theorem sorted_keys {H : Type} (b nn : Nat) (D0 : DataW H) (R : Value → Option (DataW H × List MemPlace)) (w : World) (hown : w.ownsMap Tryz.prog 9 R b nn D0) (hmax : Maps.size D0 ≤ maxLen) (hbytes : Maps.size D0 * 16 ≤ 140737488355328) :
  Calls Tryz.prog 63 #[.func (.func 96) #[] #[.pointer (some ⟨w.heap.size,0,none⟩)]] (w.alloc (.cells #[.map (some b)] 75)) fun e w' => ∃ (v : Value) (ss : List (List UInt8)),e = .returned v ∧ ss.Perm (strKeys D0) ∧
   w'.ownsRow (w.alloc (.cells #[.map (some b)] 75)).heap.size 9 1 v ss.length ((ss.mergeSort (fun x y => decide (x ≤ y))).map encStr) ∧ (v = .slice none 0 0 ↔ ss = []) ∧ Below (w.alloc (.cells #[.map (some b)] 75)).heap.size (w.alloc (.cells #[.map (some b)] 75)) w' := by
 have hbl := hown.lt
 have hseq : SeqGives Fence.wide 2 Tryz.prog 96 #[.pointer (some ⟨w.heap.size,0,none⟩)] encStr (fun ss => ss.Perm (strKeys D0)) (Maps.size D0) (w.alloc (.cells #[.map (some b)] 75)) :=
  AnyZ.keys_gives (ρ := Tryz.keys64_ren) { Tryz.keys64 with } Fence.wide _ trivial rfl (by omega) w.heap.size b nn D0 _ (by simp) (by simp) (by
   obtain ⟨es,clock,hb,Ft,hs,hD⟩ := hown
   exact ⟨es,clock,(Below.heap_alloc _ _ b hbl).trans hb,Ft,hs,hD⟩)
 exact callsIn_wide.1 (AnyZ.sorted_in Tryz.sorted63 Fence.wide 5 trivial trivial trivial trivial rfl (by omega) (sorts_in _) (enters_of Tryz.func95 (by kernel_rfl) rfl) 96 #[.pointer (some ⟨w.heap.size,0,none⟩)] trivial (enters_of Tryz.func96 (by kernel_rfl) rfl) _ _ hmax hbytes _ hseq)
end Go.Proofs.YtdghfenbfbdijaaGreatDoor
