/-
  What a booking's last statements leave: the ledger with one booking more. NO WALK IN THIS TEXT.
-/
import Derived.Test.YtfkcphflcmpenaaDoorZLedT
import Derived.Test.YtfkcphflcmpenaaDoorZLed3
import Derived.Test.YtfkcphflcmpenaaDoorZLedClone
import Derived.Maps.AppendAt
namespace Go.Proofs.YtfkcphflcmpenaaDoor
open Go.RowKit Go.Maps

theorem Below.of_none {W W' : World} (h : W.grownBy W' none) : Below W.heap.size W W' := ⟨h.os, h.tape, h.output, h.size, fun k hk => h.block k hk (by simp)⟩

theorem slice_one {w : World} {Q : Nat → Prop} {q : Value} {sz : Nat} {α : Type} {cells : α → List Value} {l : List α} (h : SlIn w q Q sz cells l) : q.oneCell' = true := by
  obtain ⟨a, cap, rfl, _⟩ := h; rfl

/-- what is known when the further booking is appended -/
theorem book_pre {w wr W13 Wx : World} {p ba bi bt : Nat} {S : Lg.S} {O : Nat → Prop} {b : Lg.Bk} {v vc : Value} {bs : List (Lg.Bk × Value)} {vp : Value}
    (HA : LedAt w p ba bi bt v bs S O) (ht : Tch (fun k => k = bt ∨ k = ba) w wr) (hbk : wr.heap[w.heap.size]? = some (.cells #[.string b.id, .int .i64 b.at_, vp] 36 (0, 0)))
    (hb13 : Below wr.heap.size wr W13) (hWx : Wx = W13.setCell ⟨w.heap.size, 2, none⟩ vc) :
    (Wx.alloc (.cells #[.string b.id, .int .i64 b.at_, vc] 36)).drew.ownsRow 0 36 3 v bs.length (bs.flatMap bookC) ∧
    (∀ j u, ([.string b.id, .int .i64 b.at_, vc] : List Value)[j]? = some u → (Wx.alloc (.cells #[.string b.id, .int .i64 b.at_, vc] 36)).drew.cell? ((⟨Wx.heap.size, 0, none⟩ : Addr).add j) = some u) := by
  have hqr : w.heap.size < wr.heap.size := (Array.getElem?_eq_some_iff.1 hbk).1
  have hq13 : wr.heap.size ≤ W13.heap.size := hb13.size
  obtain ⟨Wy, hWy⟩ : ∃ Wy, Wy = (Wx.alloc (.cells #[.string b.id, .int .i64 b.at_, vc] 36)).drew := ⟨_, rfl⟩
  have hby : Below Wx.heap.size Wx Wy := by rw [hWy]; exact ((Below.refl _ Wx).alloc (Nat.le_refl _) _).drew
  have hny : Wy.heap[Wx.heap.size]? = some (.cells #[.string b.id, .int .i64 b.at_, vc] 36 (0, 0)) := by rw [hWy]; exact alloc_new Wx _
  have t1 : Tch (fun k => k = w.heap.size) W13 Wx := by rw [hWx]; exact (Tch.refl (fun k => k = w.heap.size) W13).setCell (a := ⟨w.heap.size, 2, none⟩) (.inl rfl) _
  have tw : Tch (fun k => k = bt ∨ k = ba) w Wy := (ht.step hb13).trans (t1.step hby) (fun k hk hlt => by omega)
  rw [← hWy]
  refine ⟨ownsRow_tch HA.row tw (fun g hg e => ?_), fun j u hu => ?_⟩
  · obtain ⟨_, _, h1, h2, h3⟩ := HA.ov g hg
    rcases e with e | e
    · exact h3 e
    · exact h1 e
  · have hadd : (⟨Wx.heap.size, 0, none⟩ : Addr).add j = ⟨Wx.heap.size, j, none⟩ := by unfold Addr.add; split <;> simp_all
    rw [hadd]; simp only [World.cell?, hny]; simpa using hu

theorem book_row {vc : Value} {id : ByteArray} {at_ : Int} (h : vc.oneCell' = true) : ∀ u ∈ ([.string id, .int .i64 at_, vc] : List Value), u.oneCell' = true := by
  intro u hu
  simp at hu
  rcases hu with rfl | rfl | rfl
  · rfl
  · rfl
  · exact h

theorem book_last {w wr W13 Wx : World} {p ba bi bt n : Nat} {S : Lg.S} {O : Nat → Prop} {b : Lg.Bk} {v vc : Value} {bs : List (Lg.Bk × Value)} {f : Value → Option Value} {vp : Value}
    (HA : LedAt w p ba bi bt v bs S O) (ht : Tch (fun k => k = bt ∨ k = ba) w wr) (hbk : wr.heap[w.heap.size]? = some (.cells #[.string b.id, .int .i64 b.at_, vp] 36 (0, 0)))
    (hled : wr.heap[p]? = some (.cells #[.map (some ba), v, .map (some bi), .map (some bt)] 55 (0, 0))) (hacc : MapF wr Tryd.prog 9 ba S.names.length (accF ⟨S.names, S.books ++ [b]⟩)) (htr : MapF wr Tryd.prog 9 bt n f)
    (hb13 : Below wr.heap.size wr W13) (ho13 : W13.ownsRow wr.heap.size 47 2 vc b.posts.length (b.posts.flatMap postC)) (hWx : Wx = W13.setCell ⟨w.heap.size, 2, none⟩ vc) (hcode : Lg.code S b = 0) (hfew : S.books.length < 1000) (hid_ : b.id.size ≤ maxLen)
    {v' : Value} {W14 : World} (hown14 : W14.ownsRow 0 36 3 v' (bs.length + 1) (bs.flatMap bookC ++ [.string b.id, .int .i64 b.at_, vc])) (hg14x : (Wx.alloc (.cells #[.string b.id, .int .i64 b.at_, vc] 36)).drew.grownBy W14 v.ownBlock) (hliesx : ∀ g, v'.ownBlock = some g → v.ownBlock = some g ∨ g = Wx.heap.size + 1) :
    ∃ W16, W14.cell? ⟨p, 1, none⟩ = some v ∧ W14.frozen? ⟨p, 1, none⟩ = false ∧ p < W14.heap.size ∧ w.heap.size < W14.heap.size ∧
      W14.cell? ⟨p, 2, none⟩ = some (.map (some bi)) ∧ W14.cell? ⟨w.heap.size, 0, none⟩ = some (.string b.id) ∧
      (Instr.mapUpdate 53 (.map (some bi)) (.string b.id) (.bool true)).run Tryd.prog (W14.setCell ⟨p, 1, none⟩ v').drew = .ok () W16 ∧
      LPost p O w (.int .i64 0) ⟨S.names, S.books ++ [b]⟩ (.returned (.int .i64 0)) W16 := by
  have hpw := HA.lt p HA.op
  have hbw := HA.lt bi HA.oi
  have haw := HA.lt ba HA.oa
  have htw := HA.lt bt HA.ot
  have hqr : w.heap.size < wr.heap.size := (Array.getElem?_eq_some_iff.1 hbk).1
  have hq13 : wr.heap.size ≤ W13.heap.size := hb13.size
  have hbk13 := (hb13.block _ (by omega)).trans hbk
  have hled13 := (hb13.block p (by omega)).trans hled
  have hzx : Wx.heap.size = W13.heap.size := by rw [hWx]; simp [World.setCell]
  have hbx : Wx.heap[w.heap.size]? = some (.cells #[.string b.id, .int .i64 b.at_, vc] 36 (0, 0)) := by
    rw [hWx]; simp [World.setCell, Array.getElem?_modify, hbk13]
  have hlx : Wx.heap[p]? = some (.cells #[.map (some ba), v, .map (some bi), .map (some bt)] 55 (0, 0)) := by
    rw [hWx]; exact (Below.heap_setCell _ _ _ _ (by simp only; omega)).trans hled13
  obtain ⟨Wy, hWy⟩ : ∃ Wy, Wy = (Wx.alloc (.cells #[.string b.id, .int .i64 b.at_, vc] 36)).drew := ⟨_, rfl⟩
  have hby : Below Wx.heap.size Wx Wy := by rw [hWy]; exact ((Below.refl _ Wx).alloc (Nat.le_refl _) _).drew
  have hzy : Wy.heap.size = Wx.heap.size + 1 := by rw [hWy]; show (Wx.alloc _).heap.size = _; rw [World.size_alloc]
  have hny : Wy.heap[Wx.heap.size]? = some (.cells #[.string b.id, .int .i64 b.at_, vc] 36 (0, 0)) := by rw [hWy]; exact alloc_new Wx _
  have hvb : ∀ g, v.ownBlock = some g → g < w.heap.size := fun g hg => HA.lt g (HA.ov g hg).1
  -- all steps from the clone on
  have t1 : Tch (fun k => k = w.heap.size) W13 Wx := by rw [hWx]; exact (Tch.refl (fun k => k = w.heap.size) W13).setCell (a := ⟨w.heap.size, 2, none⟩) (.inl rfl) _
  have ty : Tch (fun k => k = w.heap.size) W13 Wy := t1.step hby
  have tr : Tch (fun k => k = bt ∨ k = ba) w W13 := ht.step hb13
  have tw : Tch (fun k => k = bt ∨ k = ba) w Wy := tr.trans ty (fun k hk hlt => by omega)
  have hbl : bs.length = S.books.length := by rw [← HA.books, List.length_map]
  have hg14 : Wy.grownBy W14 v.ownBlock := by rw [hWy]; exact hg14x
  have t14 : Tch (fun k => k = w.heap.size ∨ v.ownBlock = some k) W13 W14 := (ty.mono fun k e => .inl e).grown hg14 (fun r e => .inl (.inr e))
  have h14p : W14.heap[p]? = some (.cells #[.map (some ba), v, .map (some bi), .map (some bt)] 55 (0, 0)) := (t14.block p (by omega) (fun e => by
    rcases e with e | e
    · omega
    · exact (HA.ov p e).2.1 rfl)).trans hled13
  have hnw : v.ownBlock ≠ some w.heap.size := fun e => by have := hvb _ e; omega
  have h14b : W14.heap[w.heap.size]? = some (.cells #[.string b.id, .int .i64 b.at_, vc] 36 (0, 0)) := by
    refine (hg14.block _ (by omega) (fun e => hnw e.symm)).trans ((hby.block _ (by omega)).trans hbx)
  obtain ⟨W15, hW15⟩ : ∃ W15, W15 = W14.setCell ⟨p, 1, none⟩ v' := ⟨_, rfl⟩
  have t15 : Tch (fun k => k = w.heap.size ∨ v.ownBlock = some k ∨ k = p) W13 W15 := by
    rw [hW15]
    exact (t14.mono fun k e => e.elim .inl (fun e => .inr (.inl e))).setCell (.inl (.inr (.inr rfl))) _
  have t145 : Tch (fun k => k = p) W14 W15 := by rw [hW15]; exact (Tch.refl (fun k => k = p) W14).setCell (a := ⟨p, 1, none⟩) (.inl rfl) _
  have h15p : W15.heap[p]? = some (.cells #[.map (some ba), v', .map (some bi), .map (some bt)] 55 (0, 0)) := by
    rw [hW15]; simp [World.setCell, Array.getElem?_modify, h14p]
  have hids15 : MapF W15 Tryd.prog 9 bi S.books.length (idsF S) := (HA.ids.tch tr (fun e => e.elim HA.nit (fun e => HA.nab e.symm))).tch t15 (fun e => by
    rcases e with e | e | e
    · omega
    · exact (HA.ov bi e).2.2.2.1 rfl
    · exact HA.npi e.symm)
  obtain ⟨W16, hput, hM16, hg16⟩ := (show MapF W15.drew Tryd.prog 9 bi S.books.length (idsF S) from hids15).put (t := 53) str_keyed Tryd.underlying53 (by unfold maxLen; omega) (str_key hid_) (ids_new (S := S) (b := b)).1 (ids_new (S := S) (b := b)).2
  have t156 : Tch (fun k => k = bi) W15 W16 := ⟨hg16.os, hg16.tape, hg16.output, hg16.size, fun k hk hn => hg16.block k hk (fun e => hn (Option.some.inj e))⟩
  have t16 : Tch (fun k => k = w.heap.size ∨ v.ownBlock = some k ∨ k = p ∨ k = bi) W13 W16 := (t15.mono fun k e => by
    rcases e with e | e | e
    · exact .inl e
    · exact .inr (.inl e)
    · exact .inr (.inr (.inl e))).trans t156 (fun k e _ => .inr (.inr (.inr e)))
  have tall : Tch (Mut p ba bi bt v) w W16 := (tr.mono fun k e => by
    rcases e with e | e
    · exact .inr (.inr (.inr (.inl e)))
    · exact .inr (.inl e)).trans t16 (fun k e hk => by
      rcases e with e | e | e | e
      · omega
      · exact .inr (.inr (.inr (.inr e)))
      · exact .inl e
      · exact .inr (.inr (.inl e)))
  have hz16 : W14.heap.size ≤ W16.heap.size := Nat.le_trans t145.size t156.size
  have hzy14 : Wy.heap.size ≤ W14.heap.size := hg14.size
  have hv'b : ∀ g, v'.ownBlock = some g → v.ownBlock = some g ∨ g = Wy.heap.size := fun g hg => by rw [hzy]; exact hliesx g hg
  have hv'lt : ∀ g, v'.ownBlock = some g → g < W14.heap.size := fun g hg => (hown14.lt g hg).2
  have hvcb : ∀ k, vc.ownBlock = some k → wr.heap.size ≤ k ∧ k < W13.heap.size := fun k hk => ho13.lt k hk
  have hOM : ∀ k, Mut p ba bi bt v k → O k := fun k e => by
    rcases e with e | e | e | e | e
    · rw [e]; exact HA.op
    · rw [e]; exact HA.oa
    · rw [e]; exact HA.oi
    · rw [e]; exact HA.ot
    · exact (HA.ov k e).1
  refine ⟨W16, by simp [World.cell?, h14p], by simp [World.frozen?, h14p], (Array.getElem?_eq_some_iff.1 h14p).1, (Array.getElem?_eq_some_iff.1 h14b).1, by simp [World.cell?, h14p], by simp [World.cell?, h14b], by rw [← hW15]; exact hput, rfl,
    fun k => O k ∨ (w.heap.size ≤ k ∧ k < W16.heap.size), ⟨ba, bi, bt, v', bs ++ [(b, vc)], ?_⟩, tall.mono hOM, fun k hk => hk.elim .inl (fun h => .inr h.1)⟩
  have hI := Lg.inv_book HA.inv b
  rw [Lg.book_ok hcode] at hI
  refine { hp := ?_, acc := ?_, ids := ?_, trial := ?_, row := ?_, books := ?_, posts := ?_, npa := HA.npa, npi := HA.npi, npt := HA.npt, nab := HA.nab, nat := HA.nat, nit := HA.nit, op := .inl HA.op, oa := .inl HA.oa, oi := .inl HA.oi, ot := .inl HA.ot, ov := ?_, inv := hI, lt := ?_ }
  · exact (t156.block p (Array.getElem?_eq_some_iff.1 h15p).1 HA.npi).trans h15p
  · exact (hacc.below hb13).tch t16 (fun e => by
      rcases e with e | e | e | e
      · omega
      · exact (HA.ov ba e).2.2.1 rfl
      · exact HA.npa e.symm
      · exact HA.nab e)
  · have : (S.books ++ [b]).length = S.books.length + 1 := by simp
    rw [this]; exact hM16
  · exact ⟨f, n, (htr.below hb13).tch t16 (fun e => by
      rcases e with e | e | e | e
      · omega
      · exact (HA.ov bt e).2.2.2.2 rfl
      · exact HA.npt e.symm
      · exact HA.nit e.symm)⟩
  · rw [List.length_append, List.flatMap_append]
    have h1 : W16.ownsRow 0 36 3 v' (bs.length + 1) (bs.flatMap bookC ++ [.string b.id, .int .i64 b.at_, vc]) := ownsRow_tch (ownsRow_tch hown14 t145 (fun g hg e => by
      rcases hv'b g hg with h | h
      · exact (HA.ov g h).2.1 e
      · omega)) t156 (fun g hg e => by
      rcases hv'b g hg with h | h
      · exact (HA.ov g h).2.2.2.1 e
      · omega)
    simpa [bookC] using h1
  · rw [List.map_append, HA.books]; rfl
  · intro q hq
    rcases List.mem_append.1 hq with hq | hq
    · exact ((HA.posts q hq).tch tall (fun k hk => hk.2)).mono (fun k hk _ => ⟨.inl hk.1, fun e => by
        rcases e with e | e | e | e | e
        · exact hk.2 (.inl e)
        · exact hk.2 (.inr (.inl e))
        · exact hk.2 (.inr (.inr (.inl e)))
        · exact hk.2 (.inr (.inr (.inr (.inl e))))
        · rcases hv'b k e with h | h
          · exact hk.2 (.inr (.inr (.inr (.inr h))))
          · have := HA.lt k hk.1; omega⟩)
    · simp at hq
      subst hq
      refine ((SlIn.own ho13 (fun _ _ => rfl)).tch t16 (fun k hk e => ?_)).mono (fun k hk _ => ?_)
      · have := hvcb k hk
        rcases e with e | e | e | e
        · omega
        · have := hvb k e; omega
        · omega
        · omega
      · have := hvcb k hk
        refine ⟨.inr ⟨by omega, by omega⟩, fun e => ?_⟩
        rcases e with e | e | e | e | e
        · omega
        · omega
        · omega
        · omega
        · rcases hv'b k e with h | h
          · have := hvb k h; omega
          · omega
  · intro g hg
    rcases hv'b g hg with h | h
    · obtain ⟨a1, a2, a3, a4, a5⟩ := HA.ov g h
      exact ⟨.inl a1, a2, a3, a4, a5⟩
    · have := hv'lt g hg
      exact ⟨.inr ⟨by omega, by omega⟩, by omega, by omega, by omega, by omega⟩
  · intro k hk
    rcases hk with hk | hk
    · exact Nat.lt_of_lt_of_le (HA.lt k hk) tall.size
    · exact hk.2

end Go.Proofs.YtfkcphflcmpenaaDoor
