/-
 Arguments of chapter 16's statements, opened, with what the sizes say. Conditions: none.
-/
import Derived.Test.YtdghfenbfbdijaaGreatDoorZArgsX
import Derived.SizedLaws
namespace Go.Proofs.YtdghfenbfbdijaaGreatDoor
open Go.RowKit Go.ChangeShapes Go.WideShapes Go.Deep
section
variable {H : Type} {enc : TypeId × Value → H} {P : Program} {w : World} {base : Nat} {spare : Nat → Bool} {held : Bool}
def Light (P : Program) (t : TypeId) (d : DataW H) : Prop := ∀ n ∈ d.weights P t,n ≤ reachBytes
theorem weightsAll_in {e : TypeId} : ∀ {l : List (DataW H)} {d : DataW H},d ∈ l → ∀ n ∈ d.weights P e,n ∈ DataW.weightsAll P e l
 | x :: l,d,h,n,hn => by
  simp only [DataW.weightsAll,List.mem_append]
  rcases List.mem_cons.1 h with rfl | h
  ·exact Or.inl hn
  ·exact Or.inr (weightsAll_in h n hn)
theorem open_rowsW {α : Type} {cells : α → List Value} {Good : α → Prop} {sz : Nat} {t e : TypeId} {u : Value} {fuel : Nat} {x : DataW H × List MemPlace} (ht : P.underlying t = some (.slice e)) (hC : P.cellsOf e = sz) (hpos : 0 < sz)
  (hsz : ∀ x,(cells x).length = sz) (hrow : ∀ (r : List Value) (n : Nat) (y : DataW H × List MemPlace),DataW.trod enc P w base spare held n e r = some y → Light P e y.1 → ∃ x,r = cells x ∧ Good x)
  (h : DataW.trod enc P w base spare held fuel t [u] = some x) (hw : Light P t x.1) : ∃ l : List α,SlOf w u sz cells l ∧ (∀ x ∈ l,Good x) ∧ l.length * P.bytesOf e ≤ reachBytes := by
 rcases open_slice ht h with ⟨h0,_⟩ | ⟨a,len,cap,m,n,D,Pl,hcs,_,hl,hm,hmm,hx,hi⟩
 ·obtain rfl : u = .slice none 0 0 := by simpa using h0
  exact ⟨[],SlOf.nil _ _ _,(fun x hx => by cases hx),by simp⟩
 ·obtain rfl : u = .slice (some a) len cap := by simpa using hcs
  have hml : len ≤ m := by rw [hmm]; split <;> omega
  have hws : len * P.bytesOf e ≤ reachBytes ∧ ∀ i,i < len → Light P e (D i) := by
   unfold Light at hw
   rw [hx] at hw
   simp only [DataW.weights,ht] at hw
   refine ⟨?_,fun i hil n hn => hw n (List.mem_cons_of_mem _ (List.mem_append_left _ (weightsAll_in (d := D i) (List.mem_map.2 ⟨i,List.mem_range.2 hil,rfl⟩) n hn)))⟩
   have := hw _ List.mem_cons_self
   rw [List.length_map,List.length_range] at this
   exact Nat.le_trans (Nat.mul_le_mul_right _ (Nat.le_add_right _ _)) this
  have each : ∀ i : Fin len,∃ x,(∀ j v,(cells x)[j]? = some v → w.cell? ((a.add (i.1 * sz)).add j) = some v) ∧ Good x := fun i => by
   obtain ⟨cs',hc,ht'⟩ := hi i.1 (by have := i.2; omega)
   obtain ⟨x,rfl,hg⟩ := hrow _ _ _ ht' (hws.2 i.1 i.2)
   rw [hC] at hc
   obtain ⟨_,hcl,hat⟩ := World.cells?_some hc
   exact ⟨x,fun j v hv => (hat j (by have := (List.getElem?_eq_some_iff.1 hv).1; omega)).trans hv,hg⟩
  refine ⟨List.ofFn fun i => (each i).choose,⟨_,cap,by rw [List.length_ofFn],by rw [List.length_ofFn]; exact hl,hm,fun hpl => ?_⟩,fun x hx => ?_,by rw [List.length_ofFn]; exact hws.1⟩
  ·rw [List.length_ofFn] at hpl
   obtain ⟨g,o,spot⟩ := a
   have h1 := (each ⟨0,hpl⟩).choose_spec.1 0 ((cells (each ⟨0,hpl⟩).choose)[0]'(by rw [hsz]; exact hpos)) (List.getElem?_eq_getElem _)
   have hspot : spot = none := by
    have := World.cell?_spot h1
    simpa [Addr.add] using this
   subst hspot
   refine ⟨g,o,rfl,(by have hb := World.block_lt_of_cell? w _ h1; simp only [add_at] at hb; exact hb),fun i x hx j v hv => ?_⟩
   rw [List.getElem?_ofFn] at hx
   split at hx
   ·rename_i hil
    cases hx
    have := (each ⟨i,hil⟩).choose_spec.1 j v hv
    rw [add_at,add_at] at this
    exact this
   ·cases hx
  ·obtain ⟨i,rfl⟩ := List.mem_ofFn.1 hx
   exact (each i).choose_spec.2
theorem struct_fieldsW {t : TypeId} {fs : Array Field} {n : Nat} {r : List Value} {y : DataW H × List MemPlace} (hs : P.underlying t = some (.struct fs)) (hone : oneCellFields P fs = true) (hC : P.cellsOf t = fs.size) (h : DataW.trod enc P w base spare held n t r = some y) (hw : Light P t y.1) :
  r.length = fs.size ∧ ∀ (j : Nat) (f : Field),fs[j]? = some f → ∃ u z m,r[j]? = some u ∧ DataW.trod enc P w base spare held m f.type [u] = some z ∧ Light P f.type z.1 := by
 obtain ⟨xs,m,_,hx,hl,hxl,hf⟩ := DataW.trod_struct hs h
 rw [hC] at hl
 refine ⟨hl,fun j f hj => ?_⟩
 obtain ⟨ho,hk⟩ := hone_of hone j f hj
 have hjl : j < fs.size := (Array.getElem?_eq_some_iff.1 hj).1
 have h1 := hf j f hj
 rw [ho,hk] at h1
 have e : (r.drop j).take 1 = [r[j]'(by omega)] := by rw [List.drop_eq_getElem_cons (by omega)]; rfl
 rw [e] at h1
 have hxj : xs[j]? = some (xs[j]'(by omega)) := List.getElem?_eq_getElem (by omega)
 refine ⟨_,_,m,List.getElem?_eq_getElem (by omega),h1.trans hxj,fun k hk => ?_⟩
 have hy : y.1 = .agg (xs.map (·.1)) := (Prod.mk.inj hx).1
 unfold Light at hw
 rw [hy] at hw
 simp only [DataW.weights,hs] at hw
 refine hw k (DataW.weights_mem_each (j := j) (t := f.type) (d := (xs[j]'(by omega)).1) ?_ ?_ k hk)
 ·have : fs.toList[j]? = some f := by simpa using hj
  rw [List.getElem?_map,this]
  rfl
 ·rw [List.getElem?_map,hxj]
  rfl
end
section
variable {H : Type} {enc : TypeId × Value → H} {w : World} {base : Nat} {spare : Nat → Bool} {held : Bool}
theorem reach_words {n : Nat} (h : n * 16 ≤ reachBytes) : n ≤ 8796093022208 := by
 have := reachBytes_lt
 omega
set_option maxRecDepth 100000 in
theorem name_rowW (r : List Value) (n : Nat) (y : DataW H × List MemPlace) (h : DataW.trod enc Tryz.prog w base spare held n 46 r = some y) (hw : Light Tryz.prog 46 y.1) : ∃ p : Li.Nm × Value,r = nmC p ∧ (NmAt w p ∧ p.1.words.length ≤ 8796093022208) := by
 obtain ⟨hl,hf⟩ := struct_fieldsW Tryz.underlying46 (by kernel_rfl) (by kernel_rfl) h hw
 obtain ⟨u0,z0,m0,e0,t0,l0⟩ := hf 0 _ rfl
 obtain ⟨u1,z1,m1,e1,t1,l1⟩ := hf 1 _ rfl
 obtain ⟨k,rfl,-⟩ := one_int t0
 obtain ⟨ws,s1,-,hz⟩ := open_rowsW (cells := strC) (sz := 1) (Good := fun _ => True) Tryz.underlying27 (by kernel_rfl) (by decide) (fun _ => rfl) (fun r n y h _ => by
  obtain ⟨s,h1,_,_⟩ := DataW.trod_string Tryz.underlying9 h
  exact ⟨s.data.toList,h1,trivial⟩) t1 l1
 rw [show Tryz.prog.bytesOf 9 = 16 by kernel_rfl] at hz
 match r,hl,e0,e1 with
 | [x0,x1],_,e0,e1 =>
  simp at e0 e1
  subst e0 e1
  exact ⟨(⟨k,ws⟩,_),rfl,s1,reach_words hz⟩
set_option maxRecDepth 100000 in
theorem entry_rowW (r : List Value) (n : Nat) (y : DataW H × List MemPlace) (h : DataW.trod enc Tryz.prog w base spare held n 40 r = some y) (hw : Light Tryz.prog 40 y.1) : ∃ p : Li.En × Value,r = enC p ∧ (NmSl w p.2 p.1.names ∧ ∀ m ∈ p.1.names,m.words.length ≤ 8796093022208) := by
 obtain ⟨hl,hf⟩ := struct_fieldsW Tryz.underlying40 (by kernel_rfl) (by kernel_rfl) h hw
 obtain ⟨u0,z0,m0,e0,t0,l0⟩ := hf 0 _ rfl
 obtain ⟨u1,z1,m1,e1,t1,l1⟩ := hf 1 _ rfl
 obtain ⟨a,rfl,-⟩ := one_str t0
 obtain ⟨ps,s1,g1,-⟩ := open_rowsW (cells := nmC) (sz := 2) Tryz.underlying28 (by kernel_rfl) (by decide) (fun _ => rfl) (fun r n y h hw => name_rowW r n y h hw) t1 l1
 match r,hl,e0,e1 with
 | [x0,x1],_,e0,e1 =>
  simp at e0 e1
  subst e0 e1
  refine ⟨(⟨a,ps.map Prod.fst⟩,_),rfl,⟨ps,rfl,s1,fun p hp => (g1 p hp).1⟩,fun m hm => ?_⟩
  obtain ⟨p,hp,rfl⟩ := List.mem_map.1 hm
  exact (g1 p hp).2
set_option maxRecDepth 100000 in
theorem open_ensW {rr : Reach} {b0 : Nat} {v : Value} {d : DataW H} {p : List MemPlace} (hv : Value.okWide Tryz.prog w rr b0 26 v) (h : DataW.Trod enc Tryz.prog w base spare held 26 v d p) (hw : Light Tryz.prog 26 d) : ∃ ps : List (Li.En × Value),EnsRaw w v ps ∧ ∀ e ∈ ps.map Prod.fst,∀ m ∈ e.names,m.words.length ≤ 8796093022208 := by
 obtain ⟨a,n,c,rfl,_⟩ := okWide_slice Tryz.underlying26 hv
 obtain ⟨fuel,hf⟩ := h
 obtain ⟨ps,h1,h2,-⟩ := open_rowsW (cells := enC) (sz := 2) Tryz.underlying26 (by kernel_rfl) (by decide) (fun _ => rfl) (fun r n y h hw => entry_rowW r n y h hw) hf hw
 refine ⟨ps,⟨h1,fun p hp => (h2 p hp).1⟩,fun e he => ?_⟩
 obtain ⟨p,hp,rfl⟩ := List.mem_map.1 he
 exact (h2 p hp).2
set_option maxRecDepth 100000 in
theorem open_nmW {rr : Reach} {b0 : Nat} {v : Value} {d : DataW H} {p : List MemPlace} (hv : Value.okWide Tryz.prog w rr b0 46 v) (h : DataW.Trod enc Tryz.prog w base spare held 46 v d p) (hw : Light Tryz.prog 46 d) : ∃ (n : Li.Nm) (u : Value),v = .agg #[.int .i64 n.script,u] ∧ SlOf w u 1 strC n.words ∧ n.words.length ≤ 8796093022208 := by
 obtain ⟨cs,rfl,hsz⟩ := okWide_struct Tryz.underlying46 hv
 obtain ⟨fuel,hf⟩ := h
 obtain ⟨l⟩ := cs
 obtain ⟨⟨n,u⟩,h1,h2,h3⟩ := name_rowW _ _ _ hf hw
 have h1' : l = nmC (n,u) := h1
 subst h1'
 exact ⟨n,u,rfl,h2,h3⟩
end
end Go.Proofs.YtdghfenbfbdijaaGreatDoor
