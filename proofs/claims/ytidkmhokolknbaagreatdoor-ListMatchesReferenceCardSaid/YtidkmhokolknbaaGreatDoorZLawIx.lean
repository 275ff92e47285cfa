/-
  The law file's uses of Apply and At, in short forms. Conditions: the library's tables.
-/
import Derived.Test.YtidkmhokolknbaaGreatDoorZLawIb0
namespace Go.Proofs.YtidkmhokolknbaaGreatDoor
open Go.RowKit Go.Lib Go.Maps

/-- what Apply ends in -/
def ApR (ps : List (Li.Ls × Value)) (c : Li.Ch) (w : World) (e : Ending) (w' : World) : Prop :=
  ∃ (a : Option Addr) (k : Nat) (ps' : List (Li.Ls × Value)), e = .returned (.tuple #[.slice a ps'.length k, .int .i64 (Li.apply (ps.map Prod.fst) c).2]) ∧ ps'.map Prod.fst = (Li.apply (ps.map Prod.fst) c).1 ∧ LssAt w' (.slice a ps'.length k) ps' ∧ Below w.heap.size w w'
theorem apply_law (c : Li.Ch) (u : Value) (ps : List (Li.Ls × Value)) (v : Value) (w : World) (h : LssAt w v ps) (hd : ps.length ≤ 5000) (hn : NmsIn w u c.en.names) (hs : c.id.length ≤ 100) (hs2 : c.en.id.length ≤ 100) (hA : Tabs w) (hT : Tab10 w) :
    Calls Tryz.prog 14 #[v, .agg #[.int .i64 c.kind, .string (bs c.id), .string (bs c.en.id), u, .int .i64 c.at_]] w (ApR ps c w) := by
  refine (apply_any c.kind c.id c.en.id c.en.names u c.at_ ps v w h hd hn (by omega) (by omega) hA hT).mono ?_
  rintro e w' ⟨v1, ps1, rfl, hm1, ho1, hN1, hb4⟩
  obtain ⟨a1, k1, rfl⟩ := ownsRow_slice ho1
  exact ⟨a1, k1, ps1, rfl, hm1, ApplyP.lss ho1 (fun N => hN1 N) hb4 h hn (show c.en.id.length ≤ 5000 by omega), hb4⟩
theorem sameLs_law {l1 l2 : List (Li.Ls × Value)} {v1 v2 : Value} {w : World} (h1 : LssAt w v1 l1) (h2 : LssAt w v2 l2) : Calls Tryz.prog 24 #[v1, v2] w (Gives (.bool (decide (l1.map Prod.fst = l2.map Prod.fst))) w) :=
  sameLs_any l1 l2 v1 v2 w h1.sl h2.sl (fun p hp => (h1.nm p hp).rin) (fun p hp => (h2.nm p hp).rin)
theorem sameEs_law {l1 l2 : List (Li.En × Value)} {v1 v2 : Value} {w : World} (h1 : EnsRaw w v1 l1) (h2 : EnsRaw w v2 l2) : Calls Tryz.prog 25 #[v1, v2] w (Gives (.bool (decide (l1.map Prod.fst = l2.map Prod.fst))) w) :=
  sameEs_any l1 l2 v1 v2 w h1.sl h2.sl h1.nm h2.nm
/-- what At ends in -/
def AtR (ps : List (Li.Ls × Value)) (t : Int) (w : World) (e : Ending) (w' : World) : Prop :=
  ∃ (a : Option Addr) (k : Nat) (es : List (Li.En × Value)), e = .returned (.slice a es.length k) ∧ es.map Prod.fst = Li.at_ (ps.map Prod.fst) t ∧ EnsRaw w' (.slice a es.length k) es ∧ es.length ≤ 5000 ∧ Below w.heap.size w w'
theorem at_le (l : List Li.Ls) (t : Int) : (Li.at_ l t).length ≤ l.length := by
  unfold Li.at_
  split
  · rw [List.length_map]
    exact List.length_filter_le _ _
  · simp
theorem at_law (ps : List (Li.Ls × Value)) (v : Value) (t : Int) (w : World) (h : LssAt w v ps) (hd : ps.length ≤ 5000) (hA : Tabs w) (hT : Tab10 w) : Calls Tryz.prog 26 #[v, .int .i64 t] w (AtR ps t w) := by
  refine (listAt_any ps v t w h hd hA hT).mono ?_
  rintro e w' ⟨v5, es5, rfl, he5, hE5, hb5⟩
  obtain ⟨a5, k5, e5, -⟩ := hE5.sl
  subst e5
  have h1 := congrArg List.length he5
  have h2 := at_le (ps.map Prod.fst) t
  rw [List.length_map] at h1 h2
  exact ⟨a5, k5, es5, rfl, he5, hE5.raw, by omega, hb5⟩

/-- what Parse ends in -/
def PaR (s : List UInt8) (w : World) (e : Ending) (w' : World) : Prop :=
  ∃ (c : Li.Ch) (a : Option Addr) (k : Nat) (n : Int), e = .returned (.tuple #[.agg #[.int .i64 c.kind, .string (bs c.id), .string (bs c.en.id), .slice a c.en.names.length k, .int .i64 c.at_], .int .i64 n]) ∧ NmsIn w' (.slice a c.en.names.length k) c.en.names ∧ Below w.heap.size w w' ∧
    match Li.parse s with
    | some c' => n = 0 ∧ c = c'
    | none => n = 5 ∧ c = ⟨0, [], ⟨[], []⟩, 0⟩
theorem parse_law (s : List UInt8) (w : World) (hs : s.length ≤ 5000) (hA : Tabs w) (hT : Tab10 w) : Calls Tryz.prog 20 #[.string (bs s)] w (PaR s w) := by
  refine (listParse_any s w hs hA hT).mono ?_
  rintro e w' ⟨hb, h⟩
  unfold PaR
  cases hp : Li.parse s with
  | none =>
    rw [hp] at h
    exact ⟨⟨0, [], ⟨[], []⟩, 0⟩, none, 0, 5, h, NmsIn.nil w', hb, rfl, rfl⟩
  | some c =>
    rw [hp] at h
    obtain ⟨u, l, rfl, hl, ho⟩ := h
    have hn := ho.nms
    rw [hl] at hn
    obtain ⟨a, k, rfl⟩ := hn.rin.slice
    exact ⟨c, a, k, 0, rfl, hn, hb, rfl, rfl⟩
theorem text_law (c : Li.Ch) (u : Value) (w : World) (hn : NmsIn w u c.en.names) (hs : c.id.length ≤ 5000) (hs2 : c.en.id.length ≤ 5000) (hA : Tabs w) (hT : Tab10 w) :
    Calls Tryz.prog 18 #[.agg #[.int .i64 c.kind, .string (bs c.id), .string (bs c.en.id), u, .int .i64 c.at_]] w (TextP c w) := listText_any c.kind c.id c.en.id c.en.names u c.at_ w hn hs hs2 hA hT
theorem sameC_law (a b : Li.Ch) (ua ub : Value) (w : World) (ha : NmsRin w ua a.en.names) (hb : NmsRin w ub b.en.names) :
    Calls Tryz.prog 28 #[.agg #[.int .i64 a.kind, .string (bs a.id), .string (bs a.en.id), ua, .int .i64 a.at_], .agg #[.int .i64 b.kind, .string (bs b.id), .string (bs b.en.id), ub, .int .i64 b.at_]] w (Gives (.bool (decide (a = b))) w) :=
  sameC_any a.kind b.kind a.id b.id a.en.id b.en.id a.en.names b.en.names ua ub a.at_ b.at_ w ha hb
/-- a change put into a new box -/
theorem ch_put {w W : World} {k : Int} {i j : List UInt8} {u : Value} {t : Int} (h : W = (((((w.alloc (.cells #[.int .i64 0, .string ⟨#[]⟩, .string ⟨#[]⟩, .slice none 0 0, .int .i64 0] 27)).setCell ⟨w.heap.size, 0, none⟩ (.int .i64 k)).setCell ⟨w.heap.size, 1, none⟩ (.string (bs i))).setCell ⟨w.heap.size, 2, none⟩ (.string (bs j))).setCell ⟨w.heap.size, 3, none⟩ u).setCell ⟨w.heap.size, 4, none⟩ (.int .i64 t)) :
    ChBox w W k i j u t := by
  have h0 : (w.alloc (.cells #[.int .i64 0, .string ⟨#[]⟩, .string ⟨#[]⟩, .slice none 0 0, .int .i64 0] 27)).heap[w.heap.size]? = some (.cells #[.int .i64 0, .string ⟨#[]⟩, .string ⟨#[]⟩, .slice none 0 0, .int .i64 0] 27 (0, 0)) := alloc_new w _
  have hst := ch_stored (.int .i64 k) (.string (bs i)) (.string (bs j)) u (.int .i64 t) h0
  have hb := ch_below (.int .i64 k) (.string (bs i)) (.string (bs j)) u (.int .i64 t) ((Below.refl w.heap.size w).alloc (Nat.le_refl _) (.cells #[.int .i64 0, .string ⟨#[]⟩, .string ⟨#[]⟩, .slice none 0 0, .int .i64 0] 27)) (Nat.le_refl _)
  rw [← h] at hst hb
  obtain ⟨⟨d0, d1, d2, d3, d4⟩, ⟨g0, g1, g2, g3, g4⟩, zp⟩ := ch_cells hst.1
  exact ⟨d0, d1, d2, d3, d4, zp, hb⟩

end Go.Proofs.YtidkmhokolknbaaGreatDoor
