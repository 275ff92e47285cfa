/-
  Several texts in one: ZLed15, ZLed16, ZLed17, ZLed18, ZLed19. Conditions: as each law says.
-/
import Derived.Test.YtfkcphflcmpenaaDoorZMPlain
import Derived.Test.YtfkcphflcmpenaaDoorZLed13
import Derived.Test.YtfkcphflcmpenaaDoorZLawAid
import Derived.Deep.Cut
import Derived.Test.YtfkcphflcmpenaaDoorZLedB
import Derived.Deep.CutRange
namespace Go.Proofs.YtfkcphflcmpenaaDoor
open Go.RowKit Go.Lib

def nmC (p : ByteArray × Bool) : List Value := [.string p.1]
def crC (p : ByteArray × Bool) : List Value := [.bool p.2]

structure RLedAt (w : World) (p : Nat) (vn vc vb : Value) (bs : List (Lg.Bk × Value)) (S : Lg.S) (O : Nat → Prop) : Prop where
  hp : w.heap[p]? = some (.cells #[vn, vc, vb] 58 (0, 0))
  names : w.ownsRow 0 9 1 vn S.names.length (S.names.flatMap nmC)
  credit : w.ownsRow 0 4 1 vc S.names.length (S.names.flatMap crC)
  row : w.ownsRow 0 36 3 vb bs.length (bs.flatMap bookC)
  books : bs.map Prod.fst = S.books
  posts : ∀ q ∈ bs, SlIn w q.2 (fun k => O k ∧ k ≠ p ∧ vn.ownBlock ≠ some k ∧ vc.ownBlock ≠ some k ∧ vb.ownBlock ≠ some k) 2 postC q.1.posts
  op : O p
  on : ∀ g, vn.ownBlock = some g → O g ∧ g ≠ p ∧ vc.ownBlock ≠ some g ∧ vb.ownBlock ≠ some g
  oc : ∀ g, vc.ownBlock = some g → O g ∧ g ≠ p ∧ vn.ownBlock ≠ some g ∧ vb.ownBlock ≠ some g
  ov : ∀ g, vb.ownBlock = some g → O g ∧ g ≠ p ∧ vn.ownBlock ≠ some g ∧ vc.ownBlock ≠ some g
  inv : Lg.Inv S
  lt : ∀ k, O k → k < w.heap.size

/-- the reference's ledger behind a pointer to block p, all its blocks in O -/
def RLed (w : World) (p : Nat) (S : Lg.S) (O : Nat → Prop) : Prop := ∃ vn vc vb bs, RLedAt w p vn vc vb bs S O

theorem RLed.tch {w w' : World} {p : Nat} {S : Lg.S} {O O' : Nat → Prop} (h : RLed w p S O) (ht : Tch O' w w') (ho : ∀ k, O k → ¬ O' k) : RLed w' p S O := by
  obtain ⟨vn, vc, vb, bs, h⟩ := h
  exact ⟨vn, vc, vb, bs, (ht.block p (h.lt p h.op) (ho p h.op)).trans h.hp, ownsRow_tch h.names ht (fun g hg => ho g (h.on g hg).1), ownsRow_tch h.credit ht (fun g hg => ho g (h.oc g hg).1), ownsRow_tch h.row ht (fun g hg => ho g (h.ov g hg).1), h.books,
    fun q hq => (h.posts q hq).tch ht (fun k hk => ho k hk.1), h.op, h.on, h.oc, h.ov, h.inv, fun k hk => Nat.lt_of_lt_of_le (h.lt k hk) ht.size⟩
theorem RLed.below {w w' : World} {p : Nat} {S : Lg.S} {O : Nat → Prop} (h : RLed w p S O) (hb : Below w.heap.size w w') : RLed w' p S O := h.tch (Tch.of_below hb (fun _ => False)) (fun _ _ e => e)

/-- what a call on it ends in -/
def RPost (p : Nat) (O : Nat → Prop) (w : World) (v : Value) (S' : Lg.S) (e : Ending) (w' : World) : Prop :=
  e = .returned v ∧ ∃ O', RLed w' p S' O' ∧ Tch O w w' ∧ ∀ k, O' k → O k ∨ w.heap.size ≤ k

def RNewPost (w : World) (e : Ending) (w' : World) : Prop :=
  ∃ (p : Nat) (O : Nat → Prop), e = .returned (.pointer (some ⟨p, 0, none⟩)) ∧ RLed w' p Lg.empty O ∧ Below w.heap.size w w' ∧ ∀ k, O k → w.heap.size ≤ k

set_option maxRecDepth 100000 in
set_option maxHeartbeats 1000000 in
theorem rnew_any (w : World) : Calls Tryd.prog 12 #[] w (RNewPost w) := by
  have HW := hid (show RNewPost w (.returned (.pointer (some ⟨w.heap.size, 0, none⟩))) (w.alloc (.cells #[.slice none 0 0, .slice none 0 0, .slice none 0 0] 58)) from by
    refine ⟨_, fun k => k = w.heap.size, rfl, ⟨.slice none 0 0, .slice none 0 0, .slice none 0 0, [], ?_⟩, (Below.refl _ w).alloc (Nat.le_refl _) _, fun k hk => by omega⟩
    exact { hp := alloc_new w _, names := World.ownsRow_nil _ _ _ _, credit := World.ownsRow_nil _ _ _ _, row := World.ownsRow_nil _ _ _ _, books := rfl, posts := by simp, op := rfl, on := fun g hg => (by cases hg), oc := fun g hg => (by cases hg), ov := fun g hg => (by cases hg), inv := Lg.inv_empty, lt := fun k hk => by simp; omega })
  go_enter Tryd.func12, Tryd.ntmps12
  go_wp2
  go_ret
  exact HW.out

set_option maxRecDepth 100000 in
set_option maxHeartbeats 2000000 in
theorem find_any (w : World) (p : Nat) (S : Lg.S) (O : Nat → Prop) (a : ByteArray) (h : RLed w p S O) : Calls Tryd.prog 30 #[.pointer (some ⟨p, 0, none⟩), .string a] w (Same (.int .i64 (Lg.idx S a)) w) := by
  obtain ⟨vn, vc, vb, bs, h⟩ := h
  obtain ⟨na, nc, rfl, n1, n2, n3⟩ := SlOf.own h.names (fun _ _ => rfl)
  have c0 : w.cell? ⟨p, 0, none⟩ = some (.slice na S.names.length nc) := by simp [World.cell?, h.hp]
  have hp := h.lt p h.op
  have hf := h.inv.few
  have HN := hid n3
  clear h n3
  go_enter Tryd.func30, Tryd.ntmps30
  go_wp2_with fail
  go_loop [5] (fun i => ∃ k : Nat, k ≤ S.names.length ∧ i = .int .i64 k ∧ Hid (Lg.idx S a = Lg.idxL (S.names.drop k) a k)) (fun i => S.names.length - (RowKit.intOf i).toNat)
  case atStart => exact ⟨0, Nat.zero_le _, rfl, rfl⟩
  case round =>
    obtain ⟨k, hk, rfl, HK⟩ := hrel
    by_cases hlt : k < S.names.length
    · obtain ⟨g, o, rfl, hr⟩ := HN.out (by omega)
      obtain ⟨x, hx⟩ : ∃ x, S.names[k]? = some x := ⟨_, List.getElem?_eq_getElem hlt⟩
      have d0 := hr.2 k x hx 0 _ rfl
      rw [Nat.add_zero, Nat.mul_one] at d0
      have hg := hr.1
      have hk0 : (0 : Int) ≤ (k : Int) := by omega
      have hk1 : (k : Int) < (S.names.length : Int) := by omega
      have hlb := list_beq x.1 a
      have HD := hid (Lg.idxL_drop (a := a) hx)
      clear hr hx
      by_cases hxa : x.1 = a
      · rw [decide_eq_true hxa] at hlb
        rw [if_pos hxa] at HD
        clear hxa
        go_wp2_with fail
        go_ret
        exact ⟨by rw [HK.out, HD.out]; rfl, rfl⟩
      · rw [decide_eq_false hxa] at hlb
        rw [if_neg hxa] at HD
        clear hxa
        go_wp2_with fail
        go_round
        case rel => exact ⟨k + 1, by omega, by go_num, HK.out.trans HD.out⟩
        case measure => simp [RowKit.intOf]; omega
    · have HE := hid (show Lg.idx S a = -1 by
        rw [HK.out, List.drop_of_length_le (by omega)]; rfl)
      go_wp2_with fail
      go_ret
      exact ⟨by first | (rw [HE.out]; rfl) | (rw [← HE.out]; rfl), rfl⟩

set_option maxRecDepth 100000 in
set_option maxHeartbeats 4000000 in
theorem sum_any (w : World) (v : Value) (bs : List (Lg.Bk × Value)) (l : List Lg.Bk) (a : ByteArray) (t : Int) (h : SlOf w v 3 bookC bs) (hp : ∀ q ∈ bs, SlOf w q.2 2 postC q.1.posts) (hl : bs.map Prod.fst = l) (hu : ∀ b ∈ l, Lg.unitsOk b.posts) (hn : l.length ≤ 2000) :
    Calls Tryd.prog 34 #[v, .string a, .int .i64 t] w (Same (.int .i64 (Lg.sumAt l a t)) w) := by
  have hln : l.length = bs.length := by rw [← hl, List.length_map]
  obtain ⟨va, vc, rfl, v1, v2, v3⟩ := h
  have HV := hid v3
  have HP := hid hp
  have HL := hid hl
  have HU := hid hu
  have HLN := hid hln
  have hn2 : bs.length ≤ 2000 := by omega
  clear v3 hp hl hu hln
  go_enter Tryd.func34, Tryd.ntmps34
  go_wp2_with fail
  go_loop [7, 8, 9] (fun n i _ => ∃ k : Nat, k ≤ bs.length ∧ i = .int .i64 k ∧ n = .int .i64 (Lg.sumAt (l.take k) a t)) (fun _ i _ => bs.length - (RowKit.intOf i).toNat)
  case atStart => exact ⟨0, Nat.zero_le _, rfl, by simp [Lg.sumAt, Lg.sumB]⟩
  case round =>
    obtain ⟨k, hk, rfl, rfl⟩ := hrel
    by_cases hlt : k < bs.length
    · obtain ⟨g, o, rfl, hr⟩ := HV.out (by omega)
      obtain ⟨⟨b, u⟩, hq⟩ : ∃ q, bs[k]? = some q := ⟨_, List.getElem?_eq_getElem hlt⟩
      have hb : l[k]? = some b := by rw [← HL.out, List.getElem?_map, hq]; rfl
      have hqm := List.mem_of_getElem? hq
      obtain ⟨pa, pc, hpv, p1, p2, p3⟩ := HP.out _ hqm
      simp only at hpv p1 p2 p3
      subst hpv
      have d1 := hr.2 k _ hq 1 _ rfl
      have d2 := hr.2 k _ hq 2 _ rfl
      have hg := hr.1
      have hk0 : (0 : Int) ≤ (k : Int) := by omega
      have hk1 : (k : Int) < (bs.length : Int) := by omega
      have HPO := hid p3
      have HB := hid hb
      have hb12 : b.posts.length ≤ 12 := (HU.out b (List.mem_of_getElem? hb)).1
      have HZ := hid (Lg.part_zero l a t k)
      have HX := hid (Lg.part_next (a := a) (t := t) hb)
      clear hr hq hb hqm p3
      go_wp2_with fail
      go_loop [7, 9] (fun n i => ∃ j : Nat, j ≤ b.posts.length ∧ i = .int .i64 j ∧ n = .int .i64 (Lg.part l a t k j)) (fun _ i => b.posts.length - (RowKit.intOf i).toNat)
      case atStart => exact ⟨0, Nat.zero_le _, rfl, by rw [HZ.out]⟩
      case round =>
        obtain ⟨j, hj, rfl, rfl⟩ := hrel
        by_cases hjl : j < b.posts.length
        · obtain ⟨g2, o2, rfl, hr2⟩ := HPO.out (by omega)
          obtain ⟨x, hx⟩ : ∃ x, b.posts[j]? = some x := ⟨_, List.getElem?_eq_getElem hjl⟩
          have e0 := hr2.2 j x hx 0 _ rfl
          have e1 := hr2.2 j x hx 1 _ rfl
          rw [Nat.add_zero] at e0
          have hg2 := hr2.1
          have hj0 : (0 : Int) ≤ (j : Int) := by omega
          have hj1 : (j : Int) < (b.posts.length : Int) := by omega
          have hlb := list_beq x.1 a
          have HST := hid (Lg.part_step (a := a) (t := t) HB.out hx)
          have hb1 := Lg.part_bound HU.out a t k j (by rw [HLN.out]; omega) hn
          have hxu := (HU.out b (List.mem_of_getElem? HB.out)).2 x (List.mem_of_getElem? hx)
          clear hr2 hx
          by_cases hat : b.at_ ≤ t
          · by_cases hxa : x.1 = a
            · rw [decide_eq_true hxa] at hlb
              rw [if_pos ⟨hat, hxa⟩] at HST
              clear hxa
              go_wp2_with fail
              go_round
              case rel => exact ⟨j + 1, by omega, by go_num, by rw [HST.out]⟩
              case measure => simp [RowKit.intOf]; omega
            · rw [decide_eq_false hxa] at hlb
              rw [if_neg (fun e : b.at_ ≤ t ∧ x.1 = a => hxa e.2), Int.add_zero] at HST
              clear hxa
              go_wp2_with fail
              go_round
              case rel => exact ⟨j + 1, by omega, by go_num, by rw [HST.out]⟩
              case measure => simp [RowKit.intOf]; omega
          · rw [if_neg (fun e : b.at_ ≤ t ∧ x.1 = a => hat e.1), Int.add_zero] at HST
            clear hlb
            go_wp2_with fail
            go_round
            case rel => exact ⟨j + 1, by omega, by go_num, by rw [HST.out]⟩
            case measure => simp [RowKit.intOf]; omega
        · have hje : j = b.posts.length := by omega
          subst hje
          go_wp2_with fail
          go_round
          case rel => exact ⟨k + 1, by omega, by go_num, by rw [HX.out]⟩
          case measure => simp [RowKit.intOf]; omega
    · have hke : k = bs.length := by omega
      subst hke
      have HE := hid (show Lg.sumAt (l.take bs.length) a t = Lg.sumAt l a t by rw [← HLN.out, List.take_length])
      go_wp2_with fail
      go_ret
      exact ⟨by first | (rw [HE.out]; rfl) | (rw [← HE.out]; rfl), rfl⟩

set_option maxRecDepth 100000 in
set_option maxHeartbeats 2000000 in
theorem rat_any (w : World) (p : Nat) (S : Lg.S) (O : Nat → Prop) (a : ByteArray) (t : Int) (h : RLed w p S O) :
    Calls Tryd.prog 20 #[.pointer (some ⟨p, 0, none⟩), .string a, .int .i64 t] w (Gives (.tuple #[.int .i64 (Lg.balAt S a t), .int .i64 (Lg.errOf S a)]) w) := by
  have HF := hid (find_any w p S O a h)
  obtain ⟨vn, vc, vb, bs, h⟩ := h
  have HS := hid (sum_any w vb bs S.books a t (SlOf.own h.row (fun _ _ => rfl)) (fun q hq => (h.posts q hq).slOf) h.books (fun b hb => Lg.formed_units (h.inv.formed b hb)) h.inv.fewB)
  obtain ⟨va, vk, rfl⟩ := (SlIn.own h.row (fun _ _ => rfl)).slice
  have c2 : w.cell? ⟨p, 2, none⟩ = some (.slice va bs.length vk) := by simp [World.cell?, h.hp]
  have hp := h.lt p h.op
  clear h
  cases hc : Lg.credit S a with
  | none =>
    have HE := hid (show Lg.balAt S a t = 0 ∧ Lg.errOf S a = 11 by unfold Lg.balAt Lg.errOf; rw [hc]; exact ⟨rfl, rfl⟩)
    rw [Lg.idx_none hc] at HF
    clear hc
    go_enter Tryd.func20, Tryd.ntmps20
    go_wp2_with fail
    refine (HF.out).mono ?_
    rintro e w1 ⟨rfl, rfl⟩
    go_wp2_with fail
    go_ret2
    exact ⟨by rw [HE.out.1, HE.out.2]; rfl, Below.refl _ _⟩
  | some d =>
    have HE := hid (show Lg.balAt S a t = Lg.sumAt S.books a t ∧ Lg.errOf S a = 0 by unfold Lg.balAt Lg.errOf; rw [hc]; exact ⟨rfl, rfl⟩)
    obtain ⟨i, x, i1, -, i2⟩ := Lg.idx_some hc
    rw [i2] at HF
    clear hc i2
    go_enter Tryd.func20, Tryd.ntmps20
    go_wp2_with fail
    refine (HF.out).mono ?_
    rintro e w1 ⟨rfl, rfl⟩
    go_wp2_with fail
    refine (HS.out).mono ?_
    rintro e w1 ⟨rfl, rfl⟩
    go_wp2_with fail
    go_ret2
    exact ⟨by rw [HE.out.1, HE.out.2]; rfl, Below.refl _ _⟩

set_option maxRecDepth 100000 in
set_option maxHeartbeats 2000000 in
theorem rbalance_any (w : World) (p : Nat) (S : Lg.S) (O : Nat → Prop) (a : ByteArray) (h : RLed w p S O) :
    Calls Tryd.prog 18 #[.pointer (some ⟨p, 0, none⟩), .string a] w (Gives (.tuple #[.int .i64 (Lg.bal S a), .int .i64 (Lg.errOf S a)]) w) := by
  have HA := hid (rat_any w p S O a 144001439 h)
  obtain ⟨vn, vc, vb, bs, h⟩ := h
  rw [Lg.balAt_max h.inv] at HA
  clear h
  go_enter Tryd.func18, Tryd.ntmps18
  go_wp2_with fail
  refine (HA.out).mono ?_
  rintro e w1 ⟨rfl, hb⟩
  have HB := hid hb
  clear hb
  go_wp2_with fail
  go_ret2
  exact ⟨rfl, HB.out⟩

end Go.Proofs.YtfkcphflcmpenaaDoor

namespace Go.Proofs.YtfkcphflcmpenaaDoor
open Go.RowKit Go.Lib

theorem nameB_nm (a : ByteArray) : nameB a = Lg.nm a := rfl
theorem Tryd.infoStr : (Tryd.prog.info? 9).map (fun i => (i.zero, i.size, i.bytes)) = some (some (.string ⟨#[]⟩), 1, 16) := by kernel_rfl
theorem Tryd.infoBool : (Tryd.prog.info? 4).map (fun i => (i.zero, i.size, i.bytes)) = some (some (.bool false), 1, 1) := by kernel_rfl

/-- what a row's end has been made from -/
theorem own_or {v v' : Value} {n g : Nat} (h : v'.ownBlock = v.ownBlock ∨ v'.ownBlock = some n) (hg : v'.ownBlock = some g) : v.ownBlock = some g ∨ g = n := by
  rcases h with h | h
  · exact .inl (h ▸ hg)
  · rw [hg] at h; exact .inr (Option.some.inj h)

theorem opened {w w1 w2 w3 w4 w5 w6 : World} {p : Nat} {vn vc vb vn' vc' : Value} {bs : List (Lg.Bk × Value)} {S : Lg.S} {O : Nat → Prop} {a : ByteArray} {c : Bool} {o1 o4 : Obj}
    (H : RLedAt w p vn vc vb bs S O) (e1 : w1 = w.alloc o1) (g2 : w1.grownBy w2 vn.ownBlock) (n2 : vn'.ownBlock = vn.ownBlock ∨ vn'.ownBlock = some w1.heap.size)
    (r2 : w2.ownsRow 0 9 1 vn' (S.names.length + 1) (S.names.flatMap nmC ++ [.string a])) (e3 : w3 = w2.setCell ⟨p, 0, none⟩ vn') (e4 : w4 = w3.alloc o4)
    (g5 : w4.grownBy w5 vc.ownBlock) (n5 : vc'.ownBlock = vc.ownBlock ∨ vc'.ownBlock = some w4.heap.size)
    (r5 : w5.ownsRow 0 4 1 vc' (S.names.length + 1) (S.names.flatMap crC ++ [.bool c])) (e6 : w6 = w5.setCell ⟨p, 1, none⟩ vc')
    (hi : Lg.Inv ⟨S.names ++ [(a, c)], S.books⟩) : ∃ O', RLed w6 p ⟨S.names ++ [(a, c)], S.books⟩ O' ∧ Tch O w w6 ∧ ∀ k, O' k → O k ∨ w.heap.size ≤ k := by
  have b1 : Below w.heap.size w w1 := by rw [e1]; exact (Below.refl _ w).alloc (Nat.le_refl _) _
  have z1 : w1.heap.size = w.heap.size + 1 := by rw [e1, World.size_alloc]
  have z2 := g2.size
  have z3 : w3.heap.size = w2.heap.size := by rw [e3]; simp [World.setCell]
  have z4 : w4.heap.size = w3.heap.size + 1 := by rw [e4, World.size_alloc]
  have z5 := g5.size
  have z6 : w6.heap.size = w5.heap.size := by rw [e6]; simp [World.setCell]
  have hp := H.lt p H.op
  have T2 : Tch (fun k => vn.ownBlock = some k) w w2 := (Tch.of_below b1 _).grown g2 (fun r e => .inl e)
  have P3 : Tch (fun k => k = p) w2 w3 := by rw [e3]; exact (Tch.refl (fun k => k = p) w2).setCell (a := ⟨p, 0, none⟩) (.inl rfl) _
  have T3 : Tch (fun k => vn.ownBlock = some k ∨ k = p) w w3 := ⟨P3.os.trans T2.os, P3.tape.trans T2.tape, P3.output.trans T2.output, by omega, fun k hk hn => (P3.block k (by omega) (fun e => hn (.inr e))).trans (T2.block k hk (fun e => hn (.inl e)))⟩
  have b4 : Below w3.heap.size w3 w4 := by rw [e4]; exact (Below.refl _ w3).alloc (Nat.le_refl _) _
  have T4 := T3.step b4
  have P5 : Tch (fun k => vc.ownBlock = some k) w4 w5 := Tch.of_grown g5 (fun r e => e)
  have P6 : Tch (fun k => k = p) w5 w6 := by rw [e6]; exact (Tch.refl (fun k => k = p) w5).setCell (a := ⟨p, 1, none⟩) (.inl rfl) _
  have T6 : Tch (fun k => vn.ownBlock = some k ∨ vc.ownBlock = some k ∨ k = p) w w6 :=
    ⟨P6.os.trans (P5.os.trans T4.os), P6.tape.trans (P5.tape.trans T4.tape), P6.output.trans (P5.output.trans T4.output), by omega, fun k hk hn =>
      (P6.block k (by omega) (fun e => hn (.inr (.inr e)))).trans ((P5.block k (by omega) (fun e => hn (.inr (.inl e)))).trans (T4.block k hk (fun e => by
        rcases e with e | e
        · exact hn (.inl e)
        · exact hn (.inr (.inr e)))))⟩
  have hn' : ∀ g, vn'.ownBlock = some g → vn.ownBlock = some g ∨ g = w.heap.size + 1 := fun g hg => by
    rcases own_or n2 hg with h | h
    · exact .inl h
    · exact .inr (by omega)
  have hc' : ∀ g, vc'.ownBlock = some g → vc.ownBlock = some g ∨ (w.heap.size + 1 < g ∧ g = w4.heap.size) := fun g hg => by
    rcases own_or n5 hg with h | h
    · exact .inl h
    · exact .inr ⟨by omega, h⟩
  have lo : ∀ g, vn.ownBlock = some g → g < w.heap.size := fun g hg => H.lt g (H.on g hg).1
  have lc : ∀ g, vc.ownBlock = some g → g < w.heap.size := fun g hg => H.lt g (H.oc g hg).1
  have lv : ∀ g, vb.ownBlock = some g → g < w.heap.size := fun g hg => H.lt g (H.ov g hg).1
  have h2p : w2.heap[p]? = some (.cells #[vn, vc, vb] 58 (0, 0)) := (T2.block p hp (fun e => (H.on p e).2.1 rfl)).trans H.hp
  have h3p : w3.heap[p]? = some (.cells #[vn', vc, vb] 58 (0, 0)) := by rw [e3]; exact blk_set h2p 0 vn'
  have h5p : w5.heap[p]? = some (.cells #[vn', vc, vb] 58 (0, 0)) := (P5.block p (by omega) (fun e => (H.oc p e).2.1 rfl)).trans ((b4.block p (by omega)).trans h3p)
  have h6p : w6.heap[p]? = some (.cells #[vn', vc', vb] 58 (0, 0)) := by rw [e6]; exact blk_set h5p 1 vc'
  have np : ∀ g, vn'.ownBlock = some g → g ≠ p := fun g hg => by
    rcases hn' g hg with h | h
    · exact (H.on g h).2.1
    · omega
  have cp : ∀ g, vc'.ownBlock = some g → g ≠ p := fun g hg => by
    rcases hc' g hg with h | h
    · exact (H.oc g h).2.1
    · omega
  have nc : ∀ g, vn'.ownBlock = some g → vc.ownBlock ≠ some g := fun g hg e => by
    rcases hn' g hg with h | h
    · exact (H.on g h).2.2.1 e
    · have := lc g e; omega
  have nc' : ∀ g, vn'.ownBlock = some g → vc'.ownBlock ≠ some g := fun g hg e => by
    rcases hc' g e with h | h
    · exact nc g hg h
    · rcases hn' g hg with h' | h'
      · have := lo g h'; omega
      · omega
  have nb : ∀ g, vn'.ownBlock = some g → vb.ownBlock ≠ some g := fun g hg e => by
    rcases hn' g hg with h | h
    · exact (H.on g h).2.2.2 e
    · have := lv g e; omega
  have cb : ∀ g, vc'.ownBlock = some g → vb.ownBlock ≠ some g := fun g hg e => by
    rcases hc' g hg with h | h
    · exact (H.oc g h).2.2.2 e
    · have := lv g e; omega
  have rn : w6.ownsRow 0 9 1 vn' (S.names.length + 1) (S.names.flatMap nmC ++ [.string a]) :=
    ownsRow_tch (ownsRow_tch (ownsRow_below (ownsRow_tch r2 P3 np) b4) P5 nc) P6 np
  have rc : w6.ownsRow 0 4 1 vc' (S.names.length + 1) (S.names.flatMap crC ++ [.bool c]) := ownsRow_tch r5 P6 cp
  have rb : w6.ownsRow 0 36 3 vb bs.length (bs.flatMap bookC) := ownsRow_tch H.row T6 (fun g hg e => by
    obtain ⟨_, h1, h2, h3⟩ := H.ov g hg
    rcases e with e | e | e
    · exact h2 e
    · exact h3 e
    · exact h1 e)
  have inO' : ∀ g, vn'.ownBlock = some g → O g ∨ (w.heap.size ≤ g ∧ g < w6.heap.size) := fun g hg => by
    rcases hn' g hg with h | h
    · exact .inl (H.on g h).1
    · exact .inr ⟨by omega, (rn.lt g hg).2⟩
  have icO' : ∀ g, vc'.ownBlock = some g → O g ∨ (w.heap.size ≤ g ∧ g < w6.heap.size) := fun g hg => by
    rcases hc' g hg with h | h
    · exact .inl (H.oc g h).1
    · exact .inr ⟨by omega, (rc.lt g hg).2⟩
  refine ⟨fun k => O k ∨ (w.heap.size ≤ k ∧ k < w6.heap.size), ⟨vn', vc', vb, bs, ?_⟩, ?_, fun k hk => hk.imp id And.left⟩
  · exact {
      hp := h6p
      names := by rw [List.length_append, List.flatMap_append]; exact rn
      credit := by rw [List.length_append, List.flatMap_append]; exact rc
      row := rb
      books := H.books
      posts := fun q hq => ((H.posts q hq).tch T6 (fun k hk e => by
        obtain ⟨_, h1, h2, h3, _⟩ := hk
        rcases e with e | e | e
        · exact h2 e
        · exact h3 e
        · exact h1 e)).mono (fun k hk _ => by
          have hl := H.lt k hk.1
          refine ⟨.inl hk.1, hk.2.1, fun e => ?_, fun e => ?_, hk.2.2.2.2⟩
          · rcases hn' k e with h | h
            · exact hk.2.2.1 h
            · omega
          · rcases hc' k e with h | h
            · exact hk.2.2.2.1 h
            · omega)
      op := .inl H.op
      on := fun g hg => ⟨inO' g hg, np g hg, nc' g hg, nb g hg⟩
      oc := fun g hg => ⟨icO' g hg, cp g hg, fun e => nc' g e hg, cb g hg⟩
      ov := fun g hg => ⟨.inl (H.ov g hg).1, (H.ov g hg).2.1, fun e => nb g e hg, fun e => cb g e hg⟩
      inv := hi
      lt := fun k hk => by
        rcases hk with h | h
        · have := H.lt k h; omega
        · exact h.2 }
  · exact T6.mono (fun k hk => by
      rcases hk with h | h | h
      · exact (H.on k h).1
      · exact (H.oc k h).1
      · rw [h]; exact H.op)

set_option maxRecDepth 100000 in
set_option maxHeartbeats 4000000 in
theorem ropen_any (w : World) (p : Nat) (S : Lg.S) (O : Nat → Prop) (a : ByteArray) (c : Bool) (h : RLed w p S O) (ha : a.size ≤ 5000) (hf : S.names.length < 100) :
    Calls Tryd.prog 14 #[.pointer (some ⟨p, 0, none⟩), .string a, .bool c] w (RPost p O w (.int .i64 (Lg.open_ S a c).1) (Lg.open_ S a c).2) := by
  have HN := hid (name_any a w (by unfold maxLen; omega))
  rw [nameB_nm] at HN
  have HF := hid (find_any w p S O a h)
  have HL := hid h
  have hi0 : ∀ {r : Int}, Hid (Lg.open_ S a c = (r, S) → RPost p O w (.int .i64 (Lg.open_ S a c).1) (Lg.open_ S a c).2 (.returned (.int .i64 r)) w) := fun {r} e => by
    rw [e]; exact ⟨rfl, O, HL.out, Tch.refl _ _, fun k hk => .inl hk⟩
  cases hn : Lg.nm a with
  | false =>
    have HE := hid (show Lg.open_ S a c = (1, S) by unfold Lg.open_; rw [hn]; rfl)
    rw [hn] at HN
    clear hn h
    go_enter Tryd.func14, Tryd.ntmps14
    go_wp2_with fail
    refine (HN.out).mono ?_
    rintro e w1 ⟨rfl, rfl⟩
    go_wp2_with fail
    go_ret
    exact hi0.out HE.out
  | true =>
    rw [hn] at HN
    cases hc : Lg.credit S a with
    | some d =>
      have HE := hid (show Lg.open_ S a c = (9, S) by unfold Lg.open_; rw [hn, hc]; rfl)
      obtain ⟨i, x, i1, -, i2⟩ := Lg.idx_some hc
      rw [i2] at HF
      clear hn hc h i2
      go_enter Tryd.func14, Tryd.ntmps14
      go_wp2_with fail
      refine (HN.out).mono ?_
      rintro e w1 ⟨rfl, rfl⟩
      go_wp2_with fail
      refine (HF.out).mono ?_
      rintro e w1 ⟨rfl, rfl⟩
      go_wp2_with fail
      go_ret
      exact hi0.out HE.out
    | none =>
      have HE := hid (show Lg.open_ S a c = (0, ⟨S.names ++ [(a, c)], S.books⟩) by
        unfold Lg.open_; rw [hn, hc, if_neg (by simp), if_neg (by simp), if_neg (by omega)])
      have HI := hid (show Lg.Inv ⟨S.names ++ [(a, c)], S.books⟩ by
        have := Lg.inv_open (show Lg.Inv S by obtain ⟨_, _, _, _, h⟩ := h; exact h.inv) a c
        rw [HE.out] at this; exact this)
      rw [Lg.idx_none hc] at HF
      obtain ⟨vn, vc, vb, bs, hA⟩ := h
      have HA := hid hA
      obtain ⟨i1, hi1, hz0, hz1, hz2⟩ := info_parts Tryd.infoStr
      obtain ⟨i2, hi2, hy0, hy1, hy2⟩ := info_parts Tryd.infoBool
      have hp := hA.lt p hA.op
      obtain ⟨na, nc, hnv⟩ := (SlIn.own (cells := nmC) hA.names (fun _ _ => rfl)).slice
      obtain ⟨ca, cc, hcv⟩ := (SlIn.own (cells := crC) hA.credit (fun _ _ => rfl)).slice
      have c0 : w.cell? ⟨p, 0, none⟩ = some (.slice na S.names.length nc) := by simp [World.cell?, hA.hp, hnv]
      have f0 : w.frozen? ⟨p, 0, none⟩ = false := by simp [World.frozen?, hA.hp]
      have hb1 : Below w.heap.size w (w.alloc (.cells #[.string a] 9)) := (Below.refl _ w).alloc (Nat.le_refl _) _
      have hown := ownsRow_below hA.names hb1
      rw [hnv] at hown
      have hn100 : ((S.names.length : Int) == 100) = false := by simp; omega
      have HNV := hid hnv
      have HCV := hid hcv
      have hlen1 : (S.names.length : Int) ≤ 100 := by omega
      have HP2 : Hid (∀ W, (w.alloc (.cells #[.string a] 9)).grownBy W vn.ownBlock → W.heap[p]? = some (.cells #[vn, vc, vb] 58 (0, 0))) := fun W hg =>
        (hg.block p (by simp; omega) (fun e => (hA.on p e.symm).2.1 rfl)).trans ((hb1.block p hp).trans hA.hp)
      rw [hnv, hcv] at HP2
      clear hn hc hA hnv hcv hb1
      go_enter Tryd.func14, Tryd.ntmps14
      go_wp2_with fail
      refine (HN.out).mono ?_
      rintro e w1 ⟨rfl, rfl⟩
      go_wp2_with fail
      refine (HF.out).mono ?_
      rintro e w1 ⟨rfl, rfl⟩
      clear HN HF
      go_upto_region 8 with (at_builtin; refine wpList_append_own_at _ rfl _ _ 22 rfl 0 9 i1 (.string ⟨#[]⟩) 1 16 Tryd.underlying22 hi1 hz0 hz1 hz2 rfl (by decide) _ _ _ rfl hown ⟨w1.heap.size, 0, none⟩ 1 1 [.string a] rfl rfl (cell_one_new _ _ _) (by simp [Value.oneCell']) (by unfold maxLen; omega) (by omega) (Nat.zero_le _) ?_; intro vn' w2 ho2 hg2 _ hor2; obtain ⟨na2, nc2, hne2⟩ := ownsRow_slice ho2; subst hne2; have hp2 := HP2.out w2 hg2; have hz2' := (Array.getElem?_eq_some_iff.1 hp2).1; have c02 : w2.cell? ⟨p, 0, none⟩ = some (.slice na S.names.length nc) := (by simp [World.cell?, hp2]); have f02 : w2.frozen? ⟨p, 0, none⟩ = false := by simp [World.frozen?, hp2])
      obtain ⟨w3, hw3⟩ : ∃ w3, w3 = w2.setCell ⟨p, 0, none⟩ (.slice na2 (S.names.length + 1) nc2) := ⟨_, rfl⟩
      have hp3 : w3.heap[p]? = some (.cells #[.slice na2 (S.names.length + 1) nc2, .slice ca S.names.length cc, vb] 58 (0, 0)) := by rw [hw3]; exact blk_set hp2 0 _
      have hz3 : p < w3.heap.size := (Array.getElem?_eq_some_iff.1 hp3).1
      have c13 : w3.cell? ⟨p, 1, none⟩ = some (.slice ca S.names.length cc) := by simp [World.cell?, hp3]
      have hg2' : (w1.alloc (.cells #[.string a] 9)).grownBy w2 vn.ownBlock := by rw [HNV.out]; exact hg2
      have hor2' : (Value.slice na2 (S.names.length + 1) nc2).ownBlock = vn.ownBlock ∨ (Value.slice na2 (S.names.length + 1) nc2).ownBlock = some (w1.alloc (.cells #[.string a] 9)).heap.size := by rw [HNV.out]; exact hor2
      have T2 : Tch (fun k => vn.ownBlock = some k) w1 w2 := (Tch.of_below ((Below.refl _ w1).alloc (Nat.le_refl _) _) (fun k => vn.ownBlock = some k)).grown hg2' (fun r e => .inl e)
      have P3 : Tch (fun k => k = p) w2 w3 := by rw [hw3]; exact (Tch.refl (fun k => k = p) w2).setCell (a := ⟨p, 0, none⟩) (.inl rfl) _
      have hown5 := (ownsRow_tch (ownsRow_tch HA.out.credit T2 (fun g hg => (HA.out.oc g hg).2.2.1)) P3 (fun g hg => (HA.out.oc g hg).2.1)).alloc (.cells #[.bool c] 4)
      have HP5 : Hid (∀ W, (w3.alloc (.cells #[.bool c] 4)).grownBy W vc.ownBlock → W.heap[p]? = some (.cells #[.slice na2 (S.names.length + 1) nc2, .slice ca S.names.length cc, vb] 58 (0, 0))) := fun W hg =>
        (hg.block p (by simp; omega) (fun e => (HA.out.oc p e.symm).2.1 rfl)).trans ((((Below.refl _ w3).alloc (Nat.le_refl _) (.cells #[.bool c] 4)).block p hz3).trans hp3)
      rw [HCV.out] at hown5 HP5
      have H2 := hid (And.intro ho2 (And.intro hg2' (And.intro hor2' hw3)))
      rw [← hw3]
      clear ho2 hg2 hg2' hor2 hor2' hw3 T2 P3 c0 f0 hown hp2 c02 f02 hp3 HP2
      go_wp2_with (at_builtin; refine wpList_append_own_at _ rfl _ _ 56 rfl 0 4 i2 (.bool false) 1 1 Tryd.underlying56 hi2 hy0 hy1 hy2 rfl (by decide) _ _ _ rfl hown5 ⟨w3.heap.size, 0, none⟩ 1 1 [.bool c] rfl rfl (cell_one_new _ _ _) (by simp [Value.oneCell']) (by unfold maxLen; omega) (by omega) (Nat.zero_le _) ?_; intro vc' w5 ho5 hg5 _ hor5; obtain ⟨ca2, cc2, hce2⟩ := ownsRow_slice ho5; subst hce2; have hp5 := HP5.out w5 hg5; have hz5 := (Array.getElem?_eq_some_iff.1 hp5).1; have c15 : w5.cell? ⟨p, 1, none⟩ = some (.slice ca S.names.length cc) := (by simp [World.cell?, hp5]); have f15 : w5.frozen? ⟨p, 1, none⟩ = false := by simp [World.frozen?, hp5])
      have H5 := hid (And.intro ho5 (And.intro hg5 hor5))
      clear ho5 hg5 hor5 hp5 c15 f15
      go_ret
      obtain ⟨ho2, hg2, hor2, hw3⟩ := H2.out
      obtain ⟨ho5, hg5, hor5⟩ := H5.out
      rw [← HCV.out] at hg5 hor5
      refine ⟨by rw [HE.out]; rfl, ?_⟩
      rw [HE.out]
      exact opened HA.out rfl hg2 hor2 ho2 hw3 rfl hg5 hor5 ho5 rfl HI.out

end Go.Proofs.YtfkcphflcmpenaaDoor

namespace Go.Proofs.YtfkcphflcmpenaaDoor
open Go.RowKit Go.Lib Go.Maps

theorem okU_no {n : Int} (h : n = 0 ∨ n < -1000000000000 ∨ 1000000000000 < n) : Lg.okUnits n = false := by
  rw [Bool.eq_false_iff]; intro e
  unfold Lg.okUnits at e
  simp at e
  omega

set_option maxRecDepth 100000 in
set_option maxHeartbeats 4000000 in
theorem rformed_any (b : Lg.Bk) (vp : Value) (w : World) (h : SlOf w vp 2 postC b.posts) (hs : b.id.size ≤ 5000) : Calls Tryd.prog 33 #[bookV (b, vp)] w (Gives (.bool (Lg.formed b)) w) := by
  have HV := hid h
  obtain ⟨a, cap, rfl, h1, h2, -⟩ := h
  unfold bookV
  simp only
  obtain ⟨W1, hW1⟩ : ∃ W1, W1 = w.alloc (.cells #[.string b.id, .int .i64 b.at_, .slice a b.posts.length cap] 36) := ⟨_, rfl⟩
  have hb1 : Below w.heap.size w W1 := by rw [hW1]; exact (Below.refl _ w).alloc (Nat.le_refl _) _
  have hs1 : W1.heap[w.heap.size]? = some (.cells #[.string b.id, .int .i64 b.at_, .slice a b.posts.length cap] 36 (0, 0)) := by rw [hW1]; exact alloc_new w _
  have HI := hid (name_any b.id W1 (by unfold maxLen; omega))
  rw [show nameB b.id = Lg.nm b.id from rfl] at HI
  have hf0 := hid (show Lg.formed b = (Lg.nm b.id && decide (0 ≤ b.at_) && decide (b.at_ ≤ 144001439) && decide (2 ≤ b.posts.length) && decide (b.posts.length ≤ 12) && b.posts.all (fun p => Lg.okUnits p.2) && decide (b.posts.map Prod.fst).Nodup) from rfl)
  have c0 : W1.cell? ⟨w.heap.size, 0, none⟩ = some (.string b.id) := by simp [World.cell?, hs1]
  have c1 : W1.cell? ⟨w.heap.size, 1, none⟩ = some (.int .i64 b.at_) := by simp [World.cell?, hs1]
  have c2 : W1.cell? ⟨w.heap.size, 2, none⟩ = some (.slice a b.posts.length cap) := by simp [World.cell?, hs1]
  have hz : w.heap.size < W1.heap.size := (Array.getElem?_eq_some_iff.1 hs1).1
  have HB2 := hid hb1
  have HS2 := hid hs1
  have HW1 := hid hW1
  clear hb1 hs1 hs
  go_enter Tryd.func33, Tryd.ntmps33
  go_wp2_with fail
  rw [← hW1]
  clear hW1
  refine (HI.out).mono ?_
  rintro e w2 ⟨rfl, rfl⟩
  clear HI HW1
  cases hn : Lg.nm b.id with
  | false =>
    have HF := hid (show Lg.formed b = false by rw [hf0.out, hn]; rfl)
    clear hn
    go_wp2_with fail
    go_ret
    exact ⟨ret_bool HF.out.symm, HB2.out⟩
  | true =>
    by_cases g1 : b.at_ < 0
    · have HF := hid (show Lg.formed b = false by rw [hf0.out]; simp; intros; omega)
      clear hn
      go_wp2_with fail
      go_ret
      exact ⟨ret_bool HF.out.symm, HB2.out⟩
    · by_cases g2 : 144001439 < b.at_
      · have HF := hid (show Lg.formed b = false by rw [hf0.out]; simp; intros; omega)
        clear hn
        go_wp2_with fail
        go_ret
        exact ⟨ret_bool HF.out.symm, HB2.out⟩
      · by_cases g3 : (b.posts.length : Int) < 2
        · have HF := hid (show Lg.formed b = false by rw [hf0.out]; simp; intros; omega)
          clear hn
          go_wp2_with fail
          go_ret
          exact ⟨ret_bool HF.out.symm, HB2.out⟩
        · by_cases g4 : (12 : Int) < (b.posts.length : Int)
          · have HF := hid (show Lg.formed b = false by rw [hf0.out]; simp; intros; omega)
            clear hn
            go_wp2_with fail
            go_ret
            exact ⟨ret_bool HF.out.symm, HB2.out⟩
          · have HF := hid (show Lg.formed b = (b.posts.all (fun p => Lg.okUnits p.2) && decide (b.posts.map Prod.fst).Nodup) by
              rw [hf0.out, hn]
              simp only [Bool.true_and]
              rw [decide_eq_true (show 0 ≤ b.at_ by omega), decide_eq_true (show b.at_ ≤ 144001439 by omega), decide_eq_true (show 2 ≤ b.posts.length by omega), decide_eq_true (show b.posts.length ≤ 12 by omega)]
              rfl)
            clear hn
            obtain ⟨g, o, rfl, hr⟩ : ∃ g o, a = some ⟨g, o, none⟩ ∧ RowOf w g o 2 postC b.posts := by
              obtain ⟨a', cap', e, _, _, h3⟩ := HV.out
              cases e
              exact h3 (by omega)
            have HR := hid (hr.below HB2.out)
            have HC2 := hid c2
            clear hr c0
            go_wp2_with fail
            go_loopw [3] (fun i wr => ∃ k : Nat, k ≤ b.posts.length ∧ i = .int .i64 k ∧ Hid (Lg.fpost b k) ∧ Hid (Below w2.heap.size w2 wr)) (fun i _ => b.posts.length - (RowKit.intOf i).toNat)
            case atStart => exact ⟨0, Nat.zero_le _, rfl, Lg.fpost_zero b, Below.refl _ _⟩
            case round =>
              obtain ⟨k, hk, rfl, HA, HBR⟩ := hrel
              have e2 : wr.cell? ⟨w.heap.size, 2, none⟩ = some (.slice (some ⟨g, o, none⟩) b.posts.length cap) := (HBR.out.cell (p := ⟨w.heap.size, 2, none⟩) hz).trans HC2.out
              have hzr : w.heap.size < wr.heap.size := Nat.lt_of_lt_of_le hz HBR.out.size
              clear c2
              by_cases hlt : k < b.posts.length
              · obtain ⟨p, hp⟩ : ∃ p, b.posts[k]? = some p := ⟨_, List.getElem?_eq_getElem hlt⟩
                have hc := (HR.out.below HBR.out).2 k p hp
                have d1 := hc 1 _ rfl
                have hg := (HR.out.below HBR.out).1
                have hn0 : (0 : Int) ≤ (k : Int) := by omega
                have hn1 : (k : Int) < (b.posts.length : Int) := by omega
                have HP := hid hp
                by_cases u1 : p.2 = 0 ∨ p.2 < -1000000000000 ∨ 1000000000000 < p.2
                · have HFF := hid (show Lg.formed b = false from Lg.formed_bad hp (okU_no u1))
                  have HB5 := hid (HB2.out.trans (HBR.out.mono HB2.out.size))
                  clear hc hp
                  rcases u1 with u1 | u1 | u1
                  · have u2 : (p.2 == 0) = true := by rw [u1]; rfl
                    clear u1
                    go_wp2_with fail
                    go_ret
                    exact ⟨ret_bool HFF.out.symm, HB5.out⟩
                  · have u2 : (p.2 == 0) = false := by rw [beq_eq_false_iff_ne]; omega
                    go_wp2_with fail
                    go_ret
                    exact ⟨ret_bool HFF.out.symm, HB5.out⟩
                  · have u2 : (p.2 == 0) = false := by rw [beq_eq_false_iff_ne]; omega
                    have u3 : ¬ p.2 < -1000000000000 := by omega
                    go_wp2_with fail
                    go_ret
                    exact ⟨ret_bool HFF.out.symm, HB5.out⟩
                · have u2 : (p.2 == 0) = false := by rw [beq_eq_false_iff_ne]; omega
                  have u3 : ¬ p.2 < -1000000000000 := by omega
                  have u4 : ¬ 1000000000000 < p.2 := by omega
                  have HU := hid (show Lg.okUnits p.2 = true by unfold Lg.okUnits; simp; omega)
                  clear hc hp u1
                  go_wp2_with fail
                  go_loopw [5] (fun i wr => ∃ j : Nat, j ≤ k ∧ i = .int .i64 j ∧ Hid (∀ q ∈ b.posts.take j, q.1 ≠ p.1) ∧ Hid (Below w2.heap.size w2 wr)) (fun i _ => k - (RowKit.intOf i).toNat)
                  case atStart => exact ⟨0, Nat.zero_le _, rfl, hid (by simp), HBR⟩
                  case round =>
                    obtain ⟨j, hj, rfl, HU2, HBR2⟩ := hrel
                    have e2 : wr.cell? ⟨w.heap.size, 2, none⟩ = some (.slice (some ⟨g, o, none⟩) b.posts.length cap) := (HBR2.out.cell (p := ⟨w.heap.size, 2, none⟩) hz).trans HC2.out
                    have hzr2 : w.heap.size < wr.heap.size := Nat.lt_of_lt_of_le hz HBR2.out.size
                    have hg2 := (HR.out.below HBR2.out).1
                    have HB6 : Hid (∀ q, Below w.heap.size w (wr.drewN q)) := fun q => Below.step (HB2.out.trans (HBR2.out.mono HB2.out.size)) (Below.drewQ _ q)
                    have HB7 : Hid (∀ q, Below w2.heap.size w2 (wr.drewN q)) := fun q => Below.step HBR2.out (Below.drewQ _ q)
                    by_cases hjl : j < k
                    · obtain ⟨q, hq⟩ : ∃ q, b.posts[j]? = some q := ⟨_, List.getElem?_eq_getElem (by omega)⟩
                      have x0 := (HR.out.below HBR2.out).2 j q hq 0 _ rfl
                      have y0 := (HR.out.below HBR2.out).2 k p HP.out 0 _ rfl
                      rw [Nat.add_zero] at x0 y0
                      have hj0 : (0 : Int) ≤ (j : Int) := by omega
                      have hj1 : (j : Int) < (b.posts.length : Int) := by omega
                      have hj2 : (j : Int) < (k : Int) := by omega
                      have hlb := list_beq q.1 p.1
                      by_cases hqp : q.1 = p.1
                      · have HFF := hid (show Lg.formed b = false from Lg.formed_twice HP.out hq hjl hqp)
                        rw [decide_eq_true hqp] at hlb
                        clear hqp hq
                        go_wp2_with fail
                        go_quiet (fail)
                        go_wp2_with fail
                        go_ret
                        exact ⟨ret_bool HFF.out.symm, HB6.out _⟩
                      · have HU3 := hid (show ∀ r ∈ b.posts.take (j + 1), r.1 ≠ p.1 from fun r hr => by
                          rw [Lg.take_snoc hq] at hr
                          rcases List.mem_append.1 hr with hr | hr
                          · exact HU2.out r hr
                          · simp at hr; subst hr; exact hqp)
                        rw [decide_eq_false hqp] at hlb
                        clear hqp hq
                        go_wp2_with fail
                        go_quiet (fail)
                        go_wp2_with fail
                        go_roundw
                        case rel => exact ⟨j + 1, by omega, by go_num, HU3, HB7.out _⟩
                        case measure => simp [RowKit.intOf]; omega
                    · have hje : j = k := by omega
                      subst hje
                      have HA2 := hid (Lg.fpost_step HA.out HP.out HU.out HU2.out)
                      go_wp2_with fail
                      go_roundw
                      case rel => exact ⟨j + 1, by omega, by go_num, HA2, HBR2⟩
                      case measure => simp [RowKit.intOf]; omega
              · have hke : k = b.posts.length := by omega
                subst hke
                have HFF := hid (show Lg.formed b = true by
                  rw [HF.out]
                  exact Lg.fpost_all HA.out)
                have HB5 := hid (HB2.out.trans (HBR.out.mono HB2.out.size))
                go_wp2_with fail
                go_ret
                exact ⟨ret_bool HFF.out.symm, HB5.out⟩

end Go.Proofs.YtfkcphflcmpenaaDoor

namespace Go.Proofs.YtfkcphflcmpenaaDoor
open Go.RowKit Go.Lib Go.Maps

/-- what stands there behind k rounds -/
structure RLst (bs : List (Lg.Bk × Value)) (w : World) (k : Nat) (v : Value) (bs' : List (Lg.Bk × Value)) (wr : World) : Prop where
  same : bs'.map Prod.fst = (bs.take k).map Prod.fst
  len : bs'.length = k
  own : wr.ownsRow w.heap.size 36 3 v k (bs'.flatMap bookC)
  posts : ∀ q ∈ bs', SlIn wr q.2 (fun x => w.heap.size ≤ x ∧ v.ownBlock ≠ some x) 2 postC q.1.posts
  below : Below w.heap.size w wr

set_option maxRecDepth 100000 in
set_option maxHeartbeats 4000000 in
theorem rlist_any (w : World) (p : Nat) (S : Lg.S) (O : Nat → Prop) (h : RLed w p S O) : Calls Tryd.prog 23 #[.pointer (some ⟨p, 0, none⟩)] w (ListPost S.books w) := by
  obtain ⟨i0, hi, hz0, hz1, hz2⟩ := info_parts Tryd.infoBk
  obtain ⟨vn, vc, vb, bs, hA⟩ := h
  have HA := hid hA
  have hz := hA.lt p hA.op
  have hnb : bs.length ≤ 2000 := by have := hA.inv.fewB; rw [← hA.books, List.length_map] at this; exact this
  have HPF := hid (show ∀ q ∈ bs, 2 ≤ q.1.posts.length ∧ q.1.posts.length ≤ 12 from fun q hq => Lg.formed_len (hA.inv.formed q.1 (by rw [← hA.books]; exact List.mem_map_of_mem hq)))
  have HSL := hid (SlOf.own hA.row (fun x _ => rfl))
  obtain ⟨va, vk, hve, -, -, -⟩ := SlOf.own hA.row (fun x _ => rfl)
  have c2 : w.cell? ⟨p, 2, none⟩ = some vb := by simp [World.cell?, hA.hp]
  rw [hve] at c2 HSL
  have HC2 := hid c2
  clear hA hve
  go_enter Tryd.func23, Tryd.ntmps23
  go_wp2_with fail
  go_loopw [3, 4] (fun u i wr => ∃ (k : Nat) (v : Value) (bs' : List (Lg.Bk × Value)), k ≤ bs.length ∧ i = .int .i64 k ∧ v = u ∧ Hid (RLst bs w k v bs' wr)) (fun _ i _ => bs.length - (RowKit.intOf i).toNat)
  case atStart => exact ⟨0, _, [], Nat.zero_le _, rfl, rfl, ⟨rfl, rfl, World.ownsRow_nil _ _ _ _, by simp, Below.refl _ _⟩⟩
  case round =>
    obtain ⟨k, v, bs', hk, rfl, rfl, HK⟩ := hrel
    clear c2
    have c2 : wr.cell? ⟨p, 2, none⟩ = some (.slice va bs.length vk) := (HK.out.below.cell (p := ⟨p, 2, none⟩) hz).trans HC2.out
    have hzr : p < wr.heap.size := Nat.lt_of_lt_of_le hz HK.out.below.size
    by_cases hlt : k < bs.length
    · obtain ⟨q, hq⟩ : ∃ q, bs[k]? = some q := ⟨_, List.getElem?_eq_getElem hlt⟩
      obtain ⟨a', cap', ea, _, _, h4⟩ := HSL.out
      cases ea
      obtain ⟨g, o, rfl, hr⟩ := h4 (by omega)
      have hc := (hr.below HK.out.below).2 k q hq
      have e0 := hc 0 _ rfl
      have e1 := hc 1 _ rfl
      have e2 := hc 2 _ rfl
      have hg := (hr.below HK.out.below).1
      have hqm := List.mem_of_getElem? hq
      have hql := HPF.out q hqm
      have hsl := (HA.out.posts q hqm).slOf.below HK.out.below
      obtain ⟨qa, qc, hqv, -, -, -⟩ := HA.out.posts q hqm
      have HCP := hid (copy_any wr q hsl (by omega))
      unfold bookV at HCP
      rw [hqv] at e2 HCP
      rw [Nat.add_zero] at e0
      have hk0 : (0 : Int) ≤ (k : Int) := by omega
      have hk1 : (k : Int) < (bs.length : Int) := by omega
      have hkc : k < bs.length := hlt
      have HQ := hid (And.intro hq (And.intro hqv hqm))
      clear hq hr h4 hc hqm hsl hqv
      go_wp2_with fail
      refine (HCP.out).mono ?_
      rintro e w2 ⟨vn2, rfl, ho2, hb2⟩
      obtain ⟨na, nc, hne⟩ := ownsRow_slice ho2
      subst hne
      unfold bookV
      simp only
      have hown : (w2.alloc (.cells #[.string q.1.id, .int .i64 q.1.at_, .slice na q.1.posts.length nc] 36)).ownsRow w.heap.size 36 3 v k (bs'.flatMap bookC) := (ownsRow_below HK.out.own hb2).alloc _
      have hwz : w.heap.size ≤ w2.heap.size := Nat.le_trans HK.out.below.size hb2.size
      have H2 := hid (And.intro hb2 ho2)
      clear hb2 ho2 c2 e0 e1 e2 HCP
      go_wp2_with (at_builtin; refine wpList_append_own_at _ rfl _ _ 24 rfl w.heap.size 36 i0 (.agg #[.string ⟨#[]⟩, .int .i64 0, .slice none 0 0]) 3 48 Tryd.underlying24 hi hz0 hz1 hz2 rfl (by decide) _ _ _ rfl hown ⟨w2.heap.size, 0, none⟩ 1 1 [.string q.1.id, .int .i64 q.1.at_, .slice na q.1.posts.length nc] rfl rfl (cells_new rfl) (by simp [Value.oneCell']) (by unfold maxLen; omega) (by omega) (by simp; omega) ?_; intro v' w4 ho4 hg4 _ hor)
      have H4 := hid (And.intro ho4 (And.intro hg4 hor))
      clear ho4 hg4 hor hown
      go_wp2_with fail
      go_roundw
      case rel =>
        obtain ⟨ho4, hg4, hor⟩ := H4.out
        obtain ⟨hb2, ho2⟩ := H2.out
        have hk2 := HK.out
        have hb3 : Below w2.heap.size w2 (w2.alloc (.cells #[.string q.1.id, .int .i64 q.1.at_, .slice na q.1.posts.length nc] 36)) := (Below.refl _ w2).alloc (Nat.le_refl _) _
        have T : Tch (fun x => v.ownBlock = some x) wr w4 := (Tch.of_below (Below.step hb2 hb3) (fun x => v.ownBlock = some x)).grown hg4 (fun r e => .inl e)
        have T3 : Tch (fun x => v.ownBlock = some x) w2 w4 := (Tch.of_below hb3 (fun x => v.ownBlock = some x)).grown hg4 (fun r e => .inl e)
        have hvl : ∀ x, v.ownBlock = some x → w.heap.size ≤ x ∧ x < wr.heap.size := fun x hx => hk2.own.lt x hx
        have hzs := hb2.size
        have hzz := hk2.below.size
        have hv' : ∀ x, v'.ownBlock = some x → v.ownBlock = some x ∨ x = w2.heap.size + 1 := fun x hx => by
          rcases hor with h | h
          · exact .inl (h ▸ hx)
          · rw [hx] at h
            have := Option.some.inj h
            rw [World.size_alloc] at this
            exact .inr this
        refine ⟨k + 1, v', bs' ++ [(q.1, .slice na q.1.posts.length nc)], by omega, by go_num, rfl, ?_, ?_, ?_, ?_, ?_⟩
        · rw [Lg.take_snoc HQ.out.1, List.map_append, List.map_append, hk2.same]; rfl
        · rw [List.length_append, hk2.len]; rfl
        · rw [List.flatMap_append]; exact ho4
        · intro x hx
          rcases List.mem_append.1 hx with hx | hx
          · have h6 := (hk2.posts x hx).mono (Q' := fun y => (w.heap.size ≤ y ∧ v.ownBlock ≠ some y) ∧ y < wr.heap.size) (fun y hy hly => ⟨hy, hly⟩)
            exact (h6.tch T (fun y hy => hy.1.2)).mono (fun y hy _ => ⟨hy.1.1, fun e => by
              rcases hv' y e with h | h
              · exact hy.1.2 h
              · have := hy.2; omega⟩)
          · simp at hx
            subst hx
            have h6 := (SlIn.own ho2 (fun _ _ => rfl)).mono (Q' := fun y => wr.heap.size ≤ y ∧ y < w2.heap.size) (fun y hy _ => ho2.lt y hy)
            exact (h6.tch T3 (fun y hy e => by have := hvl y e; omega)).mono (fun y hy _ => ⟨by omega, fun e => by
              rcases hv' y e with h | h
              · have := hvl y h; omega
              · omega⟩)
        · exact hk2.below.trans (T.below (by omega) (fun x hx => (hvl x hx).1))
      case measure => simp [RowKit.intOf]; omega
    · have hke : k = bs.length := by omega
      subst hke
      have HE := hid (show ListPost S.books w (.returned v) wr from by
        obtain ⟨h1, h2, h3, h4, h5⟩ := HK.out
        refine ⟨v, bs', rfl, ?_, ?_, h4, h5⟩
        · rw [h1, List.take_length]; exact HA.out.books
        · rw [h2]; exact h3)
      go_wp2_with fail
      go_ret
      exact HE.out

end Go.Proofs.YtfkcphflcmpenaaDoor

namespace Go.Proofs.YtfkcphflcmpenaaDoor
open Go.RowKit Go.Lib Go.Maps

theorem booked {w W W2 W3 W4 W5 : World} {p : Nat} {vn vc vb vb' u : Value} {bs : List (Lg.Bk × Value)} {S : Lg.S} {O : Nat → Prop} {b : Lg.Bk} {o3 : Obj}
    (H : RLedAt w p vn vc vb bs S O) (hW : Below w.heap.size w W) (ho2 : W2.ownsRow W.heap.size 47 2 u b.posts.length (b.posts.flatMap postC)) (hb2 : Below W.heap.size W W2) (e3 : W3 = W2.alloc o3)
    (g4 : W3.grownBy W4 vb.ownBlock) (n4 : vb'.ownBlock = vb.ownBlock ∨ vb'.ownBlock = some W3.heap.size)
    (r4 : W4.ownsRow 0 36 3 vb' (bs.length + 1) (bs.flatMap bookC ++ bookC (b, u))) (e5 : W5 = W4.setCell ⟨p, 2, none⟩ vb') (hi : Lg.Inv ⟨S.names, S.books ++ [b]⟩) :
    ∃ O', RLed W5 p ⟨S.names, S.books ++ [b]⟩ O' ∧ Tch O w W5 ∧ ∀ k, O' k → O k ∨ w.heap.size ≤ k := by
  have z0 := hW.size
  have z2 := hb2.size
  have z3 : W3.heap.size = W2.heap.size + 1 := by rw [e3, World.size_alloc]
  have z4 := g4.size
  have z5 : W5.heap.size = W4.heap.size := by rw [e5]; simp [World.setCell]
  have hp := H.lt p H.op
  have b2 : Below w.heap.size w W2 := Below.step hW hb2
  have b3 : Below w.heap.size w W3 := by rw [e3]; exact Below.step b2 ((Below.refl _ W2).alloc (Nat.le_refl _) _)
  have b23 : Below W2.heap.size W2 W3 := by rw [e3]; exact (Below.refl _ W2).alloc (Nat.le_refl _) _
  have T4 : Tch (fun k => vb.ownBlock = some k) w W4 := (Tch.of_below b3 _).grown g4 (fun r e => .inl e)
  have T24 : Tch (fun k => vb.ownBlock = some k) W2 W4 := (Tch.of_below b23 _).grown g4 (fun r e => .inl e)
  have P5 : Tch (fun k => k = p) W4 W5 := by rw [e5]; exact (Tch.refl (fun k => k = p) W4).setCell (a := ⟨p, 2, none⟩) (.inl rfl) _
  have T5 : Tch (fun k => vb.ownBlock = some k ∨ k = p) w W5 :=
    ⟨P5.os.trans T4.os, P5.tape.trans T4.tape, P5.output.trans T4.output, by omega, fun k hk hn => (P5.block k (by omega) (fun e => hn (.inr e))).trans (T4.block k hk (fun e => hn (.inl e)))⟩
  have T25 : Tch (fun k => vb.ownBlock = some k ∨ k = p) W2 W5 :=
    ⟨P5.os.trans T24.os, P5.tape.trans T24.tape, P5.output.trans T24.output, by omega, fun k hk hn => (P5.block k (by omega) (fun e => hn (.inr e))).trans (T24.block k hk (fun e => hn (.inl e)))⟩
  have lv : ∀ g, vb.ownBlock = some g → g < w.heap.size := fun g hg => H.lt g (H.ov g hg).1
  have lo : ∀ g, vn.ownBlock = some g → g < w.heap.size := fun g hg => H.lt g (H.on g hg).1
  have lc : ∀ g, vc.ownBlock = some g → g < w.heap.size := fun g hg => H.lt g (H.oc g hg).1
  have hv' : ∀ g, vb'.ownBlock = some g → vb.ownBlock = some g ∨ g = W2.heap.size + 0 + W3.heap.size - W2.heap.size := fun g hg => by
    rcases own_or n4 hg with h | h
    · exact .inl h
    · exact .inr (by omega)
  have h4p : W4.heap[p]? = some (.cells #[vn, vc, vb] 58 (0, 0)) := (T4.block p hp (fun e => (H.ov p e).2.1 rfl)).trans H.hp
  have h5p : W5.heap[p]? = some (.cells #[vn, vc, vb'] 58 (0, 0)) := by rw [e5]; exact blk_set h4p 2 vb'
  have bp : ∀ g, vb'.ownBlock = some g → g ≠ p := fun g hg => by
    rcases hv' g hg with h | h
    · exact (H.ov g h).2.1
    · omega
  have rb : W5.ownsRow 0 36 3 vb' (bs.length + 1) (bs.flatMap bookC ++ bookC (b, u)) := ownsRow_tch r4 P5 bp
  have rn : W5.ownsRow 0 9 1 vn S.names.length (S.names.flatMap nmC) := ownsRow_tch H.names T5 (fun g hg e => by
    rcases e with e | e
    · exact (H.on g hg).2.2.2 e
    · exact (H.on g hg).2.1 e)
  have rc : W5.ownsRow 0 4 1 vc S.names.length (S.names.flatMap crC) := ownsRow_tch H.credit T5 (fun g hg e => by
    rcases e with e | e
    · exact (H.oc g hg).2.2.2 e
    · exact (H.oc g hg).2.1 e)
  have inb : ∀ g, vb'.ownBlock = some g → O g ∨ (w.heap.size ≤ g ∧ g < W5.heap.size) := fun g hg => by
    rcases hv' g hg with h | h
    · exact .inl (H.ov g h).1
    · exact .inr ⟨by omega, (rb.lt g hg).2⟩
  have nb : ∀ g, vb'.ownBlock = some g → vn.ownBlock ≠ some g := fun g hg e => by
    rcases hv' g hg with h | h
    · exact (H.ov g h).2.2.1 e
    · have := lo g e; omega
  have cb : ∀ g, vb'.ownBlock = some g → vc.ownBlock ≠ some g := fun g hg e => by
    rcases hv' g hg with h | h
    · exact (H.ov g h).2.2.2 e
    · have := lc g e; omega
  refine ⟨fun k => O k ∨ (w.heap.size ≤ k ∧ k < W5.heap.size), ⟨vn, vc, vb', bs ++ [(b, u)], ?_⟩, ?_, fun k hk => hk.imp id And.left⟩
  · exact {
      hp := h5p
      names := rn
      credit := rc
      row := by rw [List.length_append, List.flatMap_append]; simpa using rb
      books := by rw [List.map_append, H.books]; rfl
      posts := fun q hq => by
        rcases List.mem_append.1 hq with hq | hq
        · exact ((H.posts q hq).tch T5 (fun k hk e => by
            obtain ⟨_, h1, h2, h3, h4⟩ := hk
            rcases e with e | e
            · exact h4 e
            · exact h1 e)).mono (fun k hk _ => ⟨.inl hk.1, hk.2.1, hk.2.2.1, hk.2.2.2.1, fun e => by
              have hl := H.lt k hk.1
              rcases hv' k e with h | h
              · exact hk.2.2.2.2 h
              · omega⟩)
        · simp at hq
          subst hq
          have h6 := (SlIn.own ho2 (fun _ _ => rfl)).mono (Q' := fun y => W.heap.size ≤ y ∧ y < W2.heap.size) (fun y hy _ => ho2.lt y hy)
          refine (h6.tch T25 (fun y hy e => ?_)).mono (fun y hy hy5 => ⟨.inr ⟨by omega, hy5⟩, by omega, fun e => ?_, fun e => ?_, fun e => ?_⟩)
          · rcases e with e | e
            · have := lv y e; omega
            · omega
          · have := lo y e; omega
          · have := lc y e; omega
          · rcases hv' y e with h | h
            · have := lv y h; omega
            · omega
      op := .inl H.op
      on := fun g hg => ⟨.inl (H.on g hg).1, (H.on g hg).2.1, (H.on g hg).2.2.1, fun e => nb g e hg⟩
      oc := fun g hg => ⟨.inl (H.oc g hg).1, (H.oc g hg).2.1, (H.oc g hg).2.2.1, fun e => cb g e hg⟩
      ov := fun g hg => ⟨inb g hg, bp g hg, nb g hg, cb g hg⟩
      inv := hi
      lt := fun k hk => by
        rcases hk with h | h
        · have := H.lt k h; omega
        · exact h.2 }
  · exact T5.mono (fun k hk => by
      rcases hk with h | h
      · exact (H.ov k h).1
      · rw [h]; exact H.op)

/-- what stands there while Book only looks -/
structure RBW (w W : World) (p : Nat) (vn vc vb v : Value) (b : Lg.Bk) : Prop where
  below : Below w.heap.size w W
  box : W.heap[w.heap.size]? = some (.cells #[.string b.id, .int .i64 b.at_, v] 36 (0, 0))
  led : W.heap[p]? = some (.cells #[vn, vc, vb] 58 (0, 0))
  lt : p < w.heap.size

theorem RBW.go {w W W' : World} {p : Nat} {vn vc vb v : Value} {b : Lg.Bk} (h : RBW w W p vn vc vb v b) (hb : Below W.heap.size W W') : RBW w W' p vn vc vb v b :=
  ⟨Below.step h.below hb, (hb.block _ (Array.getElem?_eq_some_iff.1 h.box).1).trans h.box, (hb.block _ (Array.getElem?_eq_some_iff.1 h.led).1).trans h.led, h.lt⟩
theorem RBW.drewN {w W : World} {p : Nat} {vn vc vb v : Value} {b : Lg.Bk} (h : RBW w W p vn vc vb v b) (q : Nat) : RBW w (W.drewN q) p vn vc vb v b := h.go (Below.drewQ _ q)
theorem RBW.cells {w W : World} {p : Nat} {vn vc vb v : Value} {b : Lg.Bk} (h : RBW w W p vn vc vb v b) :
    W.cell? ⟨w.heap.size, 0, none⟩ = some (.string b.id) ∧ W.cell? ⟨w.heap.size, 1, none⟩ = some (.int .i64 b.at_) ∧ W.cell? ⟨w.heap.size, 2, none⟩ = some v ∧
    W.cell? ⟨p, 1, none⟩ = some vc ∧ W.cell? ⟨p, 2, none⟩ = some vb ∧ w.heap.size < W.heap.size ∧ p < W.heap.size := by
  refine ⟨?_, ?_, ?_, ?_, ?_, (Array.getElem?_eq_some_iff.1 h.box).1, (Array.getElem?_eq_some_iff.1 h.led).1⟩
  · simp [World.cell?, h.box]
  · simp [World.cell?, h.box]
  · simp [World.cell?, h.box]
  · simp [World.cell?, h.led]
  · simp [World.cell?, h.led]

theorem lacks_snoc {S : Lg.S} {l : List (ByteArray × Int)} {q : ByteArray × Int} (h : Lg.lacks S l = false) (h2 : (Lg.credit S q.1).isNone = false) : Lg.lacks S (l ++ [q]) = false := by
  unfold Lg.lacks at *
  rw [List.any_append, h]
  simp [h2]
theorem below_snoc {S : Lg.S} {l : List (ByteArray × Int)} {q : ByteArray × Int} (h : Lg.below S l = false) (h2 : (Lg.credit S q.1 == some false && decide (Lg.sumB S.books q.1 + q.2 < 0)) = false) : Lg.below S (l ++ [q]) = false := by
  unfold Lg.below at *
  rw [List.any_append, h]
  simp only [List.any_cons, List.any_nil, Bool.or_false, Bool.false_or]
  exact h2

end Go.Proofs.YtfkcphflcmpenaaDoor
