/- Parts of the proof that lean on no program: WalkV, SFlk, SWalk, SLeast, SFirst. -/
import Derived.Test.YthbebnfhplacnaaGreatRows
import Derived.Test.YthbebnfhplacnaaGreatCore
import Derived.Test.YthbebnfhplacnaaGreatPlains
import Derived.Test.YthbebnfhplacnaaGreatMaps
import Derived.Test.YthbebnfhplacnaaGreatInfos
import Derived.Test.YthbebnfhplacnaaGreatSBase
import Derived.WalkKit
import Derived.WalkSpells
import Derived.WalkLawsBesides
import Derived.Deep.QuietTactic
import Derived.Deep.OwnRows
import Derived.BigQuiet
import Derived.KernelRfl
namespace Go.Proofs.YthbebnfhplacnaaGreat
open Go.RowKit

section
structure SL (e1 e2 e3 : TypeId) (B bx sb N : Nat) (w : World) (v1 v2 v3 : Value) (xs : List Nat) (ys zs : List Int) (seen : Nat → Bool) : Prop where
  l1 : GrowK .i64 B e1 w v1 xs
  l2 : Grow B e1 w v2 ys
  l3 : Grow B e2 w v3 zs
  row : w.rowIs sb e3 N (fun j => .bool (seen j))
  d12 : v1.ownBlock ≠ v2.ownBlock
  d13 : v1.ownBlock ≠ v3.ownBlock
  d23 : v2.ownBlock ≠ v3.ownBlock
  b1 : v1.ownBlock ≠ some bx
  b2 : v2.ownBlock ≠ some bx
  b3 : v3.ownBlock ≠ some bx
  s1 : v1.ownBlock ≠ some sb
  s2 : v2.ownBlock ≠ some sb
  s3 : v3.ownBlock ≠ some sb
  sbx : sb ≠ bx
  sB : B ≤ sb
section
variable {e1 e2 e3 : TypeId} {B bx sb N : Nat} {w w' : World} {v1 v2 v3 : Value} {xs : List Nat} {ys zs : List Int} {seen : Nat → Bool}
theorem SL.new (h : SL e1 e2 e3 B bx sb N w v1 v2 v3 xs ys zs seen) (hn : New w w') : SL e1 e2 e3 B bx sb N w' v1 v2 v3 xs ys zs seen :=
  { h with l1 := h.l1.new hn, l2 := h.l2.new hn, l3 := h.l3.new hn, row := h.row.of_block (hn.block sb h.row.lt) }
theorem SL.box (h : SL e1 e2 e3 B bx sb N w v1 v2 v3 xs ys zs seen) (hg : w.grownBy w' (some bx)) : SL e1 e2 e3 B bx sb N w' v1 v2 v3 xs ys zs seen :=
  { h with l1 := ownsRow_grown h.l1 hg (Or.inl h.b1), l2 := ownsRow_grown h.l2 hg (Or.inl h.b2), l3 := ownsRow_grown h.l3 hg (Or.inl h.b3), row := h.row.of_block (hg.block sb h.row.lt (by simpa using h.sbx)) }
theorem SL.mark (h : SL e1 e2 e3 B bx sb N w v1 v2 v3 xs ys zs seen) (x : Nat) : SL e1 e2 e3 B bx sb N (w.setCell ⟨sb, x, none⟩ (.bool true)) v1 v2 v3 xs ys zs (fun j => if j = x then true else seen j) :=
  { h with
    l1 := ownsRow_grown h.l1 (grown_setCell w ⟨sb, x, none⟩ _) (Or.inl h.s1)
    l2 := ownsRow_grown h.l2 (grown_setCell w ⟨sb, x, none⟩ _) (Or.inl h.s2)
    l3 := ownsRow_grown h.l3 (grown_setCell w ⟨sb, x, none⟩ _) (Or.inl h.s3)
    row := (h.row.set x (.bool true)).congr (fun i _ => by by_cases e : i = x <;> simp [e]) }
theorem SL.lt (h : SL e1 e2 e3 B bx sb N w v1 v2 v3 xs ys zs seen) : (∀ k, v1.ownBlock = some k → B ≤ k ∧ k < w.heap.size) ∧ (∀ k, v2.ownBlock = some k → B ≤ k ∧ k < w.heap.size) ∧ (∀ k, v3.ownBlock = some k → B ≤ k ∧ k < w.heap.size) ∧ sb < w.heap.size :=
  ⟨h.l1.block, h.l2.block, h.l3.block, h.row.lt⟩
theorem apart_new {v u : Value} {g n cap : Nat} (hd : v.ownBlock ≠ u.ownBlock) (hu : ∀ k, u.ownBlock = some k → k < w.heap.size) (hloc : v.ownBlock = some g ∨ w.heap.size ≤ g) : (Value.slice (some ⟨g, 0, none⟩) n cap).ownBlock ≠ u.ownBlock := by
  intro e
  rcases hloc with h | h
  · exact hd (h.trans e)
  · have := hu g e.symm; omega
theorem apart_blk {v : Value} {g n cap b : Nat} (hd : v.ownBlock ≠ some b) (hb : b < w.heap.size) (hloc : v.ownBlock = some g ∨ w.heap.size ≤ g) : (Value.slice (some ⟨g, 0, none⟩) n cap).ownBlock ≠ some b := by
  intro e
  simp [Value.ownBlock] at e
  rcases hloc with h | h
  · rw [h, e] at hd; exact hd rfl
  · omega
theorem SL.app1 {g n cap x : Nat} (h : SL e1 e2 e3 B bx sb N w v1 v2 v3 xs ys zs seen) (hbx : bx < w.heap.size) (ho : GrowK .i64 B e1 w' (.slice (some ⟨g, 0, none⟩) n cap) (xs ++ [x])) (hg : w.grownBy w' v1.ownBlock) (hloc : v1.ownBlock = some g ∨ w.heap.size ≤ g) :
    SL e1 e2 e3 B bx sb N w' (.slice (some ⟨g, 0, none⟩) n cap) v2 v3 (xs ++ [x]) ys zs seen :=
  { h with
    l1 := ho
    l2 := ownsRow_grown h.l2 hg (Or.inl h.d12.symm)
    l3 := ownsRow_grown h.l3 hg (Or.inl h.d13.symm)
    row := h.row.of_block (hg.block sb h.row.lt h.s1.symm)
    d12 := apart_new h.d12 (fun k hk => (h.lt.2.1 k hk).2) hloc
    d13 := apart_new h.d13 (fun k hk => (h.lt.2.2.1 k hk).2) hloc
    b1 := apart_blk h.b1 hbx hloc
    s1 := apart_blk h.s1 h.row.lt hloc }
theorem SL.app2 {g n cap : Nat} {y : Int} (h : SL e1 e2 e3 B bx sb N w v1 v2 v3 xs ys zs seen) (hbx : bx < w.heap.size) (ho : Grow B e1 w' (.slice (some ⟨g, 0, none⟩) n cap) (ys ++ [y])) (hg : w.grownBy w' v2.ownBlock) (hloc : v2.ownBlock = some g ∨ w.heap.size ≤ g) :
    SL e1 e2 e3 B bx sb N w' v1 (.slice (some ⟨g, 0, none⟩) n cap) v3 xs (ys ++ [y]) zs seen :=
  { h with
    l2 := ho
    l1 := ownsRow_grown h.l1 hg (Or.inl h.d12)
    l3 := ownsRow_grown h.l3 hg (Or.inl h.d23.symm)
    row := h.row.of_block (hg.block sb h.row.lt h.s2.symm)
    d12 := (apart_new h.d12.symm (fun k hk => (h.lt.1 k hk).2) hloc).symm
    d23 := apart_new h.d23 (fun k hk => (h.lt.2.2.1 k hk).2) hloc
    b2 := apart_blk h.b2 hbx hloc
    s2 := apart_blk h.s2 h.row.lt hloc }
theorem SL.app3 {g n cap : Nat} {z : Int} (h : SL e1 e2 e3 B bx sb N w v1 v2 v3 xs ys zs seen) (hbx : bx < w.heap.size) (ho : Grow B e2 w' (.slice (some ⟨g, 0, none⟩) n cap) (zs ++ [z])) (hg : w.grownBy w' v3.ownBlock) (hloc : v3.ownBlock = some g ∨ w.heap.size ≤ g) :
    SL e1 e2 e3 B bx sb N w' v1 v2 (.slice (some ⟨g, 0, none⟩) n cap) xs ys (zs ++ [z]) seen :=
  { h with
    l3 := ho
    l1 := ownsRow_grown h.l1 hg (Or.inl h.d13)
    l2 := ownsRow_grown h.l2 hg (Or.inl h.d23)
    row := h.row.of_block (hg.block sb h.row.lt h.s3.symm)
    d13 := (apart_new h.d13.symm (fun k hk => (h.lt.1 k hk).2) hloc).symm
    d23 := (apart_new h.d23.symm (fun k hk => (h.lt.2.1 k hk).2) hloc).symm
    b3 := apart_blk h.b3 hbx hloc
    s3 := apart_blk h.s3 h.row.lt hloc }
end
/-- A box of three cells that may be written. -/
def BoxW3 (w : World) (b : Nat) (u v x : Value) : Prop := w.cell? ⟨b, 0, none⟩ = some u ∧ w.cell? ⟨b, 1, none⟩ = some v ∧ w.cell? ⟨b, 2, none⟩ = some x ∧ w.frozen? ⟨b, 0, none⟩ = false ∧ w.frozen? ⟨b, 1, none⟩ = false ∧ w.frozen? ⟨b, 2, none⟩ = false
theorem BoxW3.block {w w' : World} {b : Nat} {u v x : Value} (h : BoxW3 w b u v x) (hb : w'.heap[b]? = w.heap[b]?) : BoxW3 w' b u v x := by
  obtain ⟨h0, h1, h2, h3, h4, h5⟩ := h
  refine ⟨?_, ?_, ?_, ?_, ?_, ?_⟩
  · rw [World.cell?_of_block (w := w) hb]; exact h0
  · rw [World.cell?_of_block (w := w) hb]; exact h1
  · rw [World.cell?_of_block (w := w) hb]; exact h2
  · rw [World.frozen?_of_block (w := w) hb]; exact h3
  · rw [World.frozen?_of_block (w := w) hb]; exact h4
  · rw [World.frozen?_of_block (w := w) hb]; exact h5
theorem BoxW3.lt {w : World} {b : Nat} {u v x : Value} (h : BoxW3 w b u v x) : b < w.heap.size := World.block_lt_of_cell? w _ h.1
theorem BoxW3.new {w w' : World} {b : Nat} {u v x : Value} (h : BoxW3 w b u v x) (hn : New w w') : BoxW3 w' b u v x := h.block (hn.block b h.lt)
theorem BoxW3.grown {w w' : World} {b : Nat} {u v x : Value} {r : Option Nat} (h : BoxW3 w b u v x) (hg : w.grownBy w' r) (hr : r ≠ some b) : BoxW3 w' b u v x := h.block (hg.block b h.lt (fun e => hr e.symm))
theorem BoxW3.set0 {w : World} {b : Nat} {u v x : Value} (h : BoxW3 w b u v x) (y : Value) : BoxW3 (w.setCell ⟨b, 0, none⟩ y) b y v x :=
  ⟨World.cell?_setCell_same _ _ _ h.1, by rw [World.cell?_setCell_other]; exact h.2.1; simp, by rw [World.cell?_setCell_other]; exact h.2.2.1; simp, by simpa using h.2.2.2.1, by simpa using h.2.2.2.2.1, by simpa using h.2.2.2.2.2⟩
theorem BoxW3.set1 {w : World} {b : Nat} {u v x : Value} (h : BoxW3 w b u v x) (y : Value) : BoxW3 (w.setCell ⟨b, 1, none⟩ y) b u y x :=
  ⟨by rw [World.cell?_setCell_other]; exact h.1; simp, World.cell?_setCell_same _ _ _ h.2.1, by rw [World.cell?_setCell_other]; exact h.2.2.1; simp, by simpa using h.2.2.2.1, by simpa using h.2.2.2.2.1, by simpa using h.2.2.2.2.2⟩
theorem BoxW3.set2 {w : World} {b : Nat} {u v x : Value} (h : BoxW3 w b u v x) (y : Value) : BoxW3 (w.setCell ⟨b, 2, none⟩ y) b u v y :=
  ⟨by rw [World.cell?_setCell_other]; exact h.1; simp, by rw [World.cell?_setCell_other]; exact h.2.1; simp, World.cell?_setCell_same _ _ _ h.2.2.1, by simpa using h.2.2.2.1, by simpa using h.2.2.2.2.1, by simpa using h.2.2.2.2.2⟩
theorem BoxW3.other {w : World} {b : Nat} {u v x : Value} (h : BoxW3 w b u v x) (p : Addr) (hp : p.block ≠ b) (y : Value) : BoxW3 (w.setCell p y) b u v x := h.block (Below.heap_setCell _ _ _ _ (Ne.symm hp))
/-- A pointer to the reference's walk. -/
def PWalk (w : World) (v : Value) (t : Tour) : Prop :=
  ∃ b s1 s2 s3, v = .pointer (some ⟨b, 0, none⟩) ∧ w.cell? ⟨b, 0, none⟩ = some s1 ∧ w.cell? ⟨b, 1, none⟩ = some s2 ∧ w.cell? ⟨b, 2, none⟩ = some s3 ∧ NatsAt .i64 w s1 t.sets ∧ IntsAt w s2 t.before ∧ IntsAt w s3 t.letters
theorem PWalk.new {w w' : World} {v : Value} {t : Tour} (h : PWalk w v t) (hn : New w w') : PWalk w' v t :=
  let ⟨b, s1, s2, s3, e, h0, h1, h2, h3, h4, h5⟩ := h; ⟨b, s1, s2, s3, e, hn.cell h0, hn.cell h1, hn.cell h2, h3.new hn, h4.new hn, h5.new hn⟩
theorem ownsRow_oneW {B : Nat} {e : TypeId} (w : World) (z : Value) (h : B ≤ w.heap.size) : (w.alloc (.cells #[z] e)).ownsRow B e 1 (.slice (some ⟨w.heap.size, 0, none⟩) 1 1) 1 [z] :=
  ⟨rfl, .inr ⟨w.heap.size, 1, #[z], rfl, h, heap_alloc_new w _, Nat.le_refl _, by decide, rfl, rfl⟩⟩
theorem two_pow_wrap (n : Nat) (h : n ≤ 10) : Go.RowKit.wrap64 ((2 : Int) ^ n) = ((2 ^ n : Nat) : Int) := by
  have := pow10' n h
  rw [cast_pow, wrap64_wrap, wrap_i64_nat _ (by omega)]
end
section
set_option maxHeartbeats 400000 in
theorem l02Single_any (F : Nat) (w : World) (hF : F < 1024) :
    Calls Tryz.prog 86 #[.int .i64 F] w fun e w' => e = .returned (.bool (smallB F)) ∧ w' = w := by
  have h := small_raw F hF
  rw [← smallB_eq, ← h]
  clear h
  go_enter Tryz.func86, Tryz.ntmps86
  go_wp2
  go_ret
  exact ⟨rfl, rfl⟩
set_option maxRecDepth 20000 in
set_option maxHeartbeats 800000 in
theorem l02Moved_any (v : Value) (row : List Int) (F : Nat) (w : World) (h : IntsAt w v row) (hF : F < 2 ^ row.length) (hlen : row.length ≤ 10) (hr : ∀ i, i < row.length → 0 ≤ nth row i ∧ nth row i < 10) :
    Calls Tryz.prog 103 #[v, .int .i64 F] w fun e w' => e = .returned (.int .i64 (moved row F)) ∧ w' = w := by
  obtain ⟨A, c, rfl, hl, hc⟩ := h
  have HX := hid hr
  have hF10 := lt_10 hF hlen
  rw [moved_eq row hF hlen]
  clear hr hF
  go_enter Tryz.func103, Tryz.ntmps103
  go_wp2
  go_loop [5, 6] (fun q i => ∃ k : Nat, k ≤ row.length ∧ i = .int .i64 k ∧ q = .int .i64 (moveB row F k)) (fun _ i => row.length - (intOf i).toNat)
  case atStart => exact ⟨0, Nat.zero_le _, rfl, rfl⟩
  case round =>
    obtain ⟨k, hk, rfl, rfl⟩ := hrel
    by_cases hlt : k < row.length
    · obtain ⟨b, off, rfl, hx⟩ := hc k hlt
      have b1 : (k : Int) < (row.length : Int) := by omega
      obtain ⟨x0, x1⟩ := HX.out k hlt
      have hb := bit_i64 F k hF10
      clear hc
      cases hq : F.testBit k with
      | true =>
        rw [hq, if_pos rfl] at hb
        have HQ := hid hq
        clear hq
        go_wp2
        go_round
        case rel => exact ⟨k + 1, by omega, by go_num, by
            rw [moveB_succ, if_pos HQ.out, or_w64 _ _ (moveB_lt row F 10 k (fun i hi _ => by have := HX.out i (by omega); omega)) (by omega)]⟩
        case measure => simp [intOf]; omega
      | false =>
        rw [hq, if_neg (by simp)] at hb
        have HQ := hid hq
        clear hq
        go_wp2
        go_round
        case rel => exact ⟨k + 1, by omega, by go_num, by rw [moveB_succ, if_neg (by rw [HQ.out]; simp)]⟩
        case measure => simp [intOf]; omega
    · have e : k = row.length := by omega
      subst e
      go_wp2
      go_ret
      exact ⟨rfl, rfl⟩
end
section
theorem SL.congr {e1 e2 e3 : TypeId} {B bx sb N : Nat} {w : World} {v1 v2 v3 : Value} {xs : List Nat} {ys zs : List Int} {seen seen' : Nat → Bool} (h : SL e1 e2 e3 B bx sb N w v1 v2 v3 xs ys zs seen) (e : ∀ j, seen j = seen' j) : SL e1 e2 e3 B bx sb N w v1 v2 v3 xs ys zs seen' := by
  have : seen = seen' := funext e
  rw [← this]; exact h
set_option maxRecDepth 20000 in
set_option maxHeartbeats 2000000 in
theorem l02From_any (p : Value) (a : Aut) (f : Nat) (w : World) (hp : PAut w p a) (ha : autOk a = true) (hf : f < 2 ^ a.n.toNat) :
    Calls Tryz.prog 85 #[p, .int .i64 f] w fun e w' => ∃ v, e = .returned v ∧ New w w' ∧ PWalk w' v (tourOf a.nx f) := by
  obtain ⟨pb, rv, rfl, hp0, hp1, hpr⟩ := hp
  obtain ⟨A2, c2, rfl, hl2, hc2⟩ := id hpr
  have hal := autOk_l ha
  have han := autOk_n ha
  obtain ⟨m, hm⟩ : ∃ m : Nat, a.n = (m : Int) := ⟨a.n.toNat, by omega⟩
  have hm10 : m ≤ 10 := by omega
  have HF := hid hf
  have HA := hid ha
  have HM := hid hm
  rw [hm] at hp0 hf
  rw [Int.toNat_natCast] at hf
  obtain ⟨N, hN⟩ : ∃ N, N = 2 ^ m := ⟨_, rfl⟩
  have hN10 : N ≤ 1024 := by rw [hN]; exact pow10' m hm10
  have hmk : ∀ w : World, (Instr.makeSlice 137 (.int .i64 (Go.RowKit.wrap64 ((2 : Int) ^ m))) (.int .i64 (Go.RowKit.wrap64 ((2 : Int) ^ m)))).run Tryz.prog w = .ok (.slice (some ⟨w.heap.size, 0, none⟩) N N) (w.alloc (.cells (madeCells #[.bool false] N) 4)) := fun w => by
    rw [two_pow_wrap m hm10, ← hN]
    exact run_make_row' (P := Tryz.prog) 137 4 (.bool false) 1 Tryz.underlying137 info_bool rfl .i64 .i64 N (by omega) (by omega) w
  have hfN : (f : Int) < (N : Int) := by omega
  have HN := hid hN
  clear hm ha hN han
  obtain ⟨wk, hwk⟩ : ∃ wk, wk = ((((w.alloc (.cells #[.int .i64 (f : Nat)] 3)).alloc (.cells #[.int .i64 (-1)] 3)).alloc (.cells #[.int .i64 0] 2)).alloc (.cells #[.slice (some ⟨w.heap.size, 0, none⟩) 1 1, .slice (some ⟨w.heap.size + 1, 0, none⟩) 1 1, .slice (some ⟨w.heap.size + 1 + 1, 0, none⟩) 1 1] 119)).alloc (.cells (madeCells #[.bool false] N) 4) := ⟨_, rfl⟩
  have hnk : New w wk := by rw [hwk]; exact (by repeat (first | with_reducible exact New.refl _ | with_reducible assumption | with_reducible refine New.alloc ?_ _ | with_reducible refine New.drew ?_ | with_reducible refine New.drewN ?_ _ | with_reducible refine New.setCell ?_ (by simp <;> omega) _))
  have hzk : wk.heap.size = w.heap.size + 5 := by rw [hwk]; simp only [size_alloc]
  have hbk : BoxW3 wk (w.heap.size + 1 + 1 + 1) (.slice (some ⟨w.heap.size, 0, none⟩) 1 1) (.slice (some ⟨w.heap.size + 1, 0, none⟩) 1 1) (.slice (some ⟨w.heap.size + 1 + 1, 0, none⟩) 1 1) := by rw [hwk]; exact ⟨by go_simp, by go_simp, by go_simp, by go_simp, by go_simp, by go_simp⟩
  have hSk : SL 3 2 4 w.heap.size (w.heap.size + 1 + 1 + 1) (w.heap.size + 1 + 1 + 1 + 1) N wk (.slice (some ⟨w.heap.size, 0, none⟩) 1 1) (.slice (some ⟨w.heap.size + 1, 0, none⟩) 1 1) (.slice (some ⟨w.heap.size + 1 + 1, 0, none⟩) 1 1) [f] [-1] [0] (fun _ => false) := by
    have r1 := (GrowK.one .i64 w.heap.size 3 w f (Nat.le_refl _)).new (w' := wk) (by rw [hwk]; exact (by repeat (first | with_reducible exact New.refl _ | with_reducible assumption | with_reducible refine New.alloc ?_ _ | with_reducible refine New.drew ?_ | with_reducible refine New.drewN ?_ _ | with_reducible refine New.setCell ?_ (by simp <;> omega) _)))
    have r2 := ownsRow_oneW (B := w.heap.size) (e := 3) (w.alloc (.cells #[.int .i64 (f : Nat)] 3)) (.int .i64 (-1)) (by (try simp only [sizes]) <;> omega)
    have r3 := ownsRow_oneW (B := w.heap.size) (e := 2) ((w.alloc (.cells #[.int .i64 (f : Nat)] 3)).alloc (.cells #[.int .i64 (-1)] 3)) (.int .i64 0) (by (try simp only [sizes]) <;> omega)
    have r4 := World.rowIs_made ((((w.alloc (.cells #[.int .i64 (f : Nat)] 3)).alloc (.cells #[.int .i64 (-1)] 3)).alloc (.cells #[.int .i64 0] 2)).alloc (.cells #[.slice (some ⟨w.heap.size, 0, none⟩) 1 1, .slice (some ⟨w.heap.size + 1, 0, none⟩) 1 1, .slice (some ⟨w.heap.size + 1 + 1, 0, none⟩) 1 1] 119)) (.bool false) N 4
    rw [← hwk] at r4
    simp only [size_alloc] at r2 r3 r4
    have n2 : New ((w.alloc (.cells #[.int .i64 (f : Nat)] 3)).alloc (.cells #[.int .i64 (-1)] 3)) wk := by rw [hwk]; exact (by repeat (first | with_reducible exact New.refl _ | with_reducible assumption | with_reducible refine New.alloc ?_ _ | with_reducible refine New.drew ?_ | with_reducible refine New.drewN ?_ _ | with_reducible refine New.setCell ?_ (by simp <;> omega) _))
    have n3 : New (((w.alloc (.cells #[.int .i64 (f : Nat)] 3)).alloc (.cells #[.int .i64 (-1)] 3)).alloc (.cells #[.int .i64 0] 2)) wk := by rw [hwk]; exact (by repeat (first | with_reducible exact New.refl _ | with_reducible assumption | with_reducible refine New.alloc ?_ _ | with_reducible refine New.drew ?_ | with_reducible refine New.drewN ?_ _ | with_reducible refine New.setCell ?_ (by simp <;> omega) _))
    refine ⟨r1, ownsRow_new r2 n2, ownsRow_new r3 n3, r4, ?_, ?_, ?_, ?_, ?_, ?_, ?_, ?_, ?_, ?_, ?_⟩ <;> (try simp [Value.ownBlock]) <;> omega
  have hp0k : ((((w.alloc (.cells #[.int .i64 (f : Nat)] 3)).alloc (.cells #[.int .i64 (-1)] 3)).alloc (.cells #[.int .i64 0] 2)).alloc (.cells #[.slice (some ⟨w.heap.size, 0, none⟩) 1 1, .slice (some ⟨w.heap.size + 1, 0, none⟩) 1 1, .slice (some ⟨w.heap.size + 1 + 1, 0, none⟩) 1 1] 119)).cell? ⟨pb, 0, none⟩ = some (.int .i64 (m : Nat)) := New.cell (w := w) (by repeat (first | with_reducible exact New.refl _ | with_reducible assumption | with_reducible refine New.alloc ?_ _ | with_reducible refine New.drew ?_ | with_reducible refine New.drewN ?_ _ | with_reducible refine New.setCell ?_ (by simp <;> omega) _)) hp0
  have hpb : pb < w.heap.size := World.block_lt_of_cell? w _ hp0
  have hpb1 : pb < w.heap.size + 1 := by omega
  have hpb2 : pb < w.heap.size + 1 + 1 := by omega
  have hpb3 : pb < w.heap.size + 1 + 1 + 1 := by omega
  obtain ⟨wi, hwi⟩ : ∃ wi, wi = ((((w.alloc (.cells #[.int .i64 (f : Nat)] 3)).alloc (.cells #[.int .i64 (-1)] 3)).alloc (.cells #[.int .i64 0] 2)).alloc (.cells #[.slice (some ⟨w.heap.size, 0, none⟩) 1 1, .slice (some ⟨w.heap.size + 1, 0, none⟩) 1 1, .slice (some ⟨w.heap.size + 1 + 1, 0, none⟩) 1 1] 119)).alloc (.cells ((madeCells #[.bool false] N).setIfInBounds f (.bool true)) 4) := ⟨_, rfl⟩
  have hei : wi = wk.setCell ⟨w.heap.size + 1 + 1 + 1 + 1, f, none⟩ (.bool true) := by rw [hwk, hwi]; refine (World.setCell_alloc_at _ _ _ _ _ ?_).symm; simp only [size_alloc]
  have hni : New w wi := by rw [hei]; exact hnk.setCell (by show w.heap.size ≤ w.heap.size + 1 + 1 + 1 + 1; omega) _
  have hzi : wi.heap.size = w.heap.size + 5 := by rw [hei, size_setCell, hzk]
  have hbi : BoxW3 wi (w.heap.size + 1 + 1 + 1) (.slice (some ⟨w.heap.size, 0, none⟩) 1 1) (.slice (some ⟨w.heap.size + 1, 0, none⟩) 1 1) (.slice (some ⟨w.heap.size + 1 + 1, 0, none⟩) 1 1) := by rw [hei]; exact hbk.other _ (by simp) _
  have hSi : SL 3 2 4 w.heap.size (w.heap.size + 1 + 1 + 1) (w.heap.size + 1 + 1 + 1 + 1) N wi (.slice (some ⟨w.heap.size, 0, none⟩) 1 1) (.slice (some ⟨w.heap.size + 1, 0, none⟩) 1 1) (.slice (some ⟨w.heap.size + 1 + 1, 0, none⟩) 1 1) (tTo a.nx f 0).sets (tTo a.nx f 0).before (tTo a.nx f 0).letters (fun j => (tTo a.nx f 0).sets.contains j) := by
    rw [hei]
    refine (hSk.mark f).congr fun j => ?_
    rw [tTo_zero]
    by_cases e : j = f <;> simp [tStart, e]
  have hmc : (madeCells #[Value.bool false] N)[f]? = some (.bool false) := by
    have := hSk.row.cell (by omega : f < N)
    rw [hwk] at this
    rw [← World.cell?_alloc_at (w := ((((w.alloc (.cells #[.int .i64 (f : Nat)] 3)).alloc (.cells #[.int .i64 (-1)] 3)).alloc (.cells #[.int .i64 0] 2)).alloc (.cells #[.slice (some ⟨w.heap.size, 0, none⟩) 1 1, .slice (some ⟨w.heap.size + 1, 0, none⟩) 1 1, .slice (some ⟨w.heap.size + 1 + 1, 0, none⟩) 1 1] 119))) (madeCells #[Value.bool false] N) 4 (w.heap.size + 1 + 1 + 1 + 1) f (by simp only [size_alloc])]
    exact this
  go_enter Tryz.func85, Tryz.ntmps85
  go_wp2
  rw [← hwi]
  clear hmc hp0k hpb hpb1 hpb2 hpb3 hwi hwk hei hmk hbk hSk hnk hzk hfN
  obtain ⟨bx, hbx⟩ : ∃ bx, bx = w.heap.size + 1 + 1 + 1 := ⟨_, rfl⟩
  obtain ⟨sb, hsb⟩ : ∃ sb, sb = w.heap.size + 1 + 1 + 1 + 1 := ⟨_, rfl⟩
  rw [← hsb] at hSi ⊢
  rw [← hbx] at hSi hbi ⊢
  have hbxs : w.heap.size ≤ bx := by omega
  have hbs : bx < sb := by omega
  have hsbs : w.heap.size ≤ sb := by omega
  clear hbx hsb hzi
  go_loopw [7] (fun i wr => ∃ (k : Nat) (v1 v2 v3 : Value), i = .int .i64 k ∧ k ≤ (tTo a.nx f k).sets.length ∧ New w wr ∧ BoxW3 wr bx v1 v2 v3 ∧ SL 3 2 4 w.heap.size bx sb N wr v1 v2 v3 (tTo a.nx f k).sets (tTo a.nx f k).before (tTo a.nx f k).letters (fun j => (tTo a.nx f k).sets.contains j)) (fun i _ => 1025 - (intOf i).toNat)
  case atStart => exact ⟨0, _, _, _, rfl, Nat.zero_le _, hni, hbi, hSi⟩
  case round =>
    obtain ⟨k, v1, v2, v3, rfl, hk, hn, hb, hS⟩ := hrel
    clear hbi hSi hni
    obtain ⟨wo, rfl⟩ : ∃ wo : World, wo = wr := ⟨_, rfl⟩
    obtain ⟨z0, z1, z2, _⟩ := id hb
    have hok := TOk.to HA.out f HF.out k
    have hlen := hok.len (autOk_n HA.out).2
    have HOK := hid hok
    obtain ⟨Al, cl, rfl⟩ := hS.l1.form
    by_cases hlt : k < (tTo a.nx f k).sets.length
    · have b1 : (k : Int) < ((tTo a.nx f k).sets.length : Int) := by omega
      have hF1 : nth (tTo a.nx f k).sets k < 2 ^ a.n.toNat := HOK.out.lt _ (nth_mem _ _ hlt)
      have HFK := hid hF1
      clear hF1 hok
      go_wp2
      go_loopw [8] (fun i wr => ∃ (l : Nat) (v1 v2 v3 : Value), i = .int .i64 l ∧ l ≤ a.nx.length ∧ New w wr ∧ BoxW3 wr bx v1 v2 v3 ∧ SL 3 2 4 w.heap.size bx sb N wr v1 v2 v3 (tRow a.nx k (tTo a.nx f k) l).sets (tRow a.nx k (tTo a.nx f k) l).before (tRow a.nx k (tTo a.nx f k) l).letters (fun j => (tRow a.nx k (tTo a.nx f k) l).sets.contains j)) (fun i _ => a.nx.length - (intOf i).toNat)
      case atStart => exact ⟨0, _, _, _, rfl, Nat.zero_le _, hn, hb, hS⟩
      case round =>
        clear hn hb hS z0 z1 z2
        obtain ⟨l, v1, v2, v3, rfl, hl, hn, hb, hS⟩ := hrel
        obtain ⟨wp, rfl⟩ : ∃ wp : World, wp = wr := ⟨_, rfl⟩
        replace hp1 := hn.cell hp1
        by_cases hltl : l < a.nx.length
        · have b3 : (l : Int) < (a.nx.length : Int) := by omega
          have hok2 := HOK.out.row HA.out k hlt l (by omega)
          have hslen := hok2.len (autOk_n HA.out).2
          have hst := tRow_sets a.nx k (tTo a.nx f k) l
          have HSUCC := hid (tRow_succ a.nx k (tTo a.nx f k) l)
          have hmv := moved_ok HA.out l (nth (tTo a.nx f k).sets k) hltl HFK.out
          have HS := hid (hst.2 k hlt)
          obtain ⟨T, hT⟩ : ∃ T, T = tRow a.nx k (tTo a.nx f k) l := ⟨_, rfl⟩
          rw [← hT] at HSUCC HS hS hok2 hslen
          have hkT : k < T.sets.length := by rw [hT]; omega
          have HT := hid hT
          clear hT
          rw [← HS.out] at hmv
          have HMV := hid hmv
          obtain ⟨x, hx⟩ : ∃ x, x = moved (nth a.nx l) (nth T.sets k) := ⟨_, rfl⟩
          have hxN : x < N := by rw [HN.out, hx]; have := HMV.out; rw [HM.out, Int.toNat_natCast] at this; exact this
          obtain ⟨b2, off2, rv, rfl, hx2, hr2⟩ := hc2 l hltl
          obtain ⟨r1, r2⟩ := autOk_row HA.out l hltl
          have HCC := hid (fun w1 (hm : New w w1) => show Calls Tryz.prog 103 #[rv, .int .i64 (nth T.sets k : Nat)] w1 fun e w' => e = .returned (.int .i64 (x : Nat)) ∧ w' = w1 from by
            rw [hx]
            have hn10 := autOk_n HA.out
            refine l02Moved_any rv (nth a.nx l) (nth T.sets k) w1 (hr2.new hm) ?_ (by omega) (fun i hi => by have := r2 i hi; omega)
            have h9 := HFK.out
            rw [HS.out, show (nth a.nx l).length = a.n.toNat by omega]; exact h9)
          have HX := hid hx
          replace hx2 := hn.cell hx2
          obtain ⟨A3, c3, rfl⟩ := hr2.form
          obtain ⟨Al, cl, rfl⟩ := hS.l1.form
          obtain ⟨A5, c5, e5, _, hc5⟩ := hS.l1.at (by omega)
          cases e5
          obtain ⟨b6, off6, rfl, hx6⟩ := hc5 k hkT
          have kb6 : (k : Int) < (T.sets.length : Int) := by omega
          obtain ⟨z0, z1, z2, f0, f1, f2⟩ := id hb
          have hsx := hS.row.cell hxN
          have hsf := hS.row.frozen x
          have kx : (x : Int) < (N : Int) := by omega
          clear hc5 hc2 r1 r2 hst hmv hx
          cases hcx : T.sets.contains x with
          | true =>
            rw [hcx] at hsx
            have HCX := hid hcx
            clear hcx
            go_wp2_with fail
            go_quiet ((go_at_call 103; exact Calls.quiet_of_same (HCC.out _ (hn.drewN _))))
            go_wp2
            go_roundw
            case rel =>
              refine ⟨l + 1, _, _, _, by go_num, by omega, hn.drewN nq, hb.new ((New.refl _).drewN nq), ?_⟩
              rw [HSUCC.out, tStep_has _ _ _ _ (by rw [← HX.out]; exact HCX.out)]
              exact hS.new ((New.refl _).drewN nq)
            case measure => simp [intOf]; omega
          | false =>
            rw [hcx] at hsx
            have HCX := hid hcx
            clear hcx
            obtain ⟨Ab, cb, rfl⟩ := hS.l2.form
            obtain ⟨Ac, cc, rfl⟩ := hS.l3.form
            have HLB := hid hok2.lb
            have HLL := hid hok2.ll
            go_wp2_with fail
            go_quiet ((go_at_call 103; exact Calls.quiet_of_same (HCC.out _ (hn.drewN _))))
            have hS1 := (hS.new ((New.refl wp).drewN nq)).mark x
            have hb1 := (hb.new ((New.refl wp).drewN nq)).other ⟨sb, x, none⟩ (by show sb ≠ bx; omega) (.bool true)
            have hz1 : ((wp.drewN nq).setCell ⟨sb, x, none⟩ (.bool true)).heap.size = wp.heap.size := by rw [size_setCell, size_drewN]
            have hzw := hn.size
            have hbl1 := hb1.lt
            obtain ⟨q0, q1, q2, qf0, qf1, qf2⟩ := id hb1
            have hB1 := hS1.l1.block
            have hn1 : New w ((wp.drewN nq).setCell ⟨sb, x, none⟩ (.bool true)) := (hn.drewN nq).setCell hsbs _
            clear z0 z1 z2 f0 f1 f2 hx6 hx2
            go_wp2_with (first
              | (at_builtin; refine wpList_appV rfl _ _ _ rfl (B := w.heap.size) Tryz.underlying117 info_int rfl (by decide) rfl (.slice (some ⟨b6, off6, none⟩) T.sets.length cl) T.sets.length _ rfl hS1.l1 (by show Value.slice (some ⟨wp.heap.size, 0, none⟩) 1 1 = _; rw [hz1]) (by omega) (by omega) ?_; intro g1 cap1 w1 ho1 hgr1 hloc1; have hS2 := hS1.app1 hbl1 (by simpa [GrowK] using ho1) hgr1 (by rcases hloc1 with h | h; exact Or.inl h; exact Or.inr (by omega)); have hb2 := hb1.grown hgr1 hS1.b1; have hn2 := New.grown hn1 hgr1 (fun q hq => (hB1 q hq).1); have hS3 := hS2.box (grown_setCell w1 ⟨bx, 0, none⟩ (.slice (some ⟨g1, 0, none⟩) (T.sets.length + 1) cap1)); have hb3 := hb2.set0 (.slice (some ⟨g1, 0, none⟩) (T.sets.length + 1) cap1); have hn3 := hn2.setCell (p := ⟨bx, 0, none⟩) hbxs (.slice (some ⟨g1, 0, none⟩) (T.sets.length + 1) cap1); have hs1 := hgr1.size; have hz3 := size_setCell w1 ⟨bx, 0, none⟩ (.slice (some ⟨g1, 0, none⟩) (T.sets.length + 1) cap1); obtain ⟨s0, s1, s2, sf0, sf1, sf2⟩ := id hb2; obtain ⟨t0, t1, t2, tf0, tf1, tf2⟩ := id hb3; have hB3 := hS3.l2.block; have hbl3 := hb3.lt)
              | (at_builtin; refine wpList_appV rfl _ _ _ rfl (B := w.heap.size) Tryz.underlying117 info_int rfl (by decide) rfl (.slice Ab T.before.length cb) T.before.length _ rfl hS3.l2 (by show Value.slice (some ⟨w1.heap.size, 0, none⟩) 1 1 = _; rw [hz3]) (by have := HLB.out; omega) (by omega) ?_; intro g2 cap2 w2 ho2 hgr2 hloc2; have hS4 := hS3.app2 (y := (k : Int)) hbl3 (by simpa [Grow] using ho2) hgr2 (by rcases hloc2 with h | h; exact Or.inl h; exact Or.inr (by omega)); have hb4 := hb3.grown hgr2 hS3.b2; have hn4 := New.grown hn3 hgr2 (fun q hq => (hB3 q hq).1); have hS5 := hS4.box (grown_setCell w2 ⟨bx, 1, none⟩ (.slice (some ⟨g2, 0, none⟩) (T.before.length + 1) cap2)); have hb5 := hb4.set1 (.slice (some ⟨g2, 0, none⟩) (T.before.length + 1) cap2); have hn5 := hn4.setCell (p := ⟨bx, 1, none⟩) hbxs (.slice (some ⟨g2, 0, none⟩) (T.before.length + 1) cap2); have hs2 := hgr2.size; have hz5 := size_setCell w2 ⟨bx, 1, none⟩ (.slice (some ⟨g2, 0, none⟩) (T.before.length + 1) cap2); obtain ⟨s0, s1, s2, sf0, sf1, sf2⟩ := id hb4; obtain ⟨t0, t1, t2, tf0, tf1, tf2⟩ := id hb5; have hB5 := hS5.l3.block; have hbl5 := hb5.lt)
              | (at_builtin; refine wpList_appV rfl _ _ _ rfl (B := w.heap.size) Tryz.underlying34 info_i64 rfl (by decide) rfl (.slice Ac T.letters.length cc) T.letters.length _ rfl hS5.l3 (by show Value.slice (some ⟨w2.heap.size, 0, none⟩) 1 1 = _; rw [hz5]) (by have := HLL.out; omega) (by omega) ?_; intro g3 cap3 w3 ho3 hgr3 hloc3; have hS6 := hS5.app3 (z := (l : Int)) hbl5 (by simpa [Grow] using ho3) hgr3 (by rcases hloc3 with h | h; exact Or.inl h; exact Or.inr (by omega)); have hb6 := hb5.grown hgr3 hS5.b3; have hn6 := New.grown hn5 hgr3 (fun q hq => (hB5 q hq).1); have hS7 := hS6.box (grown_setCell w3 ⟨bx, 2, none⟩ (.slice (some ⟨g3, 0, none⟩) (T.letters.length + 1) cap3)); have hb7 := hb6.set2 (.slice (some ⟨g3, 0, none⟩) (T.letters.length + 1) cap3); have hn7 := hn6.setCell (p := ⟨bx, 2, none⟩) hbxs (.slice (some ⟨g3, 0, none⟩) (T.letters.length + 1) cap3); obtain ⟨s0, s1, s2, sf0, sf1, sf2⟩ := id hb6))
            go_roundw
            case rel =>
              refine ⟨l + 1, _, _, _, by go_num, by omega, hn7, hb7, ?_⟩
              rw [HSUCC.out, tStep_new _ _ _ _ (by rw [← HX.out]; exact HCX.out), ← HX.out]
              refine hS7.congr fun j => ?_
              by_cases e : j = x <;> simp [e]
            case measure => simp [intOf]; omega
        · have e : l = a.nx.length := by omega
          subst e
          have hst := tRow_sets a.nx k (tTo a.nx f k) a.nx.length
          have HE := hid (show tTo a.nx f (k + 1) = tRow a.nx k (tTo a.nx f k) a.nx.length by rw [tTo_succ, if_pos hlt])
          have hst1 := hst.1
          clear hst
          go_wp2
          go_roundw
          case rel => exact ⟨k + 1, _, _, _, by go_num, by rw [HE.out]; omega, hn, hb, by rw [HE.out]; exact hS⟩
          case measure => simp [intOf]; omega
    · have e : k = (tTo a.nx f k).sets.length := by omega
      have HE := hid (tour_end HA.out f HF.out k e.symm)
      clear e
      have hlb := hok.lb
      have hll := hok.ll
      have hok' := tourOk HA.out f HF.out
      go_wp2
      go_ret
      rw [HE.out]
      exact ⟨_, rfl, hn, bx, _, _, _, rfl, z0, z1, z2, hS.l1.at (by omega), (hS.l2.own (by omega)).at, (hS.l3.own (by omega)).at⟩
end
section
set_option maxHeartbeats 400000 in
theorem l02Full_any (p : Value) (a : Aut) (w : World) (hp : PAut w p a) (h0 : 0 ≤ a.n) (h1 : a.n ≤ 10) :
    Calls Tryz.prog 60 #[p] w fun e w' => e = .returned (.int .i64 (full a.n : Nat)) ∧ w' = w := by
  obtain ⟨b, rv, rfl, hp0, hp1, hpr⟩ := hp
  obtain ⟨n, hn⟩ : ∃ n : Nat, a.n = (n : Int) := ⟨a.n.toNat, by omega⟩
  have h2 : n ≤ 10 := by omega
  have hf : full a.n = 2 ^ n - 1 := by rw [hn]; rfl
  have hw := two_pow_wrap n h2
  have hw10 := pow10' n h2
  have hpos := Nat.two_pow_pos n
  rw [hn] at hp0
  have HF := hid hf
  clear hn hf
  go_enter Tryz.func60, Tryz.ntmps60
  go_wp2
  go_ret
  exact ⟨ret_int (by rw [HF.out, show (2 : Int) ^ n - 1 = ((2 ^ n - 1 : Nat) : Int) by rw [cast_pow]; omega, wrap64_wrap, wrap_i64_nat _ (by omega)]), rfl⟩
end
section
theorem nth_reverse (xs : List Int) (k : Nat) (h : k < xs.length) : nth xs.reverse k = nth xs (xs.length - 1 - k) := by
  rw [nth_eq _ _ (by simpa using h), nth_eq _ _ (by omega), List.getElem_reverse]
set_option maxRecDepth 20000 in
set_option maxHeartbeats 800000 in
theorem word_any (p : Value) (a : Aut) (t : Tour) (n : Nat) (w : World) (hp : PWalk w p t) (hok : TOk a t) (hn10 : a.n ≤ 10) (hi : n < t.sets.length) :
    Calls Tryz.prog 87 #[p, .int .i64 n] w fun e w' => ∃ r, e = .returned r ∧ New w w' ∧ OwnInts w.heap.size w'.heap.size w' r (nth t.words n) := by
  obtain ⟨b, s1, s2, s3, rfl, h0, h1, h2, h4, h5, h6⟩ := hp
  obtain ⟨A2, c2, rfl, _, hc2⟩ := h5
  obtain ⟨A3, c3, rfl, _, hc3⟩ := h6
  have HOK := hid hok
  have hlen := hok.len hn10
  have HWL := hid (hok.wl n hi)
  have hlb := hok.lb
  have hll := hok.ll
  have HC2 := hid hc2
  have HC3 := hid hc3
  clear hok hc2 hc3 h0 h4
  go_enter Tryz.func87, Tryz.ntmps87
  go_wp2
  go_loopw [1, 5] (fun i q wr => ∃ (j : Nat) (xs : List Int), j < t.sets.length ∧ i = .int .i64 j ∧ Grow w.heap.size 2 wr q xs ∧ New w wr ∧ Hid (nth t.words n = nth t.words j ++ xs.reverse)) (fun i _ _ => (intOf i).toNat)
  case atStart => exact ⟨n, [], hi, rfl, Grow.empty _ _ _ (Nat.le_refl _), (by repeat (first | with_reducible exact New.refl _ | with_reducible assumption | with_reducible refine New.alloc ?_ _ | with_reducible refine New.drew ?_ | with_reducible refine New.drewN ?_ _ | with_reducible refine New.setCell ?_ (by simp <;> omega) _)), hid (by simp)⟩
  case round =>
    obtain ⟨j, xs, hj, rfl, ho, hn, hw⟩ := hrel
    obtain ⟨wo, rfl⟩ : ∃ wo : World, wo = wr := ⟨_, rfl⟩
    obtain ⟨b2, off2, rfl, hx2⟩ := HC2.out j (by omega)
    have hx2' := hn.cell hx2
    have h1' := hn.cell h1
    have h2' := hn.cell h2
    have hzr := hn.size
    have kb : (j : Int) < (t.before.length : Int) := by omega
    have kl : (j : Int) < (t.letters.length : Int) := by omega
    have hxl : xs.length ≤ 1024 := by
      have := HWL.out
      rw [hw.out] at this
      simp at this; omega
    rcases HOK.out.chain j hj with ⟨e1, e2⟩ | ⟨j', j1, j2, j3⟩
    · rw [e1] at hx2'
      clear h1 h2 hx2
      have hw' : nth t.words n = xs.reverse := by rw [hw.out, e2]; simp
      have HW := hid hw'
      clear e1 e2 hw'
      obtain ⟨Ao, co, rfl⟩ := ho.form
      have hol := (ho.own (by omega)).at
      obtain ⟨A, c, e5, _, hcx⟩ := id hol
      cases e5
      have HCX := hid hcx
      clear hcx ho
      go_wp2
      go_loopw [6, 7] (fun q i wr => ∃ (k : Nat) (z : Int), k ≤ xs.length ∧ i = .int .i64 z ∧ z = xs.length - 1 - k ∧ Grow wo.heap.size 2 wr q (xs.reverse.take k) ∧ New wo wr) (fun _ i _ => ((intOf i) + 1).toNat)
      case atStart => exact ⟨0, _, Nat.zero_le _, rfl, by omega, Grow.empty _ _ _ (Nat.le_refl _), (by repeat (first | with_reducible exact New.refl _ | with_reducible assumption | with_reducible refine New.alloc ?_ _ | with_reducible refine New.drew ?_ | with_reducible refine New.drewN ?_ _ | with_reducible refine New.setCell ?_ (by simp <;> omega) _))⟩
      case round =>
        obtain ⟨k, z, hk, rfl, hz, ho2, hn2⟩ := hrel
        by_cases hlt : k < xs.length
        · have z0 : 0 ≤ z := by omega
          have zl : z < (xs.length : Int) := by omega
          obtain ⟨b3, off3, rfl, hx3⟩ := HCX.out z.toNat (by omega)
          replace hx3 := hn2.cell hx3
          have hkl : (xs.reverse.take k).length = k := by simp; omega
          have HZ := hid (show nth xs.reverse k = nth xs z.toNat by rw [nth_reverse _ _ hlt, show xs.length - 1 - k = z.toNat by omega])
          have HT := hid (take_succ_nth xs.reverse k (by simpa using hlt))
          have hz2 := hn2.size
          have HZE := hid hz
          clear hz
          go_wp2_with (at_builtin; refine wpList_app rfl _ _ _ rfl Tryz.underlying34 info_i64 _ (xs.reverse.take k) rfl ho2 rfl (by omega) (by omega) ?_; intro g cap w3 ho3 hg3)
          go_roundw
          case rel => exact ⟨k + 1, z - 1, by omega, rfl, by have := HZE.out; omega, by rw [HT.out, HZ.out]; rw [hkl] at ho3; exact ho3, hn2.app hg3 ho2 (Nat.le_refl _)⟩
          case measure => simp [intOf]; omega
        · have e : k = xs.length := by omega
          have z0 : z < 0 := by omega
          have z1 : decide (0 ≤ z) = false := by simp; omega
          have z2 : z = -1 := by omega
          have ho3 := ho2
          rw [List.take_of_length_le (by simp; omega)] at ho3
          clear hz e hlt ho2
          subst z2
          go_wp2
          go_ret
          have hz2 := hn2.size
          exact ⟨_, rfl, hn.trans hn2, by rw [HW.out]; exact (ho3.own (by simp; omega)).widen (by omega) (Nat.le_refl _)⟩
    · rw [j2] at hx2 hx2'
      obtain ⟨Ao, co, rfl⟩ := ho.form
      obtain ⟨b3, off3, rfl, hx3⟩ := HC3.out j (by omega)
      have hx3' := hn.cell hx3
      have HJ := hid j3
      clear j2 j3
      go_wp2_with (at_builtin; refine wpList_app rfl _ _ _ rfl Tryz.underlying34 info_i64 _ xs rfl ho rfl (by omega) (by omega) ?_; intro g cap w3 ho3 hg3; have hn3 := hn.app hg3 ho (Nat.le_refl _); have y1 := hn3.cell h1; have y2 := hn3.cell hx2)
      go_roundw
      case rel => exact ⟨j', _, by omega, rfl, ho3, hn3, hid (by rw [hw.out, HJ.out]; simp)⟩
      case measure => simp [intOf]; omega
set_option maxRecDepth 20000 in
set_option maxHeartbeats 400000 in
theorem l02Shrink_any (p : Value) (a : Aut) (f : Nat) (w : World) (hp : PAut w p a) (ha : autOk a = true) (hf : f < 2 ^ a.n.toNat) :
    Calls Tryz.prog 59 #[p, .int .i64 f] w fun e w' => ∃ r, e = .returned (.tuple #[r, .bool (firstWord smallB (tourOf a.nx f)).2]) ∧ New w w' ∧ OwnInts w.heap.size w'.heap.size w' r (firstWord smallB (tourOf a.nx f)).1 := by
  have hok := tourOk ha f hf
  have han := autOk_n ha
  have hlen := hok.len han.2
  have HOK := hid hok
  have HN := hid han.2
  have HLT := hid (fun i (hi : i < (tourOf a.nx f).sets.length) => lt_10 (hok.lt _ (nth_mem _ _ hi)) (show a.n.toNat ≤ 10 by omega))
  have C1 := l02From_any p a f w hp ha hf
  obtain ⟨T, hT⟩ : ∃ T, T = tourOf a.nx f := ⟨_, rfl⟩
  rw [← hT] at hlen HOK HLT C1 ⊢
  clear hok hT ha
  go_enter Tryz.func59, Tryz.ntmps59
  go_wp2_with fail
  refine C1.mono ?_
  rintro e w1 ⟨v, he, hn1, hv⟩
  obtain ⟨b, s1, s2, s3, rfl, h0, h1, h2, h4, h5, h6⟩ := id hv
  obtain ⟨A, c, rfl, _, hc⟩ := h4
  subst he
  have HC := hid hc
  have HV := hid hv
  clear hc h5 h6 hv C1
  go_wp2
  go_loopw [7] (fun i wr => ∃ k : Nat, k ≤ T.sets.length ∧ i = .int .i64 k ∧ Hid (∀ j, j < k → smallB (nth T.sets j) = false) ∧ New w1 wr) (fun i _ => T.sets.length - (intOf i).toNat)
  case atStart => exact ⟨0, Nat.zero_le _, rfl, fun j hj => absurd hj (by omega), New.refl _⟩
  case round =>
    obtain ⟨k, hk, rfl, he, hn⟩ := hrel
    replace h0 := hn.cell h0
    by_cases hlt : k < T.sets.length
    · obtain ⟨b', off', rfl, hx⟩ := HC.out k hlt
      have b1 : (k : Int) < (T.sets.length : Int) := by omega
      replace hx := hn.cell hx
      have C := l02Single_any (nth T.sets k)
      cases hq : smallB (nth T.sets k) with
      | true =>
        rw [hq] at C
        have HQ := hid hq
        have HC2 := hid (fun w2 (hm : New w1 w2) => word_any _ a T k w2 (HV.out.new hm) HOK.out HN.out hlt)
        clear hq
        go_wp2_with (first
          | (go_at_call 86; refine (C _ (HLT.out k hlt)).mono ?_; rintro e w' ⟨rfl, rfl⟩)
          | (go_at_call 87; refine (HC2.out _ hn).mono ?_; rintro e w3 ⟨r, rfl, hn3, ho⟩))
        go_ret2
        have hs := (hn1.trans hn).size
        rw [firstWord_hit smallB T k hlt HQ.out he.out]
        exact ⟨_, rfl, (hn1.trans hn).trans hn3, ho.widen hs (Nat.le_refl _)⟩
      | false =>
        rw [hq] at C
        have HQ := hid hq
        clear hq
        go_wp2_with (go_at_call 86; refine (C _ (HLT.out k hlt)).mono ?_; rintro e w' ⟨rfl, rfl⟩)
        go_roundw
        case rel => exact ⟨k + 1, by omega, by go_num, fun i hi => by
            rcases Nat.lt_succ_iff_lt_or_eq.1 hi with h | h
            · exact he.out i h
            · subst h; exact HQ.out, hn⟩
        case measure => simp [intOf]; omega
    · have e : k = T.sets.length := by omega
      have HF := hid (firstWord_none smallB T (fun j hj => he.out j (by omega)))
      subst e
      go_wp2
      go_ret2
      rw [HF.out]
      have hs := (hn1.trans hn).size
      exact ⟨_, rfl, (by repeat (first | with_reducible exact New.refl _ | with_reducible assumption | with_reducible refine New.alloc ?_ _ | with_reducible refine New.drewN ?_ _ | with_reducible refine New.drew ?_ | with_reducible refine New.trans ?_ (by with_reducible assumption))), OwnInts.none' _ (by (try simp only [sizes]) <;> omega) (by (try simp only [sizes]) <;> omega)⟩
set_option maxHeartbeats 400000 in
theorem l02Told_any (r : Value) (p : List Int × Bool) (B E : Nat) (w : World) (ho : OwnInts B E w r p.1) (hE : E ≤ w.heap.size) :
    Calls Tryz.prog 58 #[r, .bool p.2] w fun e w' => ∃ r, e = .returned (.tuple #[r, .int .i64 (told p).2]) ∧ New w w' ∧ OwnInts (min B w.heap.size) w'.heap.size w' r (told p).1 := by
  obtain ⟨xs, b⟩ := p
  cases b with
  | true =>
    have e : told (xs, true) = (xs, 0) := rfl
    rw [e]
    go_enter Tryz.func58, Tryz.ntmps58
    go_wp2
    go_ret2
    exact ⟨_, rfl, New.refl _, ho.widen (Nat.min_le_left _ _) hE⟩
  | false =>
    have e : told (xs, false) = ([], 6) := rfl
    rw [e]
    go_enter Tryz.func58, Tryz.ntmps58
    go_wp2
    go_ret2
    exact ⟨_, rfl, (by repeat (first | with_reducible exact New.refl _ | with_reducible assumption | with_reducible refine New.alloc ?_ _ | with_reducible refine New.drewN ?_ _ | with_reducible refine New.drew ?_ | with_reducible refine New.trans ?_ (by with_reducible assumption))), OwnInts.none' _ (Nat.min_le_right _ _) (by (try simp only [sizes]) <;> omega)⟩
end

end Go.Proofs.YthbebnfhplacnaaGreat
