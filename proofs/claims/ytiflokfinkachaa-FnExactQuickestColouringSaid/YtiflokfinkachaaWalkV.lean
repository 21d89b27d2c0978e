/- The reference's walk in memory: three lists and a row of marks. -/
import Derived.Test.YtiflokfinkachaaCore
import Derived.Test.YtiflokfinkachaaPlains
import Derived.Test.YtiflokfinkachaaMaps
import Derived.WalkKit
import Derived.WalkSpells
import Derived.WalkLawsBesides
import Derived.Deep.QuietTactic
import Derived.Deep.OwnRows
import Derived.BigQuiet
import Derived.KernelRfl
namespace Go.Proofs.Ytiflokfinkachaa
open Go.RowKit

structure SL (e1 e2 e3 : TypeId) (B bx sb N : Nat) (w : World) (v1 v2 v3 : Value) (xs : List Nat) (ys zs : List Int) (seen : Nat → Bool) : Prop where
  l1 : GrowK .i64 B e1 w v1 xs
  l2 : Grow B e1 w v2 ys
  l3 : Grow B e2 w v3 zs
  row : w.rowIs sb e3 N (fun j => .bool (seen j))
  d12 : v1.ownBlock ≠ v2.ownBlock
  d13 : v1.ownBlock ≠ v3.ownBlock
  d23 : v2.ownBlock ≠ v3.ownBlock
  b1 : v1.ownBlock ≠ some bx
  b2 : v2.ownBlock ≠ some bx
  b3 : v3.ownBlock ≠ some bx
  s1 : v1.ownBlock ≠ some sb
  s2 : v2.ownBlock ≠ some sb
  s3 : v3.ownBlock ≠ some sb
  sbx : sb ≠ bx
  sB : B ≤ sb
section
variable {e1 e2 e3 : TypeId} {B bx sb N : Nat} {w w' : World} {v1 v2 v3 : Value} {xs : List Nat} {ys zs : List Int} {seen : Nat → Bool}
theorem SL.new (h : SL e1 e2 e3 B bx sb N w v1 v2 v3 xs ys zs seen) (hn : New w w') : SL e1 e2 e3 B bx sb N w' v1 v2 v3 xs ys zs seen :=
  { h with l1 := h.l1.new hn, l2 := h.l2.new hn, l3 := h.l3.new hn, row := h.row.of_block (hn.block sb h.row.lt) }
theorem SL.box (h : SL e1 e2 e3 B bx sb N w v1 v2 v3 xs ys zs seen) (hg : w.grownBy w' (some bx)) : SL e1 e2 e3 B bx sb N w' v1 v2 v3 xs ys zs seen :=
  { h with l1 := ownsRow_grown h.l1 hg (Or.inl h.b1), l2 := ownsRow_grown h.l2 hg (Or.inl h.b2), l3 := ownsRow_grown h.l3 hg (Or.inl h.b3), row := h.row.of_block (hg.block sb h.row.lt (by simpa using h.sbx)) }
theorem SL.mark (h : SL e1 e2 e3 B bx sb N w v1 v2 v3 xs ys zs seen) (x : Nat) : SL e1 e2 e3 B bx sb N (w.setCell ⟨sb, x, none⟩ (.bool true)) v1 v2 v3 xs ys zs (fun j => if j = x then true else seen j) :=
  { h with
    l1 := ownsRow_grown h.l1 (grown_setCell w ⟨sb, x, none⟩ _) (Or.inl h.s1)
    l2 := ownsRow_grown h.l2 (grown_setCell w ⟨sb, x, none⟩ _) (Or.inl h.s2)
    l3 := ownsRow_grown h.l3 (grown_setCell w ⟨sb, x, none⟩ _) (Or.inl h.s3)
    row := (h.row.set x (.bool true)).congr (fun i _ => by by_cases e : i = x <;> simp [e]) }
theorem SL.lt (h : SL e1 e2 e3 B bx sb N w v1 v2 v3 xs ys zs seen) : (∀ k, v1.ownBlock = some k → B ≤ k ∧ k < w.heap.size) ∧ (∀ k, v2.ownBlock = some k → B ≤ k ∧ k < w.heap.size) ∧ (∀ k, v3.ownBlock = some k → B ≤ k ∧ k < w.heap.size) ∧ sb < w.heap.size :=
  ⟨h.l1.block, h.l2.block, h.l3.block, h.row.lt⟩
theorem apart_new {v u : Value} {g n cap : Nat} (hd : v.ownBlock ≠ u.ownBlock) (hu : ∀ k, u.ownBlock = some k → k < w.heap.size) (hloc : v.ownBlock = some g ∨ w.heap.size ≤ g) : (Value.slice (some ⟨g, 0, none⟩) n cap).ownBlock ≠ u.ownBlock := by
  intro e
  rcases hloc with h | h
  · exact hd (h.trans e)
  · have := hu g e.symm; omega
theorem apart_blk {v : Value} {g n cap b : Nat} (hd : v.ownBlock ≠ some b) (hb : b < w.heap.size) (hloc : v.ownBlock = some g ∨ w.heap.size ≤ g) : (Value.slice (some ⟨g, 0, none⟩) n cap).ownBlock ≠ some b := by
  intro e
  simp [Value.ownBlock] at e
  rcases hloc with h | h
  · rw [h, e] at hd; exact hd rfl
  · omega
theorem SL.app1 {g n cap x : Nat} (h : SL e1 e2 e3 B bx sb N w v1 v2 v3 xs ys zs seen) (hbx : bx < w.heap.size) (ho : GrowK .i64 B e1 w' (.slice (some ⟨g, 0, none⟩) n cap) (xs ++ [x])) (hg : w.grownBy w' v1.ownBlock) (hloc : v1.ownBlock = some g ∨ w.heap.size ≤ g) :
    SL e1 e2 e3 B bx sb N w' (.slice (some ⟨g, 0, none⟩) n cap) v2 v3 (xs ++ [x]) ys zs seen :=
  { h with
    l1 := ho
    l2 := ownsRow_grown h.l2 hg (Or.inl h.d12.symm)
    l3 := ownsRow_grown h.l3 hg (Or.inl h.d13.symm)
    row := h.row.of_block (hg.block sb h.row.lt h.s1.symm)
    d12 := apart_new h.d12 (fun k hk => (h.lt.2.1 k hk).2) hloc
    d13 := apart_new h.d13 (fun k hk => (h.lt.2.2.1 k hk).2) hloc
    b1 := apart_blk h.b1 hbx hloc
    s1 := apart_blk h.s1 h.row.lt hloc }
theorem SL.app2 {g n cap : Nat} {y : Int} (h : SL e1 e2 e3 B bx sb N w v1 v2 v3 xs ys zs seen) (hbx : bx < w.heap.size) (ho : Grow B e1 w' (.slice (some ⟨g, 0, none⟩) n cap) (ys ++ [y])) (hg : w.grownBy w' v2.ownBlock) (hloc : v2.ownBlock = some g ∨ w.heap.size ≤ g) :
    SL e1 e2 e3 B bx sb N w' v1 (.slice (some ⟨g, 0, none⟩) n cap) v3 xs (ys ++ [y]) zs seen :=
  { h with
    l2 := ho
    l1 := ownsRow_grown h.l1 hg (Or.inl h.d12)
    l3 := ownsRow_grown h.l3 hg (Or.inl h.d23.symm)
    row := h.row.of_block (hg.block sb h.row.lt h.s2.symm)
    d12 := (apart_new h.d12.symm (fun k hk => (h.lt.1 k hk).2) hloc).symm
    d23 := apart_new h.d23 (fun k hk => (h.lt.2.2.1 k hk).2) hloc
    b2 := apart_blk h.b2 hbx hloc
    s2 := apart_blk h.s2 h.row.lt hloc }
theorem SL.app3 {g n cap : Nat} {z : Int} (h : SL e1 e2 e3 B bx sb N w v1 v2 v3 xs ys zs seen) (hbx : bx < w.heap.size) (ho : Grow B e2 w' (.slice (some ⟨g, 0, none⟩) n cap) (zs ++ [z])) (hg : w.grownBy w' v3.ownBlock) (hloc : v3.ownBlock = some g ∨ w.heap.size ≤ g) :
    SL e1 e2 e3 B bx sb N w' v1 v2 (.slice (some ⟨g, 0, none⟩) n cap) xs ys (zs ++ [z]) seen :=
  { h with
    l3 := ho
    l1 := ownsRow_grown h.l1 hg (Or.inl h.d13)
    l2 := ownsRow_grown h.l2 hg (Or.inl h.d23)
    row := h.row.of_block (hg.block sb h.row.lt h.s3.symm)
    d13 := (apart_new h.d13.symm (fun k hk => (h.lt.1 k hk).2) hloc).symm
    d23 := (apart_new h.d23.symm (fun k hk => (h.lt.2.1 k hk).2) hloc).symm
    b3 := apart_blk h.b3 hbx hloc
    s3 := apart_blk h.s3 h.row.lt hloc }
end
/-- A box of three cells that may be written. -/
def BoxW3 (w : World) (b : Nat) (u v x : Value) : Prop := w.cell? ⟨b, 0, none⟩ = some u ∧ w.cell? ⟨b, 1, none⟩ = some v ∧ w.cell? ⟨b, 2, none⟩ = some x ∧ w.frozen? ⟨b, 0, none⟩ = false ∧ w.frozen? ⟨b, 1, none⟩ = false ∧ w.frozen? ⟨b, 2, none⟩ = false
theorem BoxW3.block {w w' : World} {b : Nat} {u v x : Value} (h : BoxW3 w b u v x) (hb : w'.heap[b]? = w.heap[b]?) : BoxW3 w' b u v x := by
  obtain ⟨h0, h1, h2, h3, h4, h5⟩ := h
  refine ⟨?_, ?_, ?_, ?_, ?_, ?_⟩
  · rw [World.cell?_of_block (w := w) hb]; exact h0
  · rw [World.cell?_of_block (w := w) hb]; exact h1
  · rw [World.cell?_of_block (w := w) hb]; exact h2
  · rw [World.frozen?_of_block (w := w) hb]; exact h3
  · rw [World.frozen?_of_block (w := w) hb]; exact h4
  · rw [World.frozen?_of_block (w := w) hb]; exact h5
theorem BoxW3.lt {w : World} {b : Nat} {u v x : Value} (h : BoxW3 w b u v x) : b < w.heap.size := World.block_lt_of_cell? w _ h.1
theorem BoxW3.new {w w' : World} {b : Nat} {u v x : Value} (h : BoxW3 w b u v x) (hn : New w w') : BoxW3 w' b u v x := h.block (hn.block b h.lt)
theorem BoxW3.grown {w w' : World} {b : Nat} {u v x : Value} {r : Option Nat} (h : BoxW3 w b u v x) (hg : w.grownBy w' r) (hr : r ≠ some b) : BoxW3 w' b u v x := h.block (hg.block b h.lt (fun e => hr e.symm))
theorem BoxW3.set0 {w : World} {b : Nat} {u v x : Value} (h : BoxW3 w b u v x) (y : Value) : BoxW3 (w.setCell ⟨b, 0, none⟩ y) b y v x :=
  ⟨World.cell?_setCell_same _ _ _ h.1, by rw [World.cell?_setCell_other]; exact h.2.1; simp, by rw [World.cell?_setCell_other]; exact h.2.2.1; simp, by simpa using h.2.2.2.1, by simpa using h.2.2.2.2.1, by simpa using h.2.2.2.2.2⟩
theorem BoxW3.set1 {w : World} {b : Nat} {u v x : Value} (h : BoxW3 w b u v x) (y : Value) : BoxW3 (w.setCell ⟨b, 1, none⟩ y) b u y x :=
  ⟨by rw [World.cell?_setCell_other]; exact h.1; simp, World.cell?_setCell_same _ _ _ h.2.1, by rw [World.cell?_setCell_other]; exact h.2.2.1; simp, by simpa using h.2.2.2.1, by simpa using h.2.2.2.2.1, by simpa using h.2.2.2.2.2⟩
theorem BoxW3.set2 {w : World} {b : Nat} {u v x : Value} (h : BoxW3 w b u v x) (y : Value) : BoxW3 (w.setCell ⟨b, 2, none⟩ y) b u v y :=
  ⟨by rw [World.cell?_setCell_other]; exact h.1; simp, by rw [World.cell?_setCell_other]; exact h.2.1; simp, World.cell?_setCell_same _ _ _ h.2.2.1, by simpa using h.2.2.2.1, by simpa using h.2.2.2.2.1, by simpa using h.2.2.2.2.2⟩
theorem BoxW3.other {w : World} {b : Nat} {u v x : Value} (h : BoxW3 w b u v x) (p : Addr) (hp : p.block ≠ b) (y : Value) : BoxW3 (w.setCell p y) b u v x := h.block (Below.heap_setCell _ _ _ _ (Ne.symm hp))
/-- A pointer to the reference's walk. -/
def PWalk (w : World) (v : Value) (t : Tour) : Prop :=
  ∃ b s1 s2 s3, v = .pointer (some ⟨b, 0, none⟩) ∧ w.cell? ⟨b, 0, none⟩ = some s1 ∧ w.cell? ⟨b, 1, none⟩ = some s2 ∧ w.cell? ⟨b, 2, none⟩ = some s3 ∧ NatsAt .i64 w s1 t.sets ∧ IntsAt w s2 t.before ∧ IntsAt w s3 t.letters
theorem PWalk.new {w w' : World} {v : Value} {t : Tour} (h : PWalk w v t) (hn : New w w') : PWalk w' v t :=
  let ⟨b, s1, s2, s3, e, h0, h1, h2, h3, h4, h5⟩ := h; ⟨b, s1, s2, s3, e, hn.cell h0, hn.cell h1, hn.cell h2, h3.new hn, h4.new hn, h5.new hn⟩
theorem ownsRow_oneW {B : Nat} {e : TypeId} (w : World) (z : Value) (h : B ≤ w.heap.size) : (w.alloc (.cells #[z] e)).ownsRow B e 1 (.slice (some ⟨w.heap.size, 0, none⟩) 1 1) 1 [z] :=
  ⟨rfl, .inr ⟨w.heap.size, 1, #[z], rfl, h, heap_alloc_new w _, Nat.le_refl _, by decide, rfl, rfl⟩⟩
theorem two_pow_wrap (n : Nat) (h : n ≤ 10) : Go.RowKit.wrap64 ((2 : Int) ^ n) = ((2 ^ n : Nat) : Int) := by
  have := pow10' n h
  rw [cast_pow, wrap64_wrap, wrap_i64_nat _ (by omega)]

end Go.Proofs.Ytiflokfinkachaa
