/- What holds whatever becomes of some blocks; lists under construction whose elements are such. -/
import Derived.Test.YtiflokfinkachaaCore
import Derived.Test.YtiflokfinkachaaMaps
import Derived.Test.YtiflokfinkachaaCho
import Derived.WalkKit
import Derived.WalkSpells
import Derived.WalkLawsBesides
import Derived.Deep.QuietTactic
import Derived.Deep.OwnRows
import Derived.BigQuiet
import Derived.KernelRfl
namespace Go.Proofs.Ytiflokfinkachaa
open Go.RowKit

/-- All blocks but those of S are as they were. -/
def But (S : Nat → Prop) (w w' : World) : Prop := w'.os = w.os ∧ w'.tape = w.tape ∧ w'.output = w.output ∧ w.heap.size ≤ w'.heap.size ∧ ∀ k, k < w.heap.size → ¬ S k → w'.heap[k]? = w.heap[k]?
/-- p holds, and holds whatever becomes of the blocks of S. -/
def Solid (S : Nat → Prop) (w : World) (p : World → Prop) : Prop := ∀ w', But S w w' → p w'
section
variable {S S' : Nat → Prop} {w w0 w1 w' : World} {p : World → Prop}
theorem But.refl : But S w w := ⟨rfl, rfl, rfl, Nat.le_refl _, fun _ _ _ => rfl⟩
theorem But.size (h : But S w w') : w.heap.size ≤ w'.heap.size := h.2.2.2.1
theorem But.of_new (h : New w w') : But S w w' := ⟨h.os, h.tape, h.output, Below.size h, fun k hk _ => h.block k hk⟩
theorem But.of_grown {r : Option Nat} (h : w.grownBy w' r) (hr : ∀ k, r = some k → S k) : But S w w' := ⟨h.os, h.tape, h.output, h.size, fun k hk hn => h.block k hk (fun e => hn (hr k e.symm))⟩
theorem But.trans (h : But S w w1) (k : But S' w1 w') (hS : ∀ k, S' k → S k ∨ w.heap.size ≤ k) : But S w w' := by
  obtain ⟨h1, h2, h3, h4, h5⟩ := h
  obtain ⟨k1, k2, k3, k4, k5⟩ := k
  exact ⟨k1.trans h1, k2.trans h2, k3.trans h3, by omega, fun i hi ho => (k5 i (by omega) (fun hs => by rcases hS i hs with q | q; exact ho q; omega)).trans (h5 i hi ho)⟩
theorem But.setCell (q : Addr) (x : Value) (hq : S q.block) : But S w (w.setCell q x) := But.of_grown (grown_setCell w q x) (fun k hk => by cases hk; exact hq)
theorem But.cell (h : But S w w') {q : Addr} {v : Value} (hc : w.cell? q = some v) (hq : ¬ S q.block) : w'.cell? q = some v := by
  rw [World.cell?_of_block (w := w) (h.2.2.2.2 q.block (World.block_lt_of_cell? w q hc) hq)]; exact hc
theorem But.frozen (h : But S w w') {q : Addr} {v : Value} (hc : w.cell? q = some v) (hq : ¬ S q.block) : w'.frozen? q = w.frozen? q := by
  rw [World.frozen?_of_block (w := w) (h.2.2.2.2 q.block (World.block_lt_of_cell? w q hc) hq)]
theorem But.new (hn : New w0 w) (h : But S w w') (hS : ∀ k, S k → w0.heap.size ≤ k) : New w0 w' := by
  have hs := hn.size
  obtain ⟨h1, h2, h3, h4, h5⟩ := h
  exact Below.trans hn ⟨h1, h2, h3, h4, fun k hk => h5 k (by omega) (fun hs => by have := hS k hs; omega)⟩
theorem But.row {B n size : Nat} {e : TypeId} {v : Value} {xs : List Value} (hb : But S w w') (h : w.ownsRow B e size v n xs) (hv : ∀ k, v.ownBlock = some k → ¬ S k) : w'.ownsRow B e size v n xs := by
  refine ⟨h.1, ?_⟩
  rcases h.2 with h2 | ⟨g, cap, cur, rfl, hB, hg, rest⟩
  · exact .inl h2
  · exact .inr ⟨g, cap, cur, rfl, hB, by rw [hb.2.2.2.2 g (Array.getElem?_eq_some_iff.1 hg).1 (hv g rfl)]; exact hg, rest⟩
theorem Solid.now (h : Solid S w p) : p w := h w But.refl
theorem Solid.step (h : Solid S w p) (hb : But S w w') (hS : ∀ k, S' k → S k ∨ w.heap.size ≤ k) : Solid S' w' p := fun w'' hb' => h w'' (hb.trans hb' hS)
theorem Solid.mono (h : Solid S w p) (hS : ∀ k, S' k → S k) : Solid S' w p := h.step But.refl (fun k hk => Or.inl (hS k hk))
theorem Solid.new (h : Solid S w p) (hn : New w w') : Solid S w' p := h.step (But.of_new hn) (fun _ hk => Or.inl hk)
theorem Solid.imp {q : World → Prop} (h : Solid S w p) (hpq : ∀ w, p w → q w) : Solid S w q := fun w' hb => hpq w' (h w' hb)
theorem Solid.cell {q : Addr} {v : Value} (hc : w.cell? q = some v) (hq : ¬ S q.block) : Solid S w (fun w => w.cell? q = some v) := fun _ hb => hb.cell hc hq
theorem IntsAt.solid {v : Value} {xs : List Int} (h : IntsAt w v xs) (hv : ∀ k, v.ownBlock = some k → ¬ S k) : Solid S w (fun w => IntsAt w v xs) := by
  intro w' hb
  obtain ⟨A, c, rfl, hl, hc⟩ := h
  refine ⟨A, c, rfl, hl, fun i hi => ?_⟩
  obtain ⟨b, off, rfl, hx⟩ := hc i hi
  exact ⟨b, off, rfl, hb.cell hx (hv b rfl)⟩
theorem OwnRows.solid {B E : Nat} {v : Value} {xss : List (List Int)} (h : OwnRows B E w v xss) (hS : ∀ k, S k → k < B ∨ E ≤ k) : Solid S w (fun w => RowsAt w v xss) := by
  intro w' hb
  obtain ⟨A, c, rv, rfl, hl, ha, hc, _⟩ := h
  refine ⟨A, c, rfl, by omega, fun i hi => ?_⟩
  obtain ⟨⟨b, off, rfl, hx, _⟩, hr⟩ := hc i hi
  have hab := ha _ rfl
  exact ⟨b, off, rv i, rfl, hb.cell hx (fun hs => by have := hS _ hs; simp at this hab; omega), hr.at.solid (fun k hk hs => by have := hS _ hs; have := hr.block k hk; omega) w' hb⟩
theorem ownBlock_none_or {v : Value} {q : Nat → Prop} (h : v.ownBlock = none ∨ ∃ k, v.ownBlock = some k ∧ q k) : ∀ k, v.ownBlock = some k → q k := by
  intro k hk
  rcases h with h | ⟨k', h, hq⟩
  · rw [h] at hk; cases hk
  · rw [h] at hk; cases hk; exact hq
end
/-- The slice value v reads as a list of things that R reads. -/
def ListAt {α : Type} [Inhabited α] (R : World → Value → α → Prop) (w : World) (v : Value) (xs : List α) : Prop :=
  ∃ A c, v = .slice A xs.length c ∧ xs.length ≤ 9223372036854775807 ∧ ∀ i, i < xs.length → ∃ b off rv, A = some ⟨b, off, none⟩ ∧ w.cell? ⟨b, off + i, none⟩ = some rv ∧ R w rv (nth xs i)
/-- A list under append, with solid elements. -/
def GrowS {α : Type} [Inhabited α] (R : World → Value → α → Prop) (S : Nat → Prop) (B : Nat) (e : TypeId) (w : World) (v : Value) (xs : List α) : Prop :=
  ∃ r : Nat → Value, w.ownsRow B e 1 v xs.length ((List.range xs.length).map r) ∧ ∀ i, i < xs.length → Solid S w (fun w => R w (r i) (nth xs i))
section
variable {α : Type} [Inhabited α] {R : World → Value → α → Prop} {S S' : Nat → Prop} {B : Nat} {e : TypeId} {w w' : World} {v r : Value} {xs : List α}
theorem GrowS.nil : GrowS R S B e w (.slice none 0 0) [] := ⟨fun _ => default, World.ownsRow_nil _ _ _ _, fun i hi => by simp at hi⟩
theorem GrowS.empty (h : B ≤ w.heap.size) : GrowS R S B e (w.alloc (.cells #[] e)) (.slice (some ⟨w.heap.size, 0, none⟩) 0 0) [] :=
  ⟨fun _ => default, by simpa [Grow] using Grow.empty B e w h, fun i hi => by simp at hi⟩
theorem GrowS.form (h : GrowS R S B e w v xs) : ∃ A c, v = .slice A xs.length c := let ⟨_, h, _⟩ := h; ownsRow_form h
theorem GrowS.block (h : GrowS R S B e w v xs) : ∀ k, v.ownBlock = some k → B ≤ k ∧ k < w.heap.size := let ⟨_, h, _⟩ := h; World.ownsRow.lt h
theorem GrowS.new (h : GrowS R S B e w v xs) (hn : New w w') : GrowS R S B e w' v xs := let ⟨r, h1, h2⟩ := h; ⟨r, ownsRow_new h1 hn, fun i hi => (h2 i hi).new hn⟩
/-- What is changed is neither the list's own block nor what its elements lean on. -/
theorem GrowS.step {T : Nat → Prop} (h : GrowS R S B e w v xs) (hb : But T w w') (hT : ∀ k, T k → S k ∨ w.heap.size ≤ k) (hv : ∀ k, v.ownBlock = some k → ¬ T k) (hS : ∀ k, S' k → S k ∨ w.heap.size ≤ k) : GrowS R S' B e w' v xs :=
  let ⟨r, h1, h2⟩ := h
  ⟨r, hb.row h1 hv, fun i hi => (h2 i hi).step (But.trans But.refl hb hT) hS⟩
theorem GrowS.at (h : GrowS R S B e w v xs) (hl : xs.length ≤ 9223372036854775807) : ListAt R w v xs := by
  obtain ⟨r, h1, h2⟩ := h
  obtain ⟨A, c, rfl⟩ := ownsRow_form h1
  refine ⟨A, c, rfl, hl, fun i hi => ?_⟩
  obtain ⟨b, hb, ⟨c', e'⟩, hB, hlt, hc, _⟩ := ownsRow_cells h1 i (by simpa using hi)
  cases e'
  exact ⟨b, 0, r i, rfl, by rw [Nat.zero_add, hc]; simp, (h2 i hi).now⟩
/-- What lies in the list's blocks and its elements' alone. -/
theorem GrowS.lies (h : GrowS R S B e w v xs) (hl : xs.length ≤ 9223372036854775807) (hS : ∀ k, k < B → S k) : Solid (fun k => k < B ∨ w.heap.size ≤ k) w (fun w => ListAt R w v xs) := by
  obtain ⟨r, h1, h2⟩ := h
  intro w' hb
  obtain ⟨A, c, rfl⟩ := ownsRow_form h1
  refine ⟨A, c, rfl, hl, fun i hi => ?_⟩
  obtain ⟨b, hb', ⟨c', e'⟩, hB, hlt, hc, _⟩ := ownsRow_cells h1 i (by simpa using hi)
  cases e'
  have hc' : w.cell? ⟨b, i, none⟩ = some (r i) := by rw [hc]; simp
  have hcell := hb.cell hc' (fun q => q.elim (fun q => absurd q (Nat.not_lt.2 hB)) (fun q => absurd hlt (Nat.not_lt.2 q)))
  exact ⟨b, 0, r i, rfl, by rw [Nat.zero_add]; exact hcell, h2 i hi w' ⟨hb.1, hb.2.1, hb.2.2.1, hb.2.2.2.1, fun k hk hn => hb.2.2.2.2 k hk (fun q => q.elim (fun q => hn (hS k q)) (fun q => absurd hk (Nat.not_lt.2 q)))⟩⟩
/-- One more element: the list's frame before the append, and what the list is behind it. -/
theorem GrowS.app (h : GrowS R S B e w v xs) : ∃ l, w.ownsRow B e 1 v xs.length l ∧ ∀ (T : Nat → Prop) (w1 w' : World) (g cap : Nat) (r : Value) (x : α),
    But T w w1 → (∀ k, T k → S k ∨ w.heap.size ≤ k) → (∀ k, v.ownBlock = some k → S k) → Solid S w1 (fun w => R w r x) → w'.ownsRow B e 1 (.slice (some ⟨g, 0, none⟩) (xs.length + 1) cap) (xs.length + 1) (l ++ [r]) → w1.grownBy w' v.ownBlock → (∀ k, S' k → S k ∨ w1.heap.size ≤ k) →
    GrowS R S' B e w' (.slice (some ⟨g, 0, none⟩) (xs.length + 1) cap) (xs ++ [x]) := by
  obtain ⟨rr, h1, h2⟩ := h
  refine ⟨_, h1, fun T w1 w' g cap r x hb hT hv hr ho hg hS => ?_⟩
  have hs := hb.size
  have hb2 : But S w1 w' := But.of_grown hg hv
  refine ⟨fun i => if i < xs.length then rr i else r, by rw [List.length_append, List.length_singleton, range_pick]; exact ho, fun i hi => ?_⟩
  rw [List.length_append, List.length_singleton] at hi
  by_cases e : i < xs.length
  · simp only [if_pos e]
    rw [nth_append_left _ _ _ e]
    exact ((h2 i e).step (S' := S) (But.trans But.refl hb hT) (fun k hk => Or.inl hk)).step hb2 hS
  · have e' : i = xs.length := by omega
    subst e'
    simp only [if_neg (Nat.lt_irrefl _)]
    rw [nth_append_here]
    exact hr.step hb2 hS
end
/-- What lies in the blocks from B to E. -/
def Lies {α : Type} (R : World → Value → α → Prop) (B E : Nat) (w : World) (v : Value) (x : α) : Prop := Solid (fun k => k < B ∨ E ≤ k) w (fun w => R w v x)
theorem Lies.now {α : Type} {R : World → Value → α → Prop} {B E : Nat} {w : World} {v : Value} {x : α} (h : Lies R B E w v x) : R w v x := Solid.now h
theorem Lies.widen {α : Type} {R : World → Value → α → Prop} {B E B' E' : Nat} {w : World} {v : Value} {x : α} (h : Lies R B E w v x) (hB : B' ≤ B) (hE : E ≤ E') : Lies R B' E' w v x := Solid.mono h (fun k hk => by omega)
theorem Lies.new {α : Type} {R : World → Value → α → Prop} {B E : Nat} {w w' : World} {v : Value} {x : α} (h : Lies R B E w v x) (hn : New w w') : Lies R B E w' v x := Solid.new h hn

end Go.Proofs.Ytiflokfinkachaa
