/- A queue: a list that is cut at its front and appended to at its end. -/
import Derived.Test.YtiflokfinkachaaCore
import Derived.Test.YtiflokfinkachaaMaps
import Derived.Test.YtiflokfinkachaaCho
import Derived.Test.YtiflokfinkachaaSolid
import Derived.WalkKit
import Derived.WalkSpells
import Derived.WalkLawsBesides
import Derived.Deep.QuietTactic
import Derived.Deep.OwnRows
import Derived.BigQuiet
import Derived.KernelRfl
import Derived.ArgAppend
namespace Go.Proofs.Ytiflokfinkachaa
open Go.RowKit

def QRow (B : Nat) (w : World) (v : Value) (xs : List Int) : Prop :=
  (∃ A : Option Addr, v = .slice A 0 0 ∧ xs = [] ∧ ∀ a, A = some a → B ≤ a.block ∧ a.block < w.heap.size) ∨ ∃ g off c, v = .slice (some ⟨g, off, none⟩) xs.length c ∧ (B ≤ g ∧ g < w.heap.size) ∧ xs.length ≤ c ∧ (∀ i, i < c → (w.cell? ⟨g, off + i, none⟩).isSome = true ∧ w.frozen? ⟨g, off + i, none⟩ = false) ∧ ∀ i, i < xs.length → w.cell? ⟨g, off + i, none⟩ = some (.int .i64 (nth xs i))
section
variable {B : Nat} {w w' : World} {v : Value} {xs : List Int}
theorem QRow.new (h : QRow B w v xs) (hn : New w w') : QRow B w' v xs := by
  rcases h with ⟨A, h1, h2, h3⟩ | ⟨g, off, c, e, hB, hl, h1, h2⟩
  · exact Or.inl ⟨A, h1, h2, fun a ha => ⟨(h3 a ha).1, Nat.lt_of_lt_of_le (h3 a ha).2 hn.size⟩⟩
  · refine Or.inr ⟨g, off, c, e, ⟨hB.1, Nat.lt_of_lt_of_le hB.2 hn.size⟩, hl, fun i hi => ?_, fun i hi => hn.cell (h2 i hi)⟩
    obtain ⟨a, b⟩ := h1 i hi
    obtain ⟨u, hu⟩ := Option.isSome_iff_exists.1 a
    exact ⟨by rw [hn.cell hu]; rfl, by rw [hn.frozen hu]; exact b⟩
theorem QRow.form (h : QRow B w v xs) : ∃ A c, v = .slice A xs.length c := by
  rcases h with ⟨A, rfl, rfl, _⟩ | ⟨g, off, c, rfl, _⟩
  · exact ⟨A, 0, rfl⟩
  · exact ⟨_, c, rfl⟩
theorem QRow.of_row {e : TypeId} (h : w.ownsRow B e 1 v xs.length (xs.map (Value.int .i64))) : QRow B w v xs := by
  obtain ⟨h1, ⟨rfl, h2⟩ | ⟨g, cap, cur, rfl, hB, hg, hn, hc, hs, ht⟩⟩ := id h
  · exact Or.inl ⟨none, rfl, List.eq_nil_of_length_eq_zero h2, fun a ha => by cases ha⟩
  · refine Or.inr ⟨g, 0, cap, rfl, ⟨hB, (Array.getElem?_eq_some_iff.1 hg).1⟩, hn, fun i hi => ⟨?_, by simp [World.frozen?, hg]⟩, fun i hi => ?_⟩
    · rw [Nat.zero_add]
      simp only [World.cell?, hg]
      have : i < cur.size := by omega
      simp [this]
    · obtain ⟨b, hb, _, _, _, hcell, _⟩ := ownsRow_cells h i (by simpa using hi)
      simp [Value.ownBlock] at hb
      subst hb
      rw [Nat.zero_add, hcell, nth_eq _ _ hi]
      simp
theorem QRow.block (h : QRow B w v xs) : ∀ q, v.ownBlock = some q → B ≤ q ∧ q < w.heap.size := by
  intro q hq
  rcases h with ⟨A, rfl, _, h⟩ | ⟨g, off, c, rfl, hB, hl, h1, h2⟩
  · cases A with
    | none => cases hq
    | some a =>
      have e : a.block = q := Option.some.inj hq
      have := h a rfl
      omega
  · have e : g = q := Option.some.inj hq
    subst e
    exact hB
/-- The first one, and what is left without it. -/
theorem QRow.cut {x : Int} {r : List Int} (h : QRow B w v (x :: r)) : ∃ g off c, v = .slice (some ⟨g, off, none⟩) (r.length + 1) c ∧ r.length + 1 ≤ c ∧ w.cell? ⟨g, off, none⟩ = some (.int .i64 x) ∧ QRow B w (.slice (if c = 1 then some ⟨g, off, none⟩ else some ⟨g, off + 1, none⟩) r.length (c - 1)) r := by
  rcases h with ⟨A, _, e, _⟩ | ⟨g, off, c, e, hB, hl, h1, h2⟩
  · cases e
  · refine ⟨g, off, c, e, hl, by have := h2 0 (by simp); simpa [nth] using this, ?_⟩
    simp only [List.length_cons] at hl
    by_cases hc : c = 1
    · subst hc
      have : r = [] := List.eq_nil_of_length_eq_zero (by omega)
      subst this
      exact Or.inl ⟨_, rfl, rfl, fun a ha => by cases ha; exact hB⟩
    · rw [if_neg hc]
      refine Or.inr ⟨g, off + 1, c - 1, rfl, hB, by omega, fun i hi => ?_, fun i hi => ?_⟩
      · have := h1 (i + 1) (by omega)
        rwa [show off + 1 + i = off + (i + 1) by omega]
      · have := h2 (i + 1) (by simp; omega)
        rw [show off + 1 + i = off + (i + 1) by omega, this, nth_eq _ _ hi, nth_eq _ _ (show i + 1 < (x :: r).length by simp; omega)]
        simp
end
section
variable {P : Program}
/-- 'append(todo, z)'. -/
theorem wpList_q {ops : Array Oper} {rest : List Oper} {o : Oper} {a : Act} {Q : Exit → Act → World → Prop} {w1 : World} {T : TypeId} {z : Int} (hg : o.guard = none) (s x : Operand) (t : TypeId)
    (ho : o.op = .call { callee := .builtin .append, args := #[s, x], argTypes := #[t, t] }) {B : Nat} {e : TypeId} (ht : P.underlying t = some (.slice e))
    (hinfo : (P.info? e).map (fun i => (i.zero, i.size, i.bytes)) = some (some (.int .i64 0), 1, 8)) (v : Value) (xs : List Int) (hs : a.eval s = v) (hown : QRow B w1 v xs)
    (hx : a.eval x = .slice (some ⟨w1.heap.size, 0, none⟩) 1 1) (hlen : xs.length < 1099511627776) (hB : B ≤ w1.heap.size)
    (h : ∀ v' w', QRow B w' v' (xs ++ [z]) → w1.grownBy w' v.ownBlock → (v'.ownBlock = v.ownBlock ∨ ∀ q, v'.ownBlock = some q → w1.heap.size ≤ q) → wpList P ops Q rest (a.put o.dst v') w') :
    wpList P ops Q (o :: rest) a (w1.alloc (.cells #[.int .i64 z] T)) := by
  obtain ⟨i0, hi, hz0, hz1, hz2⟩ := info_parts hinfo
  have hnw : New w1 (w1.alloc (.cells #[.int .i64 z] T)) := (New.refl _).alloc _
  have hsz : (w1.alloc (.cells #[.int .i64 z] T)).heap.size = w1.heap.size + 1 := size_alloc _ _
  have hsrc : ∀ j u, [Value.int .i64 z][j]? = some u → (w1.alloc (.cells #[.int .i64 z] T)).cell? ((⟨w1.heap.size, 0, none⟩ : Addr).add j) = some u := Go.cell_one_new w1 (.int .i64 z) T
  have grow : ∀ v' w', w'.ownsRow (w1.alloc (.cells #[.int .i64 z] T)).heap.size e 1 v' (xs.length + 1) (xs.map (Value.int .i64) ++ [.int .i64 z]) → (w1.alloc (.cells #[.int .i64 z] T)).grownBy w' none → wpList P ops Q rest (a.put o.dst v') w' := by
    intro v' w' h1 h2
    refine h v' w' ?_ ?_ (Or.inr fun q hq => ?_)
    · have h3 : w'.ownsRow (w1.alloc (.cells #[.int .i64 z] T)).heap.size e 1 v' (xs ++ [z]).length ((xs ++ [z]).map (Value.int .i64)) := by simpa using h1
      have h4 := QRow.of_row h3
      rcases h4 with ⟨A4, q1, q2, q3⟩ | ⟨g, off, c, e1, hB1, r⟩
      · exact Or.inl ⟨A4, q1, q2, fun a ha => ⟨by have := (q3 a ha).1; omega, (q3 a ha).2⟩⟩
      · exact Or.inr ⟨g, off, c, e1, ⟨by have := hB1.1; omega, hB1.2⟩, r⟩
    · exact ⟨h2.os.trans rfl, h2.tape.trans rfl, h2.output.trans rfl, by have := h2.size; omega, fun k hk hne => (h2.block k (by omega) (by simp)).trans (hnw.block k hk)⟩
    · have := (World.ownsRow.lt h1 q hq).1; omega
  rcases hown.new hnw with ⟨A, e1, e2, _⟩ | ⟨g, off, c, e1, hgB, hl, h1, h2⟩
  · subst e1; subst e2
    refine wpList_append_grows _ hg s x t ho e i0 (.int .i64 0) 1 8 ht hi hz0 hz1 hz2 rfl (by decide) A 0 0 [] hs (fun _ => ⟨rfl, rfl⟩) rfl (fun b _ j u hj => by simp at hj) ⟨w1.heap.size, 0, none⟩ 1 1 [.int .i64 z] hx rfl hsrc (by intro u hu; simp at hu; subst hu; rfl) (by omega) (by unfold maxLen; omega) (by omega) ?_
    intro v' w' q1 q2
    exact grow v' w' (by simpa using q1) q2
  · subst e1
    refine wpList_append_arg _ hg s x t ho e i0 (.int .i64 0) 1 8 ht hi hz0 hz1 hz2 rfl (by decide) g off xs.length c (xs.map (Value.int .i64)) hs (by simp) (fun j u hj => ?_) ⟨w1.heap.size, 0, none⟩ 1 1 [.int .i64 z] hx rfl hsrc (by intro u hu; simp at hu; subst hu; rfl) (fun hc j hj => ?_) (by unfold maxLen; omega) (by omega) (fun hc => ?_) (fun hc v' w' q1 q2 => grow v' w' q1 q2)
    · have hjl : j < xs.length := by
        rcases Nat.lt_or_ge j xs.length with q | q
        · exact q
        · rw [List.getElem?_eq_none (by simpa using q)] at hj; cases hj
      simp [hjl] at hj
      subst hj
      rw [h2 j hjl, nth_eq _ _ hjl]
    · have hj0 : j = 0 := by simpa using hj
      subst hj0
      have := h1 xs.length (by omega)
      simpa using this
    · have hset : ((w1.alloc (.cells #[.int .i64 z] T)).setCells g (off + xs.length * 1) [.int .i64 z]) = (w1.alloc (.cells #[.int .i64 z] T)).setCell ⟨g, off + xs.length, none⟩ (.int .i64 z) := by simp [World.setCells]
      rw [hset]
      obtain ⟨a1, a2⟩ := h1 xs.length (by omega)
      obtain ⟨u, hu⟩ := Option.isSome_iff_exists.1 a1
      have hglt : g < w1.heap.size ∨ g = w1.heap.size := by have := World.block_lt_of_cell? _ _ hu; simp only at this; omega
      refine h _ _ (Or.inr ⟨g, off, c, by simp, ⟨hgB.1, by rw [size_setCell]; exact hgB.2⟩, by simp; omega, fun i hi => ?_, fun i hi => ?_⟩) ?_ (Or.inl rfl)
      · by_cases e : i = xs.length
        · subst e
          exact ⟨by rw [World.cell?_setCell_same _ _ _ hu]; rfl, by simpa using a2⟩
        · obtain ⟨b1, b2⟩ := h1 i hi
          exact ⟨by rw [World.cell?_setCell_other]; exact b1; intro q; injection q with _ q _; omega, by simpa using b2⟩
      · rw [List.length_append, List.length_singleton] at hi
        by_cases e : i = xs.length
        · subst e
          rw [World.cell?_setCell_same _ _ _ hu, nth_append_here]
        · rw [World.cell?_setCell_other]
          · rw [h2 i (by omega), nth_append_left _ _ _ (by omega)]
          · intro q; injection q with _ q _; omega
      · have h3 := grown_setCell (w1.alloc (.cells #[.int .i64 z] T)) ⟨g, off + xs.length, none⟩ (.int .i64 z)
        exact ⟨h3.os, h3.tape, h3.output, by have := h3.size; omega, fun k hk hne => (h3.block k (by omega) hne).trans (hnw.block k hk)⟩
end

end Go.Proofs.Ytiflokfinkachaa
