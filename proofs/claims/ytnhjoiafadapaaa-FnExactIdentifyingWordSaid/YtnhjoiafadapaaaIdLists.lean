/- Two lists of lists under append beside a row of marks. -/
import Derived.Test.YtnhjoiafadapaaaCore
import Derived.Test.YtnhjoiafadapaaaPlains
import Derived.Test.YtnhjoiafadapaaaMaps
import Derived.Test.YtnhjoiafadapaaaArrs
import Derived.WalkKit
import Derived.WalkSpells
import Derived.WalkLawsBesides
import Derived.Deep.QuietTactic
import Derived.Deep.OwnRows
import Derived.BigQuiet
import Derived.KernelRfl
namespace Go.Proofs.Ytnhjoiafadapaaa
open Go.RowKit

/-- What may change under the lists: what is older, the marks, the lists' own frames. -/
def idS (B sb : Nat) (v1 v2 : Value) (q : Nat) : Prop := q < B ∨ q = sb ∨ v1.ownBlock = some q ∨ v2.ownBlock = some q
def IdL (B sb : Nat) (e : TypeId) (w : World) (v1 v2 : Value) (L W : List (List Int)) : Prop :=
  GrowS IntsAt (idS B sb v1 v2) B e w v1 L ∧ GrowS IntsAt (idS B sb v1 v2) B e w v2 W ∧ (∀ q, v1.ownBlock = some q → v2.ownBlock ≠ some q) ∧ v1.ownBlock ≠ some sb ∧ v2.ownBlock ≠ some sb ∧ B ≤ sb ∧ sb < w.heap.size
section
variable {B sb : Nat} {e : TypeId} {w w' w1 : World} {v1 v2 r : Value} {L W : List (List Int)} {x : List Int}
theorem IdL.new (h : IdL B sb e w v1 v2 L W) (hn : New w w') : IdL B sb e w' v1 v2 L W := by
  obtain ⟨a, b, c, d, f, g, k⟩ := h
  exact ⟨a.new hn, b.new hn, c, d, f, g, Nat.lt_of_lt_of_le k hn.size⟩
theorem IdL.form (h : IdL B sb e w v1 v2 L W) : (∃ A c, v1 = .slice A L.length c) ∧ ∃ A c, v2 = .slice A W.length c := ⟨h.1.form, h.2.1.form⟩
theorem IdL.low (h : IdL B sb e w v1 v2 L W) : (∀ q, v1.ownBlock = some q → B ≤ q ∧ q < w.heap.size) ∧ ∀ q, v2.ownBlock = some q → B ≤ q ∧ q < w.heap.size := ⟨h.1.block, h.2.1.block⟩
theorem IdL.mark (h : IdL B sb e w v1 v2 L W) (i : Nat) (u : Value) : IdL B sb e (w.setCell ⟨sb, i, none⟩ u) v1 v2 L W := by
  obtain ⟨a, b, c, d, f, g, k⟩ := h
  have hb : But (fun q => q = sb) w (w.setCell ⟨sb, i, none⟩ u) := But.setCell _ _ rfl
  exact ⟨a.step hb (fun q hq => Or.inl (Or.inr (Or.inl hq))) (fun q hq e => d (hq.trans (congrArg some e))) (fun q hq => Or.inl hq),
    b.step hb (fun q hq => Or.inl (Or.inr (Or.inl hq))) (fun q hq e => f (hq.trans (congrArg some e))) (fun q hq => Or.inl hq), c, d, f, g, by rw [size_setCell]; exact k⟩
theorem IdL.rows (h : IdL B sb e w v1 v2 L W) : (∀ i, i < L.length → ∃ b c rv, v1 = .slice (some ⟨b, 0, none⟩) L.length c ∧ w.cell? ⟨b, i, none⟩ = some rv ∧ IntsAt w rv (nth L i)) ∧
    ∀ i, i < W.length → ∃ b c rv, v2 = .slice (some ⟨b, 0, none⟩) W.length c ∧ w.cell? ⟨b, i, none⟩ = some rv ∧ IntsAt w rv (nth W i) := by
  have key : ∀ {v : Value} {X : List (List Int)} {S : Nat → Prop}, GrowS IntsAt S B e w v X → ∀ i, i < X.length → ∃ b c rv, v = .slice (some ⟨b, 0, none⟩) X.length c ∧ w.cell? ⟨b, i, none⟩ = some rv ∧ IntsAt w rv (nth X i) := by
    intro v X S ⟨rr, h1, h2⟩ i hi
    obtain ⟨b, hb, ⟨c, rfl⟩, _, _, hc, _⟩ := ownsRow_cells h1 i (by simpa using hi)
    exact ⟨b, c, rr i, rfl, by rw [hc]; simp, (h2 i hi).now⟩
  exact ⟨key h.1, key h.2.1⟩
theorem IdL.spine1 (h : IdL B sb e w v1 v2 L W) : ∃ l, w.ownsRow B e 1 v1 L.length l ∧ ∀ (w1 w' : World) (g cap : Nat) (r : Value) (x : List Int), New w w1 → OwnInts w.heap.size w1.heap.size w1 r x → w'.ownsRow B e 1 (.slice (some ⟨g, 0, none⟩) (L.length + 1) cap) (L.length + 1) (l ++ [r]) → w1.grownBy w' v1.ownBlock → (v1.ownBlock = some g ∨ w1.heap.size ≤ g) →
    IdL B sb e w' (.slice (some ⟨g, 0, none⟩) (L.length + 1) cap) v2 (L ++ [x]) W := by
  obtain ⟨a, b, c, d, f, g, k⟩ := h
  have hb1 := a.block
  have hb2 := b.block
  obtain ⟨l, hl, hsp⟩ := a.appT
  refine ⟨l, hl, fun w1 w' g1 cap r x hn hr ho hg hloc => ?_⟩
  have hz := hn.size
  have hzg := hg.size
  have hsol : Solid (idS B sb v1 v2) w1 (fun w => IntsAt w r x) := hr.at.solid (fun q hq hs => by
    have h1 := (hr.block q hq).1
    rcases hs with h2 | h2 | h2 | h2
    · omega
    · omega
    · have := hb1 q h2; omega
    · have := hb2 q h2; omega)
  have hS' : ∀ q, idS B sb (.slice (some ⟨g1, 0, none⟩) (L.length + 1) cap) v2 q → idS B sb v1 v2 q ∨ w1.heap.size ≤ q := by
    intro q hq
    rcases hq with h2 | h2 | h2 | h2
    · exact Or.inl (Or.inl h2)
    · exact Or.inl (Or.inr (Or.inl h2))
    · have e1 : g1 = q := Option.some.inj h2
      subst e1
      exact hloc.elim (fun h => Or.inl (Or.inr (Or.inr (Or.inl h)))) Or.inr
    · exact Or.inl (Or.inr (Or.inr (Or.inr h2)))
  have hv1 : ∀ q, v1.ownBlock = some q → idS B sb v1 v2 q := fun q hq => Or.inr (Or.inr (Or.inl hq))
  refine ⟨hsp (fun _ => False) _ w1 w' g1 cap r x (But.of_new hn) (fun q hq => hq.elim) hv1 hsol ho hg hS', ?_, ?_, ?_, f, g, by omega⟩
  · have hbt : But (fun q => v1.ownBlock = some q) w1 w' := But.of_grown hg (fun q hq => hq)
    have b1 := b.new hn
    exact b1.step hbt (fun q hq => Or.inl (Or.inr (Or.inr (Or.inl hq)))) (fun q hq hq2 => c q hq2 hq) hS'
  · intro q hq hq2
    have e1 : g1 = q := Option.some.inj hq
    subst e1
    have := hb2 _ hq2
    rcases hloc with h | h
    · exact c _ h hq2
    · omega
  · intro hq
    have e1 : g1 = sb := Option.some.inj hq
    subst e1
    rcases hloc with h | h
    · exact d h
    · omega
theorem IdL.swap (h : IdL B sb e w v1 v2 L W) : IdL B sb e w v2 v1 W L := by
  obtain ⟨a, b, c, d, f, g, k⟩ := h
  have hS : ∀ q, idS B sb v2 v1 q → idS B sb v1 v2 q := fun q hq => by
    rcases hq with h | h | h | h
    · exact Or.inl h
    · exact Or.inr (Or.inl h)
    · exact Or.inr (Or.inr (Or.inr h))
    · exact Or.inr (Or.inr (Or.inl h))
  have mono : ∀ {v : Value} {X : List (List Int)}, GrowS IntsAt (idS B sb v1 v2) B e w v X → GrowS IntsAt (idS B sb v2 v1) B e w v X := fun h => h.step (T := fun _ => False) But.refl (fun q hq => hq.elim) (fun q hq h => h) (fun q hq => Or.inl (hS q hq))
  exact ⟨mono b, mono a, fun q h1 h2 => c q h2 h1, f, d, g, k⟩
theorem IdL.spine2 (h : IdL B sb e w v1 v2 L W) : ∃ l, w.ownsRow B e 1 v2 W.length l ∧ ∀ (w1 w' : World) (g cap : Nat) (r : Value) (x : List Int), New w w1 → OwnInts w.heap.size w1.heap.size w1 r x → w'.ownsRow B e 1 (.slice (some ⟨g, 0, none⟩) (W.length + 1) cap) (W.length + 1) (l ++ [r]) → w1.grownBy w' v2.ownBlock → (v2.ownBlock = some g ∨ w1.heap.size ≤ g) →
    IdL B sb e w' v1 (.slice (some ⟨g, 0, none⟩) (W.length + 1) cap) L (W ++ [x]) := by
  obtain ⟨l, hl, hsp⟩ := h.swap.spine1
  exact ⟨l, hl, fun w1 w' g cap r x h1 h2 h3 h4 h5 => (hsp w1 w' g cap r x h1 h2 h3 h4 h5).swap⟩
/-- The same where the new row stands already, apart from all. -/
theorem IdL.spine2' (h : IdL B sb e w v1 v2 L W) : ∃ l, w.ownsRow B e 1 v2 W.length l ∧ ∀ (w1 w' : World) (g cap : Nat) (r : Value) (x : List Int), New w w1 → Solid (idS B sb v1 v2) w (fun w => IntsAt w r x) → w'.ownsRow B e 1 (.slice (some ⟨g, 0, none⟩) (W.length + 1) cap) (W.length + 1) (l ++ [r]) → w1.grownBy w' v2.ownBlock → (v2.ownBlock = some g ∨ w1.heap.size ≤ g) →
    IdL B sb e w' v1 (.slice (some ⟨g, 0, none⟩) (W.length + 1) cap) L (W ++ [x]) := by
  obtain ⟨a, b, c, d, f, g, k⟩ := h
  have hb1 := a.block
  have hb2 := b.block
  obtain ⟨l, hl, hsp⟩ := b.appT
  refine ⟨l, hl, fun w1 w' g1 cap r x hn hr ho hg hloc => ?_⟩
  have hz := hn.size
  have hzg := hg.size
  have hS' : ∀ q, idS B sb v1 (.slice (some ⟨g1, 0, none⟩) (W.length + 1) cap) q → idS B sb v1 v2 q ∨ w1.heap.size ≤ q := by
    intro q hq
    rcases hq with h2 | h2 | h2 | h2
    · exact Or.inl (Or.inl h2)
    · exact Or.inl (Or.inr (Or.inl h2))
    · exact Or.inl (Or.inr (Or.inr (Or.inl h2)))
    · have e1 : g1 = q := Option.some.inj h2
      subst e1
      exact hloc.elim (fun h => Or.inl (Or.inr (Or.inr (Or.inr h)))) Or.inr
  have hv2 : ∀ q, v2.ownBlock = some q → idS B sb v1 v2 q := fun q hq => Or.inr (Or.inr (Or.inr hq))
  refine ⟨?_, hsp (fun _ => False) _ w1 w' g1 cap r x (But.of_new hn) (fun q hq => hq.elim) hv2 (hr.new hn) ho hg hS', ?_, d, ?_, g, by omega⟩
  · have hbt : But (fun q => v2.ownBlock = some q) w1 w' := But.of_grown hg (fun q hq => hq)
    exact (a.new hn).step hbt (fun q hq => Or.inl (Or.inr (Or.inr (Or.inr hq)))) (fun q hq hq2 => c q hq hq2) hS'
  · intro q hq hq2
    have e1 : g1 = q := Option.some.inj hq2
    subst e1
    have := hb1 _ hq
    rcases hloc with h | h
    · exact c _ hq h
    · omega
  · intro hq
    have e1 : g1 = sb := Option.some.inj hq
    subst e1
    rcases hloc with h | h
    · exact f h
    · omega
end

end Go.Proofs.Ytnhjoiafadapaaa
