/- A list of lists under append, whose new row was made before a map was changed. -/
import Derived.Test.YtoeckejcmojeaaaCore
import Derived.Test.YtoeckejcmojeaaaMaps
import Derived.Test.YtoeckejcmojeaaaPlains
import Derived.WalkKit
import Derived.WalkSpells
import Derived.WalkLawsBesides
import Derived.Deep.QuietTactic
import Derived.Deep.OwnRows
import Derived.BigQuiet
import Derived.KernelRfl
namespace Go.Proofs.Ytoeckejcmojeaaa
open Go.RowKit

theorem GrowRows.appM {B : Nat} {e : TypeId} {wj w3 : World} {v : Value} {xss : List (List Int)} (h : GrowRows B e wj v xss) (hz : wj.heap.size ≤ w3.heap.size) (hB : B ≤ wj.heap.size) (hT : ∀ u xs, OwnInts B wj.heap.size wj u xs → OwnInts B wj.heap.size w3 u xs) (hR : ∀ l, wj.ownsRow B e 1 v xss.length l → w3.ownsRow B e 1 v xss.length l) :
    ∃ l, w3.ownsRow B e 1 v xss.length l ∧ ∀ (w' : World) (g cap : Nat) (r : Value) (x : List Int), OwnInts wj.heap.size w3.heap.size w3 r x → w'.ownsRow B e 1 (.slice (some ⟨g, 0, none⟩) (xss.length + 1) cap) (xss.length + 1) (l ++ [r]) → w3.grownBy w' v.ownBlock → (v.ownBlock = some g ∨ w3.heap.size ≤ g) →
      GrowRows B e w' (.slice (some ⟨g, 0, none⟩) (xss.length + 1) cap) (xss ++ [x]) := by
  obtain ⟨rv, h1, h2, h3⟩ := h
  have hlow := World.ownsRow.lt h1
  refine ⟨_, hR _ h1, fun w' g cap r x hr ho hg hloc => ?_⟩
  have hs := hg.size
  have hbr := hr.block
  have har : ApartV r v := ApartV.of_lt (M := wj.heap.size) (fun k hk => (hbr k hk).1) (fun k hk => (hlow k hk).2)
  have keep : ∀ u xs, OwnInts B w3.heap.size w3 u xs → ApartV u v → OwnInts B w'.heap.size w' u xs ∧ ApartV u (.slice (some ⟨g, 0, none⟩) (xss.length + 1) cap) := fun u xs hv hd =>
    ⟨(hv.grown hg hd).widen (Nat.le_refl _) hs, hd.frame (fun k hk => (hv.block k hk).2) hloc⟩
  refine ⟨fun i => if i < xss.length then rv i else r, ?_, fun i hi => ?_, fun i j hij hj => ?_⟩
  · rw [List.length_append, List.length_singleton, range_pick]; exact ho
  · rw [List.length_append, List.length_singleton] at hi
    by_cases q : i < xss.length
    · simp only [if_pos q]
      rw [nth_append_left _ _ _ q]
      obtain ⟨a, b⟩ := h2 i q
      exact keep _ _ ((hT _ _ a).widen (Nat.le_refl _) hz) b
    · have ei : i = xss.length := by omega
      subst ei
      simp only [if_neg (Nat.lt_irrefl _)]
      rw [nth_append_here]
      exact keep _ _ (hr.widen hB (Nat.le_refl _)) har
  · rw [List.length_append, List.length_singleton] at hj
    by_cases q : j < xss.length
    · simp only [if_pos q, if_pos (Nat.lt_trans hij q)]
      exact h3 i j hij q
    · have ej : j = xss.length := by omega
      subst ej
      simp only [if_neg (Nat.lt_irrefl _), if_pos hij]
      obtain ⟨a, _⟩ := h2 i hij
      rcases Option.eq_none_or_eq_some (rv i).ownBlock with q2 | ⟨k, q2⟩
      · exact Or.inr q2
      · left
        intro e2
        have := (a.block k q2).2
        have := (hbr k (by rw [← e2]; exact q2)).1
        omega
theorem GrowRows.mapKeep {P : Program} {K : TypeId} {B mb s : Nat} {F : Lit → Option Value} {e : TypeId} {w w' : World} {v : Value} {xss : List (List Int)} (h : GrowRows B e w v xss) (hM : MapAt P K w mb s F) (hg : w.grownBy w' (some mb)) : GrowRows B e w' v xss := by
  obtain ⟨rv, h1, h2, h3⟩ := h
  exact ⟨rv, hM.ownsRow hg h1, fun i hi => ⟨(hM.ownInts hg (h2 i hi).1).widen (Nat.le_refl _) hg.size, (h2 i hi).2⟩, h3⟩

end Go.Proofs.Ytoeckejcmojeaaa
