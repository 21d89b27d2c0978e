/- Two rows of a list of lists change places. -/
import Derived.Test.YthbebnfhplacnaaCore
import Derived.Test.YthbebnfhplacnaaPOrds
import Derived.Test.YthbebnfhplacnaaMaps
import Derived.WalkKit
import Derived.WalkSpells
import Derived.WalkLawsBesides
import Derived.Deep.QuietTactic
import Derived.Deep.OwnRows
import Derived.BigQuiet
import Derived.KernelRfl
import Derived.Laws.OwnMore
namespace Go.Proofs.Ythbebnfhplacnaa
open Go.RowKit

theorem GrowRows.rowAt {B : Nat} {e : TypeId} {w : World} {v : Value} {xss : List (List Int)} (h : GrowRows B e w v xss) (i : Nat) (hi : i < xss.length) :
    ∃ g cap A n', v = .slice (some ⟨g, 0, none⟩) xss.length cap ∧ w.cell? ⟨g, i, none⟩ = some (.slice A (nth xss i).length n') ∧ w.frozen? ⟨g, i, none⟩ = false ∧ OwnInts B w.heap.size w (.slice A (nth xss i).length n') (nth xss i) := by
  obtain ⟨rv, h1, h2, h3⟩ := h
  obtain ⟨b, hb, ⟨c', e⟩, hB, hlt, hc, hf⟩ := ownsRow_cells h1 i (by simpa using hi)
  obtain ⟨A, n', er⟩ := (h2 i hi).1.form
  simp at hc
  exact ⟨b, c', A, n', e, er ▸ hc, hf, er ▸ (h2 i hi).1⟩
theorem GrowRows.swap {B g n cap : Nat} {e : TypeId} {w : World} {xss : List (List Int)} (h : GrowRows B e w (.slice (some ⟨g, 0, none⟩) n cap) xss) (j : Nat) (hj : j + 1 < xss.length) (r0 r1 : Value) (h0 : w.cell? ⟨g, j, none⟩ = some r0) (h1 : w.cell? ⟨g, j + 1, none⟩ = some r1) :
    GrowRows B e ((w.setCell ⟨g, j + 1, none⟩ r0).setCell ⟨g, j, none⟩ r1) (.slice (some ⟨g, 0, none⟩) n cap) (swapR xss j) := by
  obtain ⟨rv, k1, k2, k3⟩ := h
  have hn : n = xss.length := by obtain ⟨A, c, e⟩ := ownsRow_form k1; cases e; rfl
  subst hn
  obtain ⟨b, _, ⟨c', e1⟩, _, _, hc0, _⟩ := ownsRow_cells k1 j (by simp; omega)
  cases e1
  obtain ⟨b, _, ⟨c', e1⟩, _, _, hc1, _⟩ := ownsRow_cells k1 (j + 1) (by simp; omega)
  cases e1
  rw [h0] at hc0
  rw [h1] at hc1
  simp at hc0 hc1
  subst hc0
  subst hc1
  have s1 := World.ownsRow.stored k1 (j + 1) (rv j)
  have s2 := (World.ownsRow.stored s1.1 j (rv (j + 1))).1
  have hg : w.grownBy ((w.setCell ⟨g, j + 1, none⟩ (rv j)).setCell ⟨g, j, none⟩ (rv (j + 1))) (some g) := grown_trans (grown_setCell w ⟨g, j + 1, none⟩ _) (grown_setCell _ ⟨g, j, none⟩ _)
  refine ⟨fun i => if i = j then rv (j + 1) else if i = j + 1 then rv j else rv i, ?_, fun i hi => ?_, fun i k hik hk => ?_⟩
  · have el : (((List.range xss.length).map rv).set (j + 1) (rv j)).set j (rv (j + 1)) = (List.range (swapR xss j).length).map (fun i => if i = j then rv (j + 1) else if i = j + 1 then rv j else rv i) := by
      rw [swapR_len]
      apply List.ext_getElem
      · simp
      · intro i h1 h2
        simp at h1
        simp only [List.getElem_set, List.getElem_map, List.getElem_range]
        by_cases e1 : i = j
        · simp [e1]
        · by_cases e2 : i = j + 1
          · simp [e2]
          · rw [if_neg (Ne.symm e1), if_neg (Ne.symm e2), if_neg e1, if_neg e2]
    rw [← el, swapR_len]
    simpa using s2
  · rw [swapR_len] at hi
    rw [nth_swapR _ _ _ hj]
    dsimp only
    have keep : ∀ i, i < xss.length → OwnInts B ((w.setCell ⟨g, j + 1, none⟩ (rv j)).setCell ⟨g, j, none⟩ (rv (j + 1))).heap.size ((w.setCell ⟨g, j + 1, none⟩ (rv j)).setCell ⟨g, j, none⟩ (rv (j + 1))) (rv i) (nth xss i) ∧ ((rv i).ownBlock ≠ (Value.slice (some ⟨g, 0, none⟩) xss.length cap).ownBlock ∨ (rv i).ownBlock = none) := fun i hi => by
      obtain ⟨a, b⟩ := k2 i hi
      exact ⟨(a.grown hg b).widen (Nat.le_refl _) hg.size, b⟩
    by_cases e1 : i = j
    · subst e1; rw [if_pos rfl, if_pos rfl]; exact keep _ hj
    · by_cases e2 : i = j + 1
      · subst e2; rw [if_neg e1, if_neg e1, if_pos rfl, if_pos rfl]; exact keep _ (by omega)
      · rw [if_neg e1, if_neg e2, if_neg e1, if_neg e2]; exact keep _ hi
  · rw [swapR_len] at hk
    dsimp only
    have sym : ∀ a b, a ≠ b → a < xss.length → b < xss.length → (rv a).ownBlock ≠ (rv b).ownBlock ∨ (rv a).ownBlock = none := fun a b hab ha hb => by
      rcases Nat.lt_or_gt_of_ne hab with h | h
      · exact k3 a b h hb
      · rcases k3 b a h ha with h1 | h1
        · exact Or.inl (Ne.symm h1)
        · cases e : (rv a).ownBlock with
          | none => exact Or.inr rfl
          | some q => left; rw [h1]; simp
    by_cases a1 : i = j
    · rw [if_pos a1]
      by_cases b2 : k = j + 1
      · rw [if_neg (by omega), if_pos b2]; exact sym _ _ (by omega) hj (by omega)
      · rw [if_neg (by omega), if_neg b2]; exact sym _ _ (by omega) hj hk
    · by_cases a2 : i = j + 1
      · rw [if_neg a1, if_pos a2, if_neg (by omega), if_neg (by omega)]; exact sym _ _ (by omega) (by omega) hk
      · rw [if_neg a1, if_neg a2]
        by_cases b1 : k = j
        · rw [if_pos b1]; exact sym _ _ (by omega) (by omega) hj
        · by_cases b2 : k = j + 1
          · rw [if_neg b1, if_pos b2]; exact sym _ _ (by omega) (by omega) (by omega)
          · rw [if_neg b1, if_neg b2]; exact sym _ _ (by omega) (by omega) hk
section
variable {P : Program}
/-- The same, and where the new frame lies. -/
theorem wpList_appRowsL {ops : Array Oper} {rest : List Oper} {o : Oper} {a : Act} {Q : Exit → Act → World → Prop} {w0 w1 : World} {T : TypeId} {r : Value} (hg : o.guard = none) (s x : Operand) (t : TypeId)
    (ho : o.op = .call { callee := .builtin .append, args := #[s, x], argTypes := #[t, t] }) {B : Nat} {e : TypeId} (ht : P.underlying t = some (.slice e))
    (hinfo : (P.info? e).map (fun i => (i.zero, i.size, i.bytes)) = some (some (.slice none 0 0), 1, 24)) (v : Value) (xss : List (List Int)) (ys : List Int) (hs : a.eval s = v) (hown : GrowRows B e w0 v xss) (hn : New w0 w1)
    (hr : OwnInts w0.heap.size w1.heap.size w1 r ys)
    (hx : a.eval x = .slice (some ⟨w1.heap.size, 0, none⟩) 1 1) (hlen : xss.length < 1099511627776) (hB : B ≤ w0.heap.size)
    (h : ∀ g cap w', GrowRows B e w' (.slice (some ⟨g, 0, none⟩) (xss.length + 1) cap) (xss ++ [ys]) → w1.grownBy w' v.ownBlock → (v.ownBlock = some g ∨ w1.heap.size < g) → wpList P ops Q rest (a.put o.dst (.slice (some ⟨g, 0, none⟩) (xss.length + 1) cap)) w') :
    wpList P ops Q (o :: rest) a (w1.alloc (.cells #[r] T)) := by
  obtain ⟨rv, h1, h2, h3⟩ := hown
  have hv : ∀ k, v.ownBlock = some k → B ≤ k ∧ k < w0.heap.size := World.ownsRow.lt h1
  have hsz := hn.size
  refine wpList_appV hg s x t ho ht hinfo (by decide) (by decide) (by obtain ⟨A, c, rfl⟩ := hr.form; rfl) v xss.length _ hs (ownsRow_new h1 hn) hx hlen (by omega) ?_
  intro g cap w' ho' hgr hloc
  have hsz' := hgr.size
  have hrb := hr.block
  have hrne : r.ownBlock ≠ v.ownBlock ∨ r.ownBlock = none := by
    cases e1 : r.ownBlock with
    | none => exact Or.inr rfl
    | some k =>
      left
      intro e2
      have := hrb k e1
      have := hv k e2.symm
      omega
  refine h g cap w' ⟨fun i => if i < xss.length then rv i else r, ?_, ?_, ?_⟩ hgr hloc
  · have e1 : (List.range (xss ++ [ys]).length).map (fun i => if i < xss.length then rv i else r) = (List.range xss.length).map rv ++ [r] := by
      rw [List.length_append, List.length_singleton, list_range_snoc]
      congr 1
      · apply List.map_congr_left
        intro i hi
        rw [if_pos (List.mem_range.1 hi)]
      · rw [if_neg (Nat.lt_irrefl _)]
    rw [e1, List.length_append, List.length_singleton]
    exact ho'
  · intro i hi
    rw [List.length_append, List.length_singleton] at hi
    by_cases hlt : i < xss.length
    · simp only [if_pos hlt]
      obtain ⟨k1, k2⟩ := h2 i hlt
      have k1' := k1.new hn
      have hb1 := k1.block
      rw [nth_append_left _ _ _ hlt]
      refine ⟨(k1'.grown hgr k2).widen (Nat.le_refl _) (by omega), ?_⟩
      cases e1 : (rv i).ownBlock with
      | none => exact Or.inr rfl
      | some k =>
        left
        have := hb1 k e1
        rcases hloc with hl | hl
        · rcases k2 with k2 | k2
          · rw [e1, hl] at k2; simpa [Value.ownBlock] using k2
          · rw [e1] at k2; cases k2
        · simp [Value.ownBlock]; omega
    · have hi' : i = xss.length := by omega
      subst hi'
      simp only [if_neg (Nat.lt_irrefl _)]
      rw [nth_append_here]
      refine ⟨(hr.grown hgr hrne).widen (by omega) (by omega), ?_⟩
      cases e1 : r.ownBlock with
      | none => exact Or.inr rfl
      | some k =>
        left
        have := hrb k e1
        rcases hloc with hl | hl
        · have := hv g hl; simp [Value.ownBlock]; omega
        · simp [Value.ownBlock]; omega
  · intro i j hij hj
    rw [List.length_append, List.length_singleton] at hj
    by_cases hlt : j < xss.length
    · simp only [if_pos hlt, if_pos (show i < xss.length by omega)]
      exact h3 i j hij hlt
    · have hj' : j = xss.length := by omega
      subst hj'
      simp only [if_neg (Nat.lt_irrefl _), if_pos hij]
      cases e1 : (rv i).ownBlock with
      | none => exact Or.inr rfl
      | some k =>
        left
        have := (h2 i hij).1.block k e1
        intro e2
        have := hrb k e2.symm
        omega
end

end Go.Proofs.Ythbebnfhplacnaa
