/- A list of lists under append, none of which is longer than its capacity. -/
import Derived.Test.YtoeckejcmojeaaaRows
import Derived.Test.YtoeckejcmojeaaaCore
import Derived.Test.YtoeckejcmojeaaaMaps
import Derived.Test.YtoeckejcmojeaaaArrs
import Derived.Test.YtoeckejcmojeaaaSOwn
import Derived.Test.YtoeckejcmojeaaaSArrs
import Derived.WalkKit
import Derived.WalkSpells
import Derived.WalkLawsBesides
import Derived.Deep.QuietTactic
import Derived.Deep.OwnRows
import Derived.BigQuiet
import Derived.KernelRfl
namespace Go.Proofs.Ytoeckejcmojeaaa
open Go.RowKit

def GrowRowsC (B : Nat) (e : TypeId) (w : World) (v : Value) (xss : List (List Int)) : Prop :=
  ∃ rv : Nat → Value, w.ownsRow B e 1 v xss.length ((List.range xss.length).map rv) ∧
    (∀ i, i < xss.length → OwnInts B w.heap.size w (rv i) (nth xss i) ∧ ((rv i).ownBlock ≠ v.ownBlock ∨ (rv i).ownBlock = none)) ∧
    (∀ i j, i < j → j < xss.length → (rv i).ownBlock ≠ (rv j).ownBlock ∨ (rv i).ownBlock = none) ∧ ∀ i, i < xss.length → CapAt (rv i)
theorem GrowRowsC.rows {B : Nat} {e : TypeId} {w : World} {v : Value} {xss : List (List Int)} (h : GrowRowsC B e w v xss) : GrowRows B e w v xss := let ⟨rv, h1, h2, h3, _⟩ := h; ⟨rv, h1, h2, h3⟩
theorem GrowRowsC.nil (B : Nat) (e : TypeId) (w : World) : GrowRowsC B e w (.slice none 0 0) [] := ⟨fun _ => default, World.ownsRow_nil _ _ _ _, by simp, by simp, by simp⟩
theorem GrowRowsC.form {B : Nat} {e : TypeId} {w : World} {v : Value} {xss : List (List Int)} (h : GrowRowsC B e w v xss) : ∃ A c, v = .slice A xss.length c := h.rows.form
theorem GrowRowsC.block {B : Nat} {e : TypeId} {w : World} {v : Value} {xss : List (List Int)} (h : GrowRowsC B e w v xss) : ∀ k, v.ownBlock = some k → B ≤ k ∧ k < w.heap.size := h.rows.block
theorem GrowRowsC.within {B B' E' : Nat} {e : TypeId} {w w' : World} {v : Value} {xss : List (List Int)} (h : GrowRowsC B e w v xss) (hw : Within B' E' w w') (hd : E' ≤ B) : GrowRowsC B e w' v xss := by
  obtain ⟨rv, h1, h2, h3, h4⟩ := h
  have hs := hw.2.2.2.1
  exact ⟨rv, ownsRow_within h1 hw hd, fun i hi => ⟨((h2 i hi).1.within hw (Or.inr hd)).widen (Nat.le_refl _) hs, (h2 i hi).2⟩, h3, h4⟩
theorem GrowRowsC.caps {B : Nat} {e : TypeId} {w : World} {v : Value} {xss : List (List Int)} (h : GrowRowsC B e w v xss) (hl : xss.length ≤ 9223372036854775807) : CapRows w v xss := by
  obtain ⟨rv, h1, h2, h3, h4⟩ := h
  obtain ⟨A, c, rfl⟩ := ownsRow_form h1
  refine ⟨A, c, rfl, hl, fun i hi => ?_⟩
  obtain ⟨b, hb', ⟨c', e'⟩, hB, hlt, hc, _⟩ := ownsRow_cells h1 i (by simpa using hi)
  cases e'
  exact ⟨b, 0, rv i, rfl, by rw [Nat.zero_add, hc]; simp, (h2 i hi).1.at, h4 i hi⟩
section
variable {P : Program}
theorem wp_appRowsC1 {o : Oper} {a : Act} {w0 w1 : World} {K : Act → World → Prop} {Q : Exit → Act → World → Prop} (s x : Operand) (t : TypeId)
    (ho : o.op = .call { callee := .builtin .append, args := #[s, x], argTypes := #[t, t] }) {B : Nat} {e : TypeId} (ht : P.underlying t = some (.slice e))
    (hinfo : (P.info? e).map (fun i => (i.zero, i.size, i.bytes)) = some (some (.slice none 0 0), 1, 24)) (v r : Value) (xss : List (List Int)) (ys : List Int) (h : Nat) (hs : a.eval s = v) (hown : GrowRowsC B e w0 v xss) (hn : New w0 w1) (hcp : CapAt r)
    (hr : OwnInts w0.heap.size w1.heap.size w1 r ys)
    (hx : a.eval x = .slice (some ⟨h, 0, none⟩) 1 1) (hc : w1.cell? ⟨h, 0, none⟩ = some r) (hlen : xss.length < 1099511627776) (hB : B ≤ w0.heap.size)
    (hK : ∀ g cap w', GrowRowsC B e w' (.slice (some ⟨g, 0, none⟩) (xss.length + 1) cap) (xss ++ [ys]) → w1.grownBy w' v.ownBlock → K (a.put o.dst (.slice (some ⟨g, 0, none⟩) (xss.length + 1) cap)) w') : o.wp P a w1 K Q := by
  obtain ⟨i0, hi, hz0, hz1, hz2⟩ := info_parts hinfo
  obtain ⟨rv, h1, h2, h3, h4⟩ := hown
  have hv : ∀ k, v.ownBlock = some k → B ≤ k ∧ k < w0.heap.size := World.ownsRow.lt h1
  have hsz := hn.size
  refine wp_append_lies w1 s x t ho B e i0 (.slice none 0 0) 1 24 ht hi hz0 hz1 hz2 (by decide) (by decide) v xss.length _ hs (ownsRow_new h1 hn) ⟨h, 0, none⟩ 1 1 [r] hx rfl (fun j u hj => addr_zero h j u _ w1 hc hj) (by intro u hu; simp at hu; subst hu; obtain ⟨A, c, rfl⟩ := hr.form; rfl) (by decide) (by unfold maxLen; omega) (by omega) (by omega) w1.heap.size rfl ?_
  intro g cap w' ho' hgr hloc' hlt
  have hloc : v.ownBlock = some g ∨ w1.heap.size ≤ g := by
    rcases hloc' with h | h
    · exact Or.inl h
    · exact Or.inr (by omega)
  have hsz' := hgr.size
  have hrb := hr.block
  have hrne : r.ownBlock ≠ v.ownBlock ∨ r.ownBlock = none := by
    cases e1 : r.ownBlock with
    | none => exact Or.inr rfl
    | some k =>
      left
      intro e2
      have := hrb k e1
      have := hv k e2.symm
      omega
  refine hK g cap w' ⟨fun i => if i < xss.length then rv i else r, ?_, ?_, ?_, ?_⟩ hgr
  · have e1 : (List.range (xss ++ [ys]).length).map (fun i => if i < xss.length then rv i else r) = (List.range xss.length).map rv ++ [r] := by
      rw [List.length_append, List.length_singleton, list_range_snoc]
      congr 1
      · apply List.map_congr_left
        intro i hi
        rw [if_pos (List.mem_range.1 hi)]
      · rw [if_neg (Nat.lt_irrefl _)]
    rw [e1, List.length_append, List.length_singleton]
    exact ho'
  · intro i hi
    rw [List.length_append, List.length_singleton] at hi
    by_cases hlt : i < xss.length
    · simp only [if_pos hlt]
      obtain ⟨k1, k2⟩ := h2 i hlt
      have k1' := k1.new hn
      have hb1 := k1.block
      rw [nth_append_left _ _ _ hlt]
      refine ⟨(k1'.grown hgr k2).widen (Nat.le_refl _) (by omega), ?_⟩
      cases e1 : (rv i).ownBlock with
      | none => exact Or.inr rfl
      | some k =>
        left
        have := hb1 k e1
        rcases hloc with hl | hl
        · rcases k2 with k2 | k2
          · rw [e1, hl] at k2; simpa [Value.ownBlock] using k2
          · rw [e1] at k2; cases k2
        · simp [Value.ownBlock]; omega
    · have hi' : i = xss.length := by omega
      subst hi'
      simp only [if_neg (Nat.lt_irrefl _)]
      rw [nth_append_here]
      refine ⟨(hr.grown hgr hrne).widen (by omega) (by omega), ?_⟩
      cases e1 : r.ownBlock with
      | none => exact Or.inr rfl
      | some k =>
        left
        have := hrb k e1
        rcases hloc with hl | hl
        · have := hv g hl; simp [Value.ownBlock]; omega
        · simp [Value.ownBlock]; omega
  · intro i j hij hj
    rw [List.length_append, List.length_singleton] at hj
    by_cases hlt : j < xss.length
    · simp only [if_pos hlt, if_pos (show i < xss.length by omega)]
      exact h3 i j hij hlt
    · have hj' : j = xss.length := by omega
      subst hj'
      simp only [if_neg (Nat.lt_irrefl _), if_pos hij]
      cases e1 : (rv i).ownBlock with
      | none => exact Or.inr rfl
      | some k =>
        left
        have := (h2 i hij).1.block k e1
        intro e2
        have := hrb k e2.symm
        omega
  · intro i hi
    rw [List.length_append, List.length_singleton] at hi
    by_cases hlt : i < xss.length
    · simp only [if_pos hlt]; exact h4 i hlt
    · simp only [if_neg hlt]; exact hcp

theorem step_appRowsC1 {ops : Array Oper} {E : Prop} {o : Oper} {a : Act} {w0 w1 : World} {K : Act → World → Prop} {Q : Exit → Act → World → Prop} (hg : o.guard = none) (s x : Operand) (t : TypeId)
    (ho : o.op = .call { callee := .builtin .append, args := #[s, x], argTypes := #[t, t] }) {B : Nat} {e : TypeId} (ht : P.underlying t = some (.slice e))
    (hinfo : (P.info? e).map (fun i => (i.zero, i.size, i.bytes)) = some (some (.slice none 0 0), 1, 24)) (v r : Value) (xss : List (List Int)) (ys : List Int) (h : Nat) (hs : a.eval s = v) (hown : GrowRowsC B e w0 v xss) (hn : New w0 w1) (hcp : CapAt r)
    (hr : OwnInts w0.heap.size w1.heap.size w1 r ys)
    (hx : a.eval x = .slice (some ⟨h, 0, none⟩) 1 1) (hc : w1.cell? ⟨h, 0, none⟩ = some r) (hlen : xss.length < 1099511627776) (hB : B ≤ w0.heap.size)
    (hK : ∀ g cap w', GrowRowsC B e w' (.slice (some ⟨g, 0, none⟩) (xss.length + 1) cap) (xss ++ [ys]) → w1.grownBy w' v.ownBlock → K (a.put o.dst (.slice (some ⟨g, 0, none⟩) (xss.length + 1) cap)) w') :
    if Region.wanted o (yielded ops a.tmps) = true then Oper.wp P o a w1 K Q else E :=
  step_of_wp hg (wp_appRowsC1 s x t ho ht hinfo v r xss ys h hs hown hn hcp hr hx hc hlen hB hK)
end

end Go.Proofs.Ytoeckejcmojeaaa
