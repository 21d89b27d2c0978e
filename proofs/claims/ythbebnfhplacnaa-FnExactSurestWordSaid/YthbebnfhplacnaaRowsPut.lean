/- A row is put into a list of lists: the rows stay, the frame is new. -/
import Derived.Test.YthbebnfhplacnaaCore
import Derived.Test.YthbebnfhplacnaaPOrds
import Derived.Test.YthbebnfhplacnaaMaps
import Derived.Test.YthbebnfhplacnaaRowsSwap
import Derived.WalkKit
import Derived.WalkSpells
import Derived.WalkLawsBesides
import Derived.Deep.QuietTactic
import Derived.Deep.OwnRows
import Derived.BigQuiet
import Derived.KernelRfl
import Derived.OwnWalk
import Derived.Maps.AppendAt
namespace Go.Proofs.Ythbebnfhplacnaa
open Go.RowKit

section
variable {P : Program}
/-- 'append(out, us...)' of values of one cell. -/
theorem wpList_appVs {ops : Array Oper} {rest : List Oper} {o : Oper} {a : Act} {Q : Exit → Act → World → Prop} {w1 : World} (hg : o.guard = none) (s x : Operand) (t : TypeId)
    (ho : o.op = .call { callee := .builtin .append, args := #[s, x], argTypes := #[t, t] }) {B : Nat} {e : TypeId} (ht : P.underlying t = some (.slice e)) {z0 : Value} {bytes : Nat}
    (hinfo : (P.info? e).map (fun i => (i.zero, i.size, i.bytes)) = some (some z0, 1, bytes)) (hz0' : z0.cells.size = 1) (hb : bytes ≤ 64) (v : Value) (n g0 : Nat) (vs ns : List Value) (ad : Addr) (c : Nat) (hs : a.eval s = v) (hown : w1.ownsRow B e 1 v n vs) (hv0 : v.ownBlock = some g0)
    (hx : a.eval x = .slice (some ad) ns.length c) (hns : ∀ j u, ns[j]? = some u → w1.cell? (ad.add j) = some u) (h1 : ∀ u ∈ ns, u.oneCell' = true) (hlen : n + ns.length ≤ 1099511627776) (hB : B ≤ w1.heap.size)
    (h : ∀ g cap w', w'.ownsRow B e 1 (.slice (some ⟨g, 0, none⟩) (n + ns.length) cap) (n + ns.length) (vs ++ ns) → w1.grownBy w' v.ownBlock → (v.ownBlock = some g ∨ w1.heap.size ≤ g) → wpList P ops Q rest (a.put o.dst (.slice (some ⟨g, 0, none⟩) (n + ns.length) cap)) w') :
    wpList P ops Q (o :: rest) a w1 := by
  obtain ⟨i0, hi, hz0, hz1, hz2⟩ := info_parts hinfo
  refine wpList_append_own_at _ hg s x t ho B e i0 z0 1 bytes ht hi hz0 hz1 hz2 hz0' (by decide) v n _ hs hown ad ns.length c ns hx (by simp) hns h1 (by unfold maxLen; omega) ?_ hB ?_
  · have : (n + ns.length) * bytes ≤ 1099511627776 * 64 := Nat.mul_le_mul hlen hb
    omega
  · intro v' w' hown' hgrow hnil hloc
    obtain ⟨k1, ⟨rfl, k2⟩ | ⟨g, cap, cur, rfl, _⟩⟩ := id hown'
    · rcases hloc with h | h
      · rw [hv0] at h; simp [Value.ownBlock] at h
      · simp [Value.ownBlock] at h
    · refine h g cap w' hown' hgrow ?_
      rcases hloc with h | h
      · exact Or.inl h.symm
      · right; simp [Value.ownBlock] at h; omega
end
theorem put_vals (rv : Nat → Value) (r : Value) (n k : Nat) (hk : k ≤ n) : (List.range k).map rv ++ [r] ++ ((List.range n).map rv).drop k = (List.range (n + 1)).map (fun i => if i < k then rv i else if i = k then r else rv (i - 1)) := by
  apply List.ext_getElem
  · simp; omega
  · intro i h1 h2
    simp at h2
    simp only [List.getElem_map, List.getElem_range]
    by_cases e1 : i < k
    · rw [List.getElem_append_left (by simp; omega), List.getElem_append_left (by simpa using e1)]
      simp [e1]
    · by_cases e2 : i = k
      · subst e2
        rw [List.getElem_append_left (by simp)]
        simp
      · rw [List.getElem_append_right (by simp; omega)]
        simp [e1, e2]
        congr 1
        omega
/-- The new frame, with the new row at its place. -/
theorem GrowRows.put {B g n cap g2 cap2 k : Nat} {e : TypeId} {w0 w w' : World} {all : List (List Int)} {x : List Int} {r : Value} {rv : Nat → Value} (_hn : n = all.length)
    (k2 : ∀ i, i < all.length → OwnInts B w0.heap.size w0 (rv i) (nth all i) ∧ ((rv i).ownBlock ≠ (Value.slice (some ⟨g, 0, none⟩) n cap).ownBlock ∨ (rv i).ownBlock = none))
    (k3 : ∀ i j, i < j → j < all.length → (rv i).ownBlock ≠ (rv j).ownBlock ∨ (rv i).ownBlock = none) (h01 : New w0 w) (hr : OwnInts w0.heap.size w.heap.size w r x) (hB : B ≤ w0.heap.size) (hw : New w w') (hk : k ≤ all.length)
    (ho : w'.ownsRow w.heap.size e 1 (.slice (some ⟨g2, 0, none⟩) (all.length + 1) cap2) (all.length + 1) ((List.range k).map rv ++ [r] ++ ((List.range all.length).map rv).drop k)) :
    GrowRows B e w' (.slice (some ⟨g2, 0, none⟩) (all.length + 1) cap2) (all.take k ++ x :: all.drop k) := by
  have hl : (all.take k ++ x :: all.drop k).length = all.length + 1 := by simp; omega
  have hg2 := World.ownsRow.lt ho g2 rfl
  have hs01 := h01.size
  have hrb := hr.block
  have hnth : ∀ i, i < all.length + 1 → nth (all.take k ++ x :: all.drop k) i = if i < k then nth all i else if i = k then x else nth all (i - 1) := fun i hi => by
    rw [nth_eq _ _ (by rw [hl]; exact hi)]
    by_cases e1 : i < k
    · rw [if_pos e1, List.getElem_append_left (by simp; omega), nth_eq _ _ (by omega)]; simp
    · rw [if_neg e1, List.getElem_append_right (by simp; omega)]
      by_cases e2 : i = k
      · subst e2; rw [if_pos rfl]; simp [Nat.min_eq_left hk]
      · rw [if_neg e2, nth_eq _ _ (by omega)]
        obtain ⟨j, hj⟩ : ∃ j, i - (all.take k).length = j + 1 := ⟨i - k - 1, by simp; omega⟩
        simp only [hj, List.getElem_cons_succ, List.getElem_drop]
        congr 1
        simp at hj; omega
  have sym : ∀ a b, a ≠ b → a < all.length → b < all.length → (rv a).ownBlock ≠ (rv b).ownBlock ∨ (rv a).ownBlock = none := fun a b hab ha hb => by
    rcases Nat.lt_or_gt_of_ne hab with h | h
    · exact k3 a b h hb
    · rcases k3 b a h ha with h1 | h1
      · exact Or.inl (Ne.symm h1)
      · cases e : (rv a).ownBlock with
        | none => exact Or.inr rfl
        | some q => left; rw [h1]; simp
  have old : ∀ i, i < all.length → OwnInts B w'.heap.size w' (rv i) (nth all i) ∧ ((rv i).ownBlock ≠ (Value.slice (some ⟨g2, 0, none⟩) (all.length + 1) cap2).ownBlock ∨ (rv i).ownBlock = none) := fun i hi => by
    obtain ⟨a, _⟩ := k2 i hi
    refine ⟨(a.new (h01.trans hw)).widen (Nat.le_refl _) (h01.trans hw).size, ?_⟩
    cases e1 : (rv i).ownBlock with
    | none => exact Or.inr rfl
    | some q => left; have := a.block q e1; simp [Value.ownBlock]; omega
  refine ⟨fun i => if i < k then rv i else if i = k then r else rv (i - 1), ?_, fun i hi => ?_, fun i j hij hj => ?_⟩
  · rw [hl, ← put_vals rv r all.length k hk]
    exact ownsRow_base ho (by omega)
  · rw [hl] at hi
    rw [hnth i hi]
    dsimp only
    by_cases e1 : i < k
    · rw [if_pos e1, if_pos e1]; exact old i (by omega)
    · by_cases e2 : i = k
      · rw [if_neg e1, if_pos e2, if_neg e1, if_pos e2]
        refine ⟨(hr.new hw).widen hB hw.size, ?_⟩
        cases e1 : r.ownBlock with
        | none => exact Or.inr rfl
        | some q => left; have := hrb q e1; simp [Value.ownBlock]; omega
      · rw [if_neg e1, if_neg e2, if_neg e1, if_neg e2]; exact old (i - 1) (by omega)
  · rw [hl] at hj
    dsimp only
    have nr : ∀ i, i < all.length → (rv i).ownBlock ≠ r.ownBlock ∨ (rv i).ownBlock = none := fun i hi => by
      cases e1 : (rv i).ownBlock with
      | none => exact Or.inr rfl
      | some q =>
        left
        intro e2
        have a := (k2 i hi).1.block q e1
        have b := hrb q e2.symm
        omega
    have rn : ∀ i, i < all.length → r.ownBlock ≠ (rv i).ownBlock ∨ r.ownBlock = none := fun i hi => by
      rcases nr i hi with h | h
      · exact Or.inl (Ne.symm h)
      · cases e : r.ownBlock with
        | none => exact Or.inr rfl
        | some q => left; rw [h]; simp
    by_cases a1 : i < k
    · rw [if_pos a1]
      by_cases b1 : j < k
      · rw [if_pos b1]; exact sym _ _ (by omega) (by omega) (by omega)
      · by_cases b2 : j = k
        · rw [if_neg b1, if_pos b2]; exact nr _ (by omega)
        · rw [if_neg b1, if_neg b2]; exact sym _ _ (by omega) (by omega) (by omega)
    · by_cases a2 : i = k
      · rw [if_neg a1, if_pos a2, if_neg (by omega), if_neg (by omega)]; exact rn _ (by omega)
      · rw [if_neg a1, if_neg a2, if_neg (by omega), if_neg (by omega)]; exact sym _ _ (by omega) (by omega) (by omega)

end Go.Proofs.Ythbebnfhplacnaa
