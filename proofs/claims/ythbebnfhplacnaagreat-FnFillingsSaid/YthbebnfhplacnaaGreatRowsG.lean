/- Parts of the proof that lean on no program: RowsSwap, RowsPut, KeptA. -/
import Derived.Test.YthbebnfhplacnaaGreatCore
import Derived.Test.YthbebnfhplacnaaGreatPOrds
import Derived.Test.YthbebnfhplacnaaGreatMaps
import Derived.Test.YthbebnfhplacnaaGreatArrs
import Derived.WalkKit
import Derived.WalkSpells
import Derived.WalkLawsBesides
import Derived.Deep.QuietTactic
import Derived.Deep.OwnRows
import Derived.BigQuiet
import Derived.KernelRfl
import Derived.Laws.OwnMore
import Derived.OwnWalk
import Derived.Maps.AppendAt
namespace Go.Proofs.YthbebnfhplacnaaGreat
open Go.RowKit

section
theorem GrowRows.rowAt {B : Nat} {e : TypeId} {w : World} {v : Value} {xss : List (List Int)} (h : GrowRows B e w v xss) (i : Nat) (hi : i < xss.length) :
    ∃ g cap A n', v = .slice (some ⟨g, 0, none⟩) xss.length cap ∧ w.cell? ⟨g, i, none⟩ = some (.slice A (nth xss i).length n') ∧ w.frozen? ⟨g, i, none⟩ = false ∧ OwnInts B w.heap.size w (.slice A (nth xss i).length n') (nth xss i) := by
  obtain ⟨rv, h1, h2, h3⟩ := h
  obtain ⟨b, hb, ⟨c', e⟩, hB, hlt, hc, hf⟩ := ownsRow_cells h1 i (by simpa using hi)
  obtain ⟨A, n', er⟩ := (h2 i hi).1.form
  simp at hc
  exact ⟨b, c', A, n', e, er ▸ hc, hf, er ▸ (h2 i hi).1⟩
theorem GrowRows.swap {B g n cap : Nat} {e : TypeId} {w : World} {xss : List (List Int)} (h : GrowRows B e w (.slice (some ⟨g, 0, none⟩) n cap) xss) (j : Nat) (hj : j + 1 < xss.length) (r0 r1 : Value) (h0 : w.cell? ⟨g, j, none⟩ = some r0) (h1 : w.cell? ⟨g, j + 1, none⟩ = some r1) :
    GrowRows B e ((w.setCell ⟨g, j + 1, none⟩ r0).setCell ⟨g, j, none⟩ r1) (.slice (some ⟨g, 0, none⟩) n cap) (swapR xss j) := by
  obtain ⟨rv, k1, k2, k3⟩ := h
  have hn : n = xss.length := by obtain ⟨A, c, e⟩ := ownsRow_form k1; cases e; rfl
  subst hn
  obtain ⟨b, _, ⟨c', e1⟩, _, _, hc0, _⟩ := ownsRow_cells k1 j (by simp; omega)
  cases e1
  obtain ⟨b, _, ⟨c', e1⟩, _, _, hc1, _⟩ := ownsRow_cells k1 (j + 1) (by simp; omega)
  cases e1
  rw [h0] at hc0
  rw [h1] at hc1
  simp at hc0 hc1
  subst hc0
  subst hc1
  have s1 := World.ownsRow.stored k1 (j + 1) (rv j)
  have s2 := (World.ownsRow.stored s1.1 j (rv (j + 1))).1
  have hg : w.grownBy ((w.setCell ⟨g, j + 1, none⟩ (rv j)).setCell ⟨g, j, none⟩ (rv (j + 1))) (some g) := grown_trans (grown_setCell w ⟨g, j + 1, none⟩ _) (grown_setCell _ ⟨g, j, none⟩ _)
  refine ⟨fun i => if i = j then rv (j + 1) else if i = j + 1 then rv j else rv i, ?_, fun i hi => ?_, fun i k hik hk => ?_⟩
  · have el : (((List.range xss.length).map rv).set (j + 1) (rv j)).set j (rv (j + 1)) = (List.range (swapR xss j).length).map (fun i => if i = j then rv (j + 1) else if i = j + 1 then rv j else rv i) := by
      rw [swapR_len]
      apply List.ext_getElem
      · simp
      · intro i h1 h2
        simp at h1
        simp only [List.getElem_set, List.getElem_map, List.getElem_range]
        by_cases e1 : i = j
        · simp [e1]
        · by_cases e2 : i = j + 1
          · simp [e2]
          · rw [if_neg (Ne.symm e1), if_neg (Ne.symm e2), if_neg e1, if_neg e2]
    rw [← el, swapR_len]
    simpa using s2
  · rw [swapR_len] at hi
    rw [nth_swapR _ _ _ hj]
    dsimp only
    have keep : ∀ i, i < xss.length → OwnInts B ((w.setCell ⟨g, j + 1, none⟩ (rv j)).setCell ⟨g, j, none⟩ (rv (j + 1))).heap.size ((w.setCell ⟨g, j + 1, none⟩ (rv j)).setCell ⟨g, j, none⟩ (rv (j + 1))) (rv i) (nth xss i) ∧ ((rv i).ownBlock ≠ (Value.slice (some ⟨g, 0, none⟩) xss.length cap).ownBlock ∨ (rv i).ownBlock = none) := fun i hi => by
      obtain ⟨a, b⟩ := k2 i hi
      exact ⟨(a.grown hg b).widen (Nat.le_refl _) hg.size, b⟩
    by_cases e1 : i = j
    · subst e1; rw [if_pos rfl, if_pos rfl]; exact keep _ hj
    · by_cases e2 : i = j + 1
      · subst e2; rw [if_neg e1, if_neg e1, if_pos rfl, if_pos rfl]; exact keep _ (by omega)
      · rw [if_neg e1, if_neg e2, if_neg e1, if_neg e2]; exact keep _ hi
  · rw [swapR_len] at hk
    dsimp only
    have sym : ∀ a b, a ≠ b → a < xss.length → b < xss.length → (rv a).ownBlock ≠ (rv b).ownBlock ∨ (rv a).ownBlock = none := fun a b hab ha hb => by
      rcases Nat.lt_or_gt_of_ne hab with h | h
      · exact k3 a b h hb
      · rcases k3 b a h ha with h1 | h1
        · exact Or.inl (Ne.symm h1)
        · cases e : (rv a).ownBlock with
          | none => exact Or.inr rfl
          | some q => left; rw [h1]; simp
    by_cases a1 : i = j
    · rw [if_pos a1]
      by_cases b2 : k = j + 1
      · rw [if_neg (by omega), if_pos b2]; exact sym _ _ (by omega) hj (by omega)
      · rw [if_neg (by omega), if_neg b2]; exact sym _ _ (by omega) hj hk
    · by_cases a2 : i = j + 1
      · rw [if_neg a1, if_pos a2, if_neg (by omega), if_neg (by omega)]; exact sym _ _ (by omega) (by omega) hk
      · rw [if_neg a1, if_neg a2]
        by_cases b1 : k = j
        · rw [if_pos b1]; exact sym _ _ (by omega) (by omega) hj
        · by_cases b2 : k = j + 1
          · rw [if_neg b1, if_pos b2]; exact sym _ _ (by omega) (by omega) (by omega)
          · rw [if_neg b1, if_neg b2]; exact sym _ _ (by omega) (by omega) hk
section
variable {P : Program}
/-- The same, and where the new frame lies. -/
theorem wpList_appRowsL {ops : Array Oper} {rest : List Oper} {o : Oper} {a : Act} {Q : Exit → Act → World → Prop} {w0 w1 : World} {T : TypeId} {r : Value} (hg : o.guard = none) (s x : Operand) (t : TypeId)
    (ho : o.op = .call { callee := .builtin .append, args := #[s, x], argTypes := #[t, t] }) {B : Nat} {e : TypeId} (ht : P.underlying t = some (.slice e))
    (hinfo : (P.info? e).map (fun i => (i.zero, i.size, i.bytes)) = some (some (.slice none 0 0), 1, 24)) (v : Value) (xss : List (List Int)) (ys : List Int) (hs : a.eval s = v) (hown : GrowRows B e w0 v xss) (hn : New w0 w1)
    (hr : OwnInts w0.heap.size w1.heap.size w1 r ys)
    (hx : a.eval x = .slice (some ⟨w1.heap.size, 0, none⟩) 1 1) (hlen : xss.length < 1099511627776) (hB : B ≤ w0.heap.size)
    (h : ∀ g cap w', GrowRows B e w' (.slice (some ⟨g, 0, none⟩) (xss.length + 1) cap) (xss ++ [ys]) → w1.grownBy w' v.ownBlock → (v.ownBlock = some g ∨ w1.heap.size < g) → wpList P ops Q rest (a.put o.dst (.slice (some ⟨g, 0, none⟩) (xss.length + 1) cap)) w') :
    wpList P ops Q (o :: rest) a (w1.alloc (.cells #[r] T)) := by
  obtain ⟨rv, h1, h2, h3⟩ := hown
  have hv : ∀ k, v.ownBlock = some k → B ≤ k ∧ k < w0.heap.size := World.ownsRow.lt h1
  have hsz := hn.size
  refine wpList_appV hg s x t ho ht hinfo (by decide) (by decide) (by obtain ⟨A, c, rfl⟩ := hr.form; rfl) v xss.length _ hs (ownsRow_new h1 hn) hx hlen (by omega) ?_
  intro g cap w' ho' hgr hloc
  have hsz' := hgr.size
  have hrb := hr.block
  have hrne : r.ownBlock ≠ v.ownBlock ∨ r.ownBlock = none := by
    cases e1 : r.ownBlock with
    | none => exact Or.inr rfl
    | some k =>
      left
      intro e2
      have := hrb k e1
      have := hv k e2.symm
      omega
  refine h g cap w' ⟨fun i => if i < xss.length then rv i else r, ?_, ?_, ?_⟩ hgr hloc
  · have e1 : (List.range (xss ++ [ys]).length).map (fun i => if i < xss.length then rv i else r) = (List.range xss.length).map rv ++ [r] := by
      rw [List.length_append, List.length_singleton, list_range_snoc]
      congr 1
      · apply List.map_congr_left
        intro i hi
        rw [if_pos (List.mem_range.1 hi)]
      · rw [if_neg (Nat.lt_irrefl _)]
    rw [e1, List.length_append, List.length_singleton]
    exact ho'
  · intro i hi
    rw [List.length_append, List.length_singleton] at hi
    by_cases hlt : i < xss.length
    · simp only [if_pos hlt]
      obtain ⟨k1, k2⟩ := h2 i hlt
      have k1' := k1.new hn
      have hb1 := k1.block
      rw [nth_append_left _ _ _ hlt]
      refine ⟨(k1'.grown hgr k2).widen (Nat.le_refl _) (by omega), ?_⟩
      cases e1 : (rv i).ownBlock with
      | none => exact Or.inr rfl
      | some k =>
        left
        have := hb1 k e1
        rcases hloc with hl | hl
        · rcases k2 with k2 | k2
          · rw [e1, hl] at k2; simpa [Value.ownBlock] using k2
          · rw [e1] at k2; cases k2
        · simp [Value.ownBlock]; omega
    · have hi' : i = xss.length := by omega
      subst hi'
      simp only [if_neg (Nat.lt_irrefl _)]
      rw [nth_append_here]
      refine ⟨(hr.grown hgr hrne).widen (by omega) (by omega), ?_⟩
      cases e1 : r.ownBlock with
      | none => exact Or.inr rfl
      | some k =>
        left
        have := hrb k e1
        rcases hloc with hl | hl
        · have := hv g hl; simp [Value.ownBlock]; omega
        · simp [Value.ownBlock]; omega
  · intro i j hij hj
    rw [List.length_append, List.length_singleton] at hj
    by_cases hlt : j < xss.length
    · simp only [if_pos hlt, if_pos (show i < xss.length by omega)]
      exact h3 i j hij hlt
    · have hj' : j = xss.length := by omega
      subst hj'
      simp only [if_neg (Nat.lt_irrefl _), if_pos hij]
      cases e1 : (rv i).ownBlock with
      | none => exact Or.inr rfl
      | some k =>
        left
        have := (h2 i hij).1.block k e1
        intro e2
        have := hrb k e2.symm
        omega
end
end
section
section
variable {P : Program}
/-- 'append(out, us...)' of values of one cell. -/
theorem wpList_appVs {ops : Array Oper} {rest : List Oper} {o : Oper} {a : Act} {Q : Exit → Act → World → Prop} {w1 : World} (hg : o.guard = none) (s x : Operand) (t : TypeId)
    (ho : o.op = .call { callee := .builtin .append, args := #[s, x], argTypes := #[t, t] }) {B : Nat} {e : TypeId} (ht : P.underlying t = some (.slice e)) {z0 : Value} {bytes : Nat}
    (hinfo : (P.info? e).map (fun i => (i.zero, i.size, i.bytes)) = some (some z0, 1, bytes)) (hz0' : z0.cells.size = 1) (hb : bytes ≤ 64) (v : Value) (n g0 : Nat) (vs ns : List Value) (ad : Addr) (c : Nat) (hs : a.eval s = v) (hown : w1.ownsRow B e 1 v n vs) (hv0 : v.ownBlock = some g0)
    (hx : a.eval x = .slice (some ad) ns.length c) (hns : ∀ j u, ns[j]? = some u → w1.cell? (ad.add j) = some u) (h1 : ∀ u ∈ ns, u.oneCell' = true) (hlen : n + ns.length ≤ 1099511627776) (hB : B ≤ w1.heap.size)
    (h : ∀ g cap w', w'.ownsRow B e 1 (.slice (some ⟨g, 0, none⟩) (n + ns.length) cap) (n + ns.length) (vs ++ ns) → w1.grownBy w' v.ownBlock → (v.ownBlock = some g ∨ w1.heap.size ≤ g) → wpList P ops Q rest (a.put o.dst (.slice (some ⟨g, 0, none⟩) (n + ns.length) cap)) w') :
    wpList P ops Q (o :: rest) a w1 := by
  obtain ⟨i0, hi, hz0, hz1, hz2⟩ := info_parts hinfo
  refine wpList_append_own_at _ hg s x t ho B e i0 z0 1 bytes ht hi hz0 hz1 hz2 hz0' (by decide) v n _ hs hown ad ns.length c ns hx (by simp) hns h1 (by unfold maxLen; omega) ?_ hB ?_
  · have : (n + ns.length) * bytes ≤ 1099511627776 * 64 := Nat.mul_le_mul hlen hb
    omega
  · intro v' w' hown' hgrow hnil hloc
    obtain ⟨k1, ⟨rfl, k2⟩ | ⟨g, cap, cur, rfl, _⟩⟩ := id hown'
    · rcases hloc with h | h
      · rw [hv0] at h; simp [Value.ownBlock] at h
      · simp [Value.ownBlock] at h
    · refine h g cap w' hown' hgrow ?_
      rcases hloc with h | h
      · exact Or.inl h.symm
      · right; simp [Value.ownBlock] at h; omega
end
theorem put_vals (rv : Nat → Value) (r : Value) (n k : Nat) (hk : k ≤ n) : (List.range k).map rv ++ [r] ++ ((List.range n).map rv).drop k = (List.range (n + 1)).map (fun i => if i < k then rv i else if i = k then r else rv (i - 1)) := by
  apply List.ext_getElem
  · simp; omega
  · intro i h1 h2
    simp at h2
    simp only [List.getElem_map, List.getElem_range]
    by_cases e1 : i < k
    · rw [List.getElem_append_left (by simp; omega), List.getElem_append_left (by simpa using e1)]
      simp [e1]
    · by_cases e2 : i = k
      · subst e2
        rw [List.getElem_append_left (by simp)]
        simp
      · rw [List.getElem_append_right (by simp; omega)]
        simp [e1, e2]
        congr 1
        omega
/-- The new frame, with the new row at its place. -/
theorem GrowRows.put {B g n cap g2 cap2 k : Nat} {e : TypeId} {w0 w w' : World} {all : List (List Int)} {x : List Int} {r : Value} {rv : Nat → Value} (_hn : n = all.length)
    (k2 : ∀ i, i < all.length → OwnInts B w0.heap.size w0 (rv i) (nth all i) ∧ ((rv i).ownBlock ≠ (Value.slice (some ⟨g, 0, none⟩) n cap).ownBlock ∨ (rv i).ownBlock = none))
    (k3 : ∀ i j, i < j → j < all.length → (rv i).ownBlock ≠ (rv j).ownBlock ∨ (rv i).ownBlock = none) (h01 : New w0 w) (hr : OwnInts w0.heap.size w.heap.size w r x) (hB : B ≤ w0.heap.size) (hw : New w w') (hk : k ≤ all.length)
    (ho : w'.ownsRow w.heap.size e 1 (.slice (some ⟨g2, 0, none⟩) (all.length + 1) cap2) (all.length + 1) ((List.range k).map rv ++ [r] ++ ((List.range all.length).map rv).drop k)) :
    GrowRows B e w' (.slice (some ⟨g2, 0, none⟩) (all.length + 1) cap2) (all.take k ++ x :: all.drop k) := by
  have hl : (all.take k ++ x :: all.drop k).length = all.length + 1 := by simp; omega
  have hg2 := World.ownsRow.lt ho g2 rfl
  have hs01 := h01.size
  have hrb := hr.block
  have hnth : ∀ i, i < all.length + 1 → nth (all.take k ++ x :: all.drop k) i = if i < k then nth all i else if i = k then x else nth all (i - 1) := fun i hi => by
    rw [nth_eq _ _ (by rw [hl]; exact hi)]
    by_cases e1 : i < k
    · rw [if_pos e1, List.getElem_append_left (by simp; omega), nth_eq _ _ (by omega)]; simp
    · rw [if_neg e1, List.getElem_append_right (by simp; omega)]
      by_cases e2 : i = k
      · subst e2; rw [if_pos rfl]; simp [Nat.min_eq_left hk]
      · rw [if_neg e2, nth_eq _ _ (by omega)]
        obtain ⟨j, hj⟩ : ∃ j, i - (all.take k).length = j + 1 := ⟨i - k - 1, by simp; omega⟩
        simp only [hj, List.getElem_cons_succ, List.getElem_drop]
        congr 1
        simp at hj; omega
  have sym : ∀ a b, a ≠ b → a < all.length → b < all.length → (rv a).ownBlock ≠ (rv b).ownBlock ∨ (rv a).ownBlock = none := fun a b hab ha hb => by
    rcases Nat.lt_or_gt_of_ne hab with h | h
    · exact k3 a b h hb
    · rcases k3 b a h ha with h1 | h1
      · exact Or.inl (Ne.symm h1)
      · cases e : (rv a).ownBlock with
        | none => exact Or.inr rfl
        | some q => left; rw [h1]; simp
  have old : ∀ i, i < all.length → OwnInts B w'.heap.size w' (rv i) (nth all i) ∧ ((rv i).ownBlock ≠ (Value.slice (some ⟨g2, 0, none⟩) (all.length + 1) cap2).ownBlock ∨ (rv i).ownBlock = none) := fun i hi => by
    obtain ⟨a, _⟩ := k2 i hi
    refine ⟨(a.new (h01.trans hw)).widen (Nat.le_refl _) (h01.trans hw).size, ?_⟩
    cases e1 : (rv i).ownBlock with
    | none => exact Or.inr rfl
    | some q => left; have := a.block q e1; simp [Value.ownBlock]; omega
  refine ⟨fun i => if i < k then rv i else if i = k then r else rv (i - 1), ?_, fun i hi => ?_, fun i j hij hj => ?_⟩
  · rw [hl, ← put_vals rv r all.length k hk]
    exact ownsRow_base ho (by omega)
  · rw [hl] at hi
    rw [hnth i hi]
    dsimp only
    by_cases e1 : i < k
    · rw [if_pos e1, if_pos e1]; exact old i (by omega)
    · by_cases e2 : i = k
      · rw [if_neg e1, if_pos e2, if_neg e1, if_pos e2]
        refine ⟨(hr.new hw).widen hB hw.size, ?_⟩
        cases e1 : r.ownBlock with
        | none => exact Or.inr rfl
        | some q => left; have := hrb q e1; simp [Value.ownBlock]; omega
      · rw [if_neg e1, if_neg e2, if_neg e1, if_neg e2]; exact old (i - 1) (by omega)
  · rw [hl] at hj
    dsimp only
    have nr : ∀ i, i < all.length → (rv i).ownBlock ≠ r.ownBlock ∨ (rv i).ownBlock = none := fun i hi => by
      cases e1 : (rv i).ownBlock with
      | none => exact Or.inr rfl
      | some q =>
        left
        intro e2
        have a := (k2 i hi).1.block q e1
        have b := hrb q e2.symm
        omega
    have rn : ∀ i, i < all.length → r.ownBlock ≠ (rv i).ownBlock ∨ r.ownBlock = none := fun i hi => by
      rcases nr i hi with h | h
      · exact Or.inl (Ne.symm h)
      · cases e : r.ownBlock with
        | none => exact Or.inr rfl
        | some q => left; rw [h]; simp
    by_cases a1 : i < k
    · rw [if_pos a1]
      by_cases b1 : j < k
      · rw [if_pos b1]; exact sym _ _ (by omega) (by omega) (by omega)
      · by_cases b2 : j = k
        · rw [if_neg b1, if_pos b2]; exact nr _ (by omega)
        · rw [if_neg b1, if_neg b2]; exact sym _ _ (by omega) (by omega) (by omega)
    · by_cases a2 : i = k
      · rw [if_neg a1, if_pos a2, if_neg (by omega), if_neg (by omega)]; exact rn _ (by omega)
      · rw [if_neg a1, if_neg a2, if_neg (by omega), if_neg (by omega)]; exact sym _ _ (by omega) (by omega) (by omega)
end
section
theorem OwnInts.butK {S : Nat → Prop} {B E : Nat} {w w' : World} {v : Value} {xs : List Int} (h : OwnInts B E w v xs) (hb : But S w w') (hS : ∀ q, S q → q < B ∨ E ≤ q) : OwnInts B E w' v xs := by
  obtain ⟨A, c, rfl, hl, ha, hc⟩ := h
  refine ⟨A, c, rfl, hl, ha, fun i hi => ?_⟩
  obtain ⟨b, off, rfl, hx, hf⟩ := hc i hi
  have h1 := ha _ rfl
  have hn : ¬ S b := fun q => by have := hS _ q; simp only at h1; omega
  exact ⟨b, off, rfl, hb.cell hx hn, by rw [hb.frozen hx hn]; exact hf⟩
theorem OwnRows.butK {S : Nat → Prop} {B E : Nat} {w w' : World} {v : Value} {xss : List (List Int)} (h : OwnRows B E w v xss) (hb : But S w w') (hS : ∀ q, S q → q < B ∨ E ≤ q) : OwnRows B E w' v xss := by
  obtain ⟨A, c, rv, rfl, hl, ha, hc, hd⟩ := h
  refine ⟨A, c, rv, rfl, hl, ha, fun i hi => ?_, hd⟩
  obtain ⟨⟨b, off, rfl, hx, hne⟩, hr⟩ := hc i hi
  have h1 := ha _ rfl
  have hn : ¬ S b := fun q => by have := hS _ q; simp only at h1; omega
  exact ⟨⟨b, off, rfl, hb.cell hx hn, hne⟩, hr.butK hb hS⟩
/-- A word that lies behind lo, and where nothing of M lies. -/
def KeptInts (lo : Nat) (M : Nat → Prop) (w : World) (v : Value) (xs : List Int) : Prop := ∃ C D, lo ≤ C ∧ D ≤ w.heap.size ∧ OwnInts C D w v xs ∧ ∀ q, M q → q < C ∨ D ≤ q
def KeptRows (lo : Nat) (M : Nat → Prop) (w : World) (v : Value) (xss : List (List Int)) : Prop := ∃ C D, lo ≤ C ∧ D ≤ w.heap.size ∧ OwnRows C D w v xss ∧ ∀ q, M q → q < C ∨ D ≤ q
section
variable {lo : Nat} {M M' S : Nat → Prop} {w w' : World} {v : Value}
theorem KeptInts.but {xs : List Int} (h : KeptInts lo M w v xs) (hb : But S w w') (hS : ∀ q, S q → M q ∨ w.heap.size ≤ q) (hM : ∀ q, M' q → M q ∨ w.heap.size ≤ q) : KeptInts lo M' w' v xs := by
  obtain ⟨C, D, h1, h2, h3, h4⟩ := h
  have hz := hb.size
  refine ⟨C, D, h1, by omega, h3.butK hb (fun q hq => ?_), fun q hq => ?_⟩
  · rcases hS q hq with k | k
    · exact h4 q k
    · omega
  · rcases hM q hq with k | k
    · exact h4 q k
    · omega
theorem KeptRows.but {xss : List (List Int)} (h : KeptRows lo M w v xss) (hb : But S w w') (hS : ∀ q, S q → M q ∨ w.heap.size ≤ q) (hM : ∀ q, M' q → M q ∨ w.heap.size ≤ q) : KeptRows lo M' w' v xss := by
  obtain ⟨C, D, h1, h2, h3, h4⟩ := h
  have hz := hb.size
  refine ⟨C, D, h1, by omega, h3.butK hb (fun q hq => ?_), fun q hq => ?_⟩
  · rcases hS q hq with k | k
    · exact h4 q k
    · omega
  · rcases hM q hq with k | k
    · exact h4 q k
    · omega
theorem KeptInts.new {xs : List Int} (h : KeptInts lo M w v xs) (hn : New w w') : KeptInts lo M w' v xs := h.but (S := fun _ => False) (But.of_new hn) (fun _ q => q.elim) (fun _ q => Or.inl q)
theorem KeptRows.new {xss : List (List Int)} (h : KeptRows lo M w v xss) (hn : New w w') : KeptRows lo M w' v xss := h.but (S := fun _ => False) (But.of_new hn) (fun _ q => q.elim) (fun _ q => Or.inl q)
theorem KeptInts.at {xs : List Int} (h : KeptInts lo M w v xs) : IntsAt w v xs := let ⟨_, _, _, _, h, _⟩ := h; h.at
theorem KeptRows.at {xss : List (List Int)} (h : KeptRows lo M w v xss) : RowsAt w v xss := let ⟨_, _, _, _, h, _⟩ := h; h.at
theorem KeptInts.own {xs : List Int} (h : KeptInts lo M w v xs) : OwnInts lo w.heap.size w v xs := let ⟨_, _, h1, h2, h, _⟩ := h; h.widen h1 h2
theorem KeptInts.block {xs : List Int} (h : KeptInts lo M w v xs) : ∀ q, v.ownBlock = some q → lo ≤ q ∧ q < w.heap.size ∧ ¬ M q := by
  obtain ⟨C, D, h1, h2, h3, h4⟩ := h
  intro q hq
  have hb := h3.block q hq
  refine ⟨by omega, by omega, fun hm => ?_⟩
  have := h4 q hm
  omega
/-- The cells of a list of automata with m states each. -/
def autCells (m : Int) (rv : Nat → Value) (n : Nat) : List Value := (List.range n).flatMap fun i => [.int .i64 m, rv i]
theorem autCells_succ (m : Int) (rv : Nat → Value) (n : Nat) : autCells m rv (n + 1) = autCells m rv n ++ [.int .i64 m, rv n] := by
  unfold autCells; rw [List.range_succ, List.flatMap_append]; simp
theorem autCells_len (m : Int) (rv : Nat → Value) : ∀ n, (autCells m rv n).length = n * 2
  | 0 => rfl
  | n + 1 => by rw [autCells_succ, List.length_append, autCells_len m rv n]; simp; omega
theorem autCells_at (m : Int) (rv : Nat → Value) : ∀ n i, i < n → (autCells m rv n)[i * 2]? = some (.int .i64 m) ∧ (autCells m rv n)[i * 2 + 1]? = some (rv i)
  | 0, i, h => absurd h (by omega)
  | n + 1, i, h => by
    have hl := autCells_len m rv n
    rw [autCells_succ]
    rcases Nat.lt_succ_iff_lt_or_eq.1 h with q | q
    · obtain ⟨h1, h2⟩ := autCells_at m rv n i q
      rw [List.getElem?_append_left (by omega), List.getElem?_append_left (by omega)]
      exact ⟨h1, h2⟩
    · subst q
      rw [List.getElem?_append_right (by omega), List.getElem?_append_right (by omega), hl]
      simp
theorem autCells_congr {m : Int} {rv rv' : Nat → Value} : ∀ n, (∀ i, i < n → rv i = rv' i) → autCells m rv n = autCells m rv' n
  | 0, _ => rfl
  | n + 1, h => by rw [autCells_succ, autCells_succ, autCells_congr n (fun i hi => h i (by omega)), h n (Nat.lt_succ_self _)]
/-- A list of n automata with m states each. -/
def AutsAt (w : World) (v : Value) (m : Int) (f : Nat → List (List Int)) (n : Nat) : Prop := ∃ A c, v = .slice A n c ∧ ∀ i, i < n → ∃ b r, A = some ⟨b, 0, none⟩ ∧ w.cell? ⟨b, i * 2, none⟩ = some (.int .i64 m) ∧ w.cell? ⟨b, i * 2 + 1, none⟩ = some r ∧ RowsAt w r (f i)
theorem AutsAt.new {m : Int} {f : Nat → List (List Int)} {n : Nat} (h : AutsAt w v m f n) (hn : New w w') : AutsAt w' v m f n := by
  obtain ⟨A, c, rfl, hc⟩ := h
  refine ⟨A, c, rfl, fun i hi => ?_⟩
  obtain ⟨b, r, rfl, h1, h2, h3⟩ := hc i hi
  exact ⟨b, r, rfl, hn.cell h1, hn.cell h2, h3.new hn⟩
/-- The same under append. -/
def GrowA (lo : Nat) (e : TypeId) (M : Nat → Prop) (w : World) (v : Value) (m : Int) (f : Nat → List (List Int)) (n : Nat) : Prop :=
  ∃ rv : Nat → Value, w.ownsRow lo e 2 v n (autCells m rv n) ∧ ∀ i, i < n → KeptRows lo M w (rv i) (f i)
theorem GrowA.empty (lo : Nat) (e : TypeId) (M : Nat → Prop) (w : World) (m : Int) (f : Nat → List (List Int)) (h : lo ≤ w.heap.size) : GrowA lo e M (w.alloc (.cells #[] e)) (.slice (some ⟨w.heap.size, 0, none⟩) 0 0) m f 0 :=
  ⟨fun _ => default, World.ownsRow_made (w := w) (base := lo) (e := e) (size := 2) #[] 0 h (by simp) (by simp), fun i hi => absurd hi (by omega)⟩
theorem GrowA.form {e : TypeId} {m : Int} {f : Nat → List (List Int)} {n : Nat} (h : GrowA lo e M w v m f n) : ∃ A c, v = .slice A n c := by
  obtain ⟨_, ⟨h1, ⟨rfl, h2⟩ | ⟨g, cap, cur, rfl, _⟩⟩, _⟩ := h
  · exact ⟨none, 0, by rw [h2]⟩
  · exact ⟨_, _, rfl⟩
theorem GrowA.block {e : TypeId} {m : Int} {f : Nat → List (List Int)} {n : Nat} (h : GrowA lo e M w v m f n) : ∀ k, v.ownBlock = some k → lo ≤ k ∧ k < w.heap.size := let ⟨_, h, _⟩ := h; World.ownsRow.lt h
theorem GrowA.but {e : TypeId} {m : Int} {f : Nat → List (List Int)} {n : Nat} (h : GrowA lo e M w v m f n) (hb : But S w w') (hv : ∀ k, v.ownBlock = some k → ¬ S k) (hS : ∀ q, S q → M q ∨ w.heap.size ≤ q) (hM : ∀ q, M' q → M q ∨ w.heap.size ≤ q) : GrowA lo e M' w' v m f n := by
  obtain ⟨rv, h1, h2⟩ := h
  exact ⟨rv, hb.row h1 hv, fun i hi => (h2 i hi).but hb hS hM⟩
theorem GrowA.new {e : TypeId} {m : Int} {f : Nat → List (List Int)} {n : Nat} (h : GrowA lo e M w v m f n) (hn : New w w') : GrowA lo e M w' v m f n := h.but (S := fun _ => False) (But.of_new hn) (fun _ _ q => q) (fun _ q => q.elim) (fun _ q => Or.inl q)
theorem GrowA.row {e : TypeId} {m : Int} {f : Nat → List (List Int)} {n : Nat} (h : GrowA lo e M w v m f n) (i : Nat) (hi : i < n) : ∃ b c r, v = .slice (some ⟨b, 0, none⟩) n c ∧ w.cell? ⟨b, i * 2, none⟩ = some (.int .i64 m) ∧ w.cell? ⟨b, i * 2 + 1, none⟩ = some r ∧ KeptRows lo M w r (f i) := by
  obtain ⟨rv, ⟨h1, ⟨e1, e2⟩ | ⟨g, cap, cur, e1, hg, hh, hn, hc, hs, ht⟩⟩, h2⟩ := h
  · omega
  · obtain ⟨q1, q2⟩ := autCells_at m rv n i hi
    refine ⟨g, cap, rv i, e1, ?_, ?_, h2 i hi⟩
    · rw [← ht, List.getElem?_take, if_pos (by omega)] at q1
      simpa [World.cell?, hh] using q1
    · rw [← ht, List.getElem?_take, if_pos (by omega)] at q2
      simpa [World.cell?, hh] using q2
theorem GrowA.at {e : TypeId} {m : Int} {f : Nat → List (List Int)} {n : Nat} (h : GrowA lo e M w v m f n) : AutsAt w v m f n := by
  obtain ⟨A, c, rfl⟩ := h.form
  refine ⟨A, c, rfl, fun i hi => ?_⟩
  obtain ⟨b, c', r, e1, h1, h2, h3⟩ := h.row i hi
  cases e1
  exact ⟨b, r, rfl, h1, h2, h3.at⟩
/-- Words under append, no two in one block. -/
def GrowW (lo : Nat) (e : TypeId) (M : Nat → Prop) (w : World) (v : Value) (xss : List (List Int)) : Prop :=
  ∃ rv : Nat → Value, w.ownsRow lo e 1 v xss.length ((List.range xss.length).map rv) ∧ (∀ i, i < xss.length → KeptInts lo M w (rv i) (nth xss i)) ∧ ∀ i j, i < j → j < xss.length → (rv i).ownBlock ≠ (rv j).ownBlock ∨ (rv i).ownBlock = none
theorem GrowW.empty (lo : Nat) (e : TypeId) (M : Nat → Prop) (w : World) (h : lo ≤ w.heap.size) : GrowW lo e M (w.alloc (.cells #[] e)) (.slice (some ⟨w.heap.size, 0, none⟩) 0 0) [] :=
  ⟨fun _ => default, World.ownsRow_made (w := w) (base := lo) (e := e) (size := 1) #[] 0 h (by simp) (by simp), by simp, by simp⟩
theorem GrowW.form {e : TypeId} {xss : List (List Int)} (h : GrowW lo e M w v xss) : ∃ A c, v = .slice A xss.length c := let ⟨_, h, _⟩ := h; ownsRow_form h
theorem GrowW.block {e : TypeId} {xss : List (List Int)} (h : GrowW lo e M w v xss) : ∀ k, v.ownBlock = some k → lo ≤ k ∧ k < w.heap.size := let ⟨_, h, _⟩ := h; World.ownsRow.lt h
theorem GrowW.but {e : TypeId} {xss : List (List Int)} (h : GrowW lo e M w v xss) (hb : But S w w') (hv : ∀ k, v.ownBlock = some k → ¬ S k) (hS : ∀ q, S q → M q ∨ w.heap.size ≤ q) (hM : ∀ q, M' q → M q ∨ w.heap.size ≤ q) : GrowW lo e M' w' v xss := by
  obtain ⟨rv, h1, h2, h3⟩ := h
  exact ⟨rv, hb.row h1 hv, fun i hi => (h2 i hi).but hb hS hM, h3⟩
theorem GrowW.new {e : TypeId} {xss : List (List Int)} (h : GrowW lo e M w v xss) (hn : New w w') : GrowW lo e M w' v xss := h.but (S := fun _ => False) (But.of_new hn) (fun _ _ q => q) (fun _ q => q.elim) (fun _ q => Or.inl q)
theorem GrowW.rows {e : TypeId} {xss : List (List Int)} (h : GrowW lo e M w v xss) (hv : ∀ k, v.ownBlock = some k → M k) : GrowRows lo e w v xss := by
  obtain ⟨rv, h1, h2, h3⟩ := h
  refine ⟨rv, h1, fun i hi => ⟨(h2 i hi).own, ?_⟩, h3⟩
  cases e1 : (rv i).ownBlock with
  | none => exact Or.inr rfl
  | some q =>
    refine Or.inl (fun e2 => ?_)
    exact ((h2 i hi).block q e1).2.2 (hv q e2.symm)
/-- One more, that lies behind what was there. -/
theorem GrowW.snoc {e : TypeId} {xss : List (List Int)} {x : List Int} {w0 : World} {r v' : Value} {C : Nat} {rv : Nat → Value} (h1 : w0.ownsRow lo e 1 v xss.length ((List.range xss.length).map rv)) (h2 : ∀ i, i < xss.length → KeptInts lo M w0 (rv i) (nth xss i)) (h3 : ∀ i j, i < j → j < xss.length → (rv i).ownBlock ≠ (rv j).ownBlock ∨ (rv i).ownBlock = none) (hb0 : But S w0 w) (hS : ∀ q, S q → M q ∨ w0.heap.size ≤ q) (hr : OwnInts C w.heap.size w r x) (hC : w0.heap.size ≤ C) (hC2 : lo ≤ C)
    (hMC : ∀ q, M q → q < C) (hg : w.grownBy w' v.ownBlock) (hv : ∀ k, v.ownBlock = some k → M k) (hM : ∀ q, M' q → M q ∨ w.heap.size ≤ q) (ho : w'.ownsRow lo e 1 v' (xss.length + 1) ((List.range xss.length).map rv ++ [r])) : GrowW lo e M' w' v' (xss ++ [x]) := by
  have hb : But (fun q => v.ownBlock = some q) w w' := But.of_grown hg (fun k hk => hk)
  have hkr : KeptInts lo M w r x := ⟨C, w.heap.size, hC2, Nat.le_refl _, hr, fun q hq => Or.inl (hMC q hq)⟩
  have hl : (xss ++ [x]).length = xss.length + 1 := by simp
  refine ⟨fun i => if i = xss.length then r else rv i, ?_, fun i hi => ?_, fun i j hij hj => ?_⟩
  · have _ := h1
    rw [hl, list_range_snoc, if_pos rfl]
    have e1 : (List.range xss.length).map (fun i => if i = xss.length then r else rv i) = (List.range xss.length).map rv := by
      apply List.map_congr_left
      intro i hi
      rw [List.mem_range] at hi
      rw [if_neg (by omega)]
    rw [e1]
    exact ho
  · rw [hl] at hi
    rcases Nat.lt_succ_iff_lt_or_eq.1 hi with q | q
    · simp only [if_neg (Nat.ne_of_lt q)]
      rw [nth_append_left _ _ _ q]
      exact ((h2 i q).but hb0 hS (fun q hq => Or.inl hq)).but hb (fun q hq => Or.inl (hv q hq)) hM
    · subst q
      simp only [if_true]
      rw [nth_append_here]
      exact hkr.but hb (fun q hq => Or.inl (hv q hq)) hM
  · rw [hl] at hj
    simp only [if_neg (show i ≠ xss.length by omega)]
    rcases Nat.lt_succ_iff_lt_or_eq.1 hj with q | q
    · simp only [if_neg (Nat.ne_of_lt q)]
      exact h3 i j hij q
    · subst q
      simp only [if_true]
      cases e1 : (rv i).ownBlock with
      | none => exact Or.inr rfl
      | some k =>
        refine Or.inl (fun e2 => ?_)
        have k1 := ((h2 i hij).block k e1).2.1
        have k2 := (hr.block k e2.symm).1
        omega
end
section
variable {P : Program}
theorem wpList_appA {ops : Array Oper} {rest : List Oper} {o : Oper} {a : Act} {Q : Exit → Act → World → Prop} {w1 : World} {T : TypeId} {m : Int} {r : Value} (hg : o.guard = none) (so x : Operand) (t : TypeId)
    (ho : o.op = .call { callee := .builtin .append, args := #[so, x], argTypes := #[t, t] }) {B : Nat} {e : TypeId} (ht : P.underlying t = some (.slice e)) {z0 : Value}
    (hinfo : (P.info? e).map (fun i => (i.zero, i.size, i.bytes)) = some (some z0, 2, 32)) (hz0' : z0.cells.size = 2) (hr1 : r.oneCell' = true) (v : Value) (n : Nat) (f : Nat → List (List Int)) {M : Nat → Prop} (hs : a.eval so = v) (hown : GrowA B e M w1 v m f n)
    (hx : a.eval x = .slice (some ⟨w1.heap.size, 0, none⟩) 1 1) (hlen : n < 1048576) (hB : B ≤ w1.heap.size) (hr : KeptRows B M w1 r (f n)) (hv : ∀ k, v.ownBlock = some k → M k)
    (h : ∀ g cap w', (∀ M' : Nat → Prop, (∀ q, M' q → M q ∨ w1.heap.size ≤ q) → GrowA B e M' w' (.slice (some ⟨g, 0, none⟩) (n + 1) cap) m f (n + 1)) → w1.grownBy w' v.ownBlock → (v.ownBlock = some g ∨ w1.heap.size ≤ g) → wpList P ops Q rest (a.put o.dst (.slice (some ⟨g, 0, none⟩) (n + 1) cap)) w') :
    wpList P ops Q (o :: rest) a (w1.alloc (.cells #[.int .i64 m, r] T)) := by
  obtain ⟨i0, hi, hz0, hz1, hz2⟩ := info_parts hinfo
  obtain ⟨rv, h1, h2⟩ := hown
  refine wpList_append_own_at _ hg so x t ho B e i0 z0 2 32 ht hi hz0 hz1 hz2 hz0' (by decide) v n _ hs (World.ownsRow.alloc h1 _) ⟨w1.heap.size, 0, none⟩ 1 1 [.int .i64 m, r] hx rfl ?_ (by intro u hu; simp at hu; rcases hu with rfl | rfl; rfl; exact hr1) (by unfold maxLen; omega) (by omega) (by simp; omega) ?_
  · intro j u hj
    rcases j with _ | _ | j
    · simp at hj; subst hj
      unfold Addr.add World.cell?
      simp only [if_true]
      rw [heap_alloc_new]; rfl
    · simp at hj; subst hj
      unfold Addr.add World.cell?
      simp only [Nat.zero_add, Nat.one_ne_zero, if_false]
      rw [heap_alloc_new]; rfl
    · simp at hj
  · intro v' w' hown' hgrow hnil hloc
    have hgr : w1.grownBy w' v.ownBlock := grown_trans (World.grownBy_alloc _ _ _) hgrow
    obtain ⟨k1, ⟨rfl, k2⟩ | ⟨g, cap, cur, rfl, _⟩⟩ := id hown'
    · omega
    · have hl : v.ownBlock = some g ∨ w1.heap.size ≤ g := by
        rcases hloc with q | q
        · exact Or.inl q.symm
        · exact Or.inr (by simp [Value.ownBlock] at q; omega)
      refine h g cap w' (fun M' hM => ?_) hgr hl
      have hb : But (fun q => v.ownBlock = some q) w1 w' := But.of_grown hgr (fun k hk => hk)
      refine ⟨fun i => if i = n then r else rv i, ?_, fun i hi => ?_⟩
      · rw [autCells_succ, autCells_congr (rv' := rv) n (fun i hi => if_neg (by omega)), if_pos rfl]
        exact hown'
      · rcases Nat.lt_succ_iff_lt_or_eq.1 hi with q | q
        · simp only [if_neg (Nat.ne_of_lt q)]
          exact (h2 i q).but hb (fun q hq => Or.inl (hv q hq)) hM
        · subst q
          simp only [if_true]
          exact hr.but hb (fun q hq => Or.inl (hv q hq)) hM
end
/-- A list of words that is read alone; the words may lie in one block. -/
def WordsK (lo : Nat) (M : Nat → Prop) (w : World) (v : Value) (xss : List (List Int)) : Prop :=
  ∃ (g cap : Nat) (rv : Nat → Value), v = .slice (some ⟨g, 0, none⟩) xss.length cap ∧ xss.length ≤ cap ∧ cap ≤ 9223372036854775807 ∧ lo ≤ g ∧ g < w.heap.size ∧ ¬ M g ∧ ∀ i, i < xss.length → w.cell? ⟨g, i, none⟩ = some (rv i) ∧ KeptInts lo M w (rv i) (nth xss i)
section
variable {lo : Nat} {M M' S : Nat → Prop} {w w' : World} {v : Value} {xss : List (List Int)}
theorem WordsK.but (h : WordsK lo M w v xss) (hb : But S w w') (hS : ∀ q, S q → M q ∨ w.heap.size ≤ q) (hM : ∀ q, M' q → M q ∨ w.heap.size ≤ q) : WordsK lo M' w' v xss := by
  obtain ⟨g, cap, rv, h1, h2, h3, h4, h5, h6, h7⟩ := h
  have hz := hb.size
  have hSg : ¬ S g := fun q => by
    rcases hS g q with k | k
    · exact h6 k
    · omega
  refine ⟨g, cap, rv, h1, h2, h3, h4, by omega, fun q => ?_, fun i hi => ?_⟩
  · rcases hM g q with k | k
    · exact h6 k
    · omega
  · obtain ⟨q1, q2⟩ := h7 i hi
    exact ⟨hb.cell q1 hSg, q2.but hb hS hM⟩
theorem WordsK.new (h : WordsK lo M w v xss) (hn : New w w') : WordsK lo M w' v xss := h.but (S := fun _ => False) (But.of_new hn) (fun _ q => q.elim) (fun _ q => Or.inl q)
theorem WordsK.form (h : WordsK lo M w v xss) : ∃ A c, v = .slice A xss.length c := let ⟨_, _, _, h, _⟩ := h; ⟨_, _, h⟩
theorem WordsK.empty (lo : Nat) (e : TypeId) (M : Nat → Prop) (w : World) (h : lo ≤ w.heap.size) (hM : ¬ M w.heap.size) : WordsK lo M (w.alloc (.cells #[] e)) (.slice (some ⟨w.heap.size, 0, none⟩) 0 0) [] :=
  ⟨w.heap.size, 0, fun _ => default, rfl, Nat.le_refl _, by omega, h, by simp only [size_alloc]; omega, hM, fun i hi => by simp at hi⟩
theorem nth_put (all : List (List Int)) (x : List Int) (k : Nat) (hk : k ≤ all.length) (i : Nat) (hi : i < all.length + 1) : nth (all.take k ++ x :: all.drop k) i = if i < k then nth all i else if i = k then x else nth all (i - 1) := by
  have hl : (all.take k ++ x :: all.drop k).length = all.length + 1 := by simp; omega
  rw [nth_eq _ _ (by rw [hl]; exact hi)]
  by_cases e1 : i < k
  · rw [if_pos e1, List.getElem_append_left (by simp; omega), nth_eq _ _ (by omega)]; simp
  · rw [if_neg e1, List.getElem_append_right (by simp; omega)]
    by_cases e2 : i = k
    · subst e2; rw [if_pos rfl]; simp [Nat.min_eq_left hk]
    · rw [if_neg e2, nth_eq _ _ (by omega)]
      obtain ⟨j, hj⟩ : ∃ j, i - (all.take k).length = j + 1 := ⟨i - k - 1, by simp; omega⟩
      simp only [hj, List.getElem_cons_succ, List.getElem_drop]
      congr 1
      simp at hj; omega
theorem WordsK.put {all : List (List Int)} {x : List Int} {rv : Nat → Value} {rx : Value} {g2 cap2 k : Nat} {e : TypeId} (h : ∀ j, j < all.length → KeptInts lo M w (rv j) (nth all j)) (hn : New w w') (hlo : lo ≤ w.heap.size) (hM : ∀ q, M q → q < w.heap.size)
    (hx : OwnInts w.heap.size w'.heap.size w' rx x) (hk : k ≤ all.length) (ho : w'.ownsRow w.heap.size e 1 (.slice (some ⟨g2, 0, none⟩) (all.length + 1) cap2) (all.length + 1) ((List.range k).map rv ++ [rx] ++ ((List.range all.length).map rv).drop k)) : WordsK lo M w' (.slice (some ⟨g2, 0, none⟩) (all.length + 1) cap2) (all.take k ++ x :: all.drop k) := by
  have hl : (all.take k ++ x :: all.drop k).length = all.length + 1 := by simp; omega
  have hg2 := World.ownsRow.lt ho g2 rfl
  have hcap : all.length + 1 ≤ cap2 ∧ cap2 ≤ maxLen := by
    obtain ⟨_, ⟨e1, _⟩ | ⟨g, cap, cur, e1, _, _, h1, h2, _⟩⟩ := id ho
    · cases e1
    · cases e1; exact ⟨h1, h2⟩
  unfold maxLen at hcap
  rw [put_vals rv rx all.length k hk] at ho
  have hkx : KeptInts lo M w' rx x := ⟨w.heap.size, w'.heap.size, hlo, Nat.le_refl _, hx, fun q hq => Or.inl (hM q hq)⟩
  refine ⟨g2, cap2, fun i => if i < k then rv i else if i = k then rx else rv (i - 1), by rw [hl], by rw [hl]; exact hcap.1, by omega, by omega, by omega, fun q => by have := hM g2 q; omega, fun i hi => ?_⟩
  rw [hl] at hi
  refine ⟨?_, ?_⟩
  · obtain ⟨b, _, ⟨c', e1⟩, _, _, hc, _⟩ := ownsRow_cells ho i (by simpa using hi)
    cases e1
    rw [hc]; simp
  · rw [nth_put all x k hk i hi]
    by_cases e1 : i < k
    · simp only [if_pos e1]; exact (h i (by omega)).new hn
    · by_cases e2 : i = k
      · simp only [if_neg e1, if_pos e2]; exact hkx
      · simp only [if_neg e1, if_neg e2]; exact (h (i - 1) (by omega)).new hn
end
section
variable {P : Program}
theorem wpList_appW {ops : Array Oper} {rest : List Oper} {o : Oper} {a : Act} {Q : Exit → Act → World → Prop} {w0 w1 : World} {T : TypeId} {r : Value} (hg : o.guard = none) (so x : Operand) (t : TypeId)
    (ho : o.op = .call { callee := .builtin .append, args := #[so, x], argTypes := #[t, t] }) {lo : Nat} {e : TypeId} (ht : P.underlying t = some (.slice e)) {z0 : Value} {bytes : Nat}
    (hinfo : (P.info? e).map (fun i => (i.zero, i.size, i.bytes)) = some (some z0, 1, bytes)) (hz0' : z0.cells.size = 1) (hby : bytes ≤ 64) (hr1 : r.oneCell' = true) (v : Value) (xss : List (List Int)) (ys : List Int) {M S : Nat → Prop} {C : Nat} (hs : a.eval so = v) (hown : GrowW lo e M w0 v xss)
    (hx : a.eval x = .slice (some ⟨w1.heap.size, 0, none⟩) 1 1) (hlen : xss.length < 1048576) (hB : lo ≤ w1.heap.size) (hb0 : But S w0 w1) (hv0 : ∀ k, v.ownBlock = some k → ¬ S k) (hS : ∀ q, S q → M q ∨ w0.heap.size ≤ q) (hr : OwnInts C w1.heap.size w1 r ys) (hC : w0.heap.size ≤ C) (hC2 : lo ≤ C) (hMC : ∀ q, M q → q < C) (hv : ∀ k, v.ownBlock = some k → M k)
    (h : ∀ g cap w', (∀ M' : Nat → Prop, (∀ q, M' q → M q ∨ w1.heap.size ≤ q) → GrowW lo e M' w' (.slice (some ⟨g, 0, none⟩) (xss.length + 1) cap) (xss ++ [ys])) → w1.grownBy w' v.ownBlock → (v.ownBlock = some g ∨ w1.heap.size ≤ g) → wpList P ops Q rest (a.put o.dst (.slice (some ⟨g, 0, none⟩) (xss.length + 1) cap)) w') :
    wpList P ops Q (o :: rest) a (w1.alloc (.cells #[r] T)) := by
  obtain ⟨rv, h1, h2, h3⟩ := hown
  refine wpList_appV hg so x t ho (B := lo) ht hinfo hz0' hby hr1 v xss.length _ hs (hb0.row h1 hv0) hx (by omega) hB ?_
  intro g cap w' ho' hg' hl'
  refine h g cap w' (fun M' hM => ?_) hg' (hl'.imp id (fun q => by omega))
  exact GrowW.snoc h1 h2 h3 hb0 hS hr hC hC2 hMC hg' hv hM ho'
end
end

end Go.Proofs.YthbebnfhplacnaaGreat
