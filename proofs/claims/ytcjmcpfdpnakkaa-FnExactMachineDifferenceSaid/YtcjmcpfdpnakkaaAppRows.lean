/- Lists of lists that are built by append. -/
import Derived.Test.YtcjmcpfdpnakkaaBase
import Derived.Test.YtcjmcpfdpnakkaaApp
import Derived.WalkKit
import Derived.WalkSpells
import Derived.WalkLawsBesides
import Derived.Deep.QuietTactic
import Derived.Deep.OwnRows
import Derived.BigQuiet
import Derived.KernelRfl
import Derived.OwnWalk
import Derived.Maps.AppendAt
namespace Go.Proofs.Ytcjmcpfdpnakkaa
open Go.RowKit

theorem list_range_snoc {α : Type} (f : Nat → α) (n : Nat) : (List.range (n + 1)).map f = (List.range n).map f ++ [f n] := by simp [List.range_succ]
/-- A list of lists under construction: the rows may be written and lie in blocks apart. -/
def GrowRows (B : Nat) (e : TypeId) (w : World) (v : Value) (xss : List (List Int)) : Prop :=
  ∃ rv : Nat → Value, w.ownsRow B e 1 v xss.length ((List.range xss.length).map rv) ∧
    (∀ i, i < xss.length → OwnInts B w.heap.size w (rv i) (nth xss i) ∧ ((rv i).ownBlock ≠ v.ownBlock ∨ (rv i).ownBlock = none)) ∧
    ∀ i j, i < j → j < xss.length → (rv i).ownBlock ≠ (rv j).ownBlock ∨ (rv i).ownBlock = none
theorem GrowRows.new {B : Nat} {e : TypeId} {w w' : World} {v : Value} {xss : List (List Int)} (h : GrowRows B e w v xss) (hw : New w w') : GrowRows B e w' v xss := by
  obtain ⟨rv, h1, h2, h3⟩ := h
  exact ⟨rv, ownsRow_new h1 hw, fun i hi => ⟨((h2 i hi).1.new hw).widen (Nat.le_refl _) hw.size, (h2 i hi).2⟩, h3⟩
theorem GrowRows.empty (B : Nat) (e : TypeId) (w : World) (h : B ≤ w.heap.size) : GrowRows B e (w.alloc (.cells #[] e)) (.slice (some ⟨w.heap.size, 0, none⟩) 0 0) [] :=
  ⟨fun _ => default, World.ownsRow_made (w := w) (base := B) (e := e) (size := 1) #[] 0 h (by simp) (by simp), by simp, by simp⟩
theorem GrowRows.nil (B : Nat) (e : TypeId) (w : World) : GrowRows B e w (.slice none 0 0) [] :=
  ⟨fun _ => default, World.ownsRow_nil _ _ _ _, by simp, by simp⟩
theorem ownsRow_form {B n : Nat} {e : TypeId} {w : World} {v : Value} {xs : List Value} (h : w.ownsRow B e 1 v n xs) : ∃ A c, v = .slice A n c := by
  obtain ⟨h1, ⟨rfl, h2⟩ | ⟨g, cap, cur, rfl, _⟩⟩ := h
  · exact ⟨none, 0, by rw [h2]⟩
  · exact ⟨_, _, rfl⟩
theorem GrowRows.form {B : Nat} {e : TypeId} {w : World} {v : Value} {xss : List (List Int)} (h : GrowRows B e w v xss) : ∃ A c, v = .slice A xss.length c :=
  let ⟨_, h1, _⟩ := h; ownsRow_form h1
theorem GrowRows.block {B : Nat} {e : TypeId} {w : World} {v : Value} {xss : List (List Int)} (h : GrowRows B e w v xss) : ∀ k, v.ownBlock = some k → B ≤ k ∧ k < w.heap.size :=
  let ⟨_, h1, _⟩ := h; World.ownsRow.lt h1
/-- The cells of an own row. -/
theorem ownsRow_cells {B n : Nat} {e : TypeId} {w : World} {v : Value} {xs : List Value} (h : w.ownsRow B e 1 v n xs) (i : Nat) (hi : i < xs.length) :
    ∃ b, v.ownBlock = some b ∧ (∃ c, v = .slice (some ⟨b, 0, none⟩) n c) ∧ B ≤ b ∧ b < w.heap.size ∧ w.cell? ⟨b, i, none⟩ = some (xs[i]) ∧ w.frozen? ⟨b, i, none⟩ = false := by
  obtain ⟨h1, h2⟩ := h
  rcases h2 with ⟨rfl, rfl⟩ | ⟨g, cap, cur, rfl, hg, hh, hn, hc, hs, ht⟩
  · simp at h1; subst h1; simp at hi
  · have hlt : g < w.heap.size := (Array.getElem?_eq_some_iff.1 hh).1
    refine ⟨g, rfl, ⟨cap, rfl⟩, hg, hlt, ?_, by simp [World.frozen?, hh]⟩
    have : (cur.toList.take (n * 1))[i]? = xs[i]? := by rw [ht]
    simp [World.cell?, hh]
    rw [List.getElem?_take, if_pos (by omega)] at this
    simpa [hi] using this
theorem GrowRows.own {B : Nat} {e : TypeId} {w : World} {v : Value} {xss : List (List Int)} (h : GrowRows B e w v xss) (hl : xss.length ≤ 1099511627776) : OwnRows B w.heap.size w v xss := by
  obtain ⟨rv, h1, h2, h3⟩ := h
  obtain ⟨A, c, rfl⟩ := ownsRow_form h1
  refine ⟨A, c, rv, rfl, hl, ?_, fun i hi => ⟨?_, (h2 i hi).1⟩, h3⟩
  · rintro a rfl
    exact World.ownsRow.lt h1 _ rfl
  · obtain ⟨b, hb, ⟨c', e⟩, hB, hlt, hc, _⟩ := ownsRow_cells h1 i (by simpa using hi)
    cases e
    refine ⟨b, 0, rfl, by simpa using hc, ?_⟩
    rcases (h2 i hi).2 with h | h
    · rw [hb] at h; exact h
    · rw [h]; simp
section
variable {P : Program}
/-- 'append(out, z)', z of one cell, to an own row; where the new row lies. -/
theorem wpList_appV {ops : Array Oper} {rest : List Oper} {o : Oper} {a : Act} {Q : Exit → Act → World → Prop} {w1 : World} {T : TypeId} {z : Value} (hg : o.guard = none) (s x : Operand) (t : TypeId)
    (ho : o.op = .call { callee := .builtin .append, args := #[s, x], argTypes := #[t, t] }) {B : Nat} {e : TypeId} (ht : P.underlying t = some (.slice e)) {z0 : Value} {bytes : Nat}
    (hinfo : (P.info? e).map (fun i => (i.zero, i.size, i.bytes)) = some (some z0, 1, bytes)) (hz0' : z0.cells.size = 1) (hb : bytes ≤ 64) (hz : z.oneCell' = true) (v : Value) (n : Nat) (xs : List Value) (hs : a.eval s = v) (hown : w1.ownsRow B e 1 v n xs)
    (hx : a.eval x = .slice (some ⟨w1.heap.size, 0, none⟩) 1 1) (hlen : n < 1099511627776) (hB : B ≤ w1.heap.size)
    (h : ∀ g cap w', w'.ownsRow B e 1 (.slice (some ⟨g, 0, none⟩) (n + 1) cap) (n + 1) (xs ++ [z]) → w1.grownBy w' v.ownBlock → (v.ownBlock = some g ∨ w1.heap.size < g) → wpList P ops Q rest (a.put o.dst (.slice (some ⟨g, 0, none⟩) (n + 1) cap)) w') :
    wpList P ops Q (o :: rest) a (w1.alloc (.cells #[z] T)) := by
  obtain ⟨i0, hi, hz0, hz1, hz2⟩ := info_parts hinfo
  refine wpList_append_own_at _ hg s x t ho B e i0 z0 1 bytes ht hi hz0 hz1 hz2 hz0' (by decide) v n _ hs (World.ownsRow.alloc hown _) ⟨w1.heap.size, 0, none⟩ 1 1 [z] hx rfl ?_ (by intro u hu; simp at hu; subst hu; exact hz) (by unfold maxLen; omega) ?_ (by simp; omega) ?_
  · exact cell_one_new _ _ _
  · have : (n + 1) * bytes ≤ 1099511627776 * 64 := Nat.mul_le_mul (by omega) hb
    omega
  · intro v' w' hown' hgrow hnil hloc
    have hgr : w1.grownBy w' v.ownBlock := grown_trans (World.grownBy_alloc _ _ _) hgrow
    obtain ⟨h1, ⟨rfl, h2⟩ | ⟨g, cap, cur, rfl, _⟩⟩ := id hown'
    · omega
    · refine h g cap w' hown' hgr ?_
      rcases hloc with h | h
      · exact Or.inl h.symm
      · right
        simp [Value.ownBlock] at h
        omega
/-- 'append(out, row)', the row being newer than all that was there. -/
theorem wpList_appRows {ops : Array Oper} {rest : List Oper} {o : Oper} {a : Act} {Q : Exit → Act → World → Prop} {w0 w1 : World} {T : TypeId} {r : Value} (hg : o.guard = none) (s x : Operand) (t : TypeId)
    (ho : o.op = .call { callee := .builtin .append, args := #[s, x], argTypes := #[t, t] }) {B : Nat} {e : TypeId} (ht : P.underlying t = some (.slice e))
    (hinfo : (P.info? e).map (fun i => (i.zero, i.size, i.bytes)) = some (some (.slice none 0 0), 1, 24)) (v : Value) (xss : List (List Int)) (ys : List Int) (hs : a.eval s = v) (hown : GrowRows B e w0 v xss) (hn : New w0 w1)
    (hr : OwnInts w0.heap.size w1.heap.size w1 r ys)
    (hx : a.eval x = .slice (some ⟨w1.heap.size, 0, none⟩) 1 1) (hlen : xss.length < 1099511627776) (hB : B ≤ w0.heap.size)
    (h : ∀ g cap w', GrowRows B e w' (.slice (some ⟨g, 0, none⟩) (xss.length + 1) cap) (xss ++ [ys]) → w1.grownBy w' v.ownBlock → wpList P ops Q rest (a.put o.dst (.slice (some ⟨g, 0, none⟩) (xss.length + 1) cap)) w') :
    wpList P ops Q (o :: rest) a (w1.alloc (.cells #[r] T)) := by
  obtain ⟨rv, h1, h2, h3⟩ := hown
  have hv : ∀ k, v.ownBlock = some k → B ≤ k ∧ k < w0.heap.size := World.ownsRow.lt h1
  have hsz := hn.size
  refine wpList_appV hg s x t ho ht hinfo (by decide) (by decide) (by obtain ⟨A, c, rfl⟩ := hr.form; rfl) v xss.length _ hs (ownsRow_new h1 hn) hx hlen (by omega) ?_
  intro g cap w' ho' hgr hloc
  have hsz' := hgr.size
  have hrb := hr.block
  have hrne : r.ownBlock ≠ v.ownBlock ∨ r.ownBlock = none := by
    cases e1 : r.ownBlock with
    | none => exact Or.inr rfl
    | some k =>
      left
      intro e2
      have := hrb k e1
      have := hv k e2.symm
      omega
  refine h g cap w' ⟨fun i => if i < xss.length then rv i else r, ?_, ?_, ?_⟩ hgr
  · have e1 : (List.range (xss ++ [ys]).length).map (fun i => if i < xss.length then rv i else r) = (List.range xss.length).map rv ++ [r] := by
      rw [List.length_append, List.length_singleton, list_range_snoc]
      congr 1
      · apply List.map_congr_left
        intro i hi
        rw [if_pos (List.mem_range.1 hi)]
      · rw [if_neg (Nat.lt_irrefl _)]
    rw [e1, List.length_append, List.length_singleton]
    exact ho'
  · intro i hi
    rw [List.length_append, List.length_singleton] at hi
    by_cases hlt : i < xss.length
    · simp only [if_pos hlt]
      obtain ⟨k1, k2⟩ := h2 i hlt
      have k1' := k1.new hn
      have hb1 := k1.block
      rw [nth_append_left _ _ _ hlt]
      refine ⟨(k1'.grown hgr k2).widen (Nat.le_refl _) (by omega), ?_⟩
      cases e1 : (rv i).ownBlock with
      | none => exact Or.inr rfl
      | some k =>
        left
        have := hb1 k e1
        rcases hloc with hl | hl
        · rcases k2 with k2 | k2
          · rw [e1, hl] at k2; simpa [Value.ownBlock] using k2
          · rw [e1] at k2; cases k2
        · simp [Value.ownBlock]; omega
    · have hi' : i = xss.length := by omega
      subst hi'
      simp only [if_neg (Nat.lt_irrefl _)]
      rw [nth_append_here]
      refine ⟨(hr.grown hgr hrne).widen (by omega) (by omega), ?_⟩
      cases e1 : r.ownBlock with
      | none => exact Or.inr rfl
      | some k =>
        left
        have := hrb k e1
        rcases hloc with hl | hl
        · have := hv g hl; simp [Value.ownBlock]; omega
        · simp [Value.ownBlock]; omega
  · intro i j hij hj
    rw [List.length_append, List.length_singleton] at hj
    by_cases hlt : j < xss.length
    · simp only [if_pos hlt, if_pos (show i < xss.length by omega)]
      exact h3 i j hij hlt
    · have hj' : j = xss.length := by omega
      subst hj'
      simp only [if_neg (Nat.lt_irrefl _), if_pos hij]
      cases e1 : (rv i).ownBlock with
      | none => exact Or.inr rfl
      | some k =>
        left
        have := (h2 i hij).1.block k e1
        intro e2
        have := hrb k e2.symm
        omega
end
theorem New.appRows {a w1 w' : World} {v : Value} {B : Nat} {e : TypeId} {xss : List (List Int)} {w0 : World} (h : New a w1) (hg : w1.grownBy w' v.ownBlock) (ho : GrowRows B e w0 v xss) (hB : a.heap.size ≤ B) : New a w' :=
  h.grown hg fun k hk => by have := ho.block k hk; omega
theorem ownsRow_within {w w' : World} {B B' E' n : Nat} {e : TypeId} {size : Nat} {v : Value} {xs : List Value} (h : w.ownsRow B e size v n xs) (hw : Within B' E' w w') (hd : E' ≤ B) : w'.ownsRow B e size v n xs := by
  obtain ⟨h1, h2⟩ := h
  refine ⟨h1, ?_⟩
  rcases h2 with h2 | ⟨g, cap, cur, hv, hg, hh, r⟩
  · exact Or.inl h2
  · exact Or.inr ⟨g, cap, cur, hv, hg, by rw [hw.2.2.2.2 g (Array.getElem?_eq_some_iff.1 hh).1 (Or.inr (by omega))]; exact hh, r⟩
theorem Grow.within {B B' E' : Nat} {e : TypeId} {w w' : World} {v : Value} {xs : List Int} (h : Grow B e w v xs) (hw : Within B' E' w w') (hd : E' ≤ B) : Grow B e w' v xs := ownsRow_within h hw hd
theorem GrowRows.within {B B' E' : Nat} {e : TypeId} {w w' : World} {v : Value} {xss : List (List Int)} (h : GrowRows B e w v xss) (hw : Within B' E' w w') (hd : E' ≤ B) : GrowRows B e w' v xss := by
  obtain ⟨rv, h1, h2, h3⟩ := h
  have hs := hw.2.2.2.1
  exact ⟨rv, ownsRow_within h1 hw hd, fun i hi => ⟨((h2 i hi).1.within hw (Or.inr hd)).widen (Nat.le_refl _) hs, (h2 i hi).2⟩, h3⟩
theorem within_setCell (w : World) (p : Addr) (u : Value) : Within p.block (p.block + 1) w (w.setCell p u) := Within.setCell (Within.refl _ _ _) (Nat.le_refl _) (Nat.lt_succ_self _) u
theorem IntsAt.within {B' E' : Nat} {w w' : World} {v : Value} {xs : List Int} (h : IntsAt w v xs) (hw : Within B' E' w w') (hd : ∀ A n c, v = .slice (some A) n c → A.block < B' ∨ E' ≤ A.block) : IntsAt w' v xs := by
  obtain ⟨A, c, rfl, hl, hc⟩ := h
  refine ⟨A, c, rfl, hl, fun i hi => ?_⟩
  obtain ⟨b, off, hA, hx⟩ := hc i hi
  subst hA
  exact ⟨b, off, rfl, hw.cell hx (show b < B' ∨ E' ≤ b from hd ⟨b, off, none⟩ _ _ rfl)⟩
/-- A box of two cells that may be written. -/
def Box2 (w : World) (b : Nat) (u v : Value) : Prop := w.cell? ⟨b, 0, none⟩ = some u ∧ w.cell? ⟨b, 1, none⟩ = some v ∧ w.frozen? ⟨b, 0, none⟩ = false ∧ w.frozen? ⟨b, 1, none⟩ = false
theorem Box2.new {w w' : World} {b : Nat} {u v : Value} (h : Box2 w b u v) (hn : New w w') : Box2 w' b u v :=
  ⟨hn.cell h.1, hn.cell h.2.1, by rw [hn.frozen h.1]; exact h.2.2.1, by rw [hn.frozen h.2.1]; exact h.2.2.2⟩
theorem Box2.block {w w' : World} {b : Nat} {u v : Value} (h : Box2 w b u v) (hb : w'.heap[b]? = w.heap[b]?) : Box2 w' b u v :=
  ⟨by rw [World.cell?_of_block (w := w) hb]; exact h.1, by rw [World.cell?_of_block (w := w) hb]; exact h.2.1, by rw [World.frozen?_of_block (w := w) hb]; exact h.2.2.1, by rw [World.frozen?_of_block (w := w) hb]; exact h.2.2.2⟩
theorem Box2.lt {w : World} {b : Nat} {u v : Value} (h : Box2 w b u v) : b < w.heap.size := World.block_lt_of_cell? w _ h.1
theorem Box2.grown {w w' : World} {b : Nat} {u v : Value} {r : Option Nat} (h : Box2 w b u v) (hg : w.grownBy w' r) (hr : ∀ k, r = some k → k ≠ b) : Box2 w' b u v :=
  h.block (hg.block b h.lt (fun e => hr b e.symm rfl))
theorem Box2.within {w w' : World} {B E b : Nat} {u v : Value} (h : Box2 w b u v) (hw : Within B E w w') (hb : b < B ∨ E ≤ b) : Box2 w' b u v := h.block (hw.2.2.2.2 b h.lt hb)
theorem Box2.set1 {w : World} {b : Nat} {u v : Value} (h : Box2 w b u v) (v' : Value) : Box2 (w.setCell ⟨b, 1, none⟩ v') b u v' :=
  ⟨by rw [World.cell?_setCell_other]; exact h.1; simp, World.cell?_setCell_same _ _ _ h.2.1, by simpa using h.2.2.1, by simpa using h.2.2.2⟩
theorem Box2.set0 {w : World} {b : Nat} {u v : Value} (h : Box2 w b u v) (u' : Value) : Box2 (w.setCell ⟨b, 0, none⟩ u') b u' v :=
  ⟨World.cell?_setCell_same _ _ _ h.1, by rw [World.cell?_setCell_other]; exact h.2.1; simp, by simpa using h.2.2.1, by simpa using h.2.2.2⟩
theorem Box2.other {w : World} {b : Nat} {u v : Value} (h : Box2 w b u v) (p : Addr) (hp : p.block ≠ b) (x : Value) : Box2 (w.setCell p x) b u v :=
  h.block (Below.heap_setCell _ _ _ _ (Ne.symm hp))
theorem Box2.fill {w : World} {b : Nat} {u v : Value} (h : Box2 w b u v) (u' v' : Value) : Box2 ((w.setCell ⟨b, 0, none⟩ u').setCell ⟨b, 1, none⟩ v') b u' v' := (h.set0 u').set1 v'
theorem Within.fill (w : World) (b : Nat) (u' v' : Value) : Within b (b + 1) w ((w.setCell ⟨b, 0, none⟩ u').setCell ⟨b, 1, none⟩ v') :=
  Within.setCell (Within.setCell (Within.refl _ _ _) (by simp) (by simp) _) (by simp) (by simp) _
theorem New.fill {a w : World} {b : Nat} (h : New a w) (hb : a.heap.size ≤ b) (u' v' : Value) : New a ((w.setCell ⟨b, 0, none⟩ u').setCell ⟨b, 1, none⟩ v') := h.within (Within.fill w b u' v') hb

end Go.Proofs.Ytcjmcpfdpnakkaa
