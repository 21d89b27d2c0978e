/- Lists of automata, two cells each, and lists of words, both under append, with what they hold out of the reach of the places that are still written. -/
import Derived.Test.YthbebnfhplacnaaCore
import Derived.Test.YthbebnfhplacnaaMaps
import Derived.Test.YthbebnfhplacnaaArrs
import Derived.Test.YthbebnfhplacnaaRowsPut
import Derived.WalkKit
import Derived.WalkSpells
import Derived.WalkLawsBesides
import Derived.Deep.QuietTactic
import Derived.Deep.OwnRows
import Derived.BigQuiet
import Derived.KernelRfl
import Derived.OwnWalk
import Derived.Maps.AppendAt
namespace Go.Proofs.Ythbebnfhplacnaa
open Go.RowKit

theorem OwnInts.butK {S : Nat → Prop} {B E : Nat} {w w' : World} {v : Value} {xs : List Int} (h : OwnInts B E w v xs) (hb : But S w w') (hS : ∀ q, S q → q < B ∨ E ≤ q) : OwnInts B E w' v xs := by
  obtain ⟨A, c, rfl, hl, ha, hc⟩ := h
  refine ⟨A, c, rfl, hl, ha, fun i hi => ?_⟩
  obtain ⟨b, off, rfl, hx, hf⟩ := hc i hi
  have h1 := ha _ rfl
  have hn : ¬ S b := fun q => by have := hS _ q; simp only at h1; omega
  exact ⟨b, off, rfl, hb.cell hx hn, by rw [hb.frozen hx hn]; exact hf⟩
theorem OwnRows.butK {S : Nat → Prop} {B E : Nat} {w w' : World} {v : Value} {xss : List (List Int)} (h : OwnRows B E w v xss) (hb : But S w w') (hS : ∀ q, S q → q < B ∨ E ≤ q) : OwnRows B E w' v xss := by
  obtain ⟨A, c, rv, rfl, hl, ha, hc, hd⟩ := h
  refine ⟨A, c, rv, rfl, hl, ha, fun i hi => ?_, hd⟩
  obtain ⟨⟨b, off, rfl, hx, hne⟩, hr⟩ := hc i hi
  have h1 := ha _ rfl
  have hn : ¬ S b := fun q => by have := hS _ q; simp only at h1; omega
  exact ⟨⟨b, off, rfl, hb.cell hx hn, hne⟩, hr.butK hb hS⟩
/-- A word that lies behind lo, and where nothing of M lies. -/
def KeptInts (lo : Nat) (M : Nat → Prop) (w : World) (v : Value) (xs : List Int) : Prop := ∃ C D, lo ≤ C ∧ D ≤ w.heap.size ∧ OwnInts C D w v xs ∧ ∀ q, M q → q < C ∨ D ≤ q
def KeptRows (lo : Nat) (M : Nat → Prop) (w : World) (v : Value) (xss : List (List Int)) : Prop := ∃ C D, lo ≤ C ∧ D ≤ w.heap.size ∧ OwnRows C D w v xss ∧ ∀ q, M q → q < C ∨ D ≤ q
section
variable {lo : Nat} {M M' S : Nat → Prop} {w w' : World} {v : Value}
theorem KeptInts.but {xs : List Int} (h : KeptInts lo M w v xs) (hb : But S w w') (hS : ∀ q, S q → M q ∨ w.heap.size ≤ q) (hM : ∀ q, M' q → M q ∨ w.heap.size ≤ q) : KeptInts lo M' w' v xs := by
  obtain ⟨C, D, h1, h2, h3, h4⟩ := h
  have hz := hb.size
  refine ⟨C, D, h1, by omega, h3.butK hb (fun q hq => ?_), fun q hq => ?_⟩
  · rcases hS q hq with k | k
    · exact h4 q k
    · omega
  · rcases hM q hq with k | k
    · exact h4 q k
    · omega
theorem KeptRows.but {xss : List (List Int)} (h : KeptRows lo M w v xss) (hb : But S w w') (hS : ∀ q, S q → M q ∨ w.heap.size ≤ q) (hM : ∀ q, M' q → M q ∨ w.heap.size ≤ q) : KeptRows lo M' w' v xss := by
  obtain ⟨C, D, h1, h2, h3, h4⟩ := h
  have hz := hb.size
  refine ⟨C, D, h1, by omega, h3.butK hb (fun q hq => ?_), fun q hq => ?_⟩
  · rcases hS q hq with k | k
    · exact h4 q k
    · omega
  · rcases hM q hq with k | k
    · exact h4 q k
    · omega
theorem KeptInts.new {xs : List Int} (h : KeptInts lo M w v xs) (hn : New w w') : KeptInts lo M w' v xs := h.but (S := fun _ => False) (But.of_new hn) (fun _ q => q.elim) (fun _ q => Or.inl q)
theorem KeptRows.new {xss : List (List Int)} (h : KeptRows lo M w v xss) (hn : New w w') : KeptRows lo M w' v xss := h.but (S := fun _ => False) (But.of_new hn) (fun _ q => q.elim) (fun _ q => Or.inl q)
theorem KeptInts.at {xs : List Int} (h : KeptInts lo M w v xs) : IntsAt w v xs := let ⟨_, _, _, _, h, _⟩ := h; h.at
theorem KeptRows.at {xss : List (List Int)} (h : KeptRows lo M w v xss) : RowsAt w v xss := let ⟨_, _, _, _, h, _⟩ := h; h.at
theorem KeptInts.own {xs : List Int} (h : KeptInts lo M w v xs) : OwnInts lo w.heap.size w v xs := let ⟨_, _, h1, h2, h, _⟩ := h; h.widen h1 h2
theorem KeptInts.block {xs : List Int} (h : KeptInts lo M w v xs) : ∀ q, v.ownBlock = some q → lo ≤ q ∧ q < w.heap.size ∧ ¬ M q := by
  obtain ⟨C, D, h1, h2, h3, h4⟩ := h
  intro q hq
  have hb := h3.block q hq
  refine ⟨by omega, by omega, fun hm => ?_⟩
  have := h4 q hm
  omega
/-- The cells of a list of automata with m states each. -/
def autCells (m : Int) (rv : Nat → Value) (n : Nat) : List Value := (List.range n).flatMap fun i => [.int .i64 m, rv i]
theorem autCells_succ (m : Int) (rv : Nat → Value) (n : Nat) : autCells m rv (n + 1) = autCells m rv n ++ [.int .i64 m, rv n] := by
  unfold autCells; rw [List.range_succ, List.flatMap_append]; simp
theorem autCells_len (m : Int) (rv : Nat → Value) : ∀ n, (autCells m rv n).length = n * 2
  | 0 => rfl
  | n + 1 => by rw [autCells_succ, List.length_append, autCells_len m rv n]; simp; omega
theorem autCells_at (m : Int) (rv : Nat → Value) : ∀ n i, i < n → (autCells m rv n)[i * 2]? = some (.int .i64 m) ∧ (autCells m rv n)[i * 2 + 1]? = some (rv i)
  | 0, i, h => absurd h (by omega)
  | n + 1, i, h => by
    have hl := autCells_len m rv n
    rw [autCells_succ]
    rcases Nat.lt_succ_iff_lt_or_eq.1 h with q | q
    · obtain ⟨h1, h2⟩ := autCells_at m rv n i q
      rw [List.getElem?_append_left (by omega), List.getElem?_append_left (by omega)]
      exact ⟨h1, h2⟩
    · subst q
      rw [List.getElem?_append_right (by omega), List.getElem?_append_right (by omega), hl]
      simp
theorem autCells_congr {m : Int} {rv rv' : Nat → Value} : ∀ n, (∀ i, i < n → rv i = rv' i) → autCells m rv n = autCells m rv' n
  | 0, _ => rfl
  | n + 1, h => by rw [autCells_succ, autCells_succ, autCells_congr n (fun i hi => h i (by omega)), h n (Nat.lt_succ_self _)]
/-- A list of n automata with m states each. -/
def AutsAt (w : World) (v : Value) (m : Int) (f : Nat → List (List Int)) (n : Nat) : Prop := ∃ A c, v = .slice A n c ∧ ∀ i, i < n → ∃ b r, A = some ⟨b, 0, none⟩ ∧ w.cell? ⟨b, i * 2, none⟩ = some (.int .i64 m) ∧ w.cell? ⟨b, i * 2 + 1, none⟩ = some r ∧ RowsAt w r (f i)
theorem AutsAt.new {m : Int} {f : Nat → List (List Int)} {n : Nat} (h : AutsAt w v m f n) (hn : New w w') : AutsAt w' v m f n := by
  obtain ⟨A, c, rfl, hc⟩ := h
  refine ⟨A, c, rfl, fun i hi => ?_⟩
  obtain ⟨b, r, rfl, h1, h2, h3⟩ := hc i hi
  exact ⟨b, r, rfl, hn.cell h1, hn.cell h2, h3.new hn⟩
/-- The same under append. -/
def GrowA (lo : Nat) (e : TypeId) (M : Nat → Prop) (w : World) (v : Value) (m : Int) (f : Nat → List (List Int)) (n : Nat) : Prop :=
  ∃ rv : Nat → Value, w.ownsRow lo e 2 v n (autCells m rv n) ∧ ∀ i, i < n → KeptRows lo M w (rv i) (f i)
theorem GrowA.empty (lo : Nat) (e : TypeId) (M : Nat → Prop) (w : World) (m : Int) (f : Nat → List (List Int)) (h : lo ≤ w.heap.size) : GrowA lo e M (w.alloc (.cells #[] e)) (.slice (some ⟨w.heap.size, 0, none⟩) 0 0) m f 0 :=
  ⟨fun _ => default, World.ownsRow_made (w := w) (base := lo) (e := e) (size := 2) #[] 0 h (by simp) (by simp), fun i hi => absurd hi (by omega)⟩
theorem GrowA.form {e : TypeId} {m : Int} {f : Nat → List (List Int)} {n : Nat} (h : GrowA lo e M w v m f n) : ∃ A c, v = .slice A n c := by
  obtain ⟨_, ⟨h1, ⟨rfl, h2⟩ | ⟨g, cap, cur, rfl, _⟩⟩, _⟩ := h
  · exact ⟨none, 0, by rw [h2]⟩
  · exact ⟨_, _, rfl⟩
theorem GrowA.block {e : TypeId} {m : Int} {f : Nat → List (List Int)} {n : Nat} (h : GrowA lo e M w v m f n) : ∀ k, v.ownBlock = some k → lo ≤ k ∧ k < w.heap.size := let ⟨_, h, _⟩ := h; World.ownsRow.lt h
theorem GrowA.but {e : TypeId} {m : Int} {f : Nat → List (List Int)} {n : Nat} (h : GrowA lo e M w v m f n) (hb : But S w w') (hv : ∀ k, v.ownBlock = some k → ¬ S k) (hS : ∀ q, S q → M q ∨ w.heap.size ≤ q) (hM : ∀ q, M' q → M q ∨ w.heap.size ≤ q) : GrowA lo e M' w' v m f n := by
  obtain ⟨rv, h1, h2⟩ := h
  exact ⟨rv, hb.row h1 hv, fun i hi => (h2 i hi).but hb hS hM⟩
theorem GrowA.new {e : TypeId} {m : Int} {f : Nat → List (List Int)} {n : Nat} (h : GrowA lo e M w v m f n) (hn : New w w') : GrowA lo e M w' v m f n := h.but (S := fun _ => False) (But.of_new hn) (fun _ _ q => q) (fun _ q => q.elim) (fun _ q => Or.inl q)
theorem GrowA.row {e : TypeId} {m : Int} {f : Nat → List (List Int)} {n : Nat} (h : GrowA lo e M w v m f n) (i : Nat) (hi : i < n) : ∃ b c r, v = .slice (some ⟨b, 0, none⟩) n c ∧ w.cell? ⟨b, i * 2, none⟩ = some (.int .i64 m) ∧ w.cell? ⟨b, i * 2 + 1, none⟩ = some r ∧ KeptRows lo M w r (f i) := by
  obtain ⟨rv, ⟨h1, ⟨e1, e2⟩ | ⟨g, cap, cur, e1, hg, hh, hn, hc, hs, ht⟩⟩, h2⟩ := h
  · omega
  · obtain ⟨q1, q2⟩ := autCells_at m rv n i hi
    refine ⟨g, cap, rv i, e1, ?_, ?_, h2 i hi⟩
    · rw [← ht, List.getElem?_take, if_pos (by omega)] at q1
      simpa [World.cell?, hh] using q1
    · rw [← ht, List.getElem?_take, if_pos (by omega)] at q2
      simpa [World.cell?, hh] using q2
theorem GrowA.at {e : TypeId} {m : Int} {f : Nat → List (List Int)} {n : Nat} (h : GrowA lo e M w v m f n) : AutsAt w v m f n := by
  obtain ⟨A, c, rfl⟩ := h.form
  refine ⟨A, c, rfl, fun i hi => ?_⟩
  obtain ⟨b, c', r, e1, h1, h2, h3⟩ := h.row i hi
  cases e1
  exact ⟨b, r, rfl, h1, h2, h3.at⟩
/-- Words under append, no two in one block. -/
def GrowW (lo : Nat) (e : TypeId) (M : Nat → Prop) (w : World) (v : Value) (xss : List (List Int)) : Prop :=
  ∃ rv : Nat → Value, w.ownsRow lo e 1 v xss.length ((List.range xss.length).map rv) ∧ (∀ i, i < xss.length → KeptInts lo M w (rv i) (nth xss i)) ∧ ∀ i j, i < j → j < xss.length → (rv i).ownBlock ≠ (rv j).ownBlock ∨ (rv i).ownBlock = none
theorem GrowW.empty (lo : Nat) (e : TypeId) (M : Nat → Prop) (w : World) (h : lo ≤ w.heap.size) : GrowW lo e M (w.alloc (.cells #[] e)) (.slice (some ⟨w.heap.size, 0, none⟩) 0 0) [] :=
  ⟨fun _ => default, World.ownsRow_made (w := w) (base := lo) (e := e) (size := 1) #[] 0 h (by simp) (by simp), by simp, by simp⟩
theorem GrowW.form {e : TypeId} {xss : List (List Int)} (h : GrowW lo e M w v xss) : ∃ A c, v = .slice A xss.length c := let ⟨_, h, _⟩ := h; ownsRow_form h
theorem GrowW.block {e : TypeId} {xss : List (List Int)} (h : GrowW lo e M w v xss) : ∀ k, v.ownBlock = some k → lo ≤ k ∧ k < w.heap.size := let ⟨_, h, _⟩ := h; World.ownsRow.lt h
theorem GrowW.but {e : TypeId} {xss : List (List Int)} (h : GrowW lo e M w v xss) (hb : But S w w') (hv : ∀ k, v.ownBlock = some k → ¬ S k) (hS : ∀ q, S q → M q ∨ w.heap.size ≤ q) (hM : ∀ q, M' q → M q ∨ w.heap.size ≤ q) : GrowW lo e M' w' v xss := by
  obtain ⟨rv, h1, h2, h3⟩ := h
  exact ⟨rv, hb.row h1 hv, fun i hi => (h2 i hi).but hb hS hM, h3⟩
theorem GrowW.new {e : TypeId} {xss : List (List Int)} (h : GrowW lo e M w v xss) (hn : New w w') : GrowW lo e M w' v xss := h.but (S := fun _ => False) (But.of_new hn) (fun _ _ q => q) (fun _ q => q.elim) (fun _ q => Or.inl q)
theorem GrowW.rows {e : TypeId} {xss : List (List Int)} (h : GrowW lo e M w v xss) (hv : ∀ k, v.ownBlock = some k → M k) : GrowRows lo e w v xss := by
  obtain ⟨rv, h1, h2, h3⟩ := h
  refine ⟨rv, h1, fun i hi => ⟨(h2 i hi).own, ?_⟩, h3⟩
  cases e1 : (rv i).ownBlock with
  | none => exact Or.inr rfl
  | some q =>
    refine Or.inl (fun e2 => ?_)
    exact ((h2 i hi).block q e1).2.2 (hv q e2.symm)
/-- One more, that lies behind what was there. -/
theorem GrowW.snoc {e : TypeId} {xss : List (List Int)} {x : List Int} {w0 : World} {r v' : Value} {C : Nat} {rv : Nat → Value} (h1 : w0.ownsRow lo e 1 v xss.length ((List.range xss.length).map rv)) (h2 : ∀ i, i < xss.length → KeptInts lo M w0 (rv i) (nth xss i)) (h3 : ∀ i j, i < j → j < xss.length → (rv i).ownBlock ≠ (rv j).ownBlock ∨ (rv i).ownBlock = none) (hb0 : But S w0 w) (hS : ∀ q, S q → M q ∨ w0.heap.size ≤ q) (hr : OwnInts C w.heap.size w r x) (hC : w0.heap.size ≤ C) (hC2 : lo ≤ C)
    (hMC : ∀ q, M q → q < C) (hg : w.grownBy w' v.ownBlock) (hv : ∀ k, v.ownBlock = some k → M k) (hM : ∀ q, M' q → M q ∨ w.heap.size ≤ q) (ho : w'.ownsRow lo e 1 v' (xss.length + 1) ((List.range xss.length).map rv ++ [r])) : GrowW lo e M' w' v' (xss ++ [x]) := by
  have hb : But (fun q => v.ownBlock = some q) w w' := But.of_grown hg (fun k hk => hk)
  have hkr : KeptInts lo M w r x := ⟨C, w.heap.size, hC2, Nat.le_refl _, hr, fun q hq => Or.inl (hMC q hq)⟩
  have hl : (xss ++ [x]).length = xss.length + 1 := by simp
  refine ⟨fun i => if i = xss.length then r else rv i, ?_, fun i hi => ?_, fun i j hij hj => ?_⟩
  · have _ := h1
    rw [hl, list_range_snoc, if_pos rfl]
    have e1 : (List.range xss.length).map (fun i => if i = xss.length then r else rv i) = (List.range xss.length).map rv := by
      apply List.map_congr_left
      intro i hi
      rw [List.mem_range] at hi
      rw [if_neg (by omega)]
    rw [e1]
    exact ho
  · rw [hl] at hi
    rcases Nat.lt_succ_iff_lt_or_eq.1 hi with q | q
    · simp only [if_neg (Nat.ne_of_lt q)]
      rw [nth_append_left _ _ _ q]
      exact ((h2 i q).but hb0 hS (fun q hq => Or.inl hq)).but hb (fun q hq => Or.inl (hv q hq)) hM
    · subst q
      simp only [if_true]
      rw [nth_append_here]
      exact hkr.but hb (fun q hq => Or.inl (hv q hq)) hM
  · rw [hl] at hj
    simp only [if_neg (show i ≠ xss.length by omega)]
    rcases Nat.lt_succ_iff_lt_or_eq.1 hj with q | q
    · simp only [if_neg (Nat.ne_of_lt q)]
      exact h3 i j hij q
    · subst q
      simp only [if_true]
      cases e1 : (rv i).ownBlock with
      | none => exact Or.inr rfl
      | some k =>
        refine Or.inl (fun e2 => ?_)
        have k1 := ((h2 i hij).block k e1).2.1
        have k2 := (hr.block k e2.symm).1
        omega
end
section
variable {P : Program}
theorem wpList_appA {ops : Array Oper} {rest : List Oper} {o : Oper} {a : Act} {Q : Exit → Act → World → Prop} {w1 : World} {T : TypeId} {m : Int} {r : Value} (hg : o.guard = none) (so x : Operand) (t : TypeId)
    (ho : o.op = .call { callee := .builtin .append, args := #[so, x], argTypes := #[t, t] }) {B : Nat} {e : TypeId} (ht : P.underlying t = some (.slice e)) {z0 : Value}
    (hinfo : (P.info? e).map (fun i => (i.zero, i.size, i.bytes)) = some (some z0, 2, 32)) (hz0' : z0.cells.size = 2) (hr1 : r.oneCell' = true) (v : Value) (n : Nat) (f : Nat → List (List Int)) {M : Nat → Prop} (hs : a.eval so = v) (hown : GrowA B e M w1 v m f n)
    (hx : a.eval x = .slice (some ⟨w1.heap.size, 0, none⟩) 1 1) (hlen : n < 1048576) (hB : B ≤ w1.heap.size) (hr : KeptRows B M w1 r (f n)) (hv : ∀ k, v.ownBlock = some k → M k)
    (h : ∀ g cap w', (∀ M' : Nat → Prop, (∀ q, M' q → M q ∨ w1.heap.size ≤ q) → GrowA B e M' w' (.slice (some ⟨g, 0, none⟩) (n + 1) cap) m f (n + 1)) → w1.grownBy w' v.ownBlock → (v.ownBlock = some g ∨ w1.heap.size ≤ g) → wpList P ops Q rest (a.put o.dst (.slice (some ⟨g, 0, none⟩) (n + 1) cap)) w') :
    wpList P ops Q (o :: rest) a (w1.alloc (.cells #[.int .i64 m, r] T)) := by
  obtain ⟨i0, hi, hz0, hz1, hz2⟩ := info_parts hinfo
  obtain ⟨rv, h1, h2⟩ := hown
  refine wpList_append_own_at _ hg so x t ho B e i0 z0 2 32 ht hi hz0 hz1 hz2 hz0' (by decide) v n _ hs (World.ownsRow.alloc h1 _) ⟨w1.heap.size, 0, none⟩ 1 1 [.int .i64 m, r] hx rfl ?_ (by intro u hu; simp at hu; rcases hu with rfl | rfl; rfl; exact hr1) (by unfold maxLen; omega) (by omega) (by simp; omega) ?_
  · intro j u hj
    rcases j with _ | _ | j
    · simp at hj; subst hj
      unfold Addr.add World.cell?
      simp only [if_true]
      rw [heap_alloc_new]; rfl
    · simp at hj; subst hj
      unfold Addr.add World.cell?
      simp only [Nat.zero_add, Nat.one_ne_zero, if_false]
      rw [heap_alloc_new]; rfl
    · simp at hj
  · intro v' w' hown' hgrow hnil hloc
    have hgr : w1.grownBy w' v.ownBlock := grown_trans (World.grownBy_alloc _ _ _) hgrow
    obtain ⟨k1, ⟨rfl, k2⟩ | ⟨g, cap, cur, rfl, _⟩⟩ := id hown'
    · omega
    · have hl : v.ownBlock = some g ∨ w1.heap.size ≤ g := by
        rcases hloc with q | q
        · exact Or.inl q.symm
        · exact Or.inr (by simp [Value.ownBlock] at q; omega)
      refine h g cap w' (fun M' hM => ?_) hgr hl
      have hb : But (fun q => v.ownBlock = some q) w1 w' := But.of_grown hgr (fun k hk => hk)
      refine ⟨fun i => if i = n then r else rv i, ?_, fun i hi => ?_⟩
      · rw [autCells_succ, autCells_congr (rv' := rv) n (fun i hi => if_neg (by omega)), if_pos rfl]
        exact hown'
      · rcases Nat.lt_succ_iff_lt_or_eq.1 hi with q | q
        · simp only [if_neg (Nat.ne_of_lt q)]
          exact (h2 i q).but hb (fun q hq => Or.inl (hv q hq)) hM
        · subst q
          simp only [if_true]
          exact hr.but hb (fun q hq => Or.inl (hv q hq)) hM
end
/-- A list of words that is read alone; the words may lie in one block. -/
def WordsK (lo : Nat) (M : Nat → Prop) (w : World) (v : Value) (xss : List (List Int)) : Prop :=
  ∃ (g cap : Nat) (rv : Nat → Value), v = .slice (some ⟨g, 0, none⟩) xss.length cap ∧ xss.length ≤ cap ∧ cap ≤ 9223372036854775807 ∧ lo ≤ g ∧ g < w.heap.size ∧ ¬ M g ∧ ∀ i, i < xss.length → w.cell? ⟨g, i, none⟩ = some (rv i) ∧ KeptInts lo M w (rv i) (nth xss i)
section
variable {lo : Nat} {M M' S : Nat → Prop} {w w' : World} {v : Value} {xss : List (List Int)}
theorem WordsK.but (h : WordsK lo M w v xss) (hb : But S w w') (hS : ∀ q, S q → M q ∨ w.heap.size ≤ q) (hM : ∀ q, M' q → M q ∨ w.heap.size ≤ q) : WordsK lo M' w' v xss := by
  obtain ⟨g, cap, rv, h1, h2, h3, h4, h5, h6, h7⟩ := h
  have hz := hb.size
  have hSg : ¬ S g := fun q => by
    rcases hS g q with k | k
    · exact h6 k
    · omega
  refine ⟨g, cap, rv, h1, h2, h3, h4, by omega, fun q => ?_, fun i hi => ?_⟩
  · rcases hM g q with k | k
    · exact h6 k
    · omega
  · obtain ⟨q1, q2⟩ := h7 i hi
    exact ⟨hb.cell q1 hSg, q2.but hb hS hM⟩
theorem WordsK.new (h : WordsK lo M w v xss) (hn : New w w') : WordsK lo M w' v xss := h.but (S := fun _ => False) (But.of_new hn) (fun _ q => q.elim) (fun _ q => Or.inl q)
theorem WordsK.form (h : WordsK lo M w v xss) : ∃ A c, v = .slice A xss.length c := let ⟨_, _, _, h, _⟩ := h; ⟨_, _, h⟩
theorem WordsK.empty (lo : Nat) (e : TypeId) (M : Nat → Prop) (w : World) (h : lo ≤ w.heap.size) (hM : ¬ M w.heap.size) : WordsK lo M (w.alloc (.cells #[] e)) (.slice (some ⟨w.heap.size, 0, none⟩) 0 0) [] :=
  ⟨w.heap.size, 0, fun _ => default, rfl, Nat.le_refl _, by omega, h, by simp only [size_alloc]; omega, hM, fun i hi => by simp at hi⟩
theorem nth_put (all : List (List Int)) (x : List Int) (k : Nat) (hk : k ≤ all.length) (i : Nat) (hi : i < all.length + 1) : nth (all.take k ++ x :: all.drop k) i = if i < k then nth all i else if i = k then x else nth all (i - 1) := by
  have hl : (all.take k ++ x :: all.drop k).length = all.length + 1 := by simp; omega
  rw [nth_eq _ _ (by rw [hl]; exact hi)]
  by_cases e1 : i < k
  · rw [if_pos e1, List.getElem_append_left (by simp; omega), nth_eq _ _ (by omega)]; simp
  · rw [if_neg e1, List.getElem_append_right (by simp; omega)]
    by_cases e2 : i = k
    · subst e2; rw [if_pos rfl]; simp [Nat.min_eq_left hk]
    · rw [if_neg e2, nth_eq _ _ (by omega)]
      obtain ⟨j, hj⟩ : ∃ j, i - (all.take k).length = j + 1 := ⟨i - k - 1, by simp; omega⟩
      simp only [hj, List.getElem_cons_succ, List.getElem_drop]
      congr 1
      simp at hj; omega
theorem WordsK.put {all : List (List Int)} {x : List Int} {rv : Nat → Value} {rx : Value} {g2 cap2 k : Nat} {e : TypeId} (h : ∀ j, j < all.length → KeptInts lo M w (rv j) (nth all j)) (hn : New w w') (hlo : lo ≤ w.heap.size) (hM : ∀ q, M q → q < w.heap.size)
    (hx : OwnInts w.heap.size w'.heap.size w' rx x) (hk : k ≤ all.length) (ho : w'.ownsRow w.heap.size e 1 (.slice (some ⟨g2, 0, none⟩) (all.length + 1) cap2) (all.length + 1) ((List.range k).map rv ++ [rx] ++ ((List.range all.length).map rv).drop k)) : WordsK lo M w' (.slice (some ⟨g2, 0, none⟩) (all.length + 1) cap2) (all.take k ++ x :: all.drop k) := by
  have hl : (all.take k ++ x :: all.drop k).length = all.length + 1 := by simp; omega
  have hg2 := World.ownsRow.lt ho g2 rfl
  have hcap : all.length + 1 ≤ cap2 ∧ cap2 ≤ maxLen := by
    obtain ⟨_, ⟨e1, _⟩ | ⟨g, cap, cur, e1, _, _, h1, h2, _⟩⟩ := id ho
    · cases e1
    · cases e1; exact ⟨h1, h2⟩
  unfold maxLen at hcap
  rw [put_vals rv rx all.length k hk] at ho
  have hkx : KeptInts lo M w' rx x := ⟨w.heap.size, w'.heap.size, hlo, Nat.le_refl _, hx, fun q hq => Or.inl (hM q hq)⟩
  refine ⟨g2, cap2, fun i => if i < k then rv i else if i = k then rx else rv (i - 1), by rw [hl], by rw [hl]; exact hcap.1, by omega, by omega, by omega, fun q => by have := hM g2 q; omega, fun i hi => ?_⟩
  rw [hl] at hi
  refine ⟨?_, ?_⟩
  · obtain ⟨b, _, ⟨c', e1⟩, _, _, hc, _⟩ := ownsRow_cells ho i (by simpa using hi)
    cases e1
    rw [hc]; simp
  · rw [nth_put all x k hk i hi]
    by_cases e1 : i < k
    · simp only [if_pos e1]; exact (h i (by omega)).new hn
    · by_cases e2 : i = k
      · simp only [if_neg e1, if_pos e2]; exact hkx
      · simp only [if_neg e1, if_neg e2]; exact (h (i - 1) (by omega)).new hn
end
section
variable {P : Program}
theorem wpList_appW {ops : Array Oper} {rest : List Oper} {o : Oper} {a : Act} {Q : Exit → Act → World → Prop} {w0 w1 : World} {T : TypeId} {r : Value} (hg : o.guard = none) (so x : Operand) (t : TypeId)
    (ho : o.op = .call { callee := .builtin .append, args := #[so, x], argTypes := #[t, t] }) {lo : Nat} {e : TypeId} (ht : P.underlying t = some (.slice e)) {z0 : Value} {bytes : Nat}
    (hinfo : (P.info? e).map (fun i => (i.zero, i.size, i.bytes)) = some (some z0, 1, bytes)) (hz0' : z0.cells.size = 1) (hby : bytes ≤ 64) (hr1 : r.oneCell' = true) (v : Value) (xss : List (List Int)) (ys : List Int) {M S : Nat → Prop} {C : Nat} (hs : a.eval so = v) (hown : GrowW lo e M w0 v xss)
    (hx : a.eval x = .slice (some ⟨w1.heap.size, 0, none⟩) 1 1) (hlen : xss.length < 1048576) (hB : lo ≤ w1.heap.size) (hb0 : But S w0 w1) (hv0 : ∀ k, v.ownBlock = some k → ¬ S k) (hS : ∀ q, S q → M q ∨ w0.heap.size ≤ q) (hr : OwnInts C w1.heap.size w1 r ys) (hC : w0.heap.size ≤ C) (hC2 : lo ≤ C) (hMC : ∀ q, M q → q < C) (hv : ∀ k, v.ownBlock = some k → M k)
    (h : ∀ g cap w', (∀ M' : Nat → Prop, (∀ q, M' q → M q ∨ w1.heap.size ≤ q) → GrowW lo e M' w' (.slice (some ⟨g, 0, none⟩) (xss.length + 1) cap) (xss ++ [ys])) → w1.grownBy w' v.ownBlock → (v.ownBlock = some g ∨ w1.heap.size ≤ g) → wpList P ops Q rest (a.put o.dst (.slice (some ⟨g, 0, none⟩) (xss.length + 1) cap)) w') :
    wpList P ops Q (o :: rest) a (w1.alloc (.cells #[r] T)) := by
  obtain ⟨rv, h1, h2, h3⟩ := hown
  refine wpList_appV hg so x t ho (B := lo) ht hinfo hz0' hby hr1 v xss.length _ hs (hb0.row h1 hv0) hx (by omega) hB ?_
  intro g cap w' ho' hg' hl'
  refine h g cap w' (fun M' hM => ?_) hg' (hl'.imp id (fun q => by omega))
  exact GrowW.snoc h1 h2 h3 hb0 hS hr hC hC2 hMC hg' hv hM ho'
end

end Go.Proofs.Ythbebnfhplacnaa
