/- Parts of the proof that lean on no program: PlainSwap, RowsW, CutSeq. -/
import Derived.Test.YthbebnfhplacnaaDoorRows
import Derived.Test.YthbebnfhplacnaaDoorCore
import Derived.Test.YthbebnfhplacnaaDoorPlains
import Derived.Test.YthbebnfhplacnaaDoorMaps
import Derived.Test.YthbebnfhplacnaaDoorArrs
import Derived.WalkKit
import Derived.WalkSpells
import Derived.WalkLawsBesides
import Derived.Deep.QuietTactic
import Derived.Deep.OwnRows
import Derived.BigQuiet
import Derived.KernelRfl
import Derived.Carry
import Derived.Deep.Cut
namespace Go.Proofs.YthbebnfhplacnaaDoor
open Go.RowKit

section
def putAt (xss : List (List Int)) (i j : Nat) (z : Int) : List (List Int) := xss.set i ((nth xss i).set j z)
theorem putAt_len (xss : List (List Int)) (i j : Nat) (z : Int) : (putAt xss i j z).length = xss.length := by simp [putAt]
theorem putAt_rowlen (xss : List (List Int)) (i j k : Nat) (z : Int) (hi : i < xss.length) : (nth (putAt xss i j z) k).length = (nth xss k).length := by
  unfold putAt
  rw [nth_set _ _ _ _ hi]
  split
  · rename_i e; subst e; simp
  · rfl
def swapOf (a : Aut) (s x y : Int) : Aut := ⟨a.n, putAt (putAt a.nx x.toNat s.toNat (nth (nth a.nx y.toNat) s.toNat)) y.toNat s.toNat (nth (nth a.nx x.toNat) s.toNat)⟩
def swapIn (a : Aut) (s x y : Int) : Bool := inB s 0 (a.n - 1) && (inB x 0 ((a.nx.length : Int) - 1) && inB y 0 ((a.nx.length : Int) - 1))
def SwapColours (a : Aut) (s x y : Int) : Aut × Int := if autOk a = true then (if swapIn a s x y = true then (swapOf a s x y, 0) else (⟨0, []⟩, 2)) else (⟨0, []⟩, 1)
/-- A write into one row of an own list of lists. -/
theorem OwnRows.put {B E n c : Nat} {A : Option Addr} {w : World} {xss : List (List Int)} (h : OwnRows B E w (.slice A n c) xss) (i j : Nat) (hi : i < xss.length) (hj : j < (nth xss i).length) :
    ∃ b off b2 off2 c2, A = some ⟨b, off, none⟩ ∧ w.cell? ⟨b, off + i, none⟩ = some (.slice (some ⟨b2, off2, none⟩) (nth xss i).length c2) ∧ w.cell? ⟨b2, off2 + j, none⟩ = some (.int .i64 (nth (nth xss i) j)) ∧ w.frozen? ⟨b2, off2 + j, none⟩ = false ∧ B ≤ b2 ∧ b2 < E ∧
      ∀ z, OwnRows B E (w.setCell ⟨b2, off2 + j, none⟩ (.int .i64 z)) (.slice A n c) (putAt xss i j z) ∧ Within B E w (w.setCell ⟨b2, off2 + j, none⟩ (.int .i64 z)) := by
  obtain ⟨_, b, off, rv, rfl, hx, ho, hs⟩ := h.row i hi
  obtain ⟨A2, c2, rfl⟩ := ho.form
  obtain ⟨A', c', e, hl, ha, hc⟩ := id ho
  cases e
  obtain ⟨b2, off2, rfl, hy, hf⟩ := hc j hj
  have hb := ha _ rfl
  refine ⟨b, off, b2, off2, c2, rfl, hx, hy, hf, hb.1, hb.2, fun z => hs _ _ (ho.set j hj z) ?_⟩
  exact ⟨rfl, rfl, rfl, by simp [World.setCell], fun k _ hk => Below.heap_setCell _ _ _ _ (fun e => hk (by simp [Value.ownBlock, e]))⟩
/-- A row's block is not the frame's. -/
theorem OwnRows.row_ne {B E n c b off b2 off2 c2 m : Nat} {w : World} {xss : List (List Int)} (h : OwnRows B E w (.slice (some ⟨b, off, none⟩) n c) xss) (i : Nat) (hi : i < xss.length) (hx : w.cell? ⟨b, off + i, none⟩ = some (.slice (some ⟨b2, off2, none⟩) m c2)) : b2 ≠ b := by
  obtain ⟨A', c', rv, e, hl, ha, hc, hd⟩ := h
  cases e
  obtain ⟨⟨b', off', e, hx', hb⟩, ho⟩ := hc i hi
  cases e
  rw [hx] at hx'
  have e2 := Option.some.inj hx'
  rw [← e2] at hb
  simpa [Value.ownBlock] using hb
end
section
theorem But.within1 {b : Nat} {w w' : World} (h : But (fun q => q = b) w w') : Within b (b + 1) w w' := ⟨h.1, h.2.1, h.2.2.1, h.2.2.2.1, fun k hk ho => h.2.2.2.2 k hk (by omega)⟩
theorem Within.but1 {b : Nat} {w w' : World} (h : Within b (b + 1) w w') : But (fun q => q = b) w w' := ⟨h.1, h.2.1, h.2.2.1, h.2.2.2.1, fun k hk ho => h.2.2.2.2 k hk (by omega)⟩
section
variable {P : Program}
theorem wpList_appRowsW {ops : Array Oper} {rest : List Oper} {o : Oper} {a : Act} {Q : Exit → Act → World → Prop} {w0 w1 : World} {T : TypeId} {r : Value} (hg : o.guard = none) (s x : Operand) (t : TypeId)
    (ho : o.op = .call { callee := .builtin .append, args := #[s, x], argTypes := #[t, t] }) {B : Nat} {e : TypeId} (ht : P.underlying t = some (.slice e))
    (hinfo : (P.info? e).map (fun i => (i.zero, i.size, i.bytes)) = some (some (.slice none 0 0), 1, 24)) (v : Value) (xss : List (List Int)) (ys : List Int) (hs : a.eval s = v) (hown : GrowRows B e w0 v xss) {PB PE : Nat} (hn : Within PB PE w0 w1) (hPE : PE ≤ B)
    (hr : OwnInts w0.heap.size w1.heap.size w1 r ys)
    (hx : a.eval x = .slice (some ⟨w1.heap.size, 0, none⟩) 1 1) (hlen : xss.length < 1099511627776) (hB : B ≤ w0.heap.size)
    (h : ∀ g cap w', GrowRows B e w' (.slice (some ⟨g, 0, none⟩) (xss.length + 1) cap) (xss ++ [ys]) → w1.grownBy w' v.ownBlock → wpList P ops Q rest (a.put o.dst (.slice (some ⟨g, 0, none⟩) (xss.length + 1) cap)) w') :
    wpList P ops Q (o :: rest) a (w1.alloc (.cells #[r] T)) := by
  obtain ⟨rv, h1, h2, h3⟩ := hown
  have hv : ∀ k, v.ownBlock = some k → B ≤ k ∧ k < w0.heap.size := World.ownsRow.lt h1
  have hsz := hn.2.2.2.1
  refine wpList_appV hg s x t ho ht hinfo (by decide) (by decide) (by obtain ⟨A, c, rfl⟩ := hr.form; rfl) v xss.length _ hs (ownsRow_within h1 hn hPE) hx hlen (by omega) ?_
  intro g cap w' ho' hgr hloc
  have hsz' := hgr.size
  have hrb := hr.block
  have hrne : r.ownBlock ≠ v.ownBlock ∨ r.ownBlock = none := by
    cases e1 : r.ownBlock with
    | none => exact Or.inr rfl
    | some k =>
      left
      intro e2
      have := hrb k e1
      have := hv k e2.symm
      omega
  refine h g cap w' ⟨fun i => if i < xss.length then rv i else r, ?_, ?_, ?_⟩ hgr
  · have e1 : (List.range (xss ++ [ys]).length).map (fun i => if i < xss.length then rv i else r) = (List.range xss.length).map rv ++ [r] := by
      rw [List.length_append, List.length_singleton, list_range_snoc]
      congr 1
      · apply List.map_congr_left
        intro i hi
        rw [if_pos (List.mem_range.1 hi)]
      · rw [if_neg (Nat.lt_irrefl _)]
    rw [e1, List.length_append, List.length_singleton]
    exact ho'
  · intro i hi
    rw [List.length_append, List.length_singleton] at hi
    by_cases hlt : i < xss.length
    · simp only [if_pos hlt]
      obtain ⟨k1, k2⟩ := h2 i hlt
      have k1' := k1.within hn (Or.inr hPE)
      have hb1 := k1.block
      rw [nth_append_left _ _ _ hlt]
      refine ⟨(k1'.grown hgr k2).widen (Nat.le_refl _) (by omega), ?_⟩
      cases e1 : (rv i).ownBlock with
      | none => exact Or.inr rfl
      | some k =>
        left
        have := hb1 k e1
        rcases hloc with hl | hl
        · rcases k2 with k2 | k2
          · rw [e1, hl] at k2; simpa [Value.ownBlock] using k2
          · rw [e1] at k2; cases k2
        · simp [Value.ownBlock]; omega
    · have hi' : i = xss.length := by omega
      subst hi'
      simp only [if_neg (Nat.lt_irrefl _)]
      rw [nth_append_here]
      refine ⟨(hr.grown hgr hrne).widen (by omega) (by omega), ?_⟩
      cases e1 : r.ownBlock with
      | none => exact Or.inr rfl
      | some k =>
        left
        have := hrb k e1
        rcases hloc with hl | hl
        · have := hv g hl; simp [Value.ownBlock]; omega
        · simp [Value.ownBlock]; omega
  · intro i j hij hj
    rw [List.length_append, List.length_singleton] at hj
    by_cases hlt : j < xss.length
    · simp only [if_pos hlt, if_pos (show i < xss.length by omega)]
      exact h3 i j hij hlt
    · have hj' : j = xss.length := by omega
      subst hj'
      simp only [if_neg (Nat.lt_irrefl _), if_pos hij]
      cases e1 : (rv i).ownBlock with
      | none => exact Or.inr rfl
      | some k =>
        left
        have := (h2 i hij).1.block k e1
        intro e2
        have := hrb k e2.symm
        omega
end

/-- Where a list alone grows whose block is new: only the other block has turned. -/
theorem Within.of_above {b : Nat} {w w1 w' : World} {r : Option Nat} (h : Within b (b + 1) w w1) (hg : w1.grownBy w' r) (hr : ∀ q, r = some q → w.heap.size ≤ q) : Within b (b + 1) w w' := by
  obtain ⟨h1, h2, h3, h4, h5⟩ := h
  exact ⟨hg.os.trans h1, hg.tape.trans h2, hg.output.trans h3, Nat.le_trans h4 hg.size, fun k hk ho => (hg.block k (Nat.lt_of_lt_of_le hk h4) (fun e => by have := hr k e.symm; omega)).trans (h5 k hk ho)⟩
theorem rows_snoc {xs : List Int} {k : Nat} {m : Int} (h : xs.length = k ∧ ∀ j, j < k → 0 ≤ nth xs j ∧ nth xs j < m) (x : Int) (h0 : 0 ≤ x) (h1 : x < m) : (xs ++ [x]).length = k + 1 ∧ ∀ j, j < k + 1 → 0 ≤ nth (xs ++ [x]) j ∧ nth (xs ++ [x]) j < m := by
  obtain ⟨hl, h⟩ := h
  refine ⟨by simp [hl], fun j hj => ?_⟩
  by_cases e : j < k
  · rw [nth_append_left _ _ _ (by omega)]; exact h j e
  · have : j = xs.length := by omega
    subst this
    rw [nth_append_here]; exact ⟨h0, h1⟩

theorem OwnInts.but1 {S : Nat → Prop} {B E : Nat} {w w' : World} {v : Value} {xs : List Int} (h : OwnInts B E w v xs) (hb : But S w w') (hS : ∀ q, S q → E ≤ q) : OwnInts B E w' v xs := by
  obtain ⟨A, c, rfl, hl, ha, hc⟩ := h
  refine ⟨A, c, rfl, hl, ha, fun i hi => ?_⟩
  obtain ⟨b, off, rfl, hx, hf⟩ := hc i hi
  have h1 := ha _ rfl
  have hn : ¬ S b := fun q => by have := hS _ q; simp only at h1; omega
  exact ⟨b, off, rfl, hb.cell hx hn, by rw [hb.frozen hx hn]; exact hf⟩
theorem OwnRows.but1 {S : Nat → Prop} {B E : Nat} {w w' : World} {v : Value} {xss : List (List Int)} (h : OwnRows B E w v xss) (hb : But S w w') (hS : ∀ q, S q → E ≤ q) : OwnRows B E w' v xss := by
  obtain ⟨A, c, rv, rfl, hl, ha, hc, hd⟩ := h
  refine ⟨A, c, rv, rfl, hl, ha, fun i hi => ?_, hd⟩
  obtain ⟨⟨b, off, rfl, hx, hne⟩, hr⟩ := hc i hi
  have h1 := ha _ rfl
  have hn : ¬ S b := fun q => by have := hS _ q; simp only at h1; omega
  exact ⟨⟨b, off, rfl, hb.cell hx hn, hne⟩, hr.but1 hb hS⟩
end
section
section
variable {P : Program} {Q : Exit → Act → World → Prop} {a : Act} {w : World}
theorem wp_cut2 {x y t : Code} (R : Act → World → Prop) (rest : ∀ a' w', R a' w' → t.wp P Q a' w')
    (first : ∀ J J2 : Act → World → Prop, Hid (∀ a' w', R a' w' → J2 a' w') → (∀ a' w', Met J2 a' w' → J a' w') → ∀ K1 : Act → World → Prop, (∀ a w, y.wp P (Exit.then J Q) a w → K1 a w) → x.wp P (Exit.then K1 Q) a w) :
    (Code.seq x (Code.seq y t)).wp P Q a w := by
  have fin : ∀ (e : Exit) (a' : Act) (w' : World) (A B : Act → World → Prop), (∀ a w, A a w → B a w) → Exit.then A Q e a' w' → Exit.then B Q e a' w' := fun e a' w' A B h => by cases e <;> first | exact h _ _ | exact id
  refine wp_seq (wp_mono (first R R (hid fun _ _ h => h) (fun _ _ h => h) (fun a w => y.wp P (Exit.then R Q) a w) (fun _ _ h => h)) (fun e a' w' => fin e a' w' _ _ (fun a w h => ?_)))
  exact wp_seq (wp_mono h (fun e a' w' => fin e a' w' _ _ (fun a w h => rest a w h)))
theorem wp_cut3 {x y z t : Code} (R : Act → World → Prop) (rest : ∀ a' w', R a' w' → t.wp P Q a' w')
    (first : ∀ J J2 : Act → World → Prop, Hid (∀ a' w', R a' w' → J2 a' w') → (∀ a' w', Met J2 a' w' → J a' w') → ∀ K2 : Act → World → Prop, (∀ a w, z.wp P (Exit.then J Q) a w → K2 a w) → ∀ K1 : Act → World → Prop, (∀ a w, y.wp P (Exit.then K2 Q) a w → K1 a w) → x.wp P (Exit.then K1 Q) a w) :
    (Code.seq x (Code.seq y (Code.seq z t))).wp P Q a w := by
  have fin : ∀ (e : Exit) (a' : Act) (w' : World) (A B : Act → World → Prop), (∀ a w, A a w → B a w) → Exit.then A Q e a' w' → Exit.then B Q e a' w' := fun e a' w' A B h => by cases e <;> first | exact h _ _ | exact id
  refine wp_seq (wp_mono (first R R (hid fun _ _ h => h) (fun _ _ h => h) (fun a w => z.wp P (Exit.then R Q) a w) (fun _ _ h => h) (fun a w => y.wp P (Exit.then (fun a w => z.wp P (Exit.then R Q) a w) Q) a w) (fun _ _ h => h)) (fun e a' w' => fin e a' w' _ _ (fun a w h => ?_)))
  refine wp_seq (wp_mono h (fun e a' w' => fin e a' w' _ _ (fun a w h => ?_)))
  exact wp_seq (wp_mono h (fun e a' w' => fin e a' w' _ _ (fun a w h => rest a w h)))
theorem wp_cut4 {v x y z t : Code} (R : Act → World → Prop) (rest : ∀ a' w', R a' w' → t.wp P Q a' w')
    (first : ∀ J J2 : Act → World → Prop, Hid (∀ a' w', R a' w' → J2 a' w') → (∀ a' w', Met J2 a' w' → J a' w') → ∀ K3 : Act → World → Prop, (∀ a w, z.wp P (Exit.then J Q) a w → K3 a w) → ∀ K2 : Act → World → Prop, (∀ a w, y.wp P (Exit.then K3 Q) a w → K2 a w) → ∀ K1 : Act → World → Prop, (∀ a w, x.wp P (Exit.then K2 Q) a w → K1 a w) → v.wp P (Exit.then K1 Q) a w) :
    (Code.seq v (Code.seq x (Code.seq y (Code.seq z t)))).wp P Q a w := by
  have fin : ∀ (e : Exit) (a' : Act) (w' : World) (A B : Act → World → Prop), (∀ a w, A a w → B a w) → Exit.then A Q e a' w' → Exit.then B Q e a' w' := fun e a' w' A B h => by cases e <;> first | exact h _ _ | exact id
  refine wp_seq (wp_mono (first R R (hid fun _ _ h => h) (fun _ _ h => h) (fun a w => z.wp P (Exit.then R Q) a w) (fun _ _ h => h) (fun a w => y.wp P (Exit.then (fun a w => z.wp P (Exit.then R Q) a w) Q) a w) (fun _ _ h => h) (fun a w => x.wp P (Exit.then (fun a w => y.wp P (Exit.then (fun a w => z.wp P (Exit.then R Q) a w) Q) a w) Q) a w) (fun _ _ h => h)) (fun e a' w' => fin e a' w' _ _ (fun a w h => ?_)))
  refine wp_seq (wp_mono h (fun e a' w' => fin e a' w' _ _ (fun a w h => ?_)))
  refine wp_seq (wp_mono h (fun e a' w' => fin e a' w' _ _ (fun a w h => ?_)))
  exact wp_seq (wp_mono h (fun e a' w' => fin e a' w' _ _ (fun a w h => rest a w h)))
end
end

end Go.Proofs.YthbebnfhplacnaaDoor
