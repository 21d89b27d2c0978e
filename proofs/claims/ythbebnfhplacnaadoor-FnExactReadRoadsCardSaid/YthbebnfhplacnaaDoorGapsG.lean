/- Parts of the proof that lean on no program: GrowG, IGaps, SGaps, SOwn, SFill. -/
import Derived.Test.YthbebnfhplacnaaDoorRows
import Derived.Test.YthbebnfhplacnaaDoorCore
import Derived.Test.YthbebnfhplacnaaDoorMaps
import Derived.Test.YthbebnfhplacnaaDoorArrs
import Derived.Test.YthbebnfhplacnaaDoorInfos
import Derived.Test.YthbebnfhplacnaaDoorPlains
import Derived.Test.YthbebnfhplacnaaDoorDrawT
import Derived.Test.YthbebnfhplacnaaDoorPlainFill
import Derived.WalkKit
import Derived.WalkSpells
import Derived.WalkLawsBesides
import Derived.Deep.QuietTactic
import Derived.Deep.OwnRows
import Derived.BigQuiet
import Derived.KernelRfl
import Derived.OwnWalk
import Derived.Deep.AppendLies
import Derived.Deep.RegionHeld3
import Derived.Carry
import Derived.Deep.RegionLaw
import Derived.Deep.Cut
namespace Go.Proofs.YthbebnfhplacnaaDoor
open Go.RowKit

section
def gapVals (gs : List (Nat × Nat)) : List Value := gs.flatMap fun g => [.int .i64 g.1, .int .i64 g.2]
theorem gapVals_len (gs : List (Nat × Nat)) : (gapVals gs).length = gs.length * 2 := by
  induction gs with
  | nil => rfl
  | cons g r ih => simp only [gapVals, List.flatMap_cons, List.length_append, List.length_cons, List.length_nil] at ih ⊢; omega
theorem gapVals_append (a b : List (Nat × Nat)) : gapVals (a ++ b) = gapVals a ++ gapVals b := by simp [gapVals]
theorem gapVals_at (gs : List (Nat × Nat)) : ∀ i, i < gs.length → (gapVals gs)[i * 2]? = some (.int .i64 (nth gs i).1) ∧ (gapVals gs)[i * 2 + 1]? = some (.int .i64 (nth gs i).2) := by
  induction gs with
  | nil => intro i hi; simp at hi
  | cons g r ih =>
    intro i hi
    rcases i with _ | i
    · exact ⟨rfl, rfl⟩
    · have := ih i (by simpa using hi)
      have e : nth (g :: r) (i + 1) = nth r i := rfl
      rw [e]
      have e1 : gapVals (g :: r) = .int .i64 g.1 :: .int .i64 g.2 :: gapVals r := rfl
      rw [e1, show (i + 1) * 2 = i * 2 + 2 by omega, show i * 2 + 2 + 1 = i * 2 + 1 + 2 by omega]
      exact this
/-- Pairs under append. -/
def GrowG (B : Nat) (e : TypeId) (w : World) (v : Value) (gs : List (Nat × Nat)) : Prop := w.ownsRow B e 2 v gs.length (gapVals gs)
/-- A list of pairs. -/
def GapsAt (w : World) (v : Value) (gs : List (Nat × Nat)) : Prop := ∃ A c, v = .slice A gs.length c ∧ ∀ i, i < gs.length → ∃ b, A = some ⟨b, 0, none⟩ ∧ w.cell? ⟨b, i * 2, none⟩ = some (.int .i64 (nth gs i).1) ∧ w.cell? ⟨b, i * 2 + 1, none⟩ = some (.int .i64 (nth gs i).2)
theorem GapsAt.but {S : Nat → Prop} {w w' : World} {v : Value} {gs : List (Nat × Nat)} (h : GapsAt w v gs) (hb : But S w w') (hS : ∀ k, v.ownBlock = some k → ¬ S k) : GapsAt w' v gs := by
  obtain ⟨A, c, rfl, hc⟩ := h
  refine ⟨A, c, rfl, fun i hi => ?_⟩
  obtain ⟨b, rfl, h1, h2⟩ := hc i hi
  exact ⟨b, rfl, hb.cell h1 (hS b rfl), hb.cell h2 (hS b rfl)⟩
theorem GapsAt.new {w w' : World} {v : Value} {gs : List (Nat × Nat)} (h : GapsAt w v gs) (hn : New w w') : GapsAt w' v gs := h.but (S := fun _ => False) (But.of_new hn) (fun _ _ => id)
theorem GapsAt.form {w : World} {v : Value} {gs : List (Nat × Nat)} (h : GapsAt w v gs) : ∃ A c, v = .slice A gs.length c := let ⟨A, c, h, _⟩ := h; ⟨A, c, h⟩
theorem GrowG.empty (B : Nat) (e : TypeId) (w : World) (h : B ≤ w.heap.size) : GrowG B e (w.alloc (.cells #[] e)) (.slice (some ⟨w.heap.size, 0, none⟩) 0 0) [] := by
  have := World.ownsRow_made (w := w) (base := B) (e := e) (size := 2) #[] 0 h (by simp) (by simp)
  exact this
theorem GrowG.form {B : Nat} {e : TypeId} {w : World} {v : Value} {gs : List (Nat × Nat)} (h : GrowG B e w v gs) : ∃ A c, v = .slice A gs.length c := by
  obtain ⟨h1, ⟨rfl, h2⟩ | ⟨g, cap, cur, rfl, _⟩⟩ := h
  · exact ⟨none, 0, by rw [h2]⟩
  · exact ⟨_, _, rfl⟩
theorem GrowG.block {B : Nat} {e : TypeId} {w : World} {v : Value} {gs : List (Nat × Nat)} (h : GrowG B e w v gs) : ∀ k, v.ownBlock = some k → B ≤ k ∧ k < w.heap.size := World.ownsRow.lt h
theorem GrowG.new {B : Nat} {e : TypeId} {w w' : World} {v : Value} {gs : List (Nat × Nat)} (h : GrowG B e w v gs) (hn : New w w') : GrowG B e w' v gs := ownsRow_new h hn
theorem GrowG.at {B : Nat} {e : TypeId} {w : World} {v : Value} {gs : List (Nat × Nat)} (h : GrowG B e w v gs) : GapsAt w v gs := by
  obtain ⟨A, c, rfl⟩ := h.form
  refine ⟨A, c, rfl, fun i hi => ?_⟩
  obtain ⟨h1, ⟨e1, e2⟩ | ⟨g, cap, cur, e1, hg, hh, hn, hc, hs, ht⟩⟩ := h
  · omega
  · cases e1
    obtain ⟨q1, q2⟩ := gapVals_at gs i hi
    refine ⟨g, rfl, ?_, ?_⟩
    · rw [← ht, List.getElem?_take, if_pos (by omega)] at q1
      simpa [World.cell?, hh] using q1
    · rw [← ht, List.getElem?_take, if_pos (by omega)] at q2
      simpa [World.cell?, hh] using q2
section
variable {P : Program}
theorem wpList_appG {ops : Array Oper} {rest : List Oper} {o : Oper} {a : Act} {Q : Exit → Act → World → Prop} {w1 : World} {T : TypeId} {l s : Nat} (hg : o.guard = none) (so x : Operand) (t : TypeId)
    (ho : o.op = .call { callee := .builtin .append, args := #[so, x], argTypes := #[t, t] }) {B : Nat} {e : TypeId} (ht : P.underlying t = some (.slice e)) {z0 : Value}
    (hinfo : (P.info? e).map (fun i => (i.zero, i.size, i.bytes)) = some (some z0, 2, 16)) (hz0' : z0.cells.size = 2) (v : Value) (gs : List (Nat × Nat)) (hs : a.eval so = v) (hown : GrowG B e w1 v gs)
    (hx : a.eval x = .slice (some ⟨w1.heap.size, 0, none⟩) 1 1) (hlen : gs.length < 1048576) (hB : B ≤ w1.heap.size)
    (h : ∀ g cap w', GrowG B e w' (.slice (some ⟨g, 0, none⟩) (gs.length + 1) cap) (gs ++ [(l, s)]) → w1.grownBy w' v.ownBlock → wpList P ops Q rest (a.put o.dst (.slice (some ⟨g, 0, none⟩) (gs.length + 1) cap)) w') :
    wpList P ops Q (o :: rest) a (w1.alloc (.cells #[.int .i64 l, .int .i64 s] T)) := by
  obtain ⟨i0, hi, hz0, hz1, hz2⟩ := info_parts hinfo
  refine wpList_append_own _ hg so x t ho B e i0 z0 2 16 ht hi hz0 hz1 hz2 hz0' (by decide) v gs.length _ hs (World.ownsRow.alloc hown _) ⟨w1.heap.size, 0, none⟩ 1 1 [.int .i64 l, .int .i64 s] hx rfl ?_ (by intro u hu; simp at hu; rcases hu with rfl | rfl <;> rfl) (by unfold maxLen; omega) (by omega) (by simp; omega) ?_
  · intro j u hj
    rcases j with _ | _ | j
    · simp at hj; subst hj
      unfold Addr.add World.cell?
      simp only [if_true]
      rw [heap_alloc_new]; rfl
    · simp at hj; subst hj
      unfold Addr.add World.cell?
      simp only [Nat.zero_add, Nat.one_ne_zero, if_false]
      rw [heap_alloc_new]; rfl
    · simp at hj
  · intro v' w' hown' hgrow hnil
    have hgr : w1.grownBy w' v.ownBlock := grown_trans (World.grownBy_alloc _ _ _) hgrow
    have e1 : gapVals gs ++ [.int .i64 (l : Int), .int .i64 (s : Int)] = gapVals (gs ++ [(l, s)]) := by rw [gapVals_append]; rfl
    have hown2 : GrowG B e w' v' (gs ++ [(l, s)]) := by
      unfold GrowG
      rw [← e1, List.length_append, List.length_singleton]
      exact hown'
    obtain ⟨h1, ⟨rfl, h2⟩ | ⟨g, cap, cur, rfl, _⟩⟩ := id hown'
    · omega
    · exact h g cap w' hown2 hgr
end
end
section
end
section
/-- A count of fillings that is great enough where it is too great. -/
def cntCut (n m : Nat) (c : Int) : Prop := (n ^ m ≤ 5000 ∧ c = ((n ^ m : Nat) : Int)) ∨ (5000 < n ^ m ∧ 5000 < c)
end
section
/-- A slice is not longer than its capacity. -/
def CapAt (v : Value) : Prop := ∀ A m c, v = .slice A m c → m ≤ c
end
section
theorem Box2.mk1 {w w' : World} {u v : Value} {t : TypeId} (h : New (w.alloc (.cells #[u, v] t)) w') : Box2 w' w.heap.size u v :=
  Box2.new ⟨by unfold World.cell?; rw [heap_alloc_new]; rfl, by unfold World.cell?; rw [heap_alloc_new]; rfl, by unfold World.frozen?; rw [heap_alloc_new]; rfl, by unfold World.frozen?; rw [heap_alloc_new]; rfl⟩ h
theorem Box2.mk2 {w w' : World} {u v : Value} {t : TypeId} (h : New (w.alloc (.cells #[u, v] t)).drew w') : Box2 w' w.heap.size u v :=
  Box2.mk1 ((New.refl _).drew.trans h)
end

end Go.Proofs.YthbebnfhplacnaaDoor
