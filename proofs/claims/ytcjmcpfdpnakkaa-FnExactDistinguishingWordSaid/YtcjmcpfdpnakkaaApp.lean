/- Lists that are built by append. -/
import Derived.Test.YtcjmcpfdpnakkaaBase
import Derived.WalkKit
import Derived.WalkSpells
import Derived.WalkLawsBesides
import Derived.Deep.QuietTactic
import Derived.Deep.OwnRows
import Derived.BigQuiet
import Derived.KernelRfl
import Derived.OwnWalk
namespace Go.Proofs.Ytcjmcpfdpnakkaa
open Go.RowKit

theorem ownsRow_new {w w' : World} {B n : Nat} {e : TypeId} {size : Nat} {v : Value} {xs : List Value} (h : w.ownsRow B e size v n xs) (hw : New w w') : w'.ownsRow B e size v n xs := by
  obtain ⟨h1, h2⟩ := h
  refine ⟨h1, ?_⟩
  rcases h2 with h2 | ⟨g, cap, cur, hv, hg, hh, r⟩
  · exact Or.inl h2
  · exact Or.inr ⟨g, cap, cur, hv, hg, by rw [hw.block g (Array.getElem?_eq_some_iff.1 hh).1]; exact hh, r⟩
/-- A list of int64 (elements of type e) under construction, in a block of its own from B on. -/
def Grow (B : Nat) (e : TypeId) (w : World) (v : Value) (xs : List Int) : Prop := w.ownsRow B e 1 v xs.length (xs.map (Value.int .i64))
theorem Grow.new {B : Nat} {e : TypeId} {w w' : World} {v : Value} {xs : List Int} (h : Grow B e w v xs) (hw : New w w') : Grow B e w' v xs := ownsRow_new h hw
theorem Grow.empty (B : Nat) (e : TypeId) (w : World) (h : B ≤ w.heap.size) : Grow B e (w.alloc (.cells #[] e)) (.slice (some ⟨w.heap.size, 0, none⟩) 0 0) [] := by
  have := World.ownsRow_made (w := w) (base := B) (e := e) (size := 1) #[] 0 h (by simp) (by simp)
  exact this
theorem Grow.nil (B : Nat) (e : TypeId) (w : World) : Grow B e w (.slice none 0 0) [] := World.ownsRow_nil _ _ _ _
theorem Grow.own {B : Nat} {e : TypeId} {w : World} {v : Value} {xs : List Int} (h : Grow B e w v xs) (hl : xs.length ≤ 1099511627776) : OwnInts B w.heap.size w v xs := OwnInts.of_row h hl
theorem Grow.form {B : Nat} {e : TypeId} {w : World} {v : Value} {xs : List Int} (h : Grow B e w v xs) : ∃ A c, v = .slice A xs.length c := by
  obtain ⟨h1, ⟨rfl, h2⟩ | ⟨g, cap, cur, rfl, _⟩⟩ := h
  · exact ⟨none, 0, by rw [h2]⟩
  · exact ⟨_, _, rfl⟩
theorem Grow.block {B : Nat} {e : TypeId} {w : World} {v : Value} {xs : List Int} (h : Grow B e w v xs) : ∀ k, v.ownBlock = some k → B ≤ k ∧ k < w.heap.size := World.ownsRow.lt h
section
variable {P : Program}
/-- 'append(out, z)' to a list under construction. -/
theorem wpList_app {ops : Array Oper} {rest : List Oper} {o : Oper} {a : Act} {Q : Exit → Act → World → Prop} {w1 : World} {T : TypeId} {z : Int} (hg : o.guard = none) (s x : Operand) (t : TypeId)
    (ho : o.op = .call { callee := .builtin .append, args := #[s, x], argTypes := #[t, t] }) {B : Nat} {e : TypeId} (ht : P.underlying t = some (.slice e))
    (hinfo : (P.info? e).map (fun i => (i.zero, i.size, i.bytes)) = some (some (.int .i64 0), 1, 8)) (v : Value) (xs : List Int) (hs : a.eval s = v) (hown : Grow B e w1 v xs)
    (hx : a.eval x = .slice (some ⟨w1.heap.size, 0, none⟩) 1 1) (hlen : xs.length < 1099511627776) (hB : B ≤ w1.heap.size)
    (h : ∀ g cap w', Grow B e w' (.slice (some ⟨g, 0, none⟩) (xs.length + 1) cap) (xs ++ [z]) → w1.grownBy w' v.ownBlock → wpList P ops Q rest (a.put o.dst (.slice (some ⟨g, 0, none⟩) (xs.length + 1) cap)) w') :
    wpList P ops Q (o :: rest) a (w1.alloc (.cells #[.int .i64 z] T)) := by
  obtain ⟨i0, hi, hz0, hz1, hz2⟩ := info_parts hinfo
  refine wpList_append_own _ hg s x t ho B e i0 (.int .i64 0) 1 8 ht hi hz0 hz1 hz2 rfl (by decide) v xs.length _ hs (World.ownsRow.alloc hown _) ⟨w1.heap.size, 0, none⟩ 1 1 [.int .i64 z] hx rfl ?_ (by intro u hu; simp at hu; subst hu; rfl) (by unfold maxLen; omega) (by omega) (by simp; omega) ?_
  · intro j u hj
    rcases j with _ | j
    · simp at hj; subst hj
      unfold Addr.add World.cell?
      simp only [if_true]
      rw [heap_alloc_new]; rfl
    · simp at hj
  · intro v' w' hown' hgrow hnil
    have hgr : w1.grownBy w' v.ownBlock := grown_trans (World.grownBy_alloc _ _ _) hgrow
    have hown2 : Grow B e w' v' (xs ++ [z]) := by simpa [Grow] using hown'
    obtain ⟨h1, ⟨rfl, h2⟩ | ⟨g, cap, cur, rfl, _⟩⟩ := id hown'
    · omega
    · exact h g cap w' hown2 hgr
end
theorem New.app {a w1 w' : World} {v : Value} {B : Nat} {e : TypeId} {xs : List Int} (h : New a w1) (hg : w1.grownBy w' v.ownBlock) (ho : Grow B e w1 v xs) (hB : a.heap.size ≤ B) : New a w' :=
  h.grown hg fun k hk => by have := ho.block k hk; omega

end Go.Proofs.Ytcjmcpfdpnakkaa
