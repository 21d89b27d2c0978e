/- Lists of values of one cell each, built by append, at one operation and at a step of a region that draws its order. -/
import Derived.Test.YtdaaglfemaoigaaBase
import Derived.Test.YtdaaglfemaoigaaApp
import Derived.Test.YtdaaglfemaoigaaAppRows
import Derived.Test.YtdaaglfemaoigaaAppStep
import Derived.WalkKit
import Derived.WalkSpells
import Derived.WalkLawsBesides
import Derived.Deep.QuietTactic
import Derived.Deep.OwnRows
import Derived.BigQuiet
import Derived.KernelRfl
import Derived.OwnWalk
import Derived.Deep.AppendLies
namespace Go.Proofs.Ytdaaglfemaoigaa
open Go.RowKit

theorem cell_box1 (w : World) (z : Value) (T : TypeId) : (w.alloc (.cells #[z] T)).cell? ⟨w.heap.size, 0, none⟩ = some z := by unfold World.cell?; rw [heap_alloc_new]; rfl
section
variable {P : Program}
theorem wp_appV1 {o : Oper} {a : Act} {w : World} {K : Act → World → Prop} {Q : Exit → Act → World → Prop} (s x : Operand) (t : TypeId)
    (ho : o.op = .call { callee := .builtin .append, args := #[s, x], argTypes := #[t, t] }) {B : Nat} {e : TypeId} (ht : P.underlying t = some (.slice e)) {z0 : Value} {bytes : Nat}
    (hinfo : (P.info? e).map (fun i => (i.zero, i.size, i.bytes)) = some (some z0, 1, bytes)) (hz0' : z0.cells.size = 1) (hb : bytes ≤ 64) (v : Value) (n : Nat) (xs : List Value) (z : Value) (hz : z.oneCell' = true) (h : Nat) (hs : a.eval s = v) (hown : w.ownsRow B e 1 v n xs)
    (hx : a.eval x = .slice (some ⟨h, 0, none⟩) 1 1) (hc : w.cell? ⟨h, 0, none⟩ = some z) (hlen : n < 1099511627776) (hB : B ≤ w.heap.size)
    (hK : ∀ g cap w', w'.ownsRow B e 1 (.slice (some ⟨g, 0, none⟩) (n + 1) cap) (n + 1) (xs ++ [z]) → w.grownBy w' v.ownBlock → (v.ownBlock = some g ∨ w.heap.size ≤ g) → K (a.put o.dst (.slice (some ⟨g, 0, none⟩) (n + 1) cap)) w') : o.wp P a w K Q := by
  obtain ⟨i0, hi, hz0, hz1, hz2⟩ := info_parts hinfo
  refine wp_append_lies w s x t ho B e i0 z0 1 bytes ht hi hz0 hz1 hz2 hz0' (by decide) v n _ hs hown ⟨h, 0, none⟩ 1 1 [z] hx rfl (fun j u hj => addr_zero h j u _ w hc hj) (by intro u hu; simp at hu; subst hu; exact hz) (by decide) (by unfold maxLen; omega) ?_ hB w.heap.size rfl ?_
  · have : (n + 1) * bytes ≤ 1099511627776 * 64 := Nat.mul_le_mul (by omega) hb
    omega
  · intro g cap w' h1 h2 h3 h4
    refine hK g cap w' h1 h2 ?_
    rcases h3 with h | h
    · exact Or.inl h
    · exact Or.inr (by omega)
theorem step_appV1 {ops : Array Oper} {E : Prop} {o : Oper} {a : Act} {w : World} {K : Act → World → Prop} {Q : Exit → Act → World → Prop} (hg : o.guard = none) (s x : Operand) (t : TypeId)
    (ho : o.op = .call { callee := .builtin .append, args := #[s, x], argTypes := #[t, t] }) {B : Nat} {e : TypeId} (ht : P.underlying t = some (.slice e)) {z0 : Value} {bytes : Nat}
    (hinfo : (P.info? e).map (fun i => (i.zero, i.size, i.bytes)) = some (some z0, 1, bytes)) (hz0' : z0.cells.size = 1) (hb : bytes ≤ 64) (v : Value) (n : Nat) (xs : List Value) (z : Value) (hz : z.oneCell' = true) (h : Nat) (hs : a.eval s = v) (hown : w.ownsRow B e 1 v n xs)
    (hx : a.eval x = .slice (some ⟨h, 0, none⟩) 1 1) (hc : w.cell? ⟨h, 0, none⟩ = some z) (hlen : n < 1099511627776) (hB : B ≤ w.heap.size)
    (hK : ∀ g cap w', w'.ownsRow B e 1 (.slice (some ⟨g, 0, none⟩) (n + 1) cap) (n + 1) (xs ++ [z]) → w.grownBy w' v.ownBlock → (v.ownBlock = some g ∨ w.heap.size ≤ g) → K (a.put o.dst (.slice (some ⟨g, 0, none⟩) (n + 1) cap)) w') :
    if Region.wanted o (yielded ops a.tmps) = true then Oper.wp P o a w K Q else E :=
  step_of_wp hg (wp_appV1 s x t ho ht hinfo hz0' hb v n xs z hz h hs hown hx hc hlen hB hK)
end

end Go.Proofs.Ytdaaglfemaoigaa
