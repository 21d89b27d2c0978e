/- Ranging over a map that the call has made. -/
import Derived.Test.YtheimpgjkfphnaaBase
import Derived.Test.YtheimpgjkfphnaaMapV
import Derived.WalkKit
import Derived.WalkSpells
import Derived.WalkLawsBesides
import Derived.Deep.QuietTactic
import Derived.Deep.OwnRows
import Derived.BigQuiet
import Derived.KernelRfl
import Derived.Maps.RangeWalk
namespace Go.Proofs.Ytheimpgjkfphnaa
open Go.RowKit

open Go.Maps (Keyed)
def RangeAt (P : Program) (K : TypeId) (w : World) (b r s : Nat) (F : Lit → Option Value) (left : Lit → Bool) (cnt : Nat) : Prop :=
  ∃ D : DataW Value, w.ranges P K rawE b r s D left cnt ∧ ∀ kl, WideAt.IsKeyLit kl → Maps.has D kl = (F kl).isSome ∧ ∀ z : Value, D.atKey kl (.held z) = .held ((F kl).getD z)
section
variable {P : Program} {K : TypeId} {w w' : World} {b r s cnt : Nat} {F : Lit → Option Value} {left : Lit → Bool}
theorem RangeAt.kept {row : Option Nat} (h : RangeAt P K w b r s F left cnt) (hg : w.grownBy w' row) (hb : some b ≠ row) (hr : some r ≠ row) : RangeAt P K w' b r s F left cnt :=
  let ⟨D, h1, h2⟩ := h; ⟨D, h1.kept hg hb hr, h2⟩
theorem grown_of_new (h : New w w') : w.grownBy w' none := ⟨h.os, h.tape, h.output, h.size, fun k hk _ => h.block k hk⟩
theorem RangeAt.new (h : RangeAt P K w b r s F left cnt) (hn : New w w') : RangeAt P K w' b r s F left cnt := h.kept (grown_of_new hn) (by simp) (by simp)
theorem RangeAt.left_eq (h : RangeAt P K w b r s F left cnt) : w.rangeLeft b r = cnt := let ⟨_, h1, _⟩ := h; h1.left_eq
theorem RangeAt.lt (h : RangeAt P K w b r s F left cnt) : r < w.heap.size ∧ b < w.heap.size ∧ r ≠ b := let ⟨_, h1, _⟩ := h; ⟨h1.lt, h1.owns.lt, h1.ne⟩
end
section
variable {P : Program} (w : World) {ops : Array Oper} {rest : List Oper} {o : Oper} {a : Act} {Q : Exit → Act → World → Prop} {K : TypeId} {b s : Nat} {F : Lit → Option Value}
theorem wpList_rangeM (hg : o.guard = none) (m : Operand) (t : TypeId) (hop : o.op = Op.range t m) (e : TypeId) (Kl : Keyed P K) (ht : P.underlying t = some (.map K e)) (hm : a.eval m = .map (some b)) (hown : MapAt P K w b s F)
    (hK : ∀ w' left, (∀ kl, WideAt.IsKeyLit kl → left kl = (F kl).isSome) → RangeAt P K w' b w.heap.size s F left s → w.grownBy w' none → w'.heap.size = w.heap.size + 1 → wpList P ops Q rest (a.put o.dst (.pointer (some ⟨w.heap.size, 0, none⟩))) w') :
    wpList P ops Q (o :: rest) a w := by
  obtain ⟨D, h1, h2, h3, h4⟩ := hown
  refine wpList_range_own w hg m t hop K e Kl ht rawE b s D hm h1 ?_
  intro w' hr hgr hsz
  rw [h2] at hr
  exact hK w' _ (fun kl hk => (h4 kl hk).1) ⟨D, hr, h4⟩ hgr hsz
theorem wpList_nextM {q : IntKind} (hg : o.guard = none) (it : Operand) (hop : o.op = Op.next it false) (Kl : Keyed P K) (hk : P.underlying K = some (.int q)) {r cnt : Nat} {left : Lit → Bool}
    (hit : a.eval it = .pointer (some ⟨r, 0, none⟩)) (h : RangeAt P K w b r s F left cnt)
    (hDone : cnt = 0 → (∀ kl, left kl = false) → wpList P ops Q rest (a.put o.dst (.tuple #[.bool false])) w)
    (hMore : ∀ (x : Int) (v : Value) (w' : World) (cnt' : Nat), (Lit.int q x).wf = true → left (.int q x) = true → F (.int q x) = some v → RangeAt P K w' b r s F (fun z => left z && !z.sameKey (.int q x)) cnt' → cnt' < cnt →
      w.grownBy w' (some r) → w'.heap.size = w.heap.size → (Instr.entry (.pointer (some ⟨r, 0, none⟩))).run P w' = .ok (.tuple #[.int q x, v]) w' → wpList P ops Q rest (a.put o.dst (.tuple #[.bool true, .int q x, v])) w') :
    wpList P ops Q (o :: rest) a w := by
  obtain ⟨D, h1, h2⟩ := h
  refine wpList_next_ranges w hg it hop K Kl rawE (Value.int q) (fun v : Value => v) (fun key kl hkey => by obtain ⟨x, rfl, _⟩ := Maps.keyOf_int_inv hk hkey; exact ⟨x, rfl⟩) (fun v y _ => ⟨v, rfl⟩) b r s D left cnt hit h1 hDone ?_
  intro x v kl y w' cnt' hkey hlk hv hat hrg hlt hgr hsz hen
  obtain ⟨x', ex, rfl, hwx⟩ := Maps.keyOf_int_inv hk hkey
  cases ex
  have hy : y = (.held v, []) := by simpa [rawE] using hv.symm
  subst hy
  have hkl : WideAt.IsKeyLit (.int q x) := Kl.key hkey
  have e1 := hat (.held (.bool false))
  have e2 := hat (.held (.bool true))
  rw [(h2 _ hkl).2] at e1 e2
  have hF : F (.int q x) = some v := by
    cases hf : F (.int q x) with
    | some u => rw [hf] at e1; simp at e1; rw [e1]
    | none =>
      rw [hf] at e1 e2
      simp at e1 e2
      rw [← e1] at e2; cases e2
  exact hMore x v w' cnt' hwx hlk hF ⟨D, hrg, h2⟩ hlt hgr hsz hen
end

end Go.Proofs.Ytheimpgjkfphnaa
