/- A whole list appended to a list under construction, at a step of a region that draws its order. -/
import Derived.Test.YtiflokfinkachaaCore
import Derived.WalkKit
import Derived.WalkSpells
import Derived.WalkLawsBesides
import Derived.Deep.QuietTactic
import Derived.Deep.OwnRows
import Derived.BigQuiet
import Derived.KernelRfl
import Derived.OwnWalk
import Derived.Maps.AppendAt
import Derived.Deep.AppendSrc
namespace Go.Proofs.Ytiflokfinkachaa
open Go.RowKit

section
variable {P : Program}
theorem run_appAll {t ty e : TypeId} {B : Nat} {w1 : World} (ht : P.underlying t = some (.slice e)) (hinfo : (P.info? e).map (fun i => (i.zero, i.size, i.bytes)) = some (some (.int .i64 0), 1, 8)) (v u : Value) (xs ys : List Int) (g0 : Nat) (hown : Grow B e w1 v xs) (hv0 : v.ownBlock = some g0)
    (hu : IntsAt w1 u ys) (hlen : xs.length + ys.length ≤ 1099511627776) (hB : B ≤ w1.heap.size) :
    ∃ g cap w', (Builtin.append_ #[t, t] ty #[v, u]).run P w1 = .ok (.slice (some ⟨g, 0, none⟩) (xs.length + ys.length) cap) w' ∧ Grow B e w' (.slice (some ⟨g, 0, none⟩) (xs.length + ys.length) cap) (xs ++ ys) ∧ w1.grownBy w' v.ownBlock ∧ (v.ownBlock = some g ∨ w1.heap.size ≤ g) := by
  obtain ⟨i0, hi, hz0, hz1, hz2⟩ := info_parts hinfo
  obtain ⟨A, c, rfl, hl, hc⟩ := hu
  cases A with
  | some ad =>
    obtain ⟨v', w', hr, hown', hgrow, hnil, hloc⟩ := run_append_own_at (P := P) w1 B t ty e i0 (.int .i64 0) 1 8 ht hi hz0 hz1 hz2 rfl (by decide) v xs.length _ hown ad ys.length c (ys.map (Value.int .i64)) (by simp) (by
      intro j u hj
      have hjl : j < ys.length := by
        rcases Nat.lt_or_ge j ys.length with h | h
        · exact h
        · rw [List.getElem?_eq_none (by simpa using h)] at hj; cases hj
      obtain ⟨b, off, e1, hx1⟩ := hc j hjl
      cases e1
      simp [hjl] at hj
      subst hj
      have e2 : (⟨b, off, none⟩ : Addr).add j = ⟨b, off + j, none⟩ := by
        unfold Addr.add
        split
        · rename_i h; subst h; rfl
        · rfl
      rw [e2, hx1, nth_eq ys j hjl]) (by intro u hu; simp at hu; obtain ⟨z, _, rfl⟩ := hu; rfl) (by unfold maxLen; omega) (by omega) hB
    have hown2 : Grow B e w' v' (xs ++ ys) := by simpa [Grow] using hown'
    obtain ⟨h1, ⟨rfl, h2⟩ | ⟨g, cap, cur, rfl, _⟩⟩ := id hown'
    · rcases hloc with h | h
      · rw [hv0] at h; simp [Value.ownBlock] at h
      · simp [Value.ownBlock] at h
    · refine ⟨g, cap, w', hr, hown2, hgrow, ?_⟩
      rcases hloc with h | h
      · exact Or.inl h.symm
      · right; simp [Value.ownBlock] at h; omega
  | none =>
    have hy : ys = [] := by
      cases ys with
      | nil => rfl
      | cons y r => obtain ⟨b, off, e1, _⟩ := hc 0 (by simp); cases e1
    subst hy
    obtain ⟨h1, ⟨rfl, h2⟩ | ⟨g, cap, cur, rfl, r⟩⟩ := id hown
    · simp [Value.ownBlock] at hv0
    · obtain ⟨hgB, hh, hn, hcs, hs', ht'⟩ := r
      have hrun := run_append_room_src (P := P) w1 t t ty e i0 ht hi g 0 xs.length cap (.slice none 0 c) 0 [] (by rw [hz1]; exact Src.ofNil w1 ht c) (by omega) (by simp) (by simp)
      rw [setCells_nil] at hrun
      exact ⟨g, cap, w1, by simpa using hrun, by simpa using hown, grown_refl _ _, Or.inl rfl⟩
theorem step_appAll {ops : Array Oper} {E : Prop} {o : Oper} {a : Act} {w1 : World} {K : Act → World → Prop} {Q : Exit → Act → World → Prop} (hg : o.guard = none) (s x : Operand) (t : TypeId)
    (ho : o.op = .call { callee := .builtin .append, args := #[s, x], argTypes := #[t, t] }) {B : Nat} {e : TypeId} (ht : P.underlying t = some (.slice e))
    (hinfo : (P.info? e).map (fun i => (i.zero, i.size, i.bytes)) = some (some (.int .i64 0), 1, 8)) (v u : Value) (xs ys : List Int) (g0 : Nat) (hs : a.eval s = v) (hown : Grow B e w1 v xs) (hv0 : v.ownBlock = some g0)
    (hx : a.eval x = u) (hu : IntsAt w1 u ys) (hlen : xs.length + ys.length ≤ 1099511627776) (hB : B ≤ w1.heap.size)
    (hK : ∀ g cap w', Grow B e w' (.slice (some ⟨g, 0, none⟩) (xs.length + ys.length) cap) (xs ++ ys) → w1.grownBy w' v.ownBlock → (v.ownBlock = some g ∨ w1.heap.size ≤ g) → K (a.put o.dst (.slice (some ⟨g, 0, none⟩) (xs.length + ys.length) cap)) w') :
    if Region.wanted o (yielded ops a.tmps) = true then Oper.wp P o a w1 K Q else E := by
  refine step_of_wp hg ?_
  obtain ⟨g, cap, w', hr, h2, h3, h4⟩ := run_appAll (ty := o.type) ht hinfo v u xs ys g0 hown hv0 hu hlen hB
  unfold Oper.wp execOp
  simp only [ho, resolve, invoke, builtin, Sem.run_bind, Sem.run_pure, Result.andThen_ok, List.map_toArray, List.map_cons, List.map_nil, hs, hx, hr]
  exact hK g cap w' h2 h3 h4
end

end Go.Proofs.Ytiflokfinkachaa
