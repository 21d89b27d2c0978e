/- The laws' own tests: are bytes too many, are two lists equal. -/
import Derived.Test.YtieonifckmokkaaRows
import Derived.Test.YtieonifckmokkaaCore
import Derived.Test.YtieonifckmokkaaMaps
import Derived.Test.YtieonifckmokkaaArrs
import Derived.Test.YtieonifckmokkaaPlains
import Derived.Test.YtieonifckmokkaaSDraw
import Derived.WalkKit
import Derived.WalkSpells
import Derived.WalkLawsBesides
import Derived.Deep.QuietTactic
import Derived.Deep.OwnRows
import Derived.BigQuiet
import Derived.KernelRfl
import Derived.Deep.RegionHeld3
namespace Go.Proofs.Ytieonifckmokkaa
open Go.RowKit

set_option maxRecDepth 20000 in
set_option maxHeartbeats 1000000 in
theorem a2Long_any (v1 v2 : Value) (n1 n2 : Nat) (w : World) (h1 : BytesAt w v1 n1) (h2 : BytesAt w v2 n2) :
    Calls Try.prog 11 #[v1, v2] w fun e w' => e = .returned (.bool (decide (3000 < n1 ∨ 3000 < n2))) ∧ w' = w := by
  obtain ⟨A1, c1, rfl, hl1, _⟩ := h1
  obtain ⟨A2, c2, rfl, hl2, _⟩ := h2
  by_cases q1 : 3000 < n1
  · have b1 : (3000 : Int) < (n1 : Int) := by omega
    rw [show decide (3000 < n1 ∨ 3000 < n2) = true by simp [q1]]
    go_enter Try.func11, Try.ntmps11
    go_wp2_with fail
    go_ret
    exact ⟨rfl, rfl⟩
  · have b1 : ¬ (3000 : Int) < (n1 : Int) := by omega
    by_cases q2 : 3000 < n2
    · have b2 : (3000 : Int) < (n2 : Int) := by omega
      rw [show decide (3000 < n1 ∨ 3000 < n2) = true by simp [q2]]
      go_enter Try.func11, Try.ntmps11
      go_wp2_with fail
      go_ret
      exact ⟨rfl, rfl⟩
    · have b2 : ¬ (3000 : Int) < (n2 : Int) := by omega
      rw [show decide (3000 < n1 ∨ 3000 < n2) = false by simp [q1, q2]]
      go_enter Try.func11, Try.ntmps11
      go_wp2_with fail
      go_ret
      exact ⟨rfl, rfl⟩
set_option maxHeartbeats 400000 in
theorem a2Same_any (v1 v2 : Value) (xs ys : List Int) (w : World) (h1 : IntsAt w v1 xs) (h2 : IntsAt w v2 ys) :
    Calls Try.prog 20 #[v1, v2] w fun e w' => e = .returned (.bool (decide (xs = ys))) ∧ New w w' := by
  obtain ⟨A, c, rfl, hl1, hc1⟩ := h1
  obtain ⟨A2, c2, rfl, hl2, hc2⟩ := h2
  by_cases hlen : xs.length = ys.length
  · have hb : ((xs.length : Int) != ys.length) = false := by simp [hlen]
    have HL := hid hlen
    clear hlen
    go_enter Try.func20, Try.ntmps20
    go_wp2
    go_loopw [5] (fun i wr => ∃ k : Nat, k ≤ xs.length ∧ i = .int .i64 k ∧ Hid (∀ i, i < k → nth xs i = nth ys i) ∧ New w wr) (fun i _ => xs.length - (intOf i).toNat)
    case atStart => exact ⟨0, Nat.zero_le _, rfl, fun i hi => absurd hi (by omega), New.refl _⟩
    case round =>
      obtain ⟨k, hk, rfl, he, hw⟩ := hrel
      by_cases hlt : k < xs.length
      · obtain ⟨b, off, rfl, hx⟩ := hc1 k hlt
        obtain ⟨b2, off2, rfl, hy⟩ := hc2 k (by have := HL.out; omega)
        replace hx := hw.cell hx
        replace hy := hw.cell hy
        have hlt2 : k < ys.length := by have := HL.out; omega
        have b1 : (k : Int) < (xs.length : Int) := by omega
        have b2 : (k : Int) < (ys.length : Int) := by omega
        by_cases hq : nth xs k = nth ys k
        · have hq' : (nth xs k != nth ys k) = false := by simp [hq]
          have HQ := hid hq
          clear hq
          go_wp2_with fail
          go_quiet (fail)
          go_wp2
          go_roundw
          case rel => exact ⟨k + 1, by omega, by go_num, fun i hi => by
              rcases Nat.lt_succ_iff_lt_or_eq.1 hi with h | h
              · exact he.out i h
              · subst h; exact HQ.out, hw.drewN nq⟩
          case measure => simp [intOf]; omega
        · have hq' : (nth xs k != nth ys k) = true := by simp [hq]
          go_wp2_with fail
          go_quiet (fail)
          go_wp2
          go_ret
          have hne : ¬ xs = ys := fun e => hq (by rw [e])
          exact ⟨by simp [hne], hw.drewN nq⟩
      · go_wp2
        go_ret
        have he' : xs = ys := ext_nth xs ys HL.out (fun i hi => he.out i (by omega))
        exact ⟨by simp [he'], hw⟩
  · have hb : ((xs.length : Int) != ys.length) = true := by simp; omega
    go_enter Try.func20, Try.ntmps20
    go_wp2
    go_ret
    have hne : ¬ xs = ys := fun e => hlen (by rw [e])
    exact ⟨by simp [hne], New.refl _⟩

end Go.Proofs.Ytieonifckmokkaa
