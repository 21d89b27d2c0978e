/- The greatest common divisor of two numbers, by the program and by the reference. -/
import Derived.Test.YtiflokfinkachaaRows
import Derived.Test.YtiflokfinkachaaCore
import Derived.Test.YtiflokfinkachaaPers
import Derived.WalkKit
import Derived.WalkSpells
import Derived.WalkLawsBesides
import Derived.Deep.QuietTactic
import Derived.Deep.OwnRows
import Derived.BigQuiet
import Derived.KernelRfl
namespace Go.Proofs.Ytiflokfinkachaa
open Go.RowKit

theorem tmod_abs (a b : Int) : (Int.tmod a b).natAbs = a.natAbs % b.natAbs := Int.natAbs_tmod a b
theorem gcd_step (p q : Int) : Nat.gcd q.natAbs (Int.tmod p q).natAbs = Nat.gcd p.natAbs q.natAbs := by
  rw [tmod_abs, Nat.gcd_comm q.natAbs, ← Nat.gcd_rec, Nat.gcd_comm]
theorem tmod_less (p q : Int) (h : q ≠ 0) : (Int.tmod p q).natAbs < q.natAbs := by
  rw [tmod_abs]; exact Nat.mod_lt _ (by omega)
theorem tmod_le (p q : Int) (M : Int) (h1 : -M ≤ q) (h2 : q ≤ M) (h : q ≠ 0) : -M ≤ Int.tmod p q ∧ Int.tmod p q ≤ M := by
  have := tmod_less p q h
  generalize Int.tmod p q = r at this ⊢
  omega
theorem mod_nat (p q : Int) (hp : 0 ≤ p) (hq : 0 ≤ q) (h : q ≠ 0) : Nat.gcd q.natAbs (p % q).natAbs = Nat.gcd p.natAbs q.natAbs ∧ (0 ≤ p % q ∧ p % q < q) := by
  refine ⟨?_, Int.emod_nonneg _ h, Int.emod_lt_of_pos _ (by omega)⟩
  have := gcd_step p q
  rwa [Int.tmod_eq_emod_of_nonneg hp] at this
set_option maxRecDepth 20000 in
set_option maxHeartbeats 1000000 in
theorem divisor_any (a b : Int) (w : World) (ha : -1000 ≤ a ∧ a ≤ 1000) (hb : -1000 ≤ b ∧ b ≤ 1000) :
    Calls Try.prog 259 #[.int .i64 a, .int .i64 b] w fun e w' => e = .returned (.int .i64 (Nat.gcd a.natAbs b.natAbs : Nat)) ∧ New w w' := by
  go_enter Try.func259, Try.ntmps259
  go_wp2_with fail
  go_loopw [0, 1] (fun x y wr => ∃ p q : Int, x = .int .i64 p ∧ y = .int .i64 q ∧ (-1000 ≤ p ∧ p ≤ 1000) ∧ (-1000 ≤ q ∧ q ≤ 1000) ∧ Hid (Nat.gcd p.natAbs q.natAbs = Nat.gcd a.natAbs b.natAbs) ∧ New w wr) (fun _ y _ => (intOf y).natAbs)
  case atStart => exact ⟨a, b, rfl, rfl, ha, hb, hid rfl, New.refl _⟩
  case round =>
    obtain ⟨p, q, rfl, rfl, hp, hq, hg, hn⟩ := hrel
    by_cases h0 : q = 0
    · subst h0
      have hG := hg.out
      have hmx : max p (-p) = (p.natAbs : Int) := by omega
      rw [show (0 : Int).natAbs = 0 from rfl, Nat.gcd_zero_right] at hG
      have HG := hid hG
      clear hG hg
      by_cases hs : p < 0
      · go_wp2_with fail
        all_goals
          go_ret
          rw [← HG.out]
          exact ⟨ret_int (by omega), hn⟩
      · go_wp2_with fail
        all_goals
          go_ret
          rw [← HG.out]
          exact ⟨ret_int (by omega), hn⟩
    · have hS := hid (gcd_step p q)
      have hL := hid (tmod_less p q h0)
      have hB := hid (tmod_le p q 1000 hq.1 hq.2 h0)
      go_wp2_with fail
      go_quiet (fail)
      go_wp2_with fail
      refine ⟨⟨q, Int.tmod p q, rfl, rfl, hq, hB.out, hid (by rw [hS.out]; exact hg.out), (by repeat (first | with_reducible exact New.refl _ | with_reducible assumption | with_reducible refine New.alloc ?_ _ | with_reducible refine New.drewN ?_ _ | with_reducible refine New.drew ?_ | with_reducible refine New.trans ?_ (by with_reducible assumption)))⟩, ?_⟩
      show (Int.tmod p q).natAbs < q.natAbs
      exact hL.out
set_option maxRecDepth 20000 in
set_option maxHeartbeats 1000000 in
theorem l01Gcd_any (a b : Int) (w : World) (ha : 0 ≤ a ∧ a ≤ 1000) (hb : 0 ≤ b ∧ b ≤ 1000) :
    Calls Try.prog 220 #[.int .i64 a, .int .i64 b] w fun e w' => e = .returned (.int .i64 (Nat.gcd a.natAbs b.natAbs : Nat)) ∧ w' = w := by
  go_enter Try.func220, Try.ntmps220
  go_wp2_with fail
  go_loopw [0, 1] (fun x y wr => ∃ p q : Int, x = .int .i64 p ∧ y = .int .i64 q ∧ (0 ≤ p ∧ p ≤ 1000) ∧ (0 ≤ q ∧ q ≤ 1000) ∧ Hid (Nat.gcd p.natAbs q.natAbs = Nat.gcd a.natAbs b.natAbs) ∧ wr = w) (fun _ y _ => (intOf y).natAbs)
  case atStart => exact ⟨a, b, rfl, rfl, ha, hb, hid rfl, rfl⟩
  case round =>
    obtain ⟨p, q, rfl, rfl, hp, hq, hg, rfl⟩ := hrel
    by_cases h0 : q = 0
    · subst h0
      have hG := hg.out
      rw [show (0 : Int).natAbs = 0 from rfl, Nat.gcd_zero_right] at hG
      have HG := hid hG
      clear hG hg
      go_wp2_with fail
      go_ret
      rw [← HG.out]
      exact ⟨ret_int (by omega), rfl⟩
    · have hS := hid (mod_nat p q hp.1 hq.1 h0)
      go_wp2_with fail
      go_roundw
      case rel => exact ⟨q, p % q, rfl, rfl, hq, ⟨hS.out.2.1, by have := hS.out.2.2; omega⟩, hid (by rw [hS.out.1]; exact hg.out), by trivial⟩
      case measure =>
        have := hS.out.2
        simp only [intOf]
        show (p % q).natAbs < q.natAbs
        omega

end Go.Proofs.Ytiflokfinkachaa
