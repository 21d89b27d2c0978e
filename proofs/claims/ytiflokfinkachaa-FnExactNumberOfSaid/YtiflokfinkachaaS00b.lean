/- The reference's test of rising lists, and of what a list has. -/
import Derived.Test.YtiflokfinkachaaRows
import Derived.Test.YtiflokfinkachaaCore
import Derived.Test.YtiflokfinkachaaPlains
import Derived.Test.YtiflokfinkachaaS01a
import Derived.WalkKit
import Derived.WalkSpells
import Derived.WalkLawsBesides
import Derived.Deep.QuietTactic
import Derived.Deep.OwnRows
import Derived.BigQuiet
import Derived.KernelRfl
namespace Go.Proofs.Ytiflokfinkachaa
open Go.RowKit

set_option maxHeartbeats 400000 in
theorem l00Has_any (v : Value) (xs : List Int) (n : Int) (w : World) (h : IntsAt w v xs) :
    Calls Try.prog 219 #[v, .int .i64 n] w fun e w' => e = .returned (.bool (hasB xs n)) ∧ w' = w := by
  obtain ⟨A, c, rfl, hl, hc⟩ := h
  go_enter Try.func219, Try.ntmps219
  go_wp2
  go_loop [5] (fun i => ∃ k : Nat, k ≤ xs.length ∧ i = .int .i64 k ∧ Hid (∀ j, j < k → nth xs j ≠ n)) (fun i => xs.length - (intOf i).toNat)
  case atStart => exact ⟨0, Nat.zero_le _, rfl, fun j hj => absurd hj (by omega)⟩
  case round =>
    obtain ⟨k, hk, rfl, he⟩ := hrel
    by_cases hlt : k < xs.length
    · obtain ⟨b, off, rfl, hx⟩ := hc k hlt
      have kb1 : (k : Int) < (xs.length : Int) := by omega
      clear hc
      by_cases hq : nth xs k = n
      · have hq' : (nth xs k == n) = true := by simp [hq]
        have HQ := hid hq
        clear hq
        go_wp2
        go_ret
        exact ⟨ret_bool ((hasB_iff _ _).2 (by rw [← HQ.out]; exact nth_mem xs k hlt)).symm, rfl⟩
      · have hq' : (nth xs k == n) = false := by simp [hq]
        have HQ := hid hq
        clear hq
        go_wp2
        go_round
        case rel => exact ⟨k + 1, by omega, by go_num, fun i hi => by
            rcases Nat.lt_succ_iff_lt_or_eq.1 hi with h | h
            · exact he.out i h
            · subst h; exact HQ.out⟩
        case measure => simp [intOf]; omega
    · have e : k = xs.length := by omega
      subst e
      go_wp2
      go_ret
      refine ⟨ret_bool ?_, rfl⟩
      cases hb : hasB xs n with
      | false => rfl
      | true =>
        obtain ⟨i, hi, e⟩ := mem_nth xs n ((hasB_iff _ _).1 hb)
        exact absurd e (he.out i hi)

end Go.Proofs.Ytiflokfinkachaa
