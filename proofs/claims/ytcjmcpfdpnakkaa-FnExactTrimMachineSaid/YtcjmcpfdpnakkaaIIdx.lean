/- slices.Index and slices.Contains at lists of numbers; the program's test of sets. -/
import Derived.Test.YtcjmcpfdpnakkaaRows
import Derived.Test.YtcjmcpfdpnakkaaCore
import Derived.Test.YtcjmcpfdpnakkaaPlains
import Derived.Test.YtcjmcpfdpnakkaaI01a
import Derived.WalkKit
import Derived.WalkSpells
import Derived.WalkLawsBesides
import Derived.Deep.QuietTactic
import Derived.Deep.OwnRows
import Derived.BigQuiet
import Derived.KernelRfl
namespace Go.Proofs.Ytcjmcpfdpnakkaa
open Go.RowKit

set_option maxHeartbeats 800000 in
theorem Index64_any (v : Value) (xs : List Int) (n : Int) (w : World) (h : IntsAt w v xs) :
    Calls Try.prog 97 #[v, .int .i64 n] w fun e w' => e = .returned (.int .i64 (idxOf (fun x => decide (x = n)) xs)) ∧ w' = w := by
  obtain ⟨A, c, rfl, hl, hc⟩ := h
  go_enter Try.func97, Try.ntmps97
  go_wp2
  go_loop [5, 8] (fun _ i => ∃ k : Nat, k ≤ xs.length ∧ i = .int .i64 k ∧ Hid (∀ j, j < k → nth xs j ≠ n)) (fun _ i => xs.length - (intOf i).toNat)
  case atStart => exact ⟨0, Nat.zero_le _, rfl, fun j hj => absurd hj (by omega)⟩
  case round =>
    obtain ⟨k, hk, rfl, he⟩ := hrel
    by_cases hlt : k < xs.length
    · obtain ⟨b, off, rfl, hx⟩ := hc k hlt
      have b1 : (k : Int) < (xs.length : Int) := by omega
      clear hc
      by_cases hq : nth xs k = n
      · have hq' : (n == nth xs k) = true := by simp [hq]
        have HQ := hid hq
        clear hq
        go_wp2
        go_ret
        exact ⟨ret_int (idxOf_hit _ xs k hlt (by simpa using HQ.out) fun j hj => by simpa using he.out j hj).symm, rfl⟩
      · have hq' : (n == nth xs k) = false := by simpa using fun e => hq e.symm
        have HQ := hid hq
        clear hq
        go_wp2
        go_round
        case rel => exact ⟨k + 1, by omega, by go_num, fun i hi => by
            rcases Nat.lt_succ_iff_lt_or_eq.1 hi with h | h
            · exact he.out i h
            · subst h; exact HQ.out⟩
        case measure => simp [intOf]; omega
    · have e : k = xs.length := by omega
      subst e
      go_wp2
      go_ret
      exact ⟨ret_int (idxOf_none _ xs fun j hj => by simpa using he.out j hj).symm, rfl⟩
set_option maxHeartbeats 400000 in
theorem Contains64_any (v : Value) (xs : List Int) (n : Int) (w : World) (h : IntsAt w v xs) :
    Calls Try.prog 226 #[v, .int .i64 n] w fun e w' => e = .returned (.bool (hasB xs n)) ∧ w' = w := by
  go_enter Try.func226, Try.ntmps226
  go_wp2_with (go_at_call 97; refine (Index64_any v xs n w h).mono ?_; rintro e w1 ⟨rfl, rfl⟩)
  go_ret
  exact ⟨ret_bool (idxOf_any _ xs), rfl⟩

end Go.Proofs.Ytcjmcpfdpnakkaa
