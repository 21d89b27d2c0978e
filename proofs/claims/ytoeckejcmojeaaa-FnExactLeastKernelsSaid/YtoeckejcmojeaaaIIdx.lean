/- slices.Index and slices.Contains at lists of numbers; the program's test of sets. -/
import Derived.Test.YtoeckejcmojeaaaRows
import Derived.Test.YtoeckejcmojeaaaCore
import Derived.Test.YtoeckejcmojeaaaPlains
import Derived.Test.YtoeckejcmojeaaaIBase
import Derived.WalkKit
import Derived.WalkSpells
import Derived.WalkLawsBesides
import Derived.Deep.QuietTactic
import Derived.Deep.OwnRows
import Derived.BigQuiet
import Derived.KernelRfl
namespace Go.Proofs.Ytoeckejcmojeaaa
open Go.RowKit

set_option maxHeartbeats 1000000 in
theorem isSet_any (v : Value) (xs : List Int) (n : Int) (w : World) (h : IntsAt w v xs) (h0 : 0 ≤ n) (h1 : n ≤ 1048576) :
    Calls Try.prog 62 #[v, .int .i64 n] w fun e w' => e = .returned (.bool (setB xs n)) ∧ w' = w := by
  obtain ⟨A, c, rfl, hl, hc⟩ := h
  go_enter Try.func62, Try.ntmps62
  go_wp2
  go_loop [5, 6, 9] (fun _ _ i => ∃ k : Nat, k ≤ xs.length ∧ i = .int .i64 k ∧ Hid (∀ j, j < k → riseAt xs 0 (n - 1) j = true)) (fun _ _ i => xs.length - (intOf i).toNat)
  case atStart => exact ⟨0, Nat.zero_le _, rfl, fun j hj => absurd hj (by omega)⟩
  case round =>
    obtain ⟨k, hk, rfl, he⟩ := hrel
    by_cases hlt : k < xs.length
    · obtain ⟨b, off, rfl, hx⟩ := hc k hlt
      have b1 : (k : Int) < (xs.length : Int) := by omega
      cases hq : inB (nth xs k) 0 (n - 1) with
      | true =>
        have HQ := hid hq
        have C : ∀ w, Calls Try.prog 95 #[.int .i64 (nth xs k), .int .i64 0, .int .i64 (n - 1)] w fun e' w' => e' = .returned (.bool true) ∧ w' = w := fun w => by have := within_any (nth xs k) 0 (n - 1) w; rw [HQ.out] at this; exact this
        clear hq
        by_cases hk0 : k = 0
        · subst hk0
          rw [Nat.add_zero] at hx
          clear hc
          go_wp2_with (go_at_call 95; refine (C _).mono ?_; rintro e w' ⟨rfl, rfl⟩)
          go_round
          case rel => exact ⟨0 + 1, by omega, by go_num, fun i hi => by
              have : i = 0 := by omega
              subst this; unfold riseAt; rw [HQ.out]; rfl⟩
          case measure => simp [intOf]; omega
        · obtain ⟨b', off', e', hy⟩ := hc (k - 1) (by omega)
          cases e'
          have kb3 : (0 : Int) < (k : Int) := by omega
          have kb4 : 0 < k := by omega
          clear hc
          have kn : (0 : Int) ≤ (k : Int) - 1 := by omega
          have kn1 : (1 : Int) ≤ (k : Int) := by omega
          have kl : (k : Int) - 1 < (xs.length : Int) := by omega
          have kt : ((k : Int) - 1).toNat = k - 1 := by omega
          have kw : IntKind.i64.wrap ((k : Int) - 1) = (k : Int) - 1 := IntWalk.i64_in _ (by omega)
          by_cases hr : nth xs (k - 1) < nth xs k
          · have hr' : decide (nth xs k ≤ nth xs (k - 1)) = false := by simp; omega
            go_wp2_with (go_at_call 95; refine (C _).mono ?_; rintro e w' ⟨rfl, rfl⟩)
            have HR := hid hr
            go_round
            case rel => exact ⟨k + 1, by omega, by go_num, fun i hi => by
                rcases Nat.lt_succ_iff_lt_or_eq.1 hi with h | h
                · exact he.out i h
                · subst h; unfold riseAt; rw [HQ.out, decide_eq_true HR.out]; simp⟩
            case measure => simp [intOf]; omega
          · have hr' : decide (nth xs k ≤ nth xs (k - 1)) = true := by simp; omega
            go_wp2_with (go_at_call 95; refine (C _).mono ?_; rintro e w' ⟨rfl, rfl⟩)
            go_ret
            refine ⟨ret_bool (riseB_false xs 0 (n - 1) k hlt ?_).symm, rfl⟩
            unfold riseAt
            rw [HQ.out, decide_eq_false (by omega)]
            simp [hk0]
      | false =>
        have HQ := hid hq
        have C : ∀ w, Calls Try.prog 95 #[.int .i64 (nth xs k), .int .i64 0, .int .i64 (n - 1)] w fun e' w' => e' = .returned (.bool false) ∧ w' = w := fun w => by have := within_any (nth xs k) 0 (n - 1) w; rw [HQ.out] at this; exact this
        clear hq hc
        go_wp2_with (go_at_call 95; refine (C _).mono ?_; rintro e w' ⟨rfl, rfl⟩)
        go_ret
        exact ⟨ret_bool (riseB_false xs 0 (n - 1) k hlt (by unfold riseAt; rw [HQ.out]; rfl)).symm, rfl⟩
    · have e : k = xs.length := by omega
      subst e
      go_wp2
      go_ret
      exact ⟨ret_bool ((riseB_iff _ _ _).2 fun i hi => he.out i hi).symm, rfl⟩

end Go.Proofs.Ytoeckejcmojeaaa
