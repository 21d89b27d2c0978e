/- The reference's test of rising lists, and of what a list has. -/
import Derived.Test.YtnoajdhofdfafaaRows
import Derived.Test.YtnoajdhofdfafaaBase
import Derived.Test.YtnoajdhofdfafaaPlain1
import Derived.Test.YtnoajdhofdfafaaPlainSet
import Derived.Test.YtnoajdhofdfafaaS01a
import Derived.WalkKit
import Derived.WalkSpells
import Derived.WalkLawsBesides
import Derived.Deep.QuietTactic
import Derived.Deep.OwnRows
import Derived.BigQuiet
import Derived.KernelRfl
namespace Go.Proofs.Ytnoajdhofdfafaa
open Go.RowKit

set_option maxHeartbeats 1000000 in
theorem l00Rises_any (v : Value) (xs : List Int) (lo hi : Int) (w : World) (h : IntsAt w v xs) :
    Calls Try.prog 163 #[v, .int .i64 lo, .int .i64 hi] w fun e w' => e = .returned (.bool (riseB xs lo hi)) ∧ New w w' := by
  obtain ⟨A, c, rfl, hl, hc⟩ := h
  go_enter Try.func163, Try.ntmps163
  go_wp2
  go_loopw [7] (fun i wr => ∃ k : Nat, k ≤ xs.length ∧ i = .int .i64 k ∧ Hid (∀ j, j < k → riseAt xs lo hi j = true) ∧ New w wr) (fun i _ => xs.length - (intOf i).toNat)
  case atStart => exact ⟨0, Nat.zero_le _, rfl, fun j hj => absurd hj (by omega), New.refl _⟩
  case round =>
    obtain ⟨k, hk, rfl, he, hw⟩ := hrel
    by_cases hlt : k < xs.length
    · obtain ⟨b, off, rfl, hx⟩ := hc k hlt
      have kb1 : (k : Int) < (xs.length : Int) := by omega
      replace hx := hw.cell hx
      cases hq : inB (nth xs k) lo hi with
      | true =>
        have HQ := hid hq
        have C : ∀ w, Calls Try.prog 70 #[.int .i64 (nth xs k), .int .i64 lo, .int .i64 hi] w fun e' w' => e' = .returned (.bool true) ∧ w' = w := fun w => by have := l00In_any (nth xs k) lo hi w; rw [HQ.out] at this; exact this
        clear hq
        by_cases hk0 : k = 0
        · subst hk0
          rw [Nat.add_zero] at hx
          clear hc
          go_wp2_with fail
          go_quiet ((go_at_call 70; exact Calls.quiet_of_same (C _)))
          go_wp2
          go_roundw
          case rel => exact ⟨0 + 1, by omega, by go_num, fun i hi => by
              have : i = 0 := by omega
              subst this; unfold riseAt; rw [HQ.out]; rfl, hw.drewN nq⟩
          case measure => simp [intOf]; omega
        · obtain ⟨b', off', e', hy⟩ := hc (k - 1) (by omega)
          cases e'
          replace hy := hw.cell hy
          have kb2 : decide ((0 : Int) < (k : Int)) = true := by simp; omega
          have kb3 : (0 : Int) < (k : Int) := by omega
          have kb4 : 0 < k := by omega
          clear hc
          have kn : (0 : Int) ≤ (k : Int) - 1 := by omega
          have kn1 : (1 : Int) ≤ (k : Int) := by omega
          have kl : (k : Int) - 1 < (xs.length : Int) := by omega
          have kt : ((k : Int) - 1).toNat = k - 1 := by omega
          have kw : IntKind.i64.wrap ((k : Int) - 1) = (k : Int) - 1 := IntWalk.i64_in _ (by omega)
          by_cases hr : nth xs (k - 1) < nth xs k
          · have hr' : decide (nth xs k ≤ nth xs (k - 1)) = false := by simp; omega
            go_wp2_with fail
            go_quiet ((go_at_call 70; exact Calls.quiet_of_same (C _)))
            go_wp2
            have HR := hid hr
            go_roundw
            case rel => exact ⟨k + 1, by omega, by go_num, fun i hi => by
                rcases Nat.lt_succ_iff_lt_or_eq.1 hi with h | h
                · exact he.out i h
                · subst h; unfold riseAt; rw [HQ.out, decide_eq_true HR.out]; simp, hw.drewN nq⟩
            case measure => simp [intOf]; omega
          · have hr' : decide (nth xs k ≤ nth xs (k - 1)) = true := by simp; omega
            go_wp2_with fail
            go_quiet ((go_at_call 70; exact Calls.quiet_of_same (C _)))
            go_wp2
            go_ret
            refine ⟨ret_bool (riseB_false xs lo hi k hlt ?_).symm, hw.drewN nq⟩
            unfold riseAt
            rw [HQ.out, decide_eq_false (by omega)]
            simp [hk0]
      | false =>
        have HQ := hid hq
        have C : ∀ w, Calls Try.prog 70 #[.int .i64 (nth xs k), .int .i64 lo, .int .i64 hi] w fun e' w' => e' = .returned (.bool false) ∧ w' = w := fun w => by have := l00In_any (nth xs k) lo hi w; rw [HQ.out] at this; exact this
        clear hq hc
        go_wp2_with fail
        go_quiet ((go_at_call 70; exact Calls.quiet_of_same (C _)))
        go_wp2
        go_ret
        exact ⟨ret_bool (riseB_false xs lo hi k hlt (by unfold riseAt; rw [HQ.out]; rfl)).symm, hw.drewN nq⟩
    · have e : k = xs.length := by omega
      subst e
      go_wp2
      go_ret
      exact ⟨ret_bool ((riseB_iff _ _ _).2 fun i hi => he.out i hi).symm, hw⟩

set_option maxHeartbeats 400000 in
theorem l01Set_any (p v : Value) (a : Aut) (xs : List Int) (w : World) (hp : PAut w p a) (h : IntsAt w v xs) (h0 : 0 ≤ a.n) (h1 : a.n ≤ 1048576) :
    Calls Try.prog 86 #[p, v] w fun e w' => e = .returned (.bool (setB xs a.n)) ∧ New w w' := by
  obtain ⟨pb, rv, rfl, hp0, hp1, hpr⟩ := hp
  go_enter Try.func86, Try.ntmps86
  go_wp2_with fail
  refine (l00Rises_any _ _ _ _ _ h).mono ?_
  rintro e w1 ⟨rfl, hn⟩
  go_wp2_with fail
  go_ret
  exact ⟨rfl, hn⟩
set_option maxHeartbeats 400000 in
theorem l00Has_any (v : Value) (xs : List Int) (n : Int) (w : World) (h : IntsAt w v xs) :
    Calls Try.prog 217 #[v, .int .i64 n] w fun e w' => e = .returned (.bool (hasB xs n)) ∧ w' = w := by
  obtain ⟨A, c, rfl, hl, hc⟩ := h
  go_enter Try.func217, Try.ntmps217
  go_wp2
  go_loop [5] (fun i => ∃ k : Nat, k ≤ xs.length ∧ i = .int .i64 k ∧ Hid (∀ j, j < k → nth xs j ≠ n)) (fun i => xs.length - (intOf i).toNat)
  case atStart => exact ⟨0, Nat.zero_le _, rfl, fun j hj => absurd hj (by omega)⟩
  case round =>
    obtain ⟨k, hk, rfl, he⟩ := hrel
    by_cases hlt : k < xs.length
    · obtain ⟨b, off, rfl, hx⟩ := hc k hlt
      have kb1 : (k : Int) < (xs.length : Int) := by omega
      clear hc
      by_cases hq : nth xs k = n
      · have hq' : (nth xs k == n) = true := by simp [hq]
        have HQ := hid hq
        clear hq
        go_wp2
        go_ret
        exact ⟨ret_bool ((hasB_iff _ _).2 (by rw [← HQ.out]; exact nth_mem xs k hlt)).symm, rfl⟩
      · have hq' : (nth xs k == n) = false := by simp [hq]
        have HQ := hid hq
        clear hq
        go_wp2
        go_round
        case rel => exact ⟨k + 1, by omega, by go_num, fun i hi => by
            rcases Nat.lt_succ_iff_lt_or_eq.1 hi with h | h
            · exact he.out i h
            · subst h; exact HQ.out⟩
        case measure => simp [intOf]; omega
    · have e : k = xs.length := by omega
      subst e
      go_wp2
      go_ret
      refine ⟨ret_bool ?_, rfl⟩
      cases hb : hasB xs n with
      | false => rfl
      | true =>
        obtain ⟨i, hi, e⟩ := mem_nth xs n ((hasB_iff _ _).1 hb)
        exact absurd e (he.out i hi)

end Go.Proofs.Ytnoajdhofdfafaa
