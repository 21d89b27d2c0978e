/- The reference's test of divisions. -/
import Derived.Test.YtdaaglfemaoigaaRows
import Derived.Test.YtdaaglfemaoigaaBase
import Derived.Test.YtdaaglfemaoigaaAut
import Derived.Test.YtdaaglfemaoigaaPlain1
import Derived.Test.YtdaaglfemaoigaaPlainRun
import Derived.Test.YtdaaglfemaoigaaPlainDiv
import Derived.Test.YtdaaglfemaoigaaS01a
import Derived.WalkKit
import Derived.WalkSpells
import Derived.WalkLawsBesides
import Derived.Deep.QuietTactic
import Derived.Deep.OwnRows
import Derived.BigQuiet
import Derived.KernelRfl
namespace Go.Proofs.Ytdaaglfemaoigaa
open Go.RowKit

set_option maxHeartbeats 800000 in
theorem l01Division_any (v : Value) (xs : List Int) (n : Int) (w : World) (h : IntsAt w v xs) :
    Calls Try.prog 127 #[v, .int .i64 n] w fun e w' => e = .returned (.bool (isDiv xs n)) ∧ w' = w := by
  obtain ⟨A, c, rfl, hl, hc⟩ := h
  go_enter Try.func127, Try.ntmps127
  go_wp2
  go_loop [5, 6] (fun q i => ∃ (k : Nat) (u : Int), k ≤ xs.length ∧ i = .int .i64 k ∧ q = .int .i64 u ∧ 0 ≤ u ∧ u ≤ k ∧ Hid (divOk 0 xs = divOk u (xs.drop k))) (fun _ i => xs.length - (intOf i).toNat)
  case atStart => exact ⟨0, 0, Nat.zero_le _, rfl, rfl, by omega, by omega, rfl⟩
  case round =>
    obtain ⟨k, u, hk, rfl, rfl, hu0, hu1, he⟩ := hrel
    by_cases hlt : k < xs.length
    · obtain ⟨b, off, rfl, hx⟩ := hc k hlt
      have b1 : (k : Int) < (xs.length : Int) := by omega
      have HD := hid (divOk_drop u xs k hlt)
      clear hc
      cases hq : inB (nth xs k) 0 u with
      | true =>
        have HQ := hid hq
        have C : ∀ w, Calls Try.prog 67 #[.int .i64 (nth xs k), .int .i64 0, .int .i64 u] w fun e' w' => e' = .returned (.bool true) ∧ w' = w := fun w => by have := l00In_any (nth xs k) 0 u w; rw [HQ.out] at this; exact this
        clear hq
        by_cases hcu : nth xs k = u
        · have hb : (nth xs k == u) = true := by simp [hcu]
          have HC := hid hcu
          clear hcu
          go_wp2_with (go_at_call 67; refine (C _).mono ?_; rintro e w' ⟨rfl, rfl⟩)
          go_round
          case rel => exact ⟨k + 1, u + 1, by omega, by go_num, rfl, by omega, by omega, by show _ = _; rw [he.out, HD.out, HQ.out, if_pos HC.out, Bool.true_and]⟩
          case measure => simp [intOf]; omega
        · have hb : (nth xs k == u) = false := by simp [hcu]
          have HC := hid hcu
          clear hcu
          go_wp2_with (go_at_call 67; refine (C _).mono ?_; rintro e w' ⟨rfl, rfl⟩)
          go_round
          case rel => exact ⟨k + 1, u, by omega, by go_num, rfl, by omega, by omega, by show _ = _; rw [he.out, HD.out, HQ.out, if_neg HC.out, Bool.true_and]⟩
          case measure => simp [intOf]; omega
      | false =>
        have HQ := hid hq
        have C : ∀ w, Calls Try.prog 67 #[.int .i64 (nth xs k), .int .i64 0, .int .i64 u] w fun e' w' => e' = .returned (.bool false) ∧ w' = w := fun w => by have := l00In_any (nth xs k) 0 u w; rw [HQ.out] at this; exact this
        clear hq
        go_wp2_with (go_at_call 67; refine (C _).mono ?_; rintro e w' ⟨rfl, rfl⟩)
        go_ret
        refine ⟨ret_bool ?_, rfl⟩
        rw [isDiv, he.out, HD.out, HQ.out]; rfl
    · have e : k = xs.length := by omega
      subst e
      go_wp2
      go_ret
      refine ⟨ret_bool ?_, rfl⟩
      rw [isDiv, he.out, List.drop_length, divOk, Bool.true_and, Bool.eq_iff_iff]; simp

end Go.Proofs.Ytdaaglfemaoigaa
