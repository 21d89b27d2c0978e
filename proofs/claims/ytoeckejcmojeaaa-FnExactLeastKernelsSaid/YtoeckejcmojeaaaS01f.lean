/- The reference's place of a list among lists. -/
import Derived.Test.YtoeckejcmojeaaaRows
import Derived.Test.YtoeckejcmojeaaaCore
import Derived.Test.YtoeckejcmojeaaaPlains
import Derived.Test.YtoeckejcmojeaaaSBase
import Derived.WalkKit
import Derived.WalkSpells
import Derived.WalkLawsBesides
import Derived.Deep.QuietTactic
import Derived.Deep.OwnRows
import Derived.BigQuiet
import Derived.KernelRfl
namespace Go.Proofs.Ytoeckejcmojeaaa
open Go.RowKit

set_option maxHeartbeats 800000 in
theorem l01Find_any (v1 v2 : Value) (xss : List (List Int)) (xs : List Int) (w : World) (h1 : RowsAt w v1 xss) (h2 : IntsAt w v2 xs) :
    Calls Try.prog 41 #[v1, v2] w fun e w' => e = .returned (.int .i64 (findL xss xs)) ∧ New w w' := by
  obtain ⟨A, c, rfl, hl, hc⟩ := h1
  have HC := hid hc
  clear hc
  go_enter Try.func41, Try.ntmps41
  go_wp2
  go_loopw [5] (fun i wr => ∃ k : Nat, k ≤ xss.length ∧ i = .int .i64 k ∧ Hid (∀ j, j < k → nth xss j ≠ xs) ∧ New w wr) (fun i _ => xss.length - (intOf i).toNat)
  case atStart => exact ⟨0, Nat.zero_le _, rfl, hid (fun j hj => absurd hj (by omega)), New.refl _⟩
  case round =>
    obtain ⟨k, hk, rfl, hno, hn⟩ := hrel
    by_cases hlt : k < xss.length
    · obtain ⟨b, off, rv, rfl, hx, hr⟩ := HC.out k hlt
      have b1 : (k : Int) < (xss.length : Int) := by omega
      replace hx := hn.cell hx
      have C := l00Same_any rv v2 _ _ wr (hr.new hn) (h2.new hn)
      by_cases hq : nth xss k = xs
      · rw [decide_eq_true hq] at C
        have HQ := hid hq
        clear hq
        go_wp2_with (go_at_call 92; refine C.mono ?_; rintro e w2 ⟨rfl, hn2⟩)
        go_ret
        exact ⟨ret_int (findL_hit _ _ k hlt HQ.out hno.out).symm, hn.trans hn2⟩
      · rw [decide_eq_false hq] at C
        have HQ := hid hq
        clear hq
        go_wp2_with (go_at_call 92; refine C.mono ?_; rintro e w2 ⟨rfl, hn2⟩)
        go_roundw
        case rel => exact ⟨k + 1, by omega, by go_num, hid (fun j hj => by
            rcases Nat.lt_succ_iff_lt_or_eq.1 hj with h | h
            · exact hno.out j h
            · subst h; exact HQ.out), hn.trans hn2⟩
        case measure => simp [intOf]; omega
    · have e : k = xss.length := by omega
      subst e
      go_wp2
      go_ret
      exact ⟨ret_int (findL_none _ _ hno.out).symm, hn⟩

end Go.Proofs.Ytoeckejcmojeaaa
