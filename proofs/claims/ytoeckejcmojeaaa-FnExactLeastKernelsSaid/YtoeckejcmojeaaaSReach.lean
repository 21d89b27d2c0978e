/- The reference's orders of lists. -/
import Derived.Test.YtoeckejcmojeaaaRows
import Derived.Test.YtoeckejcmojeaaaCore
import Derived.Test.YtoeckejcmojeaaaInfos
import Derived.Test.YtoeckejcmojeaaaPlains
import Derived.Test.YtoeckejcmojeaaaPOrds
import Derived.WalkKit
import Derived.WalkSpells
import Derived.WalkLawsBesides
import Derived.Deep.QuietTactic
import Derived.Deep.OwnRows
import Derived.BigQuiet
import Derived.KernelRfl
namespace Go.Proofs.Ytoeckejcmojeaaa
open Go.RowKit

set_option maxHeartbeats 1600000 in
theorem l03Before_any (v1 v2 : Value) (x y : List Int) (w : World) (h1 : IntsAt w v1 x) (h2 : IntsAt w v2 y) :
    Calls Try.prog 93 #[v1, v2] w fun e w' => e = .returned (.bool (lexLt x y)) ∧ New w w' := by
  obtain ⟨A1, c1, rfl, hl1, hc1⟩ := h1
  obtain ⟨A2, c2, rfl, hl2, hc2⟩ := h2
  have HC1 := hid hc1
  have HC2 := hid hc2
  clear hc1 hc2
  go_enter Try.func93, Try.ntmps93
  go_wp2
  go_loopw [5] (fun i wr => ∃ k : Nat, i = .int .i64 k ∧ k ≤ x.length ∧ k ≤ y.length ∧ New w wr ∧ Hid (∀ j, j < k → nth x j = nth y j)) (fun i _ => x.length - (intOf i).toNat)
  case atStart => exact ⟨0, rfl, Nat.zero_le _, Nat.zero_le _, New.refl _, hid (fun j hj => absurd hj (by omega))⟩
  case round =>
    obtain ⟨k, rfl, hk1, hk2, hn, heq⟩ := hrel
    by_cases hb : k < x.length ∧ k < y.length
    · obtain ⟨hx, hy⟩ := hb
      obtain ⟨b1, o1, rfl, hx1⟩ := HC1.out k hx
      obtain ⟨b2, o2, rfl, hx2⟩ := HC2.out k hy
      have q1 : (k : Int) < (x.length : Int) := by omega
      have q2 : (k : Int) < (y.length : Int) := by omega
      replace hx1 := hn.cell hx1
      replace hx2 := hn.cell hx2
      by_cases hq : nth x k = nth y k
      · have hq' : (nth x k != nth y k) = false := by simp [hq]
        have HQ := hid hq
        clear hq
        go_wp2_with fail
        go_quiet (fail)
        go_wp2_with fail
        go_roundw
        case rel => exact ⟨k + 1, by go_num, by omega, by omega, hn.drewN _, hid (fun j hj => by
            rcases Nat.lt_succ_iff_lt_or_eq.1 hj with h | h
            · exact heq.out j h
            · subst h; exact HQ.out)⟩
        case measure => simp [intOf]; omega
      · have hq' : (nth x k != nth y k) = true := by simp [hq]
        have HE := hid (show decide (nth x k < nth y k) = lexLt x y by
          unfold lexLt
          rw [lexC_at x y k hx hy heq.out hq]
          exact decide_eq_decide.2 (cmpI_neg _ _).symm)
        clear hq
        go_wp2_with fail
        go_quiet (fail)
        go_wp2_with fail
        go_quiet (fail)
        go_wp2_with fail
        go_ret
        exact ⟨ret_bool HE.out, (hn.drewN _).drewN _⟩
    · have HE := hid (show decide ((x.length : Int) < (y.length : Int)) = lexLt x y by
        unfold lexLt
        rw [lexC_end x y k hk1 hk2 heq.out (by omega)]
        exact decide_eq_decide.2 (cmpI_neg _ _).symm)
      by_cases hx : k < x.length
      · have q1 : (k : Int) < (x.length : Int) := by omega
        have q2 : ¬ (k : Int) < (y.length : Int) := by omega
        clear hb
        go_wp2_with fail
        go_ret
        exact ⟨ret_bool (by rw [← HE.out]; simp), hn⟩
      · have q1 : ¬ (k : Int) < (x.length : Int) := by omega
        clear hb
        go_wp2_with fail
        go_ret
        exact ⟨ret_bool (by rw [← HE.out]; simp), hn⟩

end Go.Proofs.Ytoeckejcmojeaaa
