/- The list of all states, at the reference. -/
import Derived.Test.YtnhjoiafadapaaaRows
import Derived.Test.YtnhjoiafadapaaaCore
import Derived.Test.YtnhjoiafadapaaaInfos
import Derived.Test.YtnhjoiafadapaaaPlains
import Derived.WalkKit
import Derived.WalkSpells
import Derived.WalkLawsBesides
import Derived.Deep.QuietTactic
import Derived.Deep.OwnRows
import Derived.BigQuiet
import Derived.KernelRfl
namespace Go.Proofs.Ytnhjoiafadapaaa
open Go.RowKit

set_option maxHeartbeats 400000 in
theorem l01All_any (n : Int) (w : World) (h0 : 0 ≤ n) (h1 : n ≤ 1048576) :
    Calls Try.prog 108 #[.int .i64 n] w fun e w' => ∃ r, e = .returned r ∧ New w w' ∧ OwnInts w.heap.size w'.heap.size w' r (iota 0 n.toNat) := by
  go_enter Try.func108, Try.ntmps108
  go_wp2
  go_loopw [3, 4] (fun o i wr => ∃ k : Nat, (k : Int) ≤ n ∧ i = .int .i64 k ∧ Grow w.heap.size 2 wr o (iota 0 k) ∧ New w wr) (fun _ i _ => n.toNat - (intOf i).toNat)
  case atStart => exact ⟨0, by omega, rfl, Grow.empty _ _ _ (Nat.le_refl _), (by repeat (first | with_reducible exact New.refl _ | with_reducible assumption | with_reducible refine New.alloc ?_ _ | with_reducible refine New.drew ?_ | with_reducible refine New.drewN ?_ _ | with_reducible refine New.setCell ?_ (by simp <;> omega) _))⟩
  case round =>
    obtain ⟨k, hk, rfl, ho, hn⟩ := hrel
    have hzr := hn.size
    have hl := iota_length 0 k
    by_cases hlt : (k : Int) < n
    · go_wp2_with (at_builtin; refine wpList_app rfl _ _ _ rfl Try.underlying26 info_i64 _ (iota 0 k) rfl ho rfl (by omega) (by omega) ?_; intro g cap w2 ho2 hg2)
      go_roundw
      case rel => exact ⟨k + 1, by omega, by go_num, by rw [iota_snoc, Int.zero_add]; rw [hl] at ho2; exact ho2, hn.app hg2 ho (Nat.le_refl _)⟩
      case measure => simp [intOf]; omega
    · have e : (k : Int) = n := by omega
      subst e
      go_wp2
      go_ret
      exact ⟨_, rfl, hn, by simpa using ho.own (by omega)⟩

end Go.Proofs.Ytnhjoiafadapaaa
