/- The program's automaton of classes. -/
import Derived.Test.YtoeckejcmojeaaaRows
import Derived.Test.YtoeckejcmojeaaaCore
import Derived.Test.YtoeckejcmojeaaaInfos
import Derived.Test.YtoeckejcmojeaaaPlains
import Derived.Test.YtoeckejcmojeaaaPQuos
import Derived.Test.YtoeckejcmojeaaaPers
import Derived.Test.YtoeckejcmojeaaaIBase
import Derived.Test.YtoeckejcmojeaaaI01c
import Derived.Test.YtoeckejcmojeaaaIDivs
import Derived.Test.YtoeckejcmojeaaaIIdx
import Derived.Test.YtoeckejcmojeaaaIsCong
import Derived.WalkKit
import Derived.WalkSpells
import Derived.WalkLawsBesides
import Derived.Deep.QuietTactic
import Derived.Deep.OwnRows
import Derived.BigQuiet
import Derived.KernelRfl
namespace Go.Proofs.Ytoeckejcmojeaaa
open Go.RowKit

set_option maxHeartbeats 400000 in
theorem max64_any (v : Value) (xs : List Int) (w : World) (h : IntsAt w v xs) (hne : 0 < xs.length) (hl : xs.length ≤ 1000) (hx : ∀ i, i < xs.length → 0 ≤ nth xs i ∧ nth xs i < 1000) :
    Calls Try.prog 51 #[v] w fun e w' => e = .returned (.int .i64 (clsN xs - 1)) ∧ w' = w := by
  obtain ⟨A, c, rfl, _, hc⟩ := h
  have HX := hid hx
  have HC := hid hc
  obtain ⟨b, off, rfl, hx0⟩ := hc 0 hne
  rw [Nat.add_zero] at hx0
  have k1 : (1 : Int) ≤ (xs.length : Int) := by omega
  have k0 : (0 : Int) < (xs.length : Int) := by omega
  clear hx hc
  go_enter Try.func51, Try.ntmps51
  go_wp2
  go_loop [3, 4] (fun q i => ∃ (k : Nat) (z : Int), 0 < k ∧ k ≤ xs.length ∧ i = .int .i64 k ∧ q = .int .i64 z ∧ Hid (z = clsTo xs k - 1)) (fun _ i => xs.length - (intOf i).toNat)
  case atStart => exact ⟨1, _, Nat.zero_lt_one, by omega, rfl, rfl, hid (by rw [clsTo_succ xs 0 hne, clsTo_zero]; have := HX.out 0 hne; split <;> omega)⟩
  case round =>
    obtain ⟨k, z, hk0, hk, rfl, rfl, hz⟩ := hrel
    by_cases hlt : k < xs.length
    · obtain ⟨b', off', e', hx⟩ := HC.out k hlt
      cases e'
      have b1 : (k : Int) < (xs.length : Int) := by omega
      have hzz : z = clsTo xs k - 1 := hz.out
      have HS := hid (clsTo_succ xs k hlt)
      have HZ := hid hzz
      clear hzz hz
      go_wp2
      go_round
      case rel =>
        refine ⟨k + 1, _, by omega, by omega, by go_num, rfl, hid ?_⟩
        rw [HS.out]
        have := HZ.out
        first | (split <;> omega) | (split <;> split <;> omega)
      case measure => simp [intOf]; omega
    · have e : k = xs.length := by omega
      subst e
      go_wp2
      go_ret
      exact ⟨ret_int hz.out, rfl⟩

end Go.Proofs.Ytoeckejcmojeaaa
