/- The laws' own marks: a list that is marked holds the marks. -/
import Derived.Test.YtcjmcpfdpnakkaaRows
import Derived.Test.YtcjmcpfdpnakkaaCore
import Derived.Test.YtcjmcpfdpnakkaaLInts
import Derived.WalkKit
import Derived.WalkSpells
import Derived.WalkLawsBesides
import Derived.Deep.QuietTactic
import Derived.Deep.OwnRows
import Derived.BigQuiet
import Derived.KernelRfl
namespace Go.Proofs.Ytcjmcpfdpnakkaa
open Go.RowKit

set_option maxHeartbeats 400000 in
theorem markInt64S_any {B E : Nat} (v : Value) (xs : List Int) (k : Int) (w : World) (h : OwnInts B E w v xs) (hk0 : 0 ≤ k) (hk1 : k ≤ 1099511627776) :
    Calls Try.prog 22 #[v, .int .i64 k] w fun e w' => e = .returned (.int .i64 (k + xs.length)) ∧ OwnInts B E w' v (iota k xs.length) ∧ w.grownBy w' v.ownBlock := by
  obtain ⟨A, c, rfl⟩ := h.form
  have hl : xs.length ≤ 1099511627776 := let ⟨_, _, _, h, _⟩ := h; h
  have HH := hid h
  clear h
  go_enter Try.func22, Try.ntmps22
  go_wp2
  go_loopw [1, 5] (fun q i wr => ∃ j : Nat, j ≤ xs.length ∧ i = .int .i64 j ∧ q = .int .i64 (k + j) ∧ Hid (OwnInts B E wr (.slice A xs.length c) (iota k j ++ xs.drop j)) ∧ Hid (w.grownBy wr (Value.slice A xs.length c).ownBlock)) (fun _ i _ => xs.length - (intOf i).toNat)
  case atStart => exact ⟨0, Nat.zero_le _, rfl, by simp, by simpa [iota] using HH, grown_refl _ _⟩
  case round =>
    obtain ⟨j, hj, rfl, rfl, ho, hg⟩ := hrel
    by_cases hlt : j < xs.length
    · have hlen : (iota k j ++ xs.drop j).length = xs.length := by simp [iota]; omega
      obtain ⟨A', c', e, -, -, hc⟩ := ho.out
      rw [hlen] at e hc
      obtain ⟨b, off, hA, hx, hf⟩ := hc j hlt
      subst hA
      cases e
      have b1 : (j : Int) < (xs.length : Int) := by omega
      have HLEN := hid hlen
      clear hlen hc
      go_wp2
      go_roundw
      case rel =>
        refine ⟨j + 1, by omega, by go_num, ?_, ?_, ?_⟩
        · congr 1; omega
        · have := ho.out.set j (by rw [HLEN.out]; omega) (k + j)
          rw [iota_step k xs j hlt] at this
          exact this
        · exact grown_trans hg.out (grown_setCell _ _ _)
      case measure => simp [intOf]; omega
    · have e : j = xs.length := by omega
      subst e
      go_wp2
      go_ret
      refine ⟨rfl, ?_, hg.out⟩
      have := ho.out
      simpa using this

set_option maxHeartbeats 400000 in
theorem heldInt64S_any (v : Value) (n : Nat) (k : Int) (w : World) (h : IntsAt w v (iota k n)) (hk0 : 0 ≤ k) (hk1 : k ≤ 1099511627776) (hn : n ≤ 1099511627776) :
    Calls Try.prog 23 #[v, .int .i64 k] w fun e w' => e = .returned (.int .i64 (k + n)) ∧ w' = w := by
  obtain ⟨A, c, rfl, hl, hc⟩ := h
  rw [iota_length] at hl hc ⊢
  go_enter Try.func23, Try.ntmps23
  go_wp2
  go_loop [1, 5] (fun q i => ∃ j : Nat, j ≤ n ∧ i = .int .i64 j ∧ q = .int .i64 (k + j)) (fun _ i => n - (intOf i).toNat)
  case atStart => exact ⟨0, Nat.zero_le _, rfl, by simp⟩
  case round =>
    obtain ⟨j, hj, rfl, rfl⟩ := hrel
    by_cases hlt : j < n
    · obtain ⟨b, off, rfl, hx⟩ := hc j hlt
      rw [nth_iota k n j hlt] at hx
      have b1 : (j : Int) < (n : Int) := by omega
      have b3 : ((k + j : Int) != k + j) = false := by simp
      clear hc
      go_wp2
      go_round
      case rel => exact ⟨j + 1, by omega, by go_num, by congr 1; omega⟩
      case measure => simp [intOf]; omega
    · have e : j = n := by omega
      subst e
      go_wp2
      go_ret
      exact ⟨rfl, rfl⟩

end Go.Proofs.Ytcjmcpfdpnakkaa
