/- The reference's sets as bits. -/
import Derived.Test.YtiflokfinkachaaRows
import Derived.Test.YtiflokfinkachaaCore
import Derived.Test.YtiflokfinkachaaInfos
import Derived.Test.YtiflokfinkachaaPlains
import Derived.Test.YtiflokfinkachaaSBase
import Derived.WalkKit
import Derived.WalkSpells
import Derived.WalkLawsBesides
import Derived.Deep.QuietTactic
import Derived.Deep.OwnRows
import Derived.BigQuiet
import Derived.KernelRfl
namespace Go.Proofs.Ytiflokfinkachaa
open Go.RowKit

set_option maxRecDepth 20000 in
set_option maxHeartbeats 800000 in
theorem l02Set_any (F : Nat) (w : World) (hF : F < 1024) :
    Calls Try.prog 223 #[.int .i64 F] w fun e w' => ∃ r, e = .returned r ∧ New w w' ∧ OwnInts w.heap.size w'.heap.size w' r (setOf F) := by
  have HF := hid hF
  go_enter Try.func223, Try.ntmps223
  go_wp2
  go_loopw [3, 4] (fun o i wr => ∃ k : Nat, k ≤ 10 ∧ i = .int .i64 k ∧ Grow w.heap.size 2 wr o (bitsTo F k) ∧ New w wr) (fun _ i _ => 10 - (intOf i).toNat)
  case atStart => exact ⟨0, Nat.zero_le _, rfl, Grow.empty _ _ _ (Nat.le_refl _), (by repeat (first | with_reducible exact New.refl _ | with_reducible assumption | with_reducible refine New.alloc ?_ _ | with_reducible refine New.drew ?_ | with_reducible refine New.drewN ?_ _ | with_reducible refine New.setCell ?_ (by simp <;> omega) _))⟩
  case round =>
    obtain ⟨k, hk, rfl, ho, hn⟩ := hrel
    have hzr := hn.size
    have hlen := bitsTo_len F k
    by_cases hp : 2 ^ k ≤ F
    · have hlt : k < 10 := (Nat.pow_lt_pow_iff_right (a := 2) (by decide)).1 (Nat.lt_of_le_of_lt hp hF)
      have hp' : 0 < (F : Int) / 2 ^ k := (div_pos_iff F k).2 hp
      have hb := bit_i64 F k hF
      cases hq : F.testBit k with
      | true =>
        rw [hq, if_pos rfl] at hb
        have HQ := hid hq
        clear hq hp hF
        go_wp2_with (at_builtin; refine wpList_app rfl _ _ _ rfl Try.underlying26 info_i64 _ (bitsTo F k) rfl ho rfl (by omega) (by omega) ?_; intro g cap w2 ho2 hg2)
        go_roundw
        case rel => exact ⟨k + 1, by omega, by go_num, by rw [bitsTo_succ, if_pos HQ.out]; exact ho2, hn.app hg2 ho (Nat.le_refl _)⟩
        case measure => simp [intOf]; omega
      | false =>
        rw [hq, if_neg (by simp)] at hb
        have HQ := hid hq
        clear hq hp hF
        go_wp2
        go_roundw
        case rel => exact ⟨k + 1, by omega, by go_num, by rw [bitsTo_succ, if_neg (by rw [HQ.out]; simp), List.append_nil]; exact ho, hn⟩
        case measure => simp [intOf]; omega
    · have hp' : ¬ 0 < (F : Int) / 2 ^ k := fun h => hp ((div_pos_iff F k).1 h)
      have hd : decide (0 < (F : Int) / 2 ^ k) = false := by simpa using hp'
      have e : setOf F = bitsTo F k := setOf_eq (by omega) hk
      go_wp2
      go_ret
      exact ⟨_, rfl, hn, ho.own (by omega)⟩
set_option maxHeartbeats 400000 in
theorem l02Single_any (F : Nat) (w : World) (hF : F < 1024) :
    Calls Try.prog 198 #[.int .i64 F] w fun e w' => e = .returned (.bool (smallB F)) ∧ w' = w := by
  have h := small_raw F hF
  rw [← smallB_eq, ← h]
  clear h
  go_enter Try.func198, Try.ntmps198
  go_wp2
  go_ret
  exact ⟨rfl, rfl⟩
set_option maxRecDepth 20000 in
set_option maxHeartbeats 800000 in
theorem l02Moved_any (v : Value) (row : List Int) (F : Nat) (w : World) (h : IntsAt w v row) (hF : F < 2 ^ row.length) (hlen : row.length ≤ 10) (hr : ∀ i, i < row.length → 0 ≤ nth row i ∧ nth row i < 10) :
    Calls Try.prog 250 #[v, .int .i64 F] w fun e w' => e = .returned (.int .i64 (moved row F)) ∧ w' = w := by
  obtain ⟨A, c, rfl, hl, hc⟩ := h
  have HX := hid hr
  have hF10 := lt_10 hF hlen
  rw [moved_eq row hF hlen]
  clear hr hF
  go_enter Try.func250, Try.ntmps250
  go_wp2
  go_loop [5, 6] (fun q i => ∃ k : Nat, k ≤ row.length ∧ i = .int .i64 k ∧ q = .int .i64 (moveB row F k)) (fun _ i => row.length - (intOf i).toNat)
  case atStart => exact ⟨0, Nat.zero_le _, rfl, rfl⟩
  case round =>
    obtain ⟨k, hk, rfl, rfl⟩ := hrel
    by_cases hlt : k < row.length
    · obtain ⟨b, off, rfl, hx⟩ := hc k hlt
      have b1 : (k : Int) < (row.length : Int) := by omega
      obtain ⟨x0, x1⟩ := HX.out k hlt
      have hb := bit_i64 F k hF10
      clear hc
      cases hq : F.testBit k with
      | true =>
        rw [hq, if_pos rfl] at hb
        have HQ := hid hq
        clear hq
        go_wp2
        go_round
        case rel => exact ⟨k + 1, by omega, by go_num, by
            rw [moveB_succ, if_pos HQ.out, or_w64 _ _ (moveB_lt row F 10 k (fun i hi _ => by have := HX.out i (by omega); omega)) (by omega)]⟩
        case measure => simp [intOf]; omega
      | false =>
        rw [hq, if_neg (by simp)] at hb
        have HQ := hid hq
        clear hq
        go_wp2
        go_round
        case rel => exact ⟨k + 1, by omega, by go_num, by rw [moveB_succ, if_neg (by rw [HQ.out]; simp)]⟩
        case measure => simp [intOf]; omega
    · have e : k = row.length := by omega
      subst e
      go_wp2
      go_ret
      exact ⟨rfl, rfl⟩

end Go.Proofs.Ytiflokfinkachaa
