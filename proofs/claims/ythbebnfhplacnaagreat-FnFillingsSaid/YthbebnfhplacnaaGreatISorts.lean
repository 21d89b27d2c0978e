/- Parts of the proof that lean on no program: ICmp, IImg. -/
import Derived.Test.YthbebnfhplacnaaGreatRows
import Derived.Test.YthbebnfhplacnaaGreatCore
import Derived.Test.YthbebnfhplacnaaGreatInfos
import Derived.Test.YthbebnfhplacnaaGreatPlains
import Derived.Test.YthbebnfhplacnaaGreatPOrds
import Derived.Test.YthbebnfhplacnaaGreatMaps
import Derived.Test.YthbebnfhplacnaaGreatRowsG
import Derived.Test.YthbebnfhplacnaaGreatSortG
import Derived.Test.YthbebnfhplacnaaGreatIBase
import Derived.Test.YthbebnfhplacnaaGreatITours
import Derived.WalkKit
import Derived.WalkSpells
import Derived.WalkLawsBesides
import Derived.Deep.QuietTactic
import Derived.Deep.OwnRows
import Derived.BigQuiet
import Derived.KernelRfl
import Derived.Deep.RegionHeld3
import Derived.Shelf.SlSortCmp.Whole1
namespace Go.Proofs.YthbebnfhplacnaaGreat
open Go.RowKit

section
set_option maxHeartbeats 400000 in
theorem isNaNint_any (x : Int) (w : World) : Calls Tryz.prog 98 #[.int .i64 x] w fun e w' => e = .returned (.bool false) ∧ w' = w := by
  have h : (x != x) = false := by simp
  go_enter Tryz.func98, Tryz.ntmps98
  go_wp2
  go_ret
  exact ⟨by simp, rfl⟩
set_option maxHeartbeats 400000 in
theorem CompareInt_any (x y : Int) (w : World) : Calls Tryz.prog 64 #[.int .i64 x, .int .i64 y] w fun e w' => e = .returned (.int .i64 (cmpI x y)) ∧ w' = w := by
  by_cases h1 : x < y
  · have e : cmpI x y = -1 := by unfold cmpI; rw [if_pos h1]
    rw [e]
    go_enter Tryz.func64, Tryz.ntmps64
    go_wp2_with (go_at_call 98; refine (isNaNint_any _ _).mono ?_; rintro e w' ⟨rfl, rfl⟩)
    go_ret
    exact ⟨rfl, rfl⟩
  · by_cases h2 : y < x
    · have e : cmpI x y = 1 := by unfold cmpI; rw [if_neg h1, if_pos h2]
      rw [e]
      go_enter Tryz.func64, Tryz.ntmps64
      go_wp2_with (go_at_call 98; refine (isNaNint_any _ _).mono ?_; rintro e w' ⟨rfl, rfl⟩)
      go_ret
      exact ⟨rfl, rfl⟩
    · have e : cmpI x y = 0 := by unfold cmpI; rw [if_neg h1, if_neg h2]
      rw [e]
      go_enter Tryz.func64, Tryz.ntmps64
      go_wp2_with (go_at_call 98; refine (isNaNint_any _ _).mono ?_; rintro e w' ⟨rfl, rfl⟩)
      go_ret
      exact ⟨rfl, rfl⟩
set_option maxHeartbeats 400000 in
theorem isNaNint64_any (x : Int) (w : World) : Calls Tryz.prog 109 #[.int .i64 x] w fun e w' => e = .returned (.bool false) ∧ w' = w := by
  have h : (x != x) = false := by simp
  go_enter Tryz.func109, Tryz.ntmps109
  go_wp2
  go_ret
  exact ⟨by simp, rfl⟩
set_option maxHeartbeats 400000 in
theorem CompareInt64_any (x y : Int) (w : World) : Calls Tryz.prog 99 #[.int .i64 x, .int .i64 y] w fun e w' => e = .returned (.int .i64 (cmpI x y)) ∧ w' = w := by
  by_cases h1 : x < y
  · have e : cmpI x y = -1 := by unfold cmpI; rw [if_pos h1]
    rw [e]
    go_enter Tryz.func99, Tryz.ntmps99
    go_wp2_with (go_at_call 109; refine (isNaNint64_any _ _).mono ?_; rintro e w' ⟨rfl, rfl⟩)
    go_ret
    exact ⟨rfl, rfl⟩
  · by_cases h2 : y < x
    · have e : cmpI x y = 1 := by unfold cmpI; rw [if_neg h1, if_pos h2]
      rw [e]
      go_enter Tryz.func99, Tryz.ntmps99
      go_wp2_with (go_at_call 109; refine (isNaNint64_any _ _).mono ?_; rintro e w' ⟨rfl, rfl⟩)
      go_ret
      exact ⟨rfl, rfl⟩
    · have e : cmpI x y = 0 := by unfold cmpI; rw [if_neg h1, if_neg h2]
      rw [e]
      go_enter Tryz.func99, Tryz.ntmps99
      go_wp2_with (go_at_call 109; refine (isNaNint64_any _ _).mono ?_; rintro e w' ⟨rfl, rfl⟩)
      go_ret
      exact ⟨rfl, rfl⟩
set_option maxHeartbeats 800000 in
theorem CompareInts_any (v1 v2 : Value) (x y : List Int) (w : World) (h1 : IntsAt w v1 x) (h2 : IntsAt w v2 y) :
    Calls Tryz.prog 65 #[v1, v2] w fun e w' => e = .returned (.int .i64 (lexC x y)) ∧ w' = w := by
  obtain ⟨A1, c1, rfl, hl1, hc1⟩ := h1
  obtain ⟨A2, c2, rfl, hl2, hc2⟩ := h2
  have HC1 := hid hc1
  have HC2 := hid hc2
  clear hc1 hc2
  go_enter Tryz.func65, Tryz.ntmps65
  go_wp2
  go_loop [11] (fun i => ∃ k : Nat, i = .int .i64 k ∧ k ≤ x.length ∧ k ≤ y.length ∧ Hid (∀ j, j < k → nth x j = nth y j)) (fun i => x.length - (intOf i).toNat)
  case atStart => exact ⟨0, rfl, Nat.zero_le _, Nat.zero_le _, hid (fun j hj => absurd hj (by omega))⟩
  case round =>
    obtain ⟨k, rfl, hk1, hk2, heq⟩ := hrel
    by_cases hx : k < x.length
    · obtain ⟨b1, o1, rfl, hx1⟩ := HC1.out k hx
      have q1 : (k : Int) < (x.length : Int) := by omega
      by_cases hy : k < y.length
      · obtain ⟨b2, o2, rfl, hx2⟩ := HC2.out k hy
        have q2 : ¬ (y.length : Int) ≤ (k : Int) := by omega
        have q3 : (k : Int) < (y.length : Int) := by omega
        by_cases hq : nth x k = nth y k
        · have C := fun w1 => CompareInt64_any (nth x k) (nth y k) w1
          rw [(cmpI_zero _ _).2 hq] at C
          have HQ := hid hq
          clear hq
          go_wp2_with (go_at_call 99; refine (C _).mono ?_; rintro e w' ⟨rfl, rfl⟩)
          go_round
          case rel => exact ⟨k + 1, by go_num, by omega, by omega, hid (fun j hj => by
              rcases Nat.lt_succ_iff_lt_or_eq.1 hj with h | h
              · exact heq.out j h
              · subst h; exact HQ.out)⟩
          case measure => simp [intOf]; omega
        · have C := fun w1 => CompareInt64_any (nth x k) (nth y k) w1
          have HE := hid (lexC_at x y k hx hy heq.out hq)
          have hz : cmpI (nth x k) (nth y k) ≠ 0 := fun h => hq ((cmpI_zero _ _).1 h)
          obtain ⟨z, hz'⟩ : ∃ z, z = cmpI (nth x k) (nth y k) := ⟨_, rfl⟩
          rw [← hz'] at C HE hz
          have q4 : (z != 0) = true := by simp [hz]
          clear hq hz' hz
          go_wp2_with (go_at_call 99; refine (C _).mono ?_; rintro e w' ⟨rfl, rfl⟩)
          go_ret
          exact ⟨ret_int HE.out.symm, rfl⟩
      · have q2 : (y.length : Int) ≤ (k : Int) := by omega
        have HE := hid (show lexC x y = 1 by
          rw [lexC_end x y k hk1 hk2 heq.out (Or.inr (by omega))]
          unfold cmpI; rw [if_neg (by omega), if_pos (by omega)])
        go_wp2_with fail
        go_ret
        exact ⟨ret_int HE.out.symm, rfl⟩
    · have q1 : ¬ (k : Int) < (x.length : Int) := by omega
      have HE := hid (lexC_end x y k hk1 hk2 heq.out (Or.inl (by omega)))
      by_cases hy : x.length < y.length
      · have q2 : (x.length : Int) < (y.length : Int) := by omega
        have HE2 := hid (show lexC x y = -1 by rw [HE.out]; unfold cmpI; rw [if_pos q2])
        go_wp2_with fail
        go_ret
        exact ⟨ret_int HE2.out.symm, rfl⟩
      · have q2 : ¬ (x.length : Int) < (y.length : Int) := by omega
        have HE2 := hid (show lexC x y = 0 by rw [HE.out]; unfold cmpI; rw [if_neg q2, if_neg (by omega)])
        go_wp2_with fail
        go_ret
        exact ⟨ret_int HE2.out.symm, rfl⟩
set_option maxHeartbeats 800000 in
theorem OrInt_any (b c : Nat) (x y : Int) (w : World) (h0 : w.cell? ⟨b, 0, none⟩ = some (.int .i64 x)) (h1 : w.cell? ⟨b, 1, none⟩ = some (.int .i64 y)) :
    Calls Tryz.prog 63 #[.slice (some ⟨b, 0, none⟩) 2 c] w fun e w' => e = .returned (.int .i64 (if x = 0 then y else x)) ∧ w' = w := by
  by_cases hx : x = 0
  · subst hx
    rw [if_pos rfl]
    by_cases hy : y = 0
    · subst hy
      go_enter Tryz.func63, Tryz.ntmps63
      go_wp2
      refine wp_loop_rounds 3 ?_
      rw [rounds_succ]
      go_wp2
      rw [rounds_succ]
      go_wp2
      rw [rounds_succ]
      go_wp2
      go_ret
      exact ⟨rfl, rfl⟩
    · have hy' : (y != 0) = true := by simp [hy]
      clear hy
      go_enter Tryz.func63, Tryz.ntmps63
      go_wp2
      refine wp_loop_rounds 3 ?_
      rw [rounds_succ]
      go_wp2
      rw [rounds_succ]
      go_wp2
      go_ret
      exact ⟨rfl, rfl⟩
  · have hx' : (x != 0) = true := by simp [hx]
    rw [if_neg hx]
    clear hx
    go_enter Tryz.func63, Tryz.ntmps63
    go_wp2
    refine wp_loop_rounds 3 ?_
    rw [rounds_succ]
    go_wp2
    go_ret
    exact ⟨rfl, rfl⟩
end
section
end

end Go.Proofs.YthbebnfhplacnaaGreat
