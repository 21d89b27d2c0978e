/- Parts of the proof that lean on no program: IEq, ISame. -/
import Derived.Test.YtiflokfinkachaaRows
import Derived.Test.YtiflokfinkachaaCore
import Derived.WalkKit
import Derived.WalkSpells
import Derived.WalkLawsBesides
import Derived.Deep.QuietTactic
import Derived.Deep.OwnRows
import Derived.BigQuiet
import Derived.KernelRfl
namespace Go.Proofs.Ytiflokfinkachaa
open Go.RowKit

section
set_option maxHeartbeats 400000 in
theorem sliceEqual_any (v1 v2 : Value) (xs ys : List Int) (w : World) (h1 : IntsAt w v1 xs) (h2 : IntsAt w v2 ys) :
    Calls Try.prog 123 #[v1, v2] w fun e w' => e = .returned (.bool (decide (xs = ys))) ∧ New w w' := by
  obtain ⟨A, c, rfl, hl1, hc1⟩ := h1
  obtain ⟨A2, c2, rfl, hl2, hc2⟩ := h2
  by_cases hlen : xs.length = ys.length
  · have hb : ((xs.length : Int) != ys.length) = false := by simp [hlen]
    have HL := hid hlen
    clear hlen
    go_enter Try.func123, Try.ntmps123
    go_wp2
    go_loopw [13] (fun i wr => ∃ k : Nat, k ≤ xs.length ∧ i = .int .i64 k ∧ Hid (∀ i, i < k → nth xs i = nth ys i) ∧ New w wr) (fun i _ => xs.length - (intOf i).toNat)
    case atStart => exact ⟨0, Nat.zero_le _, rfl, fun i hi => absurd hi (by omega), New.refl _⟩
    case round =>
      obtain ⟨k, hk, rfl, he, hw⟩ := hrel
      by_cases hlt : k < xs.length
      · obtain ⟨b, off, rfl, hx⟩ := hc1 k hlt
        obtain ⟨b2, off2, rfl, hy⟩ := hc2 k (by have := HL.out; omega)
        replace hx := hw.cell hx
        replace hy := hw.cell hy
        have hlt2 : k < ys.length := by have := HL.out; omega
        have b1 : (k : Int) < (xs.length : Int) := by omega
        have b2 : (k : Int) < (ys.length : Int) := by omega
        by_cases hq : nth xs k = nth ys k
        · have hq' : (nth xs k != nth ys k) = false := by simp [hq]
          have HQ := hid hq
          clear hq
          go_wp2_with fail
          go_quiet (fail)
          go_wp2
          go_roundw
          case rel => exact ⟨k + 1, by omega, by go_num, fun i hi => by
              rcases Nat.lt_succ_iff_lt_or_eq.1 hi with h | h
              · exact he.out i h
              · subst h; exact HQ.out, hw.drewN nq⟩
          case measure => simp [intOf]; omega
        · have hq' : (nth xs k != nth ys k) = true := by simp [hq]
          go_wp2_with fail
          go_quiet (fail)
          go_wp2
          go_ret
          have hne : ¬ xs = ys := fun e => hq (by rw [e])
          exact ⟨by simp [hne], hw.drewN nq⟩
      · go_wp2
        go_ret
        have he' : xs = ys := ext_nth xs ys HL.out (fun i hi => he.out i (by omega))
        exact ⟨by simp [he'], hw⟩
  · have hb : ((xs.length : Int) != ys.length) = true := by simp; omega
    go_enter Try.func123, Try.ntmps123
    go_wp2
    go_ret
    have hne : ¬ xs = ys := fun e => hlen (by rw [e])
    exact ⟨by simp [hne], New.refl _⟩
end
section
set_option maxHeartbeats 400000 in
theorem EqualFuncRows_any (v1 v2 : Value) (xs ys : List (List Int)) (w : World) (h1 : RowsAt w v1 xs) (h2 : RowsAt w v2 ys) :
    Calls Try.prog 277 #[v1, v2, .func (.func 123) #[] #[]] w fun e w' => e = .returned (.bool (decide (xs = ys))) ∧ New w w' := by
  obtain ⟨A, c, rfl, hl1, hc1⟩ := h1
  obtain ⟨A2, c2, rfl, hl2, hc2⟩ := h2
  by_cases hlen : xs.length = ys.length
  · have hb : ((xs.length : Int) != ys.length) = false := by simp [hlen]
    have HL := hid hlen
    clear hlen
    go_enter Try.func277, Try.ntmps277
    go_wp2
    go_loopw [17] (fun i wr => ∃ k : Nat, k ≤ xs.length ∧ i = .int .i64 k ∧ Hid (∀ i, i < k → nth xs i = nth ys i) ∧ New w wr) (fun i _ => xs.length - (intOf i).toNat)
    case atStart => exact ⟨0, Nat.zero_le _, rfl, fun i hi => absurd hi (by omega), New.refl _⟩
    case round =>
      obtain ⟨k, hk, rfl, he, hw⟩ := hrel
      by_cases hlt : k < xs.length
      · obtain ⟨b, off, r1, rfl, hx, hr1⟩ := hc1 k hlt
        obtain ⟨b2, off2, r2, rfl, hy, hr2⟩ := hc2 k (by have := HL.out; omega)
        replace hx := hw.cell hx
        replace hy := hw.cell hy
        replace hr1 := hr1.new hw
        replace hr2 := hr2.new hw
        have hlt2 : k < ys.length := by have := HL.out; omega
        have kb1 : (k : Int) < (xs.length : Int) := by omega
        have kb2 : (k : Int) < (ys.length : Int) := by omega
        have hent := fun args w => enters Try.func123 (by decide) (by simp [Try.f123]) args w
        by_cases hq : nth xs k = nth ys k
        · have hq' : decide (nth xs k = nth ys k) = true := by simp [hq]
          have HQ := hid hq
          clear hq
          go_wp2_with (go_at_call 123; refine (sliceEqual_any _ _ _ _ _ hr1 hr2).mono ?_; rintro e w' ⟨rfl, hn⟩)
          go_roundw
          case rel => exact ⟨k + 1, by omega, by go_num, fun i hi => by
              rcases Nat.lt_succ_iff_lt_or_eq.1 hi with h | h
              · exact he.out i h
              · subst h; exact HQ.out, hw.trans hn⟩
          case measure => simp [intOf]; omega
        · have hq' : decide (nth xs k = nth ys k) = false := by simp [hq]
          go_wp2_with (go_at_call 123; refine (sliceEqual_any _ _ _ _ _ hr1 hr2).mono ?_; rintro e w' ⟨rfl, hn⟩)
          go_ret
          have hne : ¬ xs = ys := fun e => hq (by rw [e])
          exact ⟨by simp [hne], hw.trans hn⟩
      · go_wp2
        go_ret
        have he' : xs = ys := ext_nth xs ys HL.out (fun i hi => he.out i (by omega))
        exact ⟨by simp [he'], hw⟩
  · have hb : ((xs.length : Int) != ys.length) = true := by simp; omega
    go_enter Try.func277, Try.ntmps277
    go_wp2
    go_ret
    have hne : ¬ xs = ys := fun e => hlen (by rw [e])
    exact ⟨by simp [hne], New.refl _⟩
set_option maxHeartbeats 400000 in
theorem sameTable_any (v1 v2 : Value) (xs ys : List (List Int)) (w : World) (h1 : RowsAt w v1 xs) (h2 : RowsAt w v2 ys) :
    Calls Try.prog 256 #[v1, v2] w fun e w' => e = .returned (.bool (decide (xs = ys))) ∧ New w w' := by
  go_enter Try.func256, Try.ntmps256
  go_wp2_with (go_at_call 277; refine (EqualFuncRows_any _ _ _ _ _ h1 h2).mono ?_; rintro e w' ⟨rfl, hn⟩)
  go_ret
  exact ⟨rfl, hn⟩
end

end Go.Proofs.Ytiflokfinkachaa
