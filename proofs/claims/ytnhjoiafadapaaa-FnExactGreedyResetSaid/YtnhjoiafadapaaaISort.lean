/- slices.Sort at short lists of numbers. -/
import Derived.Test.YtnhjoiafadapaaaRows
import Derived.Test.YtnhjoiafadapaaaCore
import Derived.Test.YtnhjoiafadapaaaInfos
import Derived.Test.YtnhjoiafadapaaaPlains
import Derived.Test.YtnhjoiafadapaaaJoins
import Derived.WalkKit
import Derived.WalkSpells
import Derived.WalkLawsBesides
import Derived.Deep.QuietTactic
import Derived.Deep.OwnRows
import Derived.BigQuiet
import Derived.KernelRfl
import Derived.RegionTactic
import Derived.ChangeAlike
namespace Go.Proofs.Ytnhjoiafadapaaa
open Go.RowKit

theorem grown_of_new' {w w' : World} (h : New w w') (r : Option Nat) : w.grownBy w' r := ⟨h.os, h.tape, h.output, h.size, fun k hk _ => h.block k hk⟩
set_option maxHeartbeats 400000 in
theorem isNaN64_any (x : Int) (w : World) : Calls Try.prog 179 #[.int .i64 x] w fun e w' => e = .returned (.bool false) ∧ w' = w := by
  have h : (x != x) = false := by simp
  go_enter Try.func179, Try.ntmps179
  go_wp2
  go_ret
  exact ⟨rfl, rfl⟩
set_option maxHeartbeats 400000 in
theorem Less64_any (x y : Int) (w : World) : Calls Try.prog 196 #[.int .i64 x, .int .i64 y] w fun e w' => e = .returned (.bool (decide (x < y))) ∧ w' = w := by
  go_enter Try.func196, Try.ntmps196
  go_wp2_with (go_at_call 179; refine (isNaN64_any _ _).mono ?_; rintro e w' ⟨rfl, rfl⟩)
  go_ret
  exact ⟨rfl, rfl⟩
set_option maxRecDepth 20000 in
set_option maxHeartbeats 2000000 in
theorem Len64_any (n : Nat) (hn : n ≤ 12) (w : World) : Calls Try.prog 178 #[.int .u64 n] w fun e w' => ∃ k : Int, e = .returned (.int .i64 k) ∧ w' = w := by
  have h : n = 0 ∨ n = 1 ∨ n = 2 ∨ n = 3 ∨ n = 4 ∨ n = 5 ∨ n = 6 ∨ n = 7 ∨ n = 8 ∨ n = 9 ∨ n = 10 ∨ n = 11 ∨ n = 12 := by omega
  rcases h with rfl | rfl | rfl | rfl | rfl | rfl | rfl | rfl | rfl | rfl | rfl | rfl | rfl
  all_goals
    go_enter Try.func178, Try.ntmps178
    go_wp2
    go_ret
    exact ⟨_, rfl, rfl⟩
set_option maxHeartbeats 400000 in
theorem bitsLen_any (n : Nat) (hn : n ≤ 12) (w : World) : Calls Try.prog 137 #[.int .u64 n] w fun e w' => ∃ k : Int, e = .returned (.int .i64 k) ∧ w' = w := by
  go_enter Try.func137, Try.ntmps137
  go_wp2_with (go_at_call 178; refine (Len64_any _ hn _).mono ?_; rintro e w' ⟨k, rfl, rfl⟩)
  go_ret
  exact ⟨_, rfl, rfl⟩
set_option maxRecDepth 20000 in
set_option maxHeartbeats 2000000 in
theorem insertionSort_any {B E b off n c : Nat} (xs : List Int) (w : World) (h : OwnInts B E w (.slice (some ⟨b, off, none⟩) n c) xs) (hn : xs.length = n) (hl : n ≤ 12) :
    Calls Try.prog 190 #[.slice (some ⟨b, off, none⟩) n c, .int .i64 0, .int .i64 n] w fun e w' => e = .returned (.tuple #[]) ∧ OwnInts B E w' (.slice (some ⟨b, off, none⟩) n c) (insAll xs) ∧ w.grownBy w' (some b) := by
  have HN := hid hn
  have HH := hid h
  clear h hn
  go_enter Try.func190, Try.ntmps190
  go_wp2
  go_loopw [6, 7] (fun i j wr => ∃ m : Nat, 1 ≤ m ∧ m ≤ n + 1 ∧ i = .int .i64 m ∧ Hid (OwnInts B E wr (.slice (some ⟨b, off, none⟩) n c) (insTo xs (m - 1))) ∧ Hid (w.grownBy wr (some b)) ∧ (m = n + 1 → n = 0)) (fun i _ _ => n + 1 - (intOf i).toNat)
  case atStart => exact ⟨1, Nat.le_refl _, by omega, by go_num, hid HH.out, hid (grown_refl _ _), by omega⟩
  case round =>
    obtain ⟨m, hm1, hm2, rfl, ho, hg, hm0⟩ := hrel
    obtain ⟨wo, rfl⟩ : ∃ wo : World, wo = wr := ⟨_, rfl⟩
    by_cases hlt : m < n
    · have b1 : (m : Int) < (n : Int) := by omega
      go_wp2
      go_loopw [7] (fun k wr => ∃ (j : Nat) (ys : List Int), j ≤ m ∧ k = .int .i64 j ∧ ys.length = n ∧ Hid (downAt j ys = insTo xs m) ∧ Hid (OwnInts B E wr (.slice (some ⟨b, off, none⟩) n c) ys) ∧ Hid (w.grownBy wr (some b))) (fun k _ => (intOf k).toNat)
      case atStart => exact ⟨m, insTo xs (m - 1), Nat.le_refl _, rfl, by rw [insTo_len]; exact HN.out, hid (by obtain ⟨q, rfl⟩ : ∃ q, m = q + 1 := ⟨m - 1, by omega⟩; rfl), ho, hg⟩
      case round =>
        obtain ⟨j, ys, hj, rfl, hys, hd, ho2, hg2⟩ := hrel
        have HYS := hid hys
        clear hys
        cases j with
        | zero =>
          have e : ys = insTo xs m := hd.out
          have HO := hid (e ▸ ho2.out)
          clear ho2 hd e
          go_wp2_with fail
          go_quiet (first | (go_at_call 196; refine Calls.quiet_of_same (Less64_any _ _ _)))
          go_wp2
          go_roundw
          case rel => exact ⟨m + 1, by omega, by omega, by go_num, hid (HO.out.new ((New.refl _).drewN nq)), hid (grown_trans hg2.out (grown_of_new' ((New.refl _).drewN nq) _)), by omega⟩
          case measure => (try simp [intOf]) <;> omega
        | succ j =>
          obtain ⟨x1, f1⟩ := ho2.out.cell_at (j + 1) (by have := HYS.out; omega)
          obtain ⟨x0, f0⟩ := ho2.out.cell_at j (by have := HYS.out; omega)
          have k1 : ((j + 1 : Nat) : Int) < (n : Int) := by omega
          have k0 : (j : Int) < (n : Int) := by omega
          by_cases hq : nth ys (j + 1) < nth ys j
          · have hq' : decide (nth ys (j + 1) < nth ys j) = true := by simp [hq]
            have HD := hid (show downAt j (swapAt ys j) = insTo xs m by rw [← downAt_go j ys hq]; exact hd.out)
            clear hq hd
            go_wp2_with fail
            go_quiet (first | (go_at_call 196; refine Calls.quiet_of_same (Less64_any _ _ _)))
            go_wp2
            have hsw : OwnInts B E (((wr.drewN (nq + 1)).setCell ⟨b, off + (j + 1), none⟩ (.int .i64 (nth ys j))).setCell ⟨b, off + j, none⟩ (.int .i64 (nth ys (j + 1)))) (.slice (some ⟨b, off, none⟩) n c) (swapAt ys j) :=
              ((ho2.out.new ((New.refl _).drewN (nq + 1))).set (j + 1) (by have := HYS.out; omega) (nth ys j)).set j (by have := HYS.out; simp; omega) (nth ys (j + 1))
            have HSW := hid hsw
            clear hsw
            go_region
            all_goals go_wp2
            go_roundw
            case rel => exact ⟨j, swapAt ys j, by omega, rfl, by rw [swapAt_len]; exact HYS.out, HD, HSW, hid (grown_trans (grown_trans hg2.out (grown_trans (grown_of_new' ((New.refl _).drewN (nq + 1)) _) (grown_setCell _ ⟨b, off + (j + 1), none⟩ _))) (grown_setCell _ ⟨b, off + j, none⟩ _))⟩
            case measure => (try simp [intOf]) <;> omega
          · have hq' : decide (nth ys (j + 1) < nth ys j) = false := by simp; omega
            have HD := hid (show ys = insTo xs m by rw [← downAt_stay j ys hq]; exact hd.out)
            clear hq hd
            go_wp2_with fail
            go_quiet (first | (go_at_call 196; refine Calls.quiet_of_same (Less64_any _ _ _)))
            go_wp2
            go_roundw
            case rel => exact ⟨m + 1, by omega, by omega, by go_num, hid (by rw [show m + 1 - 1 = m from rfl, ← HD.out]; exact ho2.out.new ((New.refl _).drewN nq)), hid (grown_trans hg2.out (grown_of_new' ((New.refl _).drewN nq) _)), by omega⟩
            case measure => (try simp [intOf]) <;> omega
    · have hge : ¬ (m : Int) < (n : Int) := by omega
      have HO := hid (show OwnInts B E wo (.slice (some ⟨b, off, none⟩) n c) (insAll xs) by
        have := ho.out
        rw [insAll, HN.out]
        by_cases e : m = n
        · subst e; exact this
        · have h0 := hm0 (by omega)
          rw [show m - 1 = n - 1 by omega] at this
          exact this)
      clear ho
      go_wp2
      go_end0
      exact ⟨rfl, HO.out, hg.out⟩
set_option maxHeartbeats 1000000 in
theorem pdqsort_any {B E b off n c : Nat} (k : Int) (xs : List Int) (w : World) (h : OwnInts B E w (.slice (some ⟨b, off, none⟩) n c) xs) (hn : xs.length = n) (hl : n ≤ 12) :
    Calls Try.prog 184 #[.slice (some ⟨b, off, none⟩) n c, .int .i64 0, .int .i64 n, .int .i64 k] w fun e w' => e = .returned (.tuple #[]) ∧ OwnInts B E w' (.slice (some ⟨b, off, none⟩) n c) (insAll xs) ∧ w.grownBy w' (some b) := by
  have C := hid (insertionSort_any xs w h hn hl)
  clear h hn
  go_enter Try.func184, Try.ntmps184
  go_wp2
  refine wp_loop_rounds 1 ?_
  rw [rounds_succ]
  go_wp2_with (go_at_call 190; refine C.out.mono ?_; rintro e w' ⟨rfl, ho, hg⟩)
  (try simp only [Exit.inBlock, Exit.then]); refine bodyPost_ret (results_none rfl _ _ _) rfl ?_
  exact ⟨rfl, ho, hg⟩
set_option maxHeartbeats 1000000 in
theorem Sort64_any {B E b off n c : Nat} (xs : List Int) (w : World) (h : OwnInts B E w (.slice (some ⟨b, off, none⟩) n c) xs) (hn : xs.length = n) (hl : n ≤ 12) :
    Calls Try.prog 163 #[.slice (some ⟨b, off, none⟩) n c] w fun e w' => e = .returned (.tuple #[]) ∧ OwnInts B E w' (.slice (some ⟨b, off, none⟩) n c) (insAll xs) ∧ w.grownBy w' (some b) := by
  have C := hid (fun k => pdqsort_any k xs w h hn hl)
  clear h hn
  go_enter Try.func163, Try.ntmps163
  go_wp2_with (first
    | (go_at_call 137; refine (bitsLen_any _ hl _).mono ?_; rintro e w' ⟨k, rfl, rfl⟩)
    | (go_at_call 184; refine (C.out _).mono ?_; rintro e w' ⟨rfl, ho, hg⟩))
  go_end0
  exact ⟨rfl, ho, hg⟩

end Go.Proofs.Ytnhjoiafadapaaa
