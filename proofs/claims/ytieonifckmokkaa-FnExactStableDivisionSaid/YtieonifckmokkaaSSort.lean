/- The reference's lists in order. -/
import Derived.Test.YtieonifckmokkaaRows
import Derived.Test.YtieonifckmokkaaCore
import Derived.Test.YtieonifckmokkaaInfos
import Derived.Test.YtieonifckmokkaaPlains
import Derived.Test.YtieonifckmokkaaJoins
import Derived.Test.YtieonifckmokkaaSOwn
import Derived.WalkKit
import Derived.WalkSpells
import Derived.WalkLawsBesides
import Derived.Deep.QuietTactic
import Derived.Deep.OwnRows
import Derived.BigQuiet
import Derived.KernelRfl
namespace Go.Proofs.Ytieonifckmokkaa
open Go.RowKit

set_option maxRecDepth 20000 in
set_option maxHeartbeats 2000000 in
theorem l05SortedC_any (v : Value) (xs : List Int) (w : World) (h : IntsAt w v xs) (hl : xs.length ≤ 1048576) :
    Calls Try.prog 211 #[v] w fun e w' => ∃ r, e = .returned r ∧ New w w' ∧ OwnInts w.heap.size w'.heap.size w' r (insAll xs) ∧ CapAt r := by
  by_cases h0 : xs.length = 0
  · have hx : xs = [] := List.length_eq_zero_iff.1 h0
    subst hx
    have C := l00OwnC_any v [] w h hl
    go_enter Try.func211, Try.ntmps211
    go_wp2_with fail
    refine C.mono ?_
    rintro e w1 ⟨r, he, hn1, ho1, hcp⟩
    obtain ⟨A, c, rfl⟩ := ho1.form
    subst he
    go_wp2
    go_loopw [4] (fun i wr => i = .int .i64 1 ∧ wr = w1) (fun _ _ => 0)
    case atStart => exact ⟨rfl, rfl⟩
    case round =>
      obtain ⟨rfl, rfl⟩ := hrel
      go_wp2
      go_ret
      exact ⟨_, rfl, hn1, ho1, hcp⟩
  · obtain ⟨n, hn⟩ : ∃ n, n = xs.length := ⟨_, rfl⟩
    have HN := hid hn
    have hn0 : 0 < n := by omega
    have hn1' : n ≤ 1048576 := by omega
    have C := l00OwnC_any v xs w h hl
    clear hn h0
    go_enter Try.func211, Try.ntmps211
    go_wp2_with fail
    refine C.mono ?_
    rintro e w1 ⟨r, he, hn1, ho1, hcp0⟩
    obtain ⟨b, off, c, rfl⟩ := ho1.addr (by have := HN.out; omega)
    rw [← HN.out] at ho1 he hcp0
    have HCP := hid hcp0
    clear hcp0
    subst he
    have hbB := ho1.cells.2
    obtain ⟨hb1, hb2, _⟩ := hbB
    obtain ⟨E, hE⟩ : ∃ E, E = w1.heap.size := ⟨_, rfl⟩
    rw [← hE] at ho1 hb2
    have HE := hid hE
    clear hE
    go_wp2
    go_loopw [4, 5, 6] (fun i k x wr => ∃ m : Nat, 1 ≤ m ∧ m ≤ n ∧ i = .int .i64 m ∧ Hid (OwnInts w.heap.size E wr (.slice (some ⟨b, off, none⟩) n c) (insTo xs (m - 1))) ∧ Hid (New w wr ∧ E ≤ wr.heap.size)) (fun i _ _ _ => n - (intOf i).toNat)
    case atStart => exact ⟨1, Nat.le_refl _, hn0, rfl, hid ho1, hid ⟨hn1, by rw [HE.out]; exact Nat.le_refl _⟩⟩
    case round =>
      obtain ⟨m, hm1, hm2, rfl, ho, hnw⟩ := hrel
      obtain ⟨wo, rfl⟩ : ∃ wo : World, wo = wr := ⟨_, rfl⟩
      by_cases hlt : m < n
      · have b1 : (m : Int) < (n : Int) := by omega
        go_wp2
        go_loopw [5, 6] (fun k x wr => ∃ (j : Nat) (ys : List Int), j ≤ m ∧ k = .int .i64 j ∧ ys.length = n ∧ Hid (downAt j ys = insTo xs m) ∧ Hid (OwnInts w.heap.size E wr (.slice (some ⟨b, off, none⟩) n c) ys) ∧ Hid (New w wr ∧ E ≤ wr.heap.size)) (fun k _ _ => (intOf k).toNat)
        case atStart => exact ⟨m, insTo xs (m - 1), Nat.le_refl _, rfl, by rw [insTo_len]; exact HN.out.symm, hid (by obtain ⟨q, rfl⟩ : ∃ q, m = q + 1 := ⟨m - 1, by omega⟩; rfl), ho, hnw⟩
        case round =>
          obtain ⟨j, ys, hj, rfl, hys, hd, ho2, hn2⟩ := hrel
          have HYS := hid hys
          clear hys
          cases j with
          | zero =>
            have e : ys = insTo xs m := hd.out
            have HO := hid (e ▸ ho2.out)
            clear ho2 hd
            go_wp2_with fail
            go_quiet (fail)
            go_wp2
            go_roundw
            case rel => exact ⟨m + 1, by omega, by omega, by go_num, hid (HO.out.new ((New.refl _).drewN nq)), hid ⟨hn2.out.1.drewN nq, hn2.out.2⟩⟩
            case measure => (try simp [intOf]) <;> omega
          | succ j =>
            obtain ⟨x1, f1⟩ := ho2.out.cell_at (j + 1) (by have := HYS.out; omega)
            obtain ⟨x0, f0⟩ := ho2.out.cell_at j (by have := HYS.out; omega)
            have k1 : ((j + 1 : Nat) : Int) < (n : Int) := by omega
            have k0 : (j : Int) < (n : Int) := by omega
            have e1 : ((j + 1 : Nat) : Int) - 1 = (j : Int) := by omega
            have kp : (0 : Int) < ((j + 1 : Nat) : Int) := by omega
            by_cases hq : nth ys (j + 1) < nth ys j
            · have hq' : decide (nth ys (j + 1) < nth ys j) = true := by simp [hq]
              have HD := hid (show downAt j (swapAt ys j) = insTo xs m by rw [← downAt_go j ys hq]; exact hd.out)
              clear hq hd
              go_wp2_with fail
              go_quiet (fail)
              have hsw : OwnInts w.heap.size E (((wr.drewN nq).setCell ⟨b, off + (j + 1), none⟩ (.int .i64 (nth ys j))).setCell ⟨b, off + j, none⟩ (.int .i64 (nth ys (j + 1)))) (.slice (some ⟨b, off, none⟩) n c) (swapAt ys j) :=
                ((ho2.out.new ((New.refl _).drewN nq)).set (j + 1) (by have := HYS.out; omega) (nth ys j)).set j (by have := HYS.out; simp; omega) (nth ys (j + 1))
              have HSW := hid hsw
              clear hsw
              go_wp2
              go_roundw
              case rel => exact ⟨j, swapAt ys j, by omega, by go_num, by rw [swapAt_len]; exact HYS.out, HD, HSW, hid ⟨((hn2.out.1.drewN nq).setCell hb1 _).setCell hb1 _, by simp only [size_setCell, size_drewN]; exact hn2.out.2⟩⟩
              case measure => (try simp [intOf]) <;> omega
            · have hq' : decide (nth ys (j + 1) < nth ys j) = false := by simp; omega
              have HD := hid (show ys = insTo xs m by rw [← downAt_stay j ys hq]; exact hd.out)
              clear hq hd
              go_wp2_with fail
              go_quiet (fail)
              go_wp2
              go_roundw
              case rel => exact ⟨m + 1, by omega, by omega, by go_num, hid (by rw [show m + 1 - 1 = m from rfl, ← HD.out]; exact ho2.out.new ((New.refl _).drewN nq)), hid ⟨hn2.out.1.drewN nq, hn2.out.2⟩⟩
              case measure => (try simp [intOf]) <;> omega
      · have e : m = n := by omega
        subst e
        go_wp2
        go_ret
        refine ⟨_, rfl, hnw.out.1, ?_, HCP.out⟩
        have := ho.out
        rw [show insAll xs = insTo xs (m - 1) by rw [insAll, ← HN.out]]
        exact this.widen (Nat.le_refl _) hnw.out.2
theorem l05Sorted_any (v : Value) (xs : List Int) (w : World) (h : IntsAt w v xs) (hl : xs.length ≤ 1048576) :
    Calls Try.prog 211 #[v] w fun e w' => ∃ r, e = .returned r ∧ New w w' ∧ OwnInts w.heap.size w'.heap.size w' r (insAll xs) :=
  (l05SortedC_any v xs w h hl).mono fun _e _w' ⟨r, he, hn, ho, _⟩ => ⟨r, he, hn, ho⟩

end Go.Proofs.Ytieonifckmokkaa
