/- The reference's words that distinguish two machines. -/
import Derived.Test.YtcjmcpfdpnakkaaRows
import Derived.Test.YtcjmcpfdpnakkaaBase
import Derived.Test.YtcjmcpfdpnakkaaAut
import Derived.Test.YtcjmcpfdpnakkaaMach
import Derived.Test.YtcjmcpfdpnakkaaApp
import Derived.Test.YtcjmcpfdpnakkaaAppRows
import Derived.Test.YtcjmcpfdpnakkaaInfo
import Derived.Test.YtcjmcpfdpnakkaaPlain1
import Derived.Test.YtcjmcpfdpnakkaaPlainRun
import Derived.Test.YtcjmcpfdpnakkaaPMach
import Derived.Test.YtcjmcpfdpnakkaaPlainSet
import Derived.Test.YtcjmcpfdpnakkaaPlainBits
import Derived.Test.YtcjmcpfdpnakkaaPlainTour
import Derived.Test.YtcjmcpfdpnakkaaPlainFirst
import Derived.Test.YtcjmcpfdpnakkaaPlainBfs
import Derived.Test.YtcjmcpfdpnakkaaPlainApart
import Derived.Test.YtcjmcpfdpnakkaaPlainOut
import Derived.Test.YtcjmcpfdpnakkaaXBox
import Derived.Test.YtcjmcpfdpnakkaaS01a
import Derived.Test.YtcjmcpfdpnakkaaS06b
import Derived.Test.YtcjmcpfdpnakkaaS06c
import Derived.Test.YtcjmcpfdpnakkaaSApart
import Derived.Test.YtcjmcpfdpnakkaaSApart2
import Derived.WalkKit
import Derived.WalkSpells
import Derived.WalkLawsBesides
import Derived.Deep.QuietTactic
import Derived.Deep.OwnRows
import Derived.BigQuiet
import Derived.KernelRfl
namespace Go.Proofs.Ytcjmcpfdpnakkaa
open Go.RowKit

set_option maxRecDepth 20000 in
set_option maxHeartbeats 1000000 in
theorem specMachineDifference_any (v1 v2 : Value) (a b : Mach) (w : World) (h1 : MachAt w v1 a) (h2 : MachAt w v2 b) :
    Calls Try.prog 16 #[v1, v2] w fun e w' => ∃ r, e = .returned (.tuple #[r, .int .i64 (MachineDifference a b).2]) ∧ New w w' ∧ OwnInts w.heap.size w'.heap.size w' r (MachineDifference a b).1 := by
  obtain ⟨r1, r2, rfl, hr1, hr2⟩ := h1
  obtain ⟨A1, c1, rfl⟩ := hr1.form
  obtain ⟨A2, c2, rfl⟩ := hr2.form
  obtain ⟨r3, r4, rfl, hr3, hr4⟩ := h2
  obtain ⟨A3, c3, rfl⟩ := hr3.form
  obtain ⟨A4, c4, rfl⟩ := hr4.form
  obtain ⟨wb, hwb⟩ : ∃ wb, wb = (w.alloc (.cells #[.int .i64 a.n, .int .i64 a.o, .slice A1 a.nx.length c1, .slice A2 a.out.length c2] 29)).alloc (.cells #[.int .i64 b.n, .int .i64 b.o, .slice A3 b.nx.length c3, .slice A4 b.out.length c4] 29) := ⟨_, rfl⟩
  have hp1 : PMach wb (.pointer (some ⟨w.heap.size, 0, none⟩)) a := by rw [hwb]; exact (PMach.box hr1 hr2 _).new ((New.refl _).alloc _)
  have hp2 : PMach wb (.pointer (some ⟨w.heap.size + 1, 0, none⟩)) b := by
    have := PMach.box (hr3.new ((New.refl w).alloc (.cells #[.int .i64 a.n, .int .i64 a.o, .slice A1 a.nx.length c1, .slice A2 a.out.length c2] 29))) (hr4.new ((New.refl w).alloc (.cells #[.int .i64 a.n, .int .i64 a.o, .slice A1 a.nx.length c1, .slice A2 a.out.length c2] 29))) 29
    rw [size_alloc] at this
    rw [hwb]; exact this
  have hnb : New w wb := by rw [hwb]; exact (by repeat (first | with_reducible exact New.refl _ | with_reducible assumption | with_reducible refine New.alloc ?_ _ | with_reducible refine New.drew ?_ | with_reducible refine New.drewN ?_ _ | with_reducible refine New.setCell ?_ (by simp <;> omega) _))
  have z1 : wb.cell? ⟨w.heap.size, 1, none⟩ = some (.int .i64 a.o) := by rw [hwb]; go_simp
  have z2 : wb.cell? ⟨w.heap.size, 2, none⟩ = some (.slice A1 a.nx.length c1) := by rw [hwb]; go_simp
  have z3 : wb.cell? ⟨w.heap.size + 1, 1, none⟩ = some (.int .i64 b.o) := by rw [hwb]; go_simp
  have z4 : wb.cell? ⟨w.heap.size + 1, 2, none⟩ = some (.slice A3 b.nx.length c3) := by rw [hwb]; go_simp
  obtain ⟨R, hR⟩ : ∃ R, R = MachineDifference a b := ⟨_, rfl⟩
  rw [← hR]
  unfold MachineDifference at hR
  have HR := hid hR
  clear hR
  have C1 := l06Ok_any _ a _ hp1
  have C2 := hid (fun w1 (hn : New wb w1) => l06Ok_any _ b w1 (hp2.new hn))
  have key : ∀ (code : Int) (w1 : World) (T : TypeId), New wb w1 → R = ([], code) → ∃ r, (Ending.returned (.tuple #[.slice (some ⟨w1.heap.size, 0, none⟩) 0 0, .int .i64 code]) = .returned (.tuple #[r, .int .i64 R.2])) ∧ New w (w1.alloc (.cells #[] T)) ∧ OwnInts w.heap.size (w1.alloc (.cells #[] T)).heap.size (w1.alloc (.cells #[] T)) r R.1 := fun code w1 T hn1 e => by
    have hs := (hnb.trans hn1).size
    rw [e]
    exact ⟨_, rfl, (hnb.trans hn1).alloc _, OwnInts.none' _ hs (by rw [size_alloc]; exact Nat.lt_succ_self _)⟩
  have KEY := hid key
  clear key
  cases ha : machOk a with
  | false =>
    rw [ha] at C1
    go_enter Try.func16, Try.ntmps16
    go_wp2_with fail
    rw [← hwb]
    refine C1.mono ?_
    rintro e w1 ⟨rfl, hn1⟩
    go_wp2
    go_ret2
    exact KEY.out 1 w1 _ hn1 (by rw [HR.out, ha]; rfl)
  | true =>
    rw [ha] at C1
    have HA := hid ha
    clear ha
    cases hb : machOk b with
    | false =>
      rw [hb] at C2
      have HB := hid hb
      clear hb
      go_enter Try.func16, Try.ntmps16
      go_wp2_with fail
      rw [← hwb]
      refine C1.mono ?_
      rintro e w1 ⟨rfl, hn1⟩
      go_wp2_with (go_at_call 65; refine (C2.out _ hn1).mono ?_; rintro e w2 ⟨rfl, hn2⟩)
      go_ret2
      exact KEY.out 1 w2 _ (hn1.trans hn2) (by rw [HR.out, HA.out, HB.out]; rfl)
    | true =>
      rw [hb] at C2
      have HB := hid hb
      clear hb
      by_cases hq : (decide (a.o = b.o) && decide (a.nx.length = b.nx.length)) = true
      · have hq' := hq
        rw [Bool.and_eq_true, decide_eq_true_eq, decide_eq_true_eq] at hq'
        obtain ⟨q1, q2⟩ := hq'
        have C5 := hid (fun w1 (hn : New wb w1) => l06Differ_any _ _ a b w1 (hp1.new hn) (hp2.new hn) HA.out HB.out q2)
        have HE := hid (show R = told (apartOf a b 0 0) by rw [HR.out, if_pos (by rw [HA.out, HB.out]; rfl), if_pos hq])
        obtain ⟨T, hT⟩ : ∃ T, T = apartOf a b 0 0 := ⟨_, rfl⟩
        rw [← hT] at C5 HE
        have e1 : (a.o != b.o) = false := by simp [q1]
        have e2 : ((a.nx.length : Int) != b.nx.length) = false := by simp [q2]
        clear hT hq q1 q2
        cases hb : T.2 with
        | true =>
          have HB := hid hb
          rw [hb] at C5
          clear hb
          go_enter Try.func16, Try.ntmps16
          go_wp2_with fail
          rw [← hwb]
          refine C1.mono ?_
          rintro e w1 ⟨rfl, hn1⟩
          go_wp2_with (first
            | (go_at_call 65; refine (C2.out _ hn1).mono ?_; rintro e w2 ⟨rfl, hn2⟩; have hq := hn1.trans hn2; have y1 := hq.cell z1; have y2 := hq.cell z2; have y3 := hq.cell z3; have y4 := hq.cell z4)
            | (go_at_call 66; refine (C5.out _ hq).mono ?_; rintro e w4 ⟨r, rfl, hn4, ho⟩; have hz4 := (hnb.trans hq).size))
          go_ret2
          have e : R = (T.1, 0) := by rw [HE.out]; unfold told; rw [if_pos HB.out]
          rw [e]
          exact ⟨_, rfl, (hnb.trans hq).trans hn4, ho.widen hz4 (Nat.le_refl _)⟩
        | false =>
          have HB := hid hb
          rw [hb] at C5
          clear hb
          go_enter Try.func16, Try.ntmps16
          go_wp2_with fail
          rw [← hwb]
          refine C1.mono ?_
          rintro e w1 ⟨rfl, hn1⟩
          go_wp2_with (first
            | (go_at_call 65; refine (C2.out _ hn1).mono ?_; rintro e w2 ⟨rfl, hn2⟩; have hq := hn1.trans hn2; have y1 := hq.cell z1; have y2 := hq.cell z2; have y3 := hq.cell z3; have y4 := hq.cell z4)
            | (go_at_call 66; refine (C5.out _ hq).mono ?_; rintro e w4 ⟨r, rfl, hn4, ho⟩))
          go_ret2
          exact KEY.out 6 w4 _ (hq.trans hn4) (by rw [HE.out]; unfold told; rw [if_neg (by rw [HB.out]; decide)])
      · have HE := hid (show R = ([], 2) by rw [HR.out, if_pos (by rw [HA.out, HB.out]; rfl), if_neg hq])
        by_cases q1 : a.o = b.o
        · have q2 : a.nx.length ≠ b.nx.length := fun e => hq (by rw [Bool.and_eq_true, decide_eq_true_eq, decide_eq_true_eq]; exact ⟨q1, e⟩)
          have e1 : (a.o != b.o) = false := by simp [q1]
          have e2 : ((a.nx.length : Int) != b.nx.length) = true := by simp; omega
          clear hq q1 q2
          go_enter Try.func16, Try.ntmps16
          go_wp2_with fail
          rw [← hwb]
          refine C1.mono ?_
          rintro e w1 ⟨rfl, hn1⟩
          go_wp2_with (go_at_call 65; refine (C2.out _ hn1).mono ?_; rintro e w2 ⟨rfl, hn2⟩; have hq := hn1.trans hn2; have y1 := hq.cell z1; have y2 := hq.cell z2; have y3 := hq.cell z3; have y4 := hq.cell z4)
          go_ret2
          exact KEY.out 2 w2 _ hq HE.out
        · have e1 : (a.o != b.o) = true := by simp [q1]
          clear hq q1
          go_enter Try.func16, Try.ntmps16
          go_wp2_with fail
          rw [← hwb]
          refine C1.mono ?_
          rintro e w1 ⟨rfl, hn1⟩
          go_wp2_with (go_at_call 65; refine (C2.out _ hn1).mono ?_; rintro e w2 ⟨rfl, hn2⟩; have hq := hn1.trans hn2; have y1 := hq.cell z1; have y2 := hq.cell z2; have y3 := hq.cell z3; have y4 := hq.cell z4)
          go_ret2
          exact KEY.out 2 w2 _ hq HE.out

end Go.Proofs.Ytcjmcpfdpnakkaa
