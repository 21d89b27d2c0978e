/- The program's words that distinguish two machines. -/
import Derived.Test.YtcjmcpfdpnakkaaRows
import Derived.Test.YtcjmcpfdpnakkaaBase
import Derived.Test.YtcjmcpfdpnakkaaAut
import Derived.Test.YtcjmcpfdpnakkaaMach
import Derived.Test.YtcjmcpfdpnakkaaApp
import Derived.Test.YtcjmcpfdpnakkaaInfo
import Derived.Test.YtcjmcpfdpnakkaaPlain1
import Derived.Test.YtcjmcpfdpnakkaaPlainRun
import Derived.Test.YtcjmcpfdpnakkaaPMach
import Derived.Test.YtcjmcpfdpnakkaaPlainSet
import Derived.Test.YtcjmcpfdpnakkaaPlainBits
import Derived.Test.YtcjmcpfdpnakkaaPlainTour
import Derived.Test.YtcjmcpfdpnakkaaPlainFirst
import Derived.Test.YtcjmcpfdpnakkaaPlainBfs
import Derived.Test.YtcjmcpfdpnakkaaPlainApart
import Derived.Test.YtcjmcpfdpnakkaaPlainOut
import Derived.Test.YtcjmcpfdpnakkaaI01a
import Derived.Test.YtcjmcpfdpnakkaaI01b
import Derived.Test.YtcjmcpfdpnakkaaI06a
import Derived.Test.YtcjmcpfdpnakkaaI06b
import Derived.Test.YtcjmcpfdpnakkaaIApart
import Derived.WalkKit
import Derived.WalkSpells
import Derived.WalkLawsBesides
import Derived.Deep.QuietTactic
import Derived.Deep.OwnRows
import Derived.BigQuiet
import Derived.KernelRfl
namespace Go.Proofs.Ytcjmcpfdpnakkaa
open Go.RowKit

set_option maxHeartbeats 800000 in
theorem alike_any (v1 v2 : Value) (a b : Mach) (w : World) (h1 : MachAt w v1 a) (h2 : MachAt w v2 b) :
    Calls Try.prog 69 #[v1, v2] w fun e w' => e = .returned (.bool (decide (a.o = b.o) && decide (a.nx.length = b.nx.length))) ∧ New w w' := by
  obtain ⟨r1, r2, rfl, hr1, hr2⟩ := h1
  obtain ⟨A1, c1, rfl⟩ := hr1.form
  obtain ⟨A2, c2, rfl⟩ := hr2.form
  obtain ⟨r3, r4, rfl, hr3, hr4⟩ := h2
  obtain ⟨A3, c3, rfl⟩ := hr3.form
  obtain ⟨A4, c4, rfl⟩ := hr4.form
  by_cases q1 : a.o = b.o
  · have e1 : (a.o == b.o) = true := by simp [q1]
    have e2 : ((a.nx.length : Int) == b.nx.length) = decide (a.nx.length = b.nx.length) := by
      by_cases h : a.nx.length = b.nx.length
      · simp [h]
      · simp [h]; omega
    rw [← q1] at e1
    have e3 : (a.o == a.o) = true := by simp
    rw [← q1]
    go_enter Try.func69, Try.ntmps69
    go_wp2_with fail
    go_ret
    exact ⟨by simp, (by repeat (first | with_reducible exact New.refl _ | with_reducible assumption | with_reducible refine New.alloc ?_ _ | with_reducible refine New.drew ?_ | with_reducible refine New.drewN ?_ _ | with_reducible refine New.setCell ?_ (by simp <;> omega) _))⟩
  · have e1 : (a.o == b.o) = false := by simp [q1]
    go_enter Try.func69, Try.ntmps69
    go_wp2_with fail
    go_ret
    exact ⟨by simp [q1], (by repeat (first | with_reducible exact New.refl _ | with_reducible assumption | with_reducible refine New.alloc ?_ _ | with_reducible refine New.drew ?_ | with_reducible refine New.drewN ?_ _ | with_reducible refine New.setCell ?_ (by simp <;> omega) _))⟩
set_option maxRecDepth 20000 in
set_option maxHeartbeats 1600000 in
theorem implMachineDifference_any (v1 v2 : Value) (a b : Mach) (w : World) (h1 : MachAt w v1 a) (h2 : MachAt w v2 b) :
    Calls Try.prog 18 #[v1, v2] w fun e w' => ∃ r, e = .returned (.tuple #[r, .int .i64 (MachineDifference a b).2]) ∧ New w w' ∧ OwnInts w.heap.size w'.heap.size w' r (MachineDifference a b).1 := by
  obtain ⟨r1, r2, rfl, hr1, hr2⟩ := h1
  obtain ⟨A1, c1, rfl⟩ := hr1.form
  obtain ⟨A2, c2, rfl⟩ := hr2.form
  obtain ⟨r3, r4, rfl, hr3, hr4⟩ := h2
  obtain ⟨A3, c3, rfl⟩ := hr3.form
  obtain ⟨A4, c4, rfl⟩ := hr4.form
  have h1 : MachAt w (.agg #[.int .i64 a.n, .int .i64 a.o, .slice A1 a.nx.length c1, .slice A2 a.out.length c2]) a := ⟨_, _, rfl, hr1, hr2⟩
  have h2 : MachAt w (.agg #[.int .i64 b.n, .int .i64 b.o, .slice A3 b.nx.length c3, .slice A4 b.out.length c4]) b := ⟨_, _, rfl, hr3, hr4⟩
  obtain ⟨wb, hwb⟩ : ∃ wb, wb = (w.alloc (.cells #[.int .i64 a.n, .int .i64 a.o, .slice A1 a.nx.length c1, .slice A2 a.out.length c2] 29)).alloc (.cells #[.int .i64 b.n, .int .i64 b.o, .slice A3 b.nx.length c3, .slice A4 b.out.length c4] 29) := ⟨_, rfl⟩
  have hnb : New w wb := by rw [hwb]; exact (by repeat (first | with_reducible exact New.refl _ | with_reducible assumption | with_reducible refine New.alloc ?_ _ | with_reducible refine New.drew ?_ | with_reducible refine New.drewN ?_ _ | with_reducible refine New.setCell ?_ (by simp <;> omega) _))
  have z0 : wb.cell? ⟨w.heap.size, 0, none⟩ = some (.int .i64 a.n) := by rw [hwb]; go_simp
  have z1 : wb.cell? ⟨w.heap.size, 1, none⟩ = some (.int .i64 a.o) := by rw [hwb]; go_simp
  have z2 : wb.cell? ⟨w.heap.size, 2, none⟩ = some (.slice A1 a.nx.length c1) := by rw [hwb]; go_simp
  have z3 : wb.cell? ⟨w.heap.size, 3, none⟩ = some (.slice A2 a.out.length c2) := by rw [hwb]; go_simp
  have z4 : wb.cell? ⟨w.heap.size + 1, 0, none⟩ = some (.int .i64 b.n) := by rw [hwb]; go_simp
  have z5 : wb.cell? ⟨w.heap.size + 1, 1, none⟩ = some (.int .i64 b.o) := by rw [hwb]; go_simp
  have z6 : wb.cell? ⟨w.heap.size + 1, 2, none⟩ = some (.slice A3 b.nx.length c3) := by rw [hwb]; go_simp
  have z7 : wb.cell? ⟨w.heap.size + 1, 3, none⟩ = some (.slice A4 b.out.length c4) := by rw [hwb]; go_simp
  obtain ⟨R, hR⟩ : ∃ R, R = MachineDifference a b := ⟨_, rfl⟩
  rw [← hR]
  unfold MachineDifference at hR
  have HR := hid hR
  clear hR
  have C1 := implValidMachine_any _ a _ (h1.new hnb)
  have C2 := hid (fun w1 (hn : New wb w1) => implValidMachine_any _ b w1 (h2.new (hnb.trans hn)))
  have C3 := hid (fun w1 (hn : New wb w1) => alike_any _ _ a b w1 (h1.new (hnb.trans hn)) (h2.new (hnb.trans hn)))
  cases ha : machOk a with
  | false =>
    rw [ha] at C1
    go_enter Try.func18, Try.ntmps18
    go_wp2_with fail
    rw [← hwb]
    refine C1.mono ?_
    rintro e w1 ⟨rfl, hn1⟩
    go_wp2
    go_ret2
    have e : R = ([], 1) := by rw [HR.out, ha]; rfl
    rw [e]
    exact ⟨_, rfl, hnb.trans hn1, OwnInts.nil _ _ _⟩
  | true =>
    rw [ha] at C1
    have HA := hid ha
    cases hb : machOk b with
    | false =>
      rw [hb] at C2
      go_enter Try.func18, Try.ntmps18
      go_wp2_with fail
      rw [← hwb]
      refine C1.mono ?_
      rintro e w1 ⟨rfl, hn1⟩
      replace z4 := hn1.cell z4
      replace z5 := hn1.cell z5
      replace z6 := hn1.cell z6
      replace z7 := hn1.cell z7
      go_wp2_with fail
      refine (C2.out _ hn1).mono ?_
      rintro e w2 ⟨rfl, hn2⟩
      go_wp2
      go_ret2
      have e : R = ([], 1) := by rw [HR.out, ha, hb]; rfl
      rw [e]
      exact ⟨_, rfl, (hnb.trans hn1).trans hn2, OwnInts.nil _ _ _⟩
    | true =>
      rw [hb] at C2
      have HB := hid hb
      have a1 := mach_n ha
      have a2 := mach_n hb
      have HC5 := hid (fun (q2 : a.nx.length = b.nx.length) w1 (hn : New w w1) => apart_any _ _ a b 0 0 w1 (h1.new hn) (h2.new hn) ha hb q2 ⟨by show 0 ≤ (0 : Int) ∧ 0 < a.n; omega, by show 0 ≤ (0 : Int) ∧ 0 < b.n; omega⟩)
      clear ha hb
      cases hq : (decide (a.o = b.o) && decide (a.nx.length = b.nx.length)) with
      | false =>
        rw [hq] at C3
        have HE := hid (show R = ([], 2) by rw [HR.out, if_pos (by rw [HA.out, HB.out]; rfl), if_neg (by rw [hq]; decide)])
        clear hq
        go_enter Try.func18, Try.ntmps18
        go_wp2_with fail
        rw [← hwb]
        refine C1.mono ?_
        rintro e w1 ⟨rfl, hn1⟩
        replace z0 := hn1.cell z0
        replace z1 := hn1.cell z1
        replace z2 := hn1.cell z2
        replace z3 := hn1.cell z3
        replace z4 := hn1.cell z4
        replace z5 := hn1.cell z5
        replace z6 := hn1.cell z6
        replace z7 := hn1.cell z7
        go_wp2_with fail
        refine (C2.out _ hn1).mono ?_
        rintro e w2 ⟨rfl, hn2⟩
        replace z0 := hn2.cell z0
        replace z1 := hn2.cell z1
        replace z2 := hn2.cell z2
        replace z3 := hn2.cell z3
        replace z4 := hn2.cell z4
        replace z5 := hn2.cell z5
        replace z6 := hn2.cell z6
        replace z7 := hn2.cell z7
        go_wp2_with fail
        refine (C3.out _ (hn1.trans hn2)).mono ?_
        rintro e w3 ⟨rfl, hn3⟩
        go_wp2
        go_ret2
        rw [HE.out]
        exact ⟨_, rfl, ((hnb.trans hn1).trans hn2).trans hn3, OwnInts.nil _ _ _⟩
      | true =>
        rw [hq] at C3
        have hq' := hq
        rw [Bool.and_eq_true, decide_eq_true_eq, decide_eq_true_eq] at hq'
        have q2 := hq'.2
        clear hq'
        have C5 := hid (HC5.out q2)
        have HE := hid (show R = told (apartOf a b 0 0) by rw [HR.out, if_pos (by rw [HA.out, HB.out]; rfl), if_pos hq])
        obtain ⟨T, hT⟩ : ∃ T, T = apartOf a b 0 0 := ⟨_, rfl⟩
        rw [← hT] at C5 HE
        clear hT hq q2
        cases hb : T.2 with
        | true =>
          have HTB := hid hb
          rw [hb] at C5
          clear hb
          go_enter Try.func18, Try.ntmps18
          go_wp2_with fail
          rw [← hwb]
          refine C1.mono ?_
          rintro e w1 ⟨rfl, hn1⟩
          replace z0 := hn1.cell z0
          replace z1 := hn1.cell z1
          replace z2 := hn1.cell z2
          replace z3 := hn1.cell z3
          replace z4 := hn1.cell z4
          replace z5 := hn1.cell z5
          replace z6 := hn1.cell z6
          replace z7 := hn1.cell z7
          go_wp2_with fail
          refine (C2.out _ hn1).mono ?_
          rintro e w2 ⟨rfl, hn2⟩
          replace z0 := hn2.cell z0
          replace z1 := hn2.cell z1
          replace z2 := hn2.cell z2
          replace z3 := hn2.cell z3
          replace z4 := hn2.cell z4
          replace z5 := hn2.cell z5
          replace z6 := hn2.cell z6
          replace z7 := hn2.cell z7
          go_wp2_with fail
          refine (C3.out _ (hn1.trans hn2)).mono ?_
          rintro e w3 ⟨rfl, hn3⟩
          replace z0 := hn3.cell z0
          replace z1 := hn3.cell z1
          replace z2 := hn3.cell z2
          replace z3 := hn3.cell z3
          replace z4 := hn3.cell z4
          replace z5 := hn3.cell z5
          replace z6 := hn3.cell z6
          replace z7 := hn3.cell z7
          have hn := ((hnb.trans hn1).trans hn2).trans hn3
          go_wp2_with fail
          refine (C5.out _ hn).mono ?_
          rintro e w4 ⟨r, rfl, hn4, ho⟩
          have hz4 := hn.size
          go_wp2_with fail
          go_ret2
          have e : R = (T.1, 0) := by rw [HE.out]; unfold told; rw [if_pos HTB.out]
          rw [e]
          exact ⟨_, rfl, hn.trans hn4, ho.widen hz4 (Nat.le_refl _)⟩
        | false =>
          have HTB := hid hb
          rw [hb] at C5
          clear hb
          go_enter Try.func18, Try.ntmps18
          go_wp2_with fail
          rw [← hwb]
          refine C1.mono ?_
          rintro e w1 ⟨rfl, hn1⟩
          replace z0 := hn1.cell z0
          replace z1 := hn1.cell z1
          replace z2 := hn1.cell z2
          replace z3 := hn1.cell z3
          replace z4 := hn1.cell z4
          replace z5 := hn1.cell z5
          replace z6 := hn1.cell z6
          replace z7 := hn1.cell z7
          go_wp2_with fail
          refine (C2.out _ hn1).mono ?_
          rintro e w2 ⟨rfl, hn2⟩
          replace z0 := hn2.cell z0
          replace z1 := hn2.cell z1
          replace z2 := hn2.cell z2
          replace z3 := hn2.cell z3
          replace z4 := hn2.cell z4
          replace z5 := hn2.cell z5
          replace z6 := hn2.cell z6
          replace z7 := hn2.cell z7
          go_wp2_with fail
          refine (C3.out _ (hn1.trans hn2)).mono ?_
          rintro e w3 ⟨rfl, hn3⟩
          replace z0 := hn3.cell z0
          replace z1 := hn3.cell z1
          replace z2 := hn3.cell z2
          replace z3 := hn3.cell z3
          replace z4 := hn3.cell z4
          replace z5 := hn3.cell z5
          replace z6 := hn3.cell z6
          replace z7 := hn3.cell z7
          have hn := ((hnb.trans hn1).trans hn2).trans hn3
          go_wp2_with fail
          refine (C5.out _ hn).mono ?_
          rintro e w4 ⟨r, rfl, hn4, ho⟩
          go_wp2_with fail
          go_ret2
          have e : R = ([], 6) := by rw [HE.out]; unfold told; rw [if_neg (by rw [HTB.out]; decide)]
          rw [e]
          exact ⟨_, rfl, hn.trans hn4, OwnInts.nil _ _ _⟩

end Go.Proofs.Ytcjmcpfdpnakkaa
