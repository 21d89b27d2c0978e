/- The program's words that distinguish two states, or two machines. -/
import Derived.Test.YtcjmcpfdpnakkaaRows
import Derived.Test.YtcjmcpfdpnakkaaBase
import Derived.Test.YtcjmcpfdpnakkaaAut
import Derived.Test.YtcjmcpfdpnakkaaMach
import Derived.Test.YtcjmcpfdpnakkaaApp
import Derived.Test.YtcjmcpfdpnakkaaInfo
import Derived.Test.YtcjmcpfdpnakkaaPlain1
import Derived.Test.YtcjmcpfdpnakkaaPlainRun
import Derived.Test.YtcjmcpfdpnakkaaPMach
import Derived.Test.YtcjmcpfdpnakkaaPlainSet
import Derived.Test.YtcjmcpfdpnakkaaPlainBits
import Derived.Test.YtcjmcpfdpnakkaaPlainTour
import Derived.Test.YtcjmcpfdpnakkaaPlainFirst
import Derived.Test.YtcjmcpfdpnakkaaPlainBfs
import Derived.Test.YtcjmcpfdpnakkaaPlainApart
import Derived.Test.YtcjmcpfdpnakkaaPlainOut
import Derived.Test.YtcjmcpfdpnakkaaI01a
import Derived.Test.YtcjmcpfdpnakkaaI01b
import Derived.Test.YtcjmcpfdpnakkaaI01c
import Derived.Test.YtcjmcpfdpnakkaaI06a
import Derived.Test.YtcjmcpfdpnakkaaI06b
import Derived.Test.YtcjmcpfdpnakkaaIApart
import Derived.WalkKit
import Derived.WalkSpells
import Derived.WalkLawsBesides
import Derived.Deep.QuietTactic
import Derived.Deep.OwnRows
import Derived.BigQuiet
import Derived.KernelRfl
namespace Go.Proofs.Ytcjmcpfdpnakkaa
open Go.RowKit

set_option maxHeartbeats 800000 in
theorem DistinguishingWord1_any (b1 b2 b3 : Nat) (r1 r2 : Value) (m : Mach) (s t : Int) (w : World) (hm : machOk m = true)
    (h0 : w.cell? ⟨b1, 0, none⟩ = some (.int .i64 m.n)) (h1 : w.cell? ⟨b1, 1, none⟩ = some (.int .i64 m.o)) (h2 : w.cell? ⟨b1, 2, none⟩ = some r1) (h3 : w.cell? ⟨b1, 3, none⟩ = some r2) (hr1 : RowsAt w r1 m.nx) (hr2 : RowsAt w r2 m.out)
    (hs : w.cell? ⟨b2, 0, none⟩ = some (.int .i64 s)) (ht : w.cell? ⟨b3, 0, none⟩ = some (.int .i64 t)) :
    Calls Try.prog 92 #[.pointer (some ⟨b1, 0, none⟩), .pointer (some ⟨b2, 0, none⟩), .pointer (some ⟨b3, 0, none⟩)] w fun e w' => e = .returned (.bool (inB s 0 (m.n - 1) && inB t 0 (m.n - 1))) ∧ New w w' := by
  obtain ⟨n1, n2⟩ := mach_n hm
  have hM : MachAt w (.agg #[.int .i64 m.n, .int .i64 m.o, r1, r2]) m := ⟨_, _, rfl, hr1, hr2⟩
  clear hm
  have C := MisState_any _ m s _ hM (by omega) (by omega)
  cases hs' : inB s 0 (m.n - 1) with
  | false =>
    rw [hs'] at C
    go_enter Try.func92, Try.ntmps92
    go_wp2_with (go_at_call 76; refine C.mono ?_; rintro e w1 ⟨rfl, hn1⟩)
    go_ret
    exact ⟨rfl, hn1⟩
  | true =>
    rw [hs'] at C
    have HC2 := hid (fun w1 (hn : New w w1) => MisState_any _ m t w1 (hM.new hn) (by omega) (by omega))
    go_enter Try.func92, Try.ntmps92
    go_wp2_with fail
    refine C.mono ?_
    rintro e w1 ⟨rfl, hn1⟩
    replace h0 := hn1.cell h0
    replace h1 := hn1.cell h1
    replace h2 := hn1.cell h2
    replace h3 := hn1.cell h3
    replace ht := hn1.cell ht
    go_wp2_with fail
    refine (HC2.out _ hn1).mono ?_
    rintro e w2 ⟨rfl, hn2⟩
    go_wp2_with fail
    go_ret
    exact ⟨rfl, hn1.trans hn2⟩
set_option maxRecDepth 20000 in
set_option maxHeartbeats 1600000 in
theorem implDistinguishingWord_any (v1 : Value) (m : Mach) (s t : Int) (w : World) (h1 : MachAt w v1 m) :
    Calls Try.prog 34 #[v1, .int .i64 s, .int .i64 t] w fun e w' => ∃ r, e = .returned (.tuple #[r, .int .i64 (DistinguishingWord m s t).2]) ∧ New w w' ∧ OwnInts w.heap.size w'.heap.size w' r (DistinguishingWord m s t).1 := by
  obtain ⟨r1, r2, rfl, hr1, hr2⟩ := h1
  obtain ⟨A1, c1, rfl⟩ := hr1.form
  obtain ⟨A2, c2, rfl⟩ := hr2.form
  have h1 : MachAt w (.agg #[.int .i64 m.n, .int .i64 m.o, .slice A1 m.nx.length c1, .slice A2 m.out.length c2]) m := ⟨_, _, rfl, hr1, hr2⟩
  obtain ⟨wb, hwb⟩ : ∃ wb, wb = ((w.alloc (.cells #[.int .i64 m.n, .int .i64 m.o, .slice A1 m.nx.length c1, .slice A2 m.out.length c2] 29)).alloc (.cells #[.int .i64 s] 2)).alloc (.cells #[.int .i64 t] 2) := ⟨_, rfl⟩
  have hnb : New w wb := by rw [hwb]; exact (by repeat (first | with_reducible exact New.refl _ | with_reducible assumption | with_reducible refine New.alloc ?_ _ | with_reducible refine New.drew ?_ | with_reducible refine New.drewN ?_ _ | with_reducible refine New.setCell ?_ (by simp <;> omega) _))
  have z0 : wb.cell? ⟨w.heap.size, 0, none⟩ = some (.int .i64 m.n) := by rw [hwb]; go_simp
  have z1 : wb.cell? ⟨w.heap.size, 1, none⟩ = some (.int .i64 m.o) := by rw [hwb]; go_simp
  have z2 : wb.cell? ⟨w.heap.size, 2, none⟩ = some (.slice A1 m.nx.length c1) := by rw [hwb]; go_simp
  have z3 : wb.cell? ⟨w.heap.size, 3, none⟩ = some (.slice A2 m.out.length c2) := by rw [hwb]; go_simp
  have z4 : wb.cell? ⟨w.heap.size + 1, 0, none⟩ = some (.int .i64 s) := by rw [hwb]; go_simp
  have z5 : wb.cell? ⟨w.heap.size + 1 + 1, 0, none⟩ = some (.int .i64 t) := by rw [hwb]; go_simp
  have HC : Calls Try.prog 74 #[.agg #[.int .i64 m.n, .int .i64 m.o, .slice A1 m.nx.length c1, .slice A2 m.out.length c2], .func (.func 92) #[] #[.pointer (some ⟨w.heap.size, 0, none⟩), .pointer (some ⟨w.heap.size + 1, 0, none⟩), .pointer (some ⟨w.heap.size + 1 + 1, 0, none⟩)]] wb
      fun e w' => e = .returned (.int .i64 (codeOf (machOk m) (inB s 0 (m.n - 1) && inB t 0 (m.n - 1)))) ∧ New wb w' := by
    refine Mcode_any _ m _ _ _ _ (h1.new hnb) (enters Try.func92 (by decide) (by simp [Try.f92])) fun hm w' hw => ?_
    exact DistinguishingWord1_any _ _ _ _ _ m s t _ hm (hw.cell z0) (hw.cell z1) (hw.cell z2) (hw.cell z3) (hr1.new (hnb.trans hw)) (hr2.new (hnb.trans hw)) (hw.cell z4) (hw.cell z5)
  obtain ⟨R, hR⟩ : ∃ R, R = DistinguishingWord m s t := ⟨_, rfl⟩
  rw [← hR]
  unfold DistinguishingWord at hR
  have HR := hid hR
  clear hR
  cases ha : machOk m with
  | false =>
    rw [ha] at HC
    have e : codeOf false (inB s 0 (m.n - 1) && inB t 0 (m.n - 1)) = 1 := rfl
    rw [e] at HC
    go_enter Try.func34, Try.ntmps34
    go_wp2_with fail
    rw [← hwb]
    refine HC.mono ?_
    rintro e w1 ⟨rfl, hn1⟩
    go_wp2
    go_ret2
    have e : R = ([], 1) := by rw [HR.out, ha]; rfl
    rw [e]
    exact ⟨_, rfl, hnb.trans hn1, OwnInts.nil _ _ _⟩
  | true =>
    rw [ha] at HC
    have HA := hid ha
    cases hs : (inB s 0 (m.n - 1) && inB t 0 (m.n - 1)) with
    | false =>
      rw [hs] at HC
      have e : codeOf true false = 2 := rfl
      rw [e] at HC
      go_enter Try.func34, Try.ntmps34
      go_wp2_with fail
      rw [← hwb]
      refine HC.mono ?_
      rintro e w1 ⟨rfl, hn1⟩
      go_wp2
      go_ret2
      have e : R = ([], 2) := by rw [HR.out, HA.out, hs]; rfl
      rw [e]
      exact ⟨_, rfl, hnb.trans hn1, OwnInts.nil _ _ _⟩
    | true =>
      rw [hs] at HC
      have e : codeOf true true = 0 := rfl
      rw [e] at HC
      have hs' := hs
      rw [Bool.and_eq_true, inB_iff, inB_iff] at hs'
      have C5 := hid (fun w1 (hn : New w w1) => apart_any _ _ m m s t w1 (h1.new hn) (h1.new hn) ha ha rfl ⟨by show 0 ≤ s ∧ s < m.n; omega, by show 0 ≤ t ∧ t < m.n; omega⟩)
      have HE := hid (show R = told (apartOf m m s t) by rw [HR.out, if_pos HA.out, if_pos hs])
      obtain ⟨T, hT⟩ : ∃ T, T = apartOf m m s t := ⟨_, rfl⟩
      rw [← hT] at C5 HE
      clear hT hs hs' e ha
      cases hb : T.2 with
      | true =>
        have HB := hid hb
        rw [hb] at C5
        clear hb
        go_enter Try.func34, Try.ntmps34
        go_wp2_with fail
        rw [← hwb]
        refine HC.mono ?_
        rintro e w1 ⟨rfl, hn1⟩
        replace z0 := hn1.cell z0
        replace z1 := hn1.cell z1
        replace z2 := hn1.cell z2
        replace z3 := hn1.cell z3
        replace z4 := hn1.cell z4
        replace z5 := hn1.cell z5
        go_wp2_with fail
        refine (C5.out _ (hnb.trans hn1)).mono ?_
        rintro e w4 ⟨r, rfl, hn4, ho⟩
        have hz4 := (hnb.trans hn1).size
        go_wp2_with fail
        go_ret2
        have e : R = (T.1, 0) := by rw [HE.out]; unfold told; rw [if_pos HB.out]
        rw [e]
        exact ⟨_, rfl, (hnb.trans hn1).trans hn4, ho.widen hz4 (Nat.le_refl _)⟩
      | false =>
        have HB := hid hb
        rw [hb] at C5
        clear hb
        go_enter Try.func34, Try.ntmps34
        go_wp2_with fail
        rw [← hwb]
        refine HC.mono ?_
        rintro e w1 ⟨rfl, hn1⟩
        replace z0 := hn1.cell z0
        replace z1 := hn1.cell z1
        replace z2 := hn1.cell z2
        replace z3 := hn1.cell z3
        replace z4 := hn1.cell z4
        replace z5 := hn1.cell z5
        go_wp2_with fail
        refine (C5.out _ (hnb.trans hn1)).mono ?_
        rintro e w4 ⟨r, rfl, hn4, ho⟩
        go_wp2_with fail
        go_ret2
        have e : R = ([], 6) := by rw [HE.out]; unfold told; rw [if_neg (by rw [HB.out]; decide)]
        rw [e]
        exact ⟨_, rfl, (hnb.trans hn1).trans hn4, OwnInts.nil _ _ _⟩

end Go.Proofs.Ytcjmcpfdpnakkaa
