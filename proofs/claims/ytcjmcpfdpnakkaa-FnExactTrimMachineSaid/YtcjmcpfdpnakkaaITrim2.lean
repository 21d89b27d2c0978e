/- The program's machine of the states that can be reached from the first. -/
import Derived.Test.YtcjmcpfdpnakkaaRows
import Derived.Test.YtcjmcpfdpnakkaaCore
import Derived.Test.YtcjmcpfdpnakkaaInfo
import Derived.Test.YtcjmcpfdpnakkaaPlains
import Derived.Test.YtcjmcpfdpnakkaaPlainApart
import Derived.Test.YtcjmcpfdpnakkaaPlainTrim
import Derived.Test.YtcjmcpfdpnakkaaBox4
import Derived.Test.YtcjmcpfdpnakkaaMaps
import Derived.Test.YtcjmcpfdpnakkaaGrow2P
import Derived.Test.YtcjmcpfdpnakkaaGrowIR
import Derived.Test.YtcjmcpfdpnakkaaI01a
import Derived.Test.YtcjmcpfdpnakkaaI01b
import Derived.Test.YtcjmcpfdpnakkaaI06a
import Derived.Test.YtcjmcpfdpnakkaaI06b
import Derived.Test.YtcjmcpfdpnakkaaIIdx
import Derived.Test.YtcjmcpfdpnakkaaIRen
import Derived.Test.YtcjmcpfdpnakkaaITrim
import Derived.Test.YtcjmcpfdpnakkaaIPick
import Derived.WalkKit
import Derived.WalkSpells
import Derived.WalkLawsBesides
import Derived.Deep.QuietTactic
import Derived.Deep.OwnRows
import Derived.BigQuiet
import Derived.KernelRfl
namespace Go.Proofs.Ytcjmcpfdpnakkaa
open Go.RowKit

set_option maxHeartbeats 800000 in
theorem TrimMachine1_any (lb : Nat) (lv : Value) (xs : List Int) (x : Int) (w : World) (hc : w.cell? ⟨lb, 0, none⟩ = some lv) (h : IntsAt w lv xs) :
    Calls Try.prog 96 #[.int .i64 x, .pointer (some ⟨lb, 0, none⟩)] w fun e w' => e = .returned (.int .i64 (placeOf xs x)) ∧ w' = w := by
  obtain ⟨A, c, rfl⟩ := h.form
  have C := Index64_any _ xs x w h
  go_enter Try.func96, Try.ntmps96
  go_wp2_with (go_at_call 97; refine C.mono ?_; rintro e w' ⟨rfl, rfl⟩)
  go_ret
  exact ⟨rfl, rfl⟩
theorem pickOf_eq (m : Mach) (os : List Int) : pickW m os (placeOf os) = pickOf m os := rfl
set_option maxRecDepth 20000 in
set_option maxHeartbeats 4000000 in
theorem implTrimMachine_any (v1 : Value) (m : Mach) (w : World) (h1 : MachAt w v1 m) :
    Calls Try.prog 36 #[v1] w fun e w' => ∃ r, e = .returned (.tuple #[r, .int .i64 (TrimMachine m).2]) ∧ New w w' ∧ OwnMach w.heap.size w'.heap.size w' r (TrimMachine m).1 := by
  obtain ⟨r1, r2, rfl, hr1, hr2⟩ := h1
  obtain ⟨A1, c1, rfl⟩ := hr1.form
  obtain ⟨A2, c2, rfl⟩ := hr2.form
  obtain ⟨wb, hwb⟩ : ∃ wb, wb = (w.alloc (.cells #[.int .i64 m.n, .int .i64 m.o, .slice A1 m.nx.length c1, .slice A2 m.out.length c2] 29)).alloc (.cells #[.int .i64 0, .int .i64 0, .slice none 0 0, .slice none 0 0] 29) := ⟨_, rfl⟩
  have hnb : New w wb := by rw [hwb]; exact (by repeat (first | with_reducible exact New.refl _ | with_reducible assumption | with_reducible refine New.alloc ?_ _ | with_reducible refine New.drew ?_ | with_reducible refine New.drewN ?_ _ | with_reducible refine New.setCell ?_ (by simp <;> omega) _))
  have hzb : w.heap.size + 2 = wb.heap.size := by rw [hwb]; simp only [size_alloc]
  have hm1 : MachAt w (.agg #[.int .i64 m.n, .int .i64 m.o, .slice A1 m.nx.length c1, .slice A2 m.out.length c2]) m := ⟨_, _, rfl, hr1, hr2⟩
  have hb : Box4 wb w.heap.size (.int .i64 m.n) (.int .i64 m.o) (.slice A1 m.nx.length c1) (.slice A2 m.out.length c2) := by rw [hwb]; exact ⟨⟨by go_simp, by go_simp, by go_simp, by go_simp⟩, by go_simp, by go_simp, by go_simp, by go_simp⟩
  have hr : Box4 wb (w.heap.size + 1) (.int .i64 0) (.int .i64 0) (.slice none 0 0) (.slice none 0 0) := by rw [hwb]; exact ⟨⟨by go_simp, by go_simp, by go_simp, by go_simp⟩, by go_simp, by go_simp, by go_simp, by go_simp⟩
  obtain ⟨R, hR⟩ : ∃ R, R = TrimMachine m := ⟨_, rfl⟩
  rw [← hR]
  unfold TrimMachine at hR
  have HR := hid hR
  clear hR
  have C1 := implValidMachine_any _ m _ (hm1.new hnb)
  obtain ⟨⟨z0, z1, z2, z3⟩, _⟩ := id hb
  cases hm : machOk m with
  | false =>
    rw [hm] at C1
    go_enter Try.func36, Try.ntmps36
    go_wp2_with fail
    rw [← hwb]
    go_wp2_with fail
    refine C1.mono ?_
    rintro e w1 ⟨rfl, hn1⟩
    have hr' := hr.new hn1
    obtain ⟨⟨e0, e1, e2, e3⟩, f0, f1, f2, f3⟩ := id hr'
    have hz1 := hn1.size
    obtain ⟨⟨g0, g1, g2, g3⟩, _⟩ := hr'.fill (.int .i64 0) (.int .i64 0) (.slice none 0 0) (.slice none 0 0)
    go_wp2_with fail
    refine bodyPost_ret (v := .tuple #[.agg #[.int .i64 0, .int .i64 0, .slice none 0 0, .slice none 0 0], .int .i64 1]) (by simp [results, Try.results36, go_sem, g0, g1, g2, g3]) rfl ?_
    have e : R = (⟨0, 0, [], []⟩, 1) := by rw [HR.out, hm]; rfl
    rw [e]
    have HW := Within.fill4 w1 (w.heap.size + 1) (.int .i64 0) (.int .i64 0) (.slice none 0 0) (.slice none 0 0)
    have hnil := (Grow2P.nil w.heap.size 26 26 w1).mach (m := ⟨0, 0, [], []⟩) (by simp) (by simp)
    exact ⟨_, rfl, (hnb.trans hn1).within HW (by omega), OwnMach.parts ⟨_, _, _, rfl, Nat.le_refl _, Nat.le_trans (by omega) HW.2.2.2.1, ⟨none, 0, fun _ => default, rfl, by simp, by simp, by simp, by simp⟩, ⟨none, 0, fun _ => default, rfl, by simp, by simp, by simp, by simp⟩⟩⟩
  | true =>
    rw [hm] at C1
    have HC := hid (fun w1 (hn : New wb w1) => firstWords_any _ m w1 (hm1.new (hnb.trans hn)) hm)
    have HRE := hid (show R = (pickOf m (orderOf m), 0) by rw [HR.out, hm]; rfl)
    have HO := hid (order_ok hm)
    have HOL := hid (order_len hm)
    go_enter Try.func36, Try.ntmps36
    go_wp2_with fail
    rw [← hwb]
    go_wp2_with fail
    refine C1.mono ?_
    rintro e w1 ⟨rfl, hn1⟩
    replace z0 := hn1.cell z0
    replace z1 := hn1.cell z1
    replace z2 := hn1.cell z2
    replace z3 := hn1.cell z3
    go_wp2_with fail
    refine (HC.out _ hn1).mono ?_
    rintro e w2 ⟨r, rm, rfl, hn2, ho⟩
    obtain ⟨A3, c3, rfl⟩ := ho.form
    replace z0 := hn2.cell z0
    replace z1 := hn2.cell z1
    replace z2 := hn2.cell z2
    replace z3 := hn2.cell z3
    have hz1 := hn1.size
    have hz2 := hn2.size
    have hN2 := (hnb.trans hn1).trans hn2
    have hat := ho.at
    have hq : New w2 (w2.alloc (.cells #[.slice A3 (orderOf m).length c3] 26)) := (by repeat (first | with_reducible exact New.refl _ | with_reducible assumption | with_reducible refine New.alloc ?_ _ | with_reducible refine New.drew ?_ | with_reducible refine New.drewN ?_ _ | with_reducible refine New.setCell ?_ (by simp <;> omega) _))
    have hcell : (w2.alloc (.cells #[.slice A3 (orderOf m).length c3] 26)).cell? ⟨w2.heap.size, 0, none⟩ = some (.slice A3 (orderOf m).length c3) := cell_box1 _ _ _
    have CP := picked_any _ _ m (orderOf m) 96 #[.pointer (some ⟨w2.heap.size, 0, none⟩)] (placeOf (orderOf m)) _ (hm1.new (hN2.trans hq)) (hat.new hq) hm HO.out HOL.out.2
      (enters Try.func96 (by decide) (by simp [Try.f96])) fun w' hw x => TrimMachine1_any _ _ _ x w' (hw.cell hcell) (hat.new (hq.trans hw))
    rw [pickOf_eq] at CP
    obtain ⟨PK, hPK⟩ : ∃ z, z = pickOf m (orderOf m) := ⟨_, rfl⟩
    rw [← hPK] at CP HRE
    clear hPK
    have y0 := hq.cell z0
    have y1 := hq.cell z1
    have y2 := hq.cell z2
    have y3 := hq.cell z3
    go_wp2_with fail
    refine CP.mono ?_
    rintro e w3 ⟨r, rfl, hn3, ho3⟩
    have hN3 : New w w3 := (hN2.trans hq).trans hn3
    obtain ⟨q1, q2, rfl, hq1, hq2, _⟩ := id ho3
    obtain ⟨A5, c5, rfl⟩ := hq1.form
    obtain ⟨A6, c6, rfl⟩ := hq2.form
    have hr' := (((hr.new hn1).new hn2).new hq).new hn3
    obtain ⟨⟨e0, e1, e2, e3⟩, f0, f1, f2, f3⟩ := id hr'
    have hz3 := hn3.size
    simp only [size_alloc] at hz3 ho3
    obtain ⟨⟨g0, g1, g2, g3⟩, _⟩ := hr'.fill (.int .i64 PK.n) (.int .i64 PK.o) (.slice A5 PK.nx.length c5) (.slice A6 PK.out.length c6)
    go_wp2_with fail
    refine bodyPost_ret (v := .tuple #[.agg #[.int .i64 PK.n, .int .i64 PK.o, .slice A5 PK.nx.length c5, .slice A6 PK.out.length c6], .int .i64 0]) (by simp [results, Try.results36, go_sem, g0, g1, g2, g3]) rfl ?_
    rw [HRE.out]
    have HW := Within.fill4 w3 (w.heap.size + 1) (.int .i64 PK.n) (.int .i64 PK.o) (.slice A5 PK.nx.length c5) (.slice A6 PK.out.length c6)
    exact ⟨_, rfl, hN3.within HW (by omega), (ho3.within HW (Or.inr (by omega))).widen (by omega) HW.2.2.2.1⟩

end Go.Proofs.Ytcjmcpfdpnakkaa
