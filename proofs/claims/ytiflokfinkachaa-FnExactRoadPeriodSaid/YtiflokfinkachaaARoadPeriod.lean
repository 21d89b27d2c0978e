/- The law of RoadPeriod answers true. -/
import Derived.Test.YtiflokfinkachaaRows
import Derived.Test.YtiflokfinkachaaCore
import Derived.Test.YtiflokfinkachaaPlains
import Derived.Test.YtiflokfinkachaaJoins
import Derived.Test.YtiflokfinkachaaPers
import Derived.Test.YtiflokfinkachaaSArr
import Derived.Test.YtiflokfinkachaaSChoices
import Derived.Test.YtiflokfinkachaaSIsJoined
import Derived.Test.YtiflokfinkachaaIJoined
import Derived.Test.YtiflokfinkachaaSPer
import Derived.Test.YtiflokfinkachaaIPer
import Derived.Test.YtiflokfinkachaaWRoadPeriod
import Derived.Test.YtiflokfinkachaaI01a
import Derived.WalkKit
import Derived.WalkSpells
import Derived.WalkLawsBesides
import Derived.Deep.QuietTactic
import Derived.Deep.OwnRows
import Derived.BigQuiet
import Derived.KernelRfl
namespace Go.Proofs.Ytiflokfinkachaa
open Go.RowKit

def RoadPeriod (r : Aut) : Int × Int := if roadsOk r = true then (if joinedB (firstOf r) = true then ((periodN (firstOf r) : Nat), 0) else (0, 4)) else (0, 1)
set_option maxRecDepth 20000 in
set_option maxHeartbeats 1000000 in
theorem specRoadPeriod_any (v : Value) (r : Aut) (w : World) (h : CapAut w v r) :
    Calls Try.prog 49 #[v] w fun e w' => e = .returned (.tuple #[.int .i64 (RoadPeriod r).1, .int .i64 (RoadPeriod r).2]) ∧ New w w' := by
  obtain ⟨rv, rfl, hcr⟩ := h
  have hr := hcr.rows
  obtain ⟨A, c, rfl⟩ := hr.form
  obtain ⟨wb, hwb⟩ : ∃ wb, wb = w.alloc (.cells #[.int .i64 r.n, .slice A r.nx.length c] 59) := ⟨_, rfl⟩
  have hnb : New w wb := by rw [hwb]; exact (by repeat (first | with_reducible exact New.refl _ | with_reducible assumption | with_reducible refine New.alloc ?_ _ | with_reducible refine New.drewN ?_ _ | with_reducible refine New.drew ?_ | with_reducible refine New.trans ?_ (by with_reducible assumption)))
  have hp : PAut wb (.pointer (some ⟨w.heap.size, 0, none⟩)) r := by rw [hwb]; exact PAut.box hr _
  have hb1 : wb.cell? ⟨w.heap.size, 1, none⟩ = some (.slice A r.nx.length c) := by rw [hwb]; go_simp
  have C1 := l05Ok_any _ r _ hp
  obtain ⟨R, hR⟩ : ∃ R, R = RoadPeriod r := ⟨_, rfl⟩
  rw [← hR]
  unfold RoadPeriod at hR
  have HR := hid hR
  clear hR
  cases hm : roadsOk r with
  | false =>
    rw [hm] at C1
    have HE := hid (show R = (0, 1) by rw [HR.out, hm]; rfl)
    go_enter Try.func49, Try.ntmps49
    go_wp2_with fail
    rw [← hwb]
    refine C1.mono ?_
    rintro e w1 ⟨rfl, hn1⟩
    go_wp2_with fail
    go_ret2
    rw [HE.out]
    exact ⟨rfl, hnb.trans (by repeat (first | with_reducible exact New.refl _ | with_reducible assumption | with_reducible refine New.alloc ?_ _ | with_reducible refine New.drewN ?_ _ | with_reducible refine New.drew ?_ | with_reducible refine New.trans ?_ (by with_reducible assumption)))⟩
  | true =>
    rw [hm] at C1
    have hf := roads_facts hm
    have HF := hid hf
    have HE := hid (show R = if joinedB (firstOf r) = true then (((periodN (firstOf r) : Nat) : Int), (0 : Int)) else (0, 4) by rw [HR.out, hm]; rfl)
    have HC := hid (fun w1 (hn : New wb w1) => l05Choices_any w.heap.size (.slice A r.nx.length c) r.nx w1 (hn.cell hb1) (hcr.new (hnb.trans hn)) hf.n7 (fun i hi => by rw [hf.row i hi]; exact hf.l3))
    have hjd := fun (w : World) p (hp : PAut w p (firstOf r)) => l01Joined_any p (firstOf r) w hp (colour_ok hf 0)
    have hpd := fun (w : World) p (hp : PAut w p (firstOf r)) hj => l01Period_any p (firstOf r) w hp (colour_ok hf 0) hj
    have HPD := hid hpd
    clear hf hpd
    cases hj : joinedB (firstOf r) with
    | false =>
      simp only [hj] at hjd
      have HJD := hid hjd
      have HE2 := hid (show R = (0, 4) by rw [HE.out, hj]; rfl)
      clear hj hjd
      go_enter Try.func49, Try.ntmps49
      go_wp2_with fail
      rw [← hwb]
      refine C1.mono ?_
      rintro e w1 ⟨rfl, hn1⟩
      go_wp2_with fail
      refine (HC.out _ (by repeat (first | with_reducible exact New.refl _ | with_reducible assumption | with_reducible refine New.alloc ?_ _ | with_reducible refine New.drewN ?_ _ | with_reducible refine New.drew ?_ | with_reducible refine New.trans ?_ (by with_reducible assumption)))).mono ?_
      rintro e w2 ⟨rc, rfl, hn2, hc2⟩
      go_wp2_with fail
      refine (refAt_any _ r 0 w2 hc2 HF.out (by decide)).mono ?_
      rintro e w3 ⟨r3, rfl, hn3, ho3⟩
      obtain ⟨rv3, rfl, ho4⟩ := ho3
      obtain ⟨A3, c3, rfl⟩ := ho4.form
      have hp3 : PAut _ _ (firstOf r) := PAut.box (a := ⟨r.nx.length, atRows (choicesOf r) 0 (nth r.nx 0).length⟩) ho4.at 40
      go_wp2_with fail
      refine (HJD.out _ _ hp3).mono ?_
      rintro e w4 ⟨rfl, hn4⟩
      go_wp2_with fail
      go_ret2
      rw [HE2.out]
      exact ⟨rfl, (((hnb.trans (by repeat (first | with_reducible exact New.refl _ | with_reducible assumption | with_reducible refine New.alloc ?_ _ | with_reducible refine New.drewN ?_ _ | with_reducible refine New.drew ?_ | with_reducible refine New.trans ?_ (by with_reducible assumption)))).trans hn2).trans hn3).trans ((show New w3 _ from (by repeat (first | with_reducible exact New.refl _ | with_reducible assumption | with_reducible refine New.alloc ?_ _ | with_reducible refine New.drewN ?_ _ | with_reducible refine New.drew ?_ | with_reducible refine New.trans ?_ (by with_reducible assumption)))).trans hn4)⟩
    | true =>
      simp only [hj] at hjd
      have HJD := hid hjd
      have HJ := hid hj
      have HE2 := hid (show R = (((periodN (firstOf r) : Nat) : Int), 0) by rw [HE.out, hj]; rfl)
      clear hj hjd
      go_enter Try.func49, Try.ntmps49
      go_wp2_with fail
      rw [← hwb]
      refine C1.mono ?_
      rintro e w1 ⟨rfl, hn1⟩
      go_wp2_with fail
      refine (HC.out _ (by repeat (first | with_reducible exact New.refl _ | with_reducible assumption | with_reducible refine New.alloc ?_ _ | with_reducible refine New.drewN ?_ _ | with_reducible refine New.drew ?_ | with_reducible refine New.trans ?_ (by with_reducible assumption)))).mono ?_
      rintro e w2 ⟨rc, rfl, hn2, hc2⟩
      go_wp2_with fail
      refine (refAt_any _ r 0 w2 hc2 HF.out (by decide)).mono ?_
      rintro e w3 ⟨r3, rfl, hn3, ho3⟩
      obtain ⟨rv3, rfl, ho4⟩ := ho3
      obtain ⟨A3, c3, rfl⟩ := ho4.form
      have hp3 : PAut _ _ (firstOf r) := PAut.box (a := ⟨r.nx.length, atRows (choicesOf r) 0 (nth r.nx 0).length⟩) ho4.at 40
      go_wp2_with fail
      refine (HJD.out _ _ hp3).mono ?_
      rintro e w4 ⟨rfl, hn4⟩
      go_wp2_with fail
      refine (HPD.out _ _ (hp3.new (hn4.trans (by repeat (first | with_reducible exact New.refl _ | with_reducible assumption | with_reducible refine New.alloc ?_ _ | with_reducible refine New.drewN ?_ _ | with_reducible refine New.drew ?_ | with_reducible refine New.trans ?_ (by with_reducible assumption))))) HJ.out).mono ?_
      rintro e w5 ⟨rfl, hn5⟩
      go_wp2_with fail
      go_ret2
      rw [HE2.out]
      exact ⟨rfl, ((((hnb.trans (by repeat (first | with_reducible exact New.refl _ | with_reducible assumption | with_reducible refine New.alloc ?_ _ | with_reducible refine New.drewN ?_ _ | with_reducible refine New.drew ?_ | with_reducible refine New.trans ?_ (by with_reducible assumption)))).trans hn2).trans hn3).trans ((show New w3 _ from (by repeat (first | with_reducible exact New.refl _ | with_reducible assumption | with_reducible refine New.alloc ?_ _ | with_reducible refine New.drewN ?_ _ | with_reducible refine New.drew ?_ | with_reducible refine New.trans ?_ (by with_reducible assumption)))).trans hn4)).trans ((show New w4 _ from (by repeat (first | with_reducible exact New.refl _ | with_reducible assumption | with_reducible refine New.alloc ?_ _ | with_reducible refine New.drewN ?_ _ | with_reducible refine New.drew ?_ | with_reducible refine New.trans ?_ (by with_reducible assumption)))).trans hn5)⟩
set_option maxRecDepth 20000 in
set_option maxHeartbeats 1000000 in
theorem PeriodOf_any (v : Value) (a : Aut) (w : World) (h : AutAt w v a) (ha : autOk a = true) :
    Calls Try.prog 129 #[v] w fun e w' => e = .returned (.tuple #[.int .i64 (if joinedB a = true then ((periodN a : Nat) : Int) else 0), .int .i64 (if joinedB a = true then 0 else 4)]) ∧ New w w' := by
  obtain ⟨rv, rfl, hr⟩ := h
  obtain ⟨A, c, rfl⟩ := hr.form
  have h1 : AutAt w (.agg #[.int .i64 a.n, .slice A a.nx.length c]) a := ⟨_, rfl, hr⟩
  obtain ⟨wb, hwb⟩ : ∃ wb, wb = w.alloc (.cells #[.int .i64 a.n, .slice A a.nx.length c] 40) := ⟨_, rfl⟩
  have hnb : New w wb := by rw [hwb]; exact (by repeat (first | with_reducible exact New.refl _ | with_reducible assumption | with_reducible refine New.alloc ?_ _ | with_reducible refine New.drewN ?_ _ | with_reducible refine New.drew ?_ | with_reducible refine New.trans ?_ (by with_reducible assumption)))
  have hb0 : wb.cell? ⟨w.heap.size, 0, none⟩ = some (.int .i64 a.n) := by rw [hwb]; go_simp
  have hb1 : wb.cell? ⟨w.heap.size, 1, none⟩ = some (.slice A a.nx.length c) := by rw [hwb]; go_simp
  have C1 := fun w1 (hn : New w w1) => ValidAutomaton_any _ a w1 (h1.new hn)
  have C2 := fun w1 (hn : New w w1) => isConnected_any _ a w1 (h1.new hn) ha
  have C3 := hid (fun w1 (hn : New w w1) => period_any _ a w1 (h1.new hn) ha)
  simp only [ha] at C1
  have HC1 := hid C1
  clear ha C1
  cases hj : joinedB a with
  | false =>
    simp only [hj] at C2
    have HC2 := hid C2
    clear hj C2
    go_enter Try.func129, Try.ntmps129
    go_wp2_with fail
    rw [← hwb]
    go_wp2_with fail
    refine (HC1.out _ hnb).mono ?_
    rintro e w1 ⟨rfl, hn1⟩
    have z0 := hn1.cell hb0
    have z1 := hn1.cell hb1
    go_wp2_with fail
    refine (HC2.out _ (hnb.trans hn1)).mono ?_
    rintro e w2 ⟨rfl, hn2⟩
    go_wp2_with fail
    go_ret2
    exact ⟨rfl, (hnb.trans hn1).trans hn2⟩
  | true =>
    simp only [hj] at C2
    have HC2 := hid C2
    clear hj C2
    go_enter Try.func129, Try.ntmps129
    go_wp2_with fail
    rw [← hwb]
    go_wp2_with fail
    refine (HC1.out _ hnb).mono ?_
    rintro e w1 ⟨rfl, hn1⟩
    have z0 := hn1.cell hb0
    have z1 := hn1.cell hb1
    go_wp2_with fail
    refine (HC2.out _ (hnb.trans hn1)).mono ?_
    rintro e w2 ⟨rfl, hn2⟩
    replace z0 := hn2.cell z0
    replace z1 := hn2.cell z1
    go_wp2_with fail
    refine (C3.out _ ((hnb.trans hn1).trans hn2)).mono ?_
    rintro e w3 ⟨rfl, hn3⟩
    go_wp2_with fail
    go_ret2
    exact ⟨rfl, ((hnb.trans hn1).trans hn2).trans hn3⟩
set_option maxRecDepth 20000 in
set_option maxHeartbeats 1000000 in
theorem implRoadPeriod_any (v : Value) (r : Aut) (w : World) (h : AutAt w v r) :
    Calls Try.prog 50 #[v] w fun e w' => e = .returned (.tuple #[.int .i64 (RoadPeriod r).1, .int .i64 (RoadPeriod r).2]) ∧ New w w' := by
  obtain ⟨rv, rfl, hr⟩ := h
  obtain ⟨A, c, rfl⟩ := hr.form
  obtain ⟨wb, hwb⟩ : ∃ wb, wb = w.alloc (.cells #[.int .i64 r.n, .slice A r.nx.length c] 59) := ⟨_, rfl⟩
  have hnb : New w wb := by rw [hwb]; exact (by repeat (first | with_reducible exact New.refl _ | with_reducible assumption | with_reducible refine New.alloc ?_ _ | with_reducible refine New.drewN ?_ _ | with_reducible refine New.drew ?_ | with_reducible refine New.trans ?_ (by with_reducible assumption)))
  have hb0 : wb.cell? ⟨w.heap.size, 0, none⟩ = some (.int .i64 r.n) := by rw [hwb]; go_simp
  have hb1 : wb.cell? ⟨w.heap.size, 1, none⟩ = some (.slice A r.nx.length c) := by rw [hwb]; go_simp
  have h1 : AutAt w (.agg #[.int .i64 r.n, .slice A r.nx.length c]) r := ⟨_, rfl, hr⟩
  have C1 := ValidRoads_any _ r _ (h1.new hnb)
  obtain ⟨R, hR⟩ : ∃ R, R = RoadPeriod r := ⟨_, rfl⟩
  rw [← hR]
  unfold RoadPeriod at hR
  have HR := hid hR
  clear hR
  cases hm : roadsOk r with
  | false =>
    rw [hm] at C1
    have HE := hid (show R = (0, 1) by rw [HR.out, hm]; rfl)
    go_enter Try.func50, Try.ntmps50
    go_wp2_with fail
    rw [← hwb]
    go_wp2_with fail
    refine C1.mono ?_
    rintro e w1 ⟨rfl, hn1⟩
    go_wp2_with fail
    go_ret2
    rw [HE.out]
    exact ⟨rfl, hnb.trans hn1⟩
  | true =>
    rw [hm] at C1
    have hf := roads_facts hm
    have HF := hid hf
    have HE := hid (show R = ((if joinedB (firstOf r) = true then ((periodN (firstOf r) : Nat) : Int) else 0), (if joinedB (firstOf r) = true then 0 else 4)) by rw [HR.out, hm]; cases joinedB (firstOf r) <;> rfl)
    have HC := hid (fun w1 (hn : New wb w1) => firstPaint_any _ r w1 (h1.new (hnb.trans hn)) hf)
    have HP := hid (fun (w1 : World) v3 (h3 : AutAt w1 v3 (firstOf r)) => PeriodOf_any v3 (firstOf r) w1 h3 (colour_ok hf 0))
    obtain ⟨P1, hP1⟩ : ∃ z, z = (if joinedB (firstOf r) = true then ((periodN (firstOf r) : Nat) : Int) else 0) := ⟨_, rfl⟩
    obtain ⟨P2, hP2⟩ : ∃ z : Int, z = (if joinedB (firstOf r) = true then 0 else 4) := ⟨_, rfl⟩
    rw [← hP1, ← hP2] at HE HP
    clear hf hP1 hP2
    go_enter Try.func50, Try.ntmps50
    go_wp2_with fail
    rw [← hwb]
    go_wp2_with fail
    refine C1.mono ?_
    rintro e w1 ⟨rfl, hn1⟩
    have z0 := hn1.cell hb0
    have z1 := hn1.cell hb1
    go_wp2_with fail
    refine (HC.out _ hn1).mono ?_
    rintro e w2 ⟨pv, rfl, hn2, hat⟩
    go_wp2_with fail
    refine (hat 0 (by decide) w2 (New.refl _)).mono ?_
    rintro e w3 ⟨r3, rfl, hn3, ho3⟩
    go_wp2_with fail
    refine (HP.out w3 _ ho3.at).mono ?_
    rintro e w4 ⟨rfl, hn4⟩
    go_wp2_with fail
    go_ret2
    rw [HE.out]
    exact ⟨rfl, (((hnb.trans hn1).trans hn2).trans hn3).trans hn4⟩
theorem FnExactRoadPeriod_any (v0 : Value) (a0 : Aut) (w : World) (h0 : AutAt w v0 a0) :
    Calls Try.prog 10 #[v0] w fun e w' => e = .returned (.bool true) ∧ New w w' :=
  FnExactRoadPeriod_walk v0 a0 (RoadPeriod a0).1 (RoadPeriod a0).2 w h0 (fun w u0 k0 => specRoadPeriod_any u0 a0 w k0) (fun w u0 k0 => implRoadPeriod_any u0 a0 w k0)

end Go.Proofs.Ytiflokfinkachaa
