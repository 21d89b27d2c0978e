/- The program's answer to whether an automaton is a colouring of roads. -/
import Derived.Test.YtiflokfinkachaaRows
import Derived.Test.YtiflokfinkachaaCore
import Derived.Test.YtiflokfinkachaaInfo
import Derived.Test.YtiflokfinkachaaPlains
import Derived.Test.YtiflokfinkachaaJoins
import Derived.Test.YtiflokfinkachaaI01b
import Derived.Test.YtiflokfinkachaaIRoads
import Derived.Test.YtiflokfinkachaaI05a
import Derived.WalkKit
import Derived.WalkSpells
import Derived.WalkLawsBesides
import Derived.Deep.QuietTactic
import Derived.Deep.OwnRows
import Derived.BigQuiet
import Derived.KernelRfl
import Derived.Deep.RegionLaw
namespace Go.Proofs.Ytiflokfinkachaa
open Go.RowKit

set_option maxHeartbeats 1600000 in
theorem implIsColouring_any (v1 v2 : Value) (r a : Aut) (w : World) (h1 : AutAt w v1 r) (h2 : AutAt w v2 a) :
    Calls Try.prog 118 #[v1, v2] w fun e w' => e = .returned (.tuple #[.bool (IsColouring r a).1, .int .i64 (IsColouring r a).2]) ∧ New w w' := by
  obtain ⟨rv, rfl, hr⟩ := h1
  obtain ⟨av, rfl, ha⟩ := h2
  obtain ⟨A, c, rfl⟩ := hr.form
  obtain ⟨A2, c2, rfl⟩ := ha.form
  obtain ⟨wb, hwb⟩ : ∃ wb, wb = (w.alloc (.cells #[.int .i64 r.n, .slice A r.nx.length c] 59)).alloc (.cells #[.int .i64 a.n, .slice A2 a.nx.length c2] 40) := ⟨_, rfl⟩
  have hn0 : New w wb := by rw [hwb]; exact (by repeat (first | with_reducible exact New.refl _ | with_reducible assumption | with_reducible refine New.alloc ?_ _ | with_reducible refine New.drew ?_ | with_reducible refine New.drewN ?_ _ | with_reducible refine New.setCell ?_ (by simp <;> omega) _))
  have ha' : AutAt wb (.agg #[.int .i64 a.n, .slice A2 a.nx.length c2]) a := ⟨_, rfl, ha.new hn0⟩
  have hr' : AutAt wb (.agg #[.int .i64 r.n, .slice A r.nx.length c]) r := ⟨_, rfl, hr.new hn0⟩
  have z0 : wb.cell? ⟨w.heap.size, 0, none⟩ = some (.int .i64 r.n) := by rw [hwb]; go_simp
  have z1 : wb.cell? ⟨w.heap.size, 1, none⟩ = some (.slice A r.nx.length c) := by rw [hwb]; go_simp
  have z2 : wb.cell? ⟨w.heap.size + 1, 0, none⟩ = some (.int .i64 a.n) := by rw [hwb]; go_simp
  have z3 : wb.cell? ⟨w.heap.size + 1, 1, none⟩ = some (.slice A2 a.nx.length c2) := by rw [hwb]; go_simp
  obtain ⟨R, hR⟩ : ∃ R, R = IsColouring r a := ⟨_, rfl⟩
  rw [← hR]
  unfold IsColouring at hR
  have C1 := ValidRoads_any _ r _ hr'
  cases h1 : roadsOk r with
  | false =>
    rw [h1] at C1
    have e : R = (false, 1) := by rw [hR, h1]; rfl
    rw [e]
    clear hR e
    go_enter Try.func118, Try.ntmps118
    go_wp2_with fail
    rw [← hwb]
    clear hwb
    refine C1.mono ?_
    rintro e w1 ⟨rfl, hn1⟩
    go_wp2_with fail
    go_ret2
    exact ⟨rfl, hn0.trans hn1⟩
  | true =>
    rw [h1] at C1
    have C2 := fun w1 (hn : New wb w1) => ValidAutomaton_any _ a w1 (ha'.new hn)
    cases h2 : autOk a with
    | false =>
      rw [h2] at C2
      have e : R = (false, 1) := by rw [hR, h1, h2]; rfl
      rw [e]
      clear hR e
      go_enter Try.func118, Try.ntmps118
      go_wp2_with fail
      rw [← hwb]
      clear hwb
      refine C1.mono ?_
      rintro e w1 ⟨rfl, hn1⟩
      replace z2 := hn1.cell z2
      replace z3 := hn1.cell z3
      go_wp2_with fail
      refine (C2 _ hn1).mono ?_
      rintro e w2 ⟨rfl, hn2⟩
      go_wp2_with fail
      go_ret2
      exact ⟨rfl, (hn0.trans hn1).trans hn2⟩
    | true =>
      rw [h2] at C2
      have e : R = (decide (r = roadsOf a), 0) := by rw [hR, h1, h2]; rfl
      rw [e]
      have H2 := hid h2
      have CR := fun w1 (hn : New wb w1) => roads_any _ a w1 (ha'.new hn) H2.out
      have CS := fun w1 (hn : New wb w1) q (hq : AutAt w1 q (roadsOf a)) => SameRoads_any _ _ _ _ w1 hq (hr'.new hn)
      have hdec : decide (r = roadsOf a) = decide (roadsOf a = r) := by simp [eq_comm]
      rw [hdec]
      have CS := hid CS
      have CR := hid CR
      clear hR e h2 hdec
      go_enter Try.func118, Try.ntmps118
      go_wp2_with fail
      rw [← hwb]
      clear hwb
      refine C1.mono ?_
      rintro e w1 ⟨rfl, hn1⟩
      replace z2 := hn1.cell z2
      replace z3 := hn1.cell z3
      go_wp2_with fail
      refine (C2 _ hn1).mono ?_
      rintro e w2 ⟨rfl, hn2⟩
      have hn3 : New wb w2 := hn1.trans hn2
      replace z0 := hn3.cell z0
      replace z1 := hn3.cell z1
      replace z2 := hn2.cell z2
      replace z3 := hn2.cell z3
      clear C1 C2
      go_wp2_with fail
      go_region_law (first | (go_simp; go_at_call 212; refine (CR.out _ (hn3.trans (by repeat (first | with_reducible exact New.refl _ | with_reducible assumption | with_reducible refine New.alloc ?_ _ | with_reducible refine New.drew ?_ | with_reducible refine New.drewN ?_ _ | with_reducible refine New.setCell ?_ (by simp <;> omega) _)))).mono ?_; rintro e w4 ⟨q, rfl, hn4, ho4⟩; have hn5 := New.trans (a := w2) (by repeat (first | with_reducible exact New.refl _ | with_reducible assumption | with_reducible refine New.alloc ?_ _ | with_reducible refine New.drew ?_ | with_reducible refine New.drewN ?_ _ | with_reducible refine New.setCell ?_ (by simp <;> omega) _)) hn4; have y0 := hn5.cell z0; have y1 := hn5.cell z1) | (go_simp; go_at_call 211; refine (CS.out _ (hn3.trans (New.trans hn5 (by repeat (first | with_reducible exact New.refl _ | with_reducible assumption | with_reducible refine New.alloc ?_ _ | with_reducible refine New.drew ?_ | with_reducible refine New.drewN ?_ _ | with_reducible refine New.setCell ?_ (by simp <;> omega) _)))) _ (ho4.at.new (by repeat (first | with_reducible exact New.refl _ | with_reducible assumption | with_reducible refine New.alloc ?_ _ | with_reducible refine New.drew ?_ | with_reducible refine New.drewN ?_ _ | with_reducible refine New.setCell ?_ (by simp <;> omega) _)))).mono ?_; rintro e w6 ⟨rfl, hn6⟩))
      all_goals
        go_wp2
        go_ret2
        exact ⟨rfl, ((hn0.trans hn3).trans hn5).trans (New.trans (by repeat (first | with_reducible exact New.refl _ | with_reducible assumption | with_reducible refine New.alloc ?_ _ | with_reducible refine New.drew ?_ | with_reducible refine New.drewN ?_ _ | with_reducible refine New.setCell ?_ (by simp <;> omega) _)) hn6)⟩

end Go.Proofs.Ytiflokfinkachaa
