/- The reference's answer to whether an automaton is a colouring of roads. -/
import Derived.Test.YtoioebhalpcipaaRows
import Derived.Test.YtoioebhalpcipaaBase
import Derived.Test.YtoioebhalpcipaaAut
import Derived.Test.YtoioebhalpcipaaApp
import Derived.Test.YtoioebhalpcipaaAppRows
import Derived.Test.YtoioebhalpcipaaAppStep
import Derived.Test.YtoioebhalpcipaaInfo
import Derived.Test.YtoioebhalpcipaaPlain1
import Derived.Test.YtoioebhalpcipaaPlainRun
import Derived.Test.YtoioebhalpcipaaPlainSet
import Derived.Test.YtoioebhalpcipaaPlainSort
import Derived.Test.YtoioebhalpcipaaPlainRoads
import Derived.Test.YtoioebhalpcipaaOwnC
import Derived.Test.YtoioebhalpcipaaS01a
import Derived.Test.YtoioebhalpcipaaSRoads
import Derived.Test.YtoioebhalpcipaaS05a
import Derived.WalkKit
import Derived.WalkSpells
import Derived.WalkLawsBesides
import Derived.Deep.QuietTactic
import Derived.Deep.OwnRows
import Derived.BigQuiet
import Derived.KernelRfl
namespace Go.Proofs.Ytoioebhalpcipaa
open Go.RowKit

set_option maxHeartbeats 800000 in
theorem specIsColouring_any (v1 v2 : Value) (r a : Aut) (w : World) (h1 : AutAt w v1 r) (h2 : AutAt w v2 a) :
    Calls Try.prog 61 #[v1, v2] w fun e w' => e = .returned (.tuple #[.bool (IsColouring r a).1, .int .i64 (IsColouring r a).2]) ∧ New w w' := by
  obtain ⟨rv, rfl, hr⟩ := h1
  obtain ⟨av, rfl, ha⟩ := h2
  obtain ⟨A, c, rfl⟩ := hr.form
  obtain ⟨A2, c2, rfl⟩ := ha.form
  obtain ⟨wb, hwb⟩ : ∃ wb, wb = (w.alloc (.cells #[.int .i64 r.n, .slice A r.nx.length c] 63)).alloc (.cells #[.int .i64 a.n, .slice A2 a.nx.length c2] 29) := ⟨_, rfl⟩
  have hn0 : New w wb := by rw [hwb]; exact (by repeat (first | with_reducible exact New.refl _ | with_reducible assumption | with_reducible refine New.alloc ?_ _ | with_reducible refine New.drew ?_ | with_reducible refine New.drewN ?_ _ | with_reducible refine New.setCell ?_ (by simp <;> omega) _))
  have hp : PAut wb (.pointer (some ⟨w.heap.size, 0, none⟩)) r := by rw [hwb]; exact (PAut.box hr _).new ((New.refl _).alloc _)
  have hq : PAut wb (.pointer (some ⟨w.heap.size + 1, 0, none⟩)) a := by
    rw [hwb]; have := PAut.box (a := a) (ha.new (show New w (w.alloc (.cells #[.int .i64 r.n, .slice A r.nx.length c] 63)) from (by repeat (first | with_reducible exact New.refl _ | with_reducible assumption | with_reducible refine New.alloc ?_ _ | with_reducible refine New.drew ?_ | with_reducible refine New.drewN ?_ _ | with_reducible refine New.setCell ?_ (by simp <;> omega) _)))) 29
    simpa only [size_alloc] using this
  obtain ⟨R, hR⟩ : ∃ R, R = IsColouring r a := ⟨_, rfl⟩
  rw [← hR]
  unfold IsColouring at hR
  have C1 := l05Ok_any _ r _ hp
  cases h1 : roadsOk r with
  | false =>
    rw [h1] at C1
    have e : R = (false, 1) := by rw [hR, h1]; rfl
    rw [e]
    clear hR e
    go_enter Try.func61, Try.ntmps61
    go_wp2_with fail
    rw [← hwb]
    clear hwb
    refine C1.mono ?_
    rintro e w1 ⟨rfl, hn1⟩
    go_wp2_with fail
    go_ret2
    exact ⟨rfl, hn0.trans hn1⟩
  | true =>
    rw [h1] at C1
    have C2 := fun w1 (hn : New wb w1) => l01Ok_any _ a w1 (hq.new hn)
    cases h2 : autOk a with
    | false =>
      rw [h2] at C2
      have e : R = (false, 1) := by rw [hR, h1, h2]; rfl
      rw [e]
      clear hR e
      go_enter Try.func61, Try.ntmps61
      go_wp2_with fail
      rw [← hwb]
      clear hwb
      refine C1.mono ?_
      rintro e w1 ⟨rfl, hn1⟩
      go_wp2_with fail
      refine (C2 _ hn1).mono ?_
      rintro e w2 ⟨rfl, hn2⟩
      go_wp2_with fail
      go_ret2
      exact ⟨rfl, (hn0.trans hn1).trans hn2⟩
    | true =>
      rw [h2] at C2
      have e : R = (decide (r = roadsOf a), 0) := by rw [hR, h1, h2]; rfl
      rw [e]
      have H2 := hid h2
      clear hR e h2
      go_enter Try.func61, Try.ntmps61
      go_wp2_with fail
      rw [← hwb]
      clear hwb
      refine C1.mono ?_
      rintro e w1 ⟨rfl, hn1⟩
      go_wp2_with fail
      refine (C2 _ hn1).mono ?_
      rintro e w2 ⟨rfl, hn2⟩
      go_wp2_with fail
      refine (l05Coloured_any _ _ r a _ (hp.new (hn1.trans hn2)) (hq.new (hn1.trans hn2)) H2.out).mono ?_
      rintro e w3 ⟨rfl, hn3⟩
      go_wp2_with fail
      go_ret2
      exact ⟨rfl, ((hn0.trans hn1).trans hn2).trans hn3⟩

end Go.Proofs.Ytoioebhalpcipaa
