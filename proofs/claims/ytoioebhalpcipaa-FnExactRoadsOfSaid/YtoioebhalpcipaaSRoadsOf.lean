/- The reference's roads of which an automaton is a colouring. -/
import Derived.Test.YtoioebhalpcipaaRows
import Derived.Test.YtoioebhalpcipaaBase
import Derived.Test.YtoioebhalpcipaaAut
import Derived.Test.YtoioebhalpcipaaApp
import Derived.Test.YtoioebhalpcipaaAppRows
import Derived.Test.YtoioebhalpcipaaAppStep
import Derived.Test.YtoioebhalpcipaaInfo
import Derived.Test.YtoioebhalpcipaaPlain1
import Derived.Test.YtoioebhalpcipaaPlainRun
import Derived.Test.YtoioebhalpcipaaPlainSet
import Derived.Test.YtoioebhalpcipaaPlainSort
import Derived.Test.YtoioebhalpcipaaOwnC
import Derived.Test.YtoioebhalpcipaaS00b
import Derived.Test.YtoioebhalpcipaaS01a
import Derived.Test.YtoioebhalpcipaaSSort
import Derived.Test.YtoioebhalpcipaaSRoads
import Derived.WalkKit
import Derived.WalkSpells
import Derived.WalkLawsBesides
import Derived.Deep.QuietTactic
import Derived.Deep.OwnRows
import Derived.BigQuiet
import Derived.KernelRfl
import Derived.Deep.RegionHeld3
namespace Go.Proofs.Ytoioebhalpcipaa
open Go.RowKit

set_option maxHeartbeats 1000000 in
theorem specRoadsOf_any (v1 : Value) (a : Aut) (w : World) (h1 : AutAt w v1 a) :
    Calls Try.prog 49 #[v1] w fun e w' => ∃ r, e = .returned (.tuple #[r, .int .i64 (RoadsOf a).2]) ∧ New w w' ∧ OwnAut w.heap.size w'.heap.size w' r (RoadsOf a).1 := by
  obtain ⟨rv, rfl, hr⟩ := h1
  obtain ⟨A1, c1, rfl⟩ := hr.form
  obtain ⟨wb, hwb⟩ : ∃ wb, wb = (w.alloc (.cells #[.int .i64 a.n, .slice A1 a.nx.length c1] 29)).alloc (.cells #[.int .i64 0, .slice none 0 0] 63) := ⟨_, rfl⟩
  have hp : PAut wb (.pointer (some ⟨w.heap.size, 0, none⟩)) a := by rw [hwb]; exact (PAut.box hr _).new ((New.refl _).alloc _)
  have hnb : New w wb := by rw [hwb]; exact (by repeat (first | with_reducible exact New.refl _ | with_reducible assumption | with_reducible refine New.alloc ?_ _ | with_reducible refine New.drew ?_ | with_reducible refine New.drewN ?_ _ | with_reducible refine New.setCell ?_ (by simp <;> omega) _))
  have hzb : w.heap.size + 2 = wb.heap.size := by rw [hwb]; simp only [size_alloc]
  have hb0 : wb.cell? ⟨w.heap.size, 0, none⟩ = some (.int .i64 a.n) := by rw [hwb]; go_simp
  have hr0 : Box2 wb (w.heap.size + 1) (.int .i64 0) (.slice none 0 0) := by rw [hwb]; exact ⟨by go_simp, by go_simp, by go_simp, by go_simp⟩
  obtain ⟨R, hR⟩ : ∃ R, R = RoadsOf a := ⟨_, rfl⟩
  rw [← hR]
  unfold RoadsOf at hR
  have HR := hid hR
  clear hR
  have C1 := l01Ok_any _ a _ hp
  have key : ∀ (code : Int) (w1 : World), New wb w1 → R = (⟨0, []⟩, code) → ∃ r, (Ending.returned (.tuple #[.agg #[.int .i64 0, .slice none 0 0], .int .i64 code]) = .returned (.tuple #[r, .int .i64 R.2])) ∧ New w ((w1.setCell ⟨w.heap.size + 1, 0, none⟩ (.int .i64 0)).setCell ⟨w.heap.size + 1, 1, none⟩ (.slice none 0 0)) ∧ OwnAut w.heap.size ((w1.setCell ⟨w.heap.size + 1, 0, none⟩ (.int .i64 0)).setCell ⟨w.heap.size + 1, 1, none⟩ (.slice none 0 0)).heap.size ((w1.setCell ⟨w.heap.size + 1, 0, none⟩ (.int .i64 0)).setCell ⟨w.heap.size + 1, 1, none⟩ (.slice none 0 0)) r R.1 := fun code w1 hn1 e => by
    rw [e]
    exact ⟨_, rfl, New.fill (hnb.trans hn1) (by omega) _ _, _, rfl, none, 0, fun _ => default, rfl, by simp, by simp, by simp, by simp⟩
  cases ha : autOk a with
  | false =>
    rw [ha] at C1
    have KEY := hid (fun w1 hn1 => key 1 w1 hn1 (by rw [HR.out, ha]; rfl))
    clear key
    go_enter Try.func49, Try.ntmps49
    go_wp2_with fail
    rw [← hwb]
    refine C1.mono ?_
    rintro e w1 ⟨rfl, hn1⟩
    obtain ⟨x0, x1, x2, x3⟩ := hr0.new hn1
    go_wp2_with fail
    obtain ⟨g0, g1, _, _⟩ := (hr0.new hn1).fill (.int .i64 0) (.slice none 0 0)
    exact bodyPost_ret (v := .tuple #[.agg #[.int .i64 0, .slice none 0 0], .int .i64 1]) (by simp [results, Try.results49, go_sem, g0, g1]) rfl (KEY.out _ hn1)
  | true =>
    rw [ha] at C1
    have han := autOk_n ha
    have HA := hid ha
    by_cases h7 : 7 < a.n
    · have KEY := hid (fun w1 hn1 => key 3 w1 hn1 (by rw [HR.out, if_pos ha, if_pos h7]))
      clear key ha
      go_enter Try.func49, Try.ntmps49
      go_wp2_with fail
      rw [← hwb]
      refine C1.mono ?_
      rintro e w1 ⟨rfl, hn1⟩
      replace hb0 := hn1.cell hb0
      obtain ⟨x0, x1, x2, x3⟩ := hr0.new hn1
      go_wp2_with fail
      obtain ⟨g0, g1, _, _⟩ := (hr0.new hn1).fill (.int .i64 0) (.slice none 0 0)
      exact bodyPost_ret (v := .tuple #[.agg #[.int .i64 0, .slice none 0 0], .int .i64 3]) (by simp [results, Try.results49, go_sem, g0, g1]) rfl (KEY.out _ hn1)
    · have HE := hid (show R = (roadsOf a, 0) by rw [HR.out, if_pos ha, if_neg h7])
      have HC := hid (fun w1 (hm : New wb w1) => l05Of_any _ a w1 (hp.new hm) ha)
      have h7' : decide (7 < a.n) = false := by simpa using h7
      clear key ha
      go_enter Try.func49, Try.ntmps49
      go_wp2_with fail
      rw [← hwb]
      refine C1.mono ?_
      rintro e w1 ⟨rfl, hn1⟩
      replace hb0 := hn1.cell hb0
      have hr1 := hr0.new hn1
      have hz1 := hn1.size
      go_wp2_with fail
      refine (HC.out _ hn1).mono ?_
      rintro e w2 ⟨r, he, hn2, ho⟩
      obtain ⟨rv2, rfl, ho2⟩ := ho
      obtain ⟨A2, c2, rfl⟩ := ho2.form
      subst he
      obtain ⟨x0, x1, x2, x3⟩ := hr1.new hn2
      obtain ⟨g0, g1, _, _⟩ := (hr1.new hn2).fill (.int .i64 (roadsOf a).n) (.slice A2 (roadsOf a).nx.length c2)
      go_wp2_with fail
      refine bodyPost_ret (v := .tuple #[.agg #[.int .i64 (roadsOf a).n, .slice A2 (roadsOf a).nx.length c2], .int .i64 0]) (by simp [results, Try.results49, go_sem, g0, g1]) rfl ?_
      have hW := Within.fill w2 (w.heap.size + 1) (.int .i64 (roadsOf a).n) (.slice A2 (roadsOf a).nx.length c2)
      have ho3 := ho2.within hW (Or.inr (by omega))
      rw [HE.out]
      exact ⟨_, rfl, New.fill ((hnb.trans hn1).trans hn2) (by omega) _ _, _, rfl, ho3.widen (by omega) hW.2.2.2.1⟩

end Go.Proofs.Ytoioebhalpcipaa
