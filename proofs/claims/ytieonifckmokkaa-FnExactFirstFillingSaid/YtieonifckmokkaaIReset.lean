/- The program's shortest word that resets. -/
import Derived.Test.YtieonifckmokkaaRows
import Derived.Test.YtieonifckmokkaaCore
import Derived.Test.YtieonifckmokkaaInfos
import Derived.Test.YtieonifckmokkaaPlains
import Derived.Test.YtieonifckmokkaaMaps
import Derived.Test.YtieonifckmokkaaIBase
import Derived.Test.YtieonifckmokkaaI01c
import Derived.Test.YtieonifckmokkaaIIdx
import Derived.Test.YtieonifckmokkaaIFlk
import Derived.Test.YtieonifckmokkaaITour
import Derived.Test.YtieonifckmokkaaIRen
import Derived.Test.YtieonifckmokkaaIFirst
import Derived.WalkKit
import Derived.WalkSpells
import Derived.WalkLawsBesides
import Derived.Deep.QuietTactic
import Derived.Deep.OwnRows
import Derived.BigQuiet
import Derived.KernelRfl
import Derived.Carry
import Derived.Deep.RegionHeld3
namespace Go.Proofs.Ytieonifckmokkaa
open Go.RowKit

def ShortestReset (a : Aut) : List Int × Int := if autOk a = true then told (firstWord smallB (tourOf a.nx (full a.n))) else ([], 1)
set_option maxRecDepth 20000 in
set_option maxHeartbeats 1000000 in
theorem implShortestReset_any (v1 : Value) (a : Aut) (w : World) (h1 : AutAt w v1 a) :
    Calls Try.prog 19 #[v1] w fun e w' => ∃ r, e = .returned (.tuple #[r, .int .i64 (ShortestReset a).2]) ∧ New w w' ∧ OwnInts w.heap.size w'.heap.size w' r (ShortestReset a).1 := by
  obtain ⟨rv, rfl, hr⟩ := h1
  obtain ⟨A, c, rfl⟩ := hr.form
  have h1 : AutAt w (.agg #[.int .i64 a.n, .slice A a.nx.length c]) a := ⟨_, rfl, hr⟩
  obtain ⟨wb, hwb⟩ : ∃ wb, wb = w.alloc (.cells #[.int .i64 a.n, .slice A a.nx.length c] 34) := ⟨_, rfl⟩
  have hnb : New w wb := by rw [hwb]; exact (by repeat (first | with_reducible exact New.refl _ | with_reducible assumption | with_reducible refine New.alloc ?_ _ | with_reducible refine New.drew ?_ | with_reducible refine New.drewN ?_ _ | with_reducible refine New.setCell ?_ (by simp <;> omega) _))
  have hzb : wb.heap.size = w.heap.size + 1 := by rw [hwb]; simp only [size_alloc]
  have hb0 : wb.cell? ⟨w.heap.size, 0, none⟩ = some (.int .i64 a.n) := by rw [hwb]; go_simp
  have hb1 : wb.cell? ⟨w.heap.size, 1, none⟩ = some (.slice A a.nx.length c) := by rw [hwb]; go_simp
  have C1 := ValidAutomaton_any _ a wb (h1.new hnb)
  obtain ⟨R, hR⟩ : ∃ R, R = ShortestReset a := ⟨_, rfl⟩
  rw [← hR]
  unfold ShortestReset at hR
  have HR := hid hR
  clear hR
  cases ha : autOk a with
  | false =>
    rw [ha] at C1
    have e : R = ([], 1) := by rw [HR.out, ha]; rfl
    rw [e]
    go_enter Try.func19, Try.ntmps19
    go_wp2_with fail
    rw [← hwb]
    go_wp2_with fail
    refine C1.mono ?_
    rintro e w1 ⟨rfl, hn1⟩
    go_wp2
    go_ret2
    exact ⟨_, rfl, hnb.trans hn1, OwnInts.nil _ _ _⟩
  | true =>
    rw [ha] at C1
    have han := autOk_n ha
    have HA := hid ha
    have HOK := hid (tourOk HA.out (full a.n) (full_lt a.n))
    have HC1 := hid (fun w1 (hm : New w w1) => all_any _ a w1 (h1.new hm) HA.out)
    have HC2 := hid (fun v w1 (h : IntsAt w1 v (iota 0 a.n.toNat)) => flockOf_any v _ w1 h (sIota a HA.out))
    rw [full_iota a.n (by omega)] at HC2
    have HC3 := hid (fun w1 (hm : New w w1) => tourAt_any _ a (full a.n) w1 (h1.new hm) HA.out (full_lt a.n))
    have HC4 := hid (fun B v w1 (hT : TourAt B w1 v (tourOf a.nx (full a.n))) => first_any v a _ B 80 #[] smallB w1 hT HOK.out han.2 (enters Try.func80 (by decide) (by simp [Try.f80]))
      (fun w' _ F hF => (isSmall_any F w' (lt_10 hF (by omega))).mono fun e w'' ⟨h1, h2⟩ => ⟨h1, New.of_eq h2⟩))
    have e : R = told (firstWord smallB (tourOf a.nx (full a.n))) := by rw [HR.out, if_pos HA.out]
    rw [← e] at HC4
    clear e ha han
    go_enter Try.func19, Try.ntmps19
    go_wp2_with fail
    rw [← hwb]
    go_wp2_with fail
    refine C1.mono ?_
    rintro e w1 ⟨rfl, hn1⟩
    replace hb0 := hn1.cell hb0
    replace hb1 := hn1.cell hb1
    have hs1 := hn1.size
    go_wp2_with fail
    go_region_held3 (fun w' => w'.cell? ⟨w.heap.size, 0, none⟩ = some (.int .i64 a.n) ∧ w'.cell? ⟨w.heap.size, 1, none⟩ = some (.slice A a.nx.length c))
      (first | go_keep | exact ⟨hq2.cell hb0, hq2.cell hb1⟩ | exact ⟨hq3.cell hb0, hq3.cell hb1⟩ | exact ⟨hq4.cell hb0, hq4.cell hb1⟩)
      (first
        | (go_at_call 78; refine (HC1.out _ ((hnb.trans hn1).trans (New.refl _).drew)).mono ?_; rintro e w2 ⟨q, rfl, hr2, ho2⟩; have hq2 : New w1 w2 := New.trans (New.refl _).drew hr2; have hz2 := hr2.size)
        | (go_at_call 77; refine (HC2.out _ _ ho2.at).mono ?_; rintro e w' ⟨rfl, rfl⟩)
        | (go_at_call 76; refine (HC3.out _ ((hnb.trans hn1).trans hq2)).mono ?_; rintro e w3 ⟨lv, mb, rfl, hr3, hT⟩; have hq3 : New w1 w3 := hq2.trans hr3; have hz3 := hr3.size)
        | (go_at_call 79; refine (HC4.out _ _ _ hT).mono ?_; rintro e w4 ⟨r, rfl, hr4, ho⟩; have hq4 : New w1 w4 := hq3.trans hr4; have hz4 := hr4.size))
    all_goals go_wp2
    all_goals go_ret2
    all_goals exact ⟨_, rfl, (hnb.trans hn1).trans hq4, ho.widen (by simp only [size_drew] at *; omega) (Nat.le_refl _)⟩

end Go.Proofs.Ytieonifckmokkaa
