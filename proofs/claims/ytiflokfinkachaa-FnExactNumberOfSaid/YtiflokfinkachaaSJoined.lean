/- The reference's test whether words lead from each state to each one. -/
import Derived.Test.YtiflokfinkachaaRows
import Derived.Test.YtiflokfinkachaaCore
import Derived.Test.YtiflokfinkachaaInfo
import Derived.Test.YtiflokfinkachaaPlains
import Derived.Test.YtiflokfinkachaaJoins
import Derived.Test.YtiflokfinkachaaMaps
import Derived.Test.YtiflokfinkachaaCho
import Derived.Test.YtiflokfinkachaaSolid
import Derived.Test.YtiflokfinkachaaBox3
import Derived.Test.YtiflokfinkachaaQRow
import Derived.Test.YtiflokfinkachaaS00a
import Derived.Test.YtiflokfinkachaaS00b
import Derived.Test.YtiflokfinkachaaSPut0
import Derived.Test.YtiflokfinkachaaSReached
import Derived.WalkKit
import Derived.WalkSpells
import Derived.WalkLawsBesides
import Derived.Deep.QuietTactic
import Derived.Deep.OwnRows
import Derived.BigQuiet
import Derived.KernelRfl
import Derived.Carry
import Derived.Deep.RegionHeld3
namespace Go.Proofs.Ytiflokfinkachaa
open Go.RowKit

theorem rcL_lenS {a : Aut} (ha : autOk a = true) {s : Int} (hs : rcP a s) : ((rcL a s).length : Int) ≤ a.n := rc_bound ha (rc_bok ha hs 11)
theorem joined_upS {a : Aut} (h : ∀ s, s < a.n.toNat → ((rcL a (s : Int)).length : Int) = a.n) : joinedB a = true := by
  unfold joinedB iota
  rw [List.all_eq_true]
  intro x hx
  obtain ⟨i, hi, rfl⟩ := List.mem_map.1 hx
  rw [Int.zero_add]
  exact decide_eq_true (h i (by simpa using hi))
theorem joined_noS {a : Aut} (s : Nat) (hs : s < a.n.toNat) (h : ¬ ((rcL a (s : Int)).length : Int) = a.n) : joinedB a = false := by
  unfold joinedB iota
  rw [List.all_eq_false]
  exact ⟨(0 : Int) + (s : Int), List.mem_map.2 ⟨s, by simpa using hs, rfl⟩, by rw [Int.zero_add]; simpa using h⟩
set_option maxRecDepth 20000 in
set_option maxHeartbeats 2000000 in
theorem l01Joined_any (p : Value) (a : Aut) (w : World) (h : PAut w p a) (ha : autOk a = true) :
    Calls Try.prog 112 #[p] w fun e w' => e = .returned (.bool (joinedB a)) ∧ New w w' := by
  have hP := hid h
  obtain ⟨pb, rv, rfl, hp0, hp1, hr⟩ := id h
  have hn := autOk_n ha
  have HC := hid (fun w' (hw : New w w') (s : Int) (hs : rcP a s) => l01Reached_any _ a s w' (hP.out.new hw) ha hs)
  have HL := hid (fun (s : Int) (hs : rcP a s) => rcL_lenS ha hs)
  clear ha h hr hp1
  go_enter Try.func112, Try.ntmps112
  go_wp2_with fail
  go_loopw [3] (fun i wr => ∃ k : Nat, (k : Int) ≤ a.n ∧ i = .int .i64 k ∧ New w wr ∧ Hid (∀ s, s < k → ((rcL a (s : Int)).length : Int) = a.n)) (fun i _ => a.n.toNat - (intOf i).toNat)
  case atStart => exact ⟨0, by omega, rfl, New.refl _, hid (fun s hs => absurd hs (by omega))⟩
  case round =>
    obtain ⟨k, hk, rfl, hnk, hall⟩ := hrel
    obtain ⟨wo, rfl⟩ : ∃ wo : World, wo = wr := ⟨_, rfl⟩
    have y0 := hnk.cell hp0
    by_cases hlt : (k : Int) < a.n
    · have hPk : rcP a (k : Int) := ⟨by omega, hlt⟩
      have HP := hid hPk
      obtain ⟨M, hM⟩ : ∃ M, M = (rcL a (k : Int)).length := ⟨_, rfl⟩
      have HM := hid hM
      have hle := HL.out _ hPk
      rw [← hM] at hle
      clear hM hPk
      by_cases hq : (M : Int) = a.n
      · have HQ := hid hq
        have hb : ((M : Int) != a.n) = false := by simp [hq]
        clear hq
        go_wp2_with fail
        go_region_held3 (fun w' => w'.cell? ⟨pb, 0, none⟩ = some (.int .i64 a.n))
          (first | exact z0 | go_keep)
          (first
            | (go_at_call 204; refine (HC.out _ (by repeat (first | with_reducible exact New.refl _ | with_reducible assumption | with_reducible refine New.alloc ?_ _ | with_reducible refine New.drewN ?_ _ | with_reducible refine New.drew ?_ | with_reducible refine New.trans ?_ (by with_reducible assumption))) _ HP.out).mono ?_; rintro e w1 ⟨r, OL, he, hq1, hi1, hsm⟩; obtain ⟨Ar, cr, hrf⟩ := hi1.form; rw [hsm.1.trans HM.out.symm] at hrf; subst hrf; subst he; have hw1 : New wo w1 := (by repeat (first | with_reducible exact New.refl _ | with_reducible assumption | with_reducible refine New.alloc ?_ _ | with_reducible refine New.drewN ?_ _ | with_reducible refine New.drew ?_ | with_reducible refine New.trans ?_ (by with_reducible assumption))); have z0 := hw1.cell y0))
        all_goals go_wp2_with fail
        all_goals
          refine ⟨⟨k + 1, by omega, by go_num, hnk.trans (by repeat (first | with_reducible exact New.refl _ | with_reducible assumption | with_reducible refine New.alloc ?_ _ | with_reducible refine New.drewN ?_ _ | with_reducible refine New.drew ?_ | with_reducible refine New.trans ?_ (by with_reducible assumption))), hid (fun s hs => ?_)⟩, ?_⟩
          · rcases Nat.lt_succ_iff_lt_or_eq.1 hs with q | q
            · exact hall.out s q
            · subst q; rw [← HM.out]; exact HQ.out
          · simp [intOf]; omega
      · have HQ := hid hq
        have hb : ((M : Int) != a.n) = true := by simpa using hq
        clear hq
        go_wp2_with fail
        go_region_held3 (fun w' => w'.cell? ⟨pb, 0, none⟩ = some (.int .i64 a.n))
          (first | exact z0 | go_keep)
          (first
            | (go_at_call 204; refine (HC.out _ (by repeat (first | with_reducible exact New.refl _ | with_reducible assumption | with_reducible refine New.alloc ?_ _ | with_reducible refine New.drewN ?_ _ | with_reducible refine New.drew ?_ | with_reducible refine New.trans ?_ (by with_reducible assumption))) _ HP.out).mono ?_; rintro e w1 ⟨r, OL, he, hq1, hi1, hsm⟩; obtain ⟨Ar, cr, hrf⟩ := hi1.form; rw [hsm.1.trans HM.out.symm] at hrf; subst hrf; subst he; have hw1 : New wo w1 := (by repeat (first | with_reducible exact New.refl _ | with_reducible assumption | with_reducible refine New.alloc ?_ _ | with_reducible refine New.drewN ?_ _ | with_reducible refine New.drew ?_ | with_reducible refine New.trans ?_ (by with_reducible assumption))); have z0 := hw1.cell y0))
        all_goals go_wp2_with fail
        all_goals
          go_ret
          rw [joined_noS k (by omega) (by rw [← HM.out]; exact HQ.out)]
          exact ⟨rfl, hnk.trans (by repeat (first | with_reducible exact New.refl _ | with_reducible assumption | with_reducible refine New.alloc ?_ _ | with_reducible refine New.drewN ?_ _ | with_reducible refine New.drew ?_ | with_reducible refine New.trans ?_ (by with_reducible assumption)))⟩
    · have e : k = a.n.toNat := by omega
      have b1 : ¬ (k : Int) < a.n := hlt
      subst e
      go_wp2_with fail
      go_ret
      rw [joined_upS hall.out]
      exact ⟨rfl, hnk⟩

end Go.Proofs.Ytiflokfinkachaa
