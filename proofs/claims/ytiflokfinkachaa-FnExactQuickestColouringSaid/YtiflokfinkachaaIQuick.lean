/- The program's quickest colouring. -/
import Derived.Test.YtiflokfinkachaaRows
import Derived.Test.YtiflokfinkachaaCore
import Derived.Test.YtiflokfinkachaaInfos
import Derived.Test.YtiflokfinkachaaPlains
import Derived.Test.YtiflokfinkachaaJoins
import Derived.Test.YtiflokfinkachaaQuicks
import Derived.Test.YtiflokfinkachaaMaps
import Derived.Test.YtiflokfinkachaaArrs
import Derived.Test.YtiflokfinkachaaIPaint
import Derived.Test.YtiflokfinkachaaIAt
import Derived.Test.YtiflokfinkachaaI05a
import Derived.Test.YtiflokfinkachaaICol
import Derived.Test.YtiflokfinkachaaIReset
import Derived.WalkKit
import Derived.WalkSpells
import Derived.WalkLawsBesides
import Derived.Deep.QuietTactic
import Derived.Deep.OwnRows
import Derived.BigQuiet
import Derived.KernelRfl
import Derived.Carry
import Derived.Deep.RegionHeld3
import Derived.Laws.EntriesVeiled
namespace Go.Proofs.Ytiflokfinkachaa
open Go.RowKit

theorem survey_vals {r : Aut} (hf : RoadsFacts r) (n : Nat) : ((colW r n).2 = true → (surveyOf (colN r n)).1 = 1 ∧ (surveyOf (colN r n)).2 = ((colW r n).1.length : Int)) ∧ ((colW r n).2 = false → ¬ (surveyOf (colN r n)).1 = 1) := by
  constructor
  · intro h
    have := survey_yes (a := colN r n) h
    rw [this]
    exact ⟨rfl, rfl⟩
  · intro h
    exact survey_no (colN_ok hf n) (colN_n hf n) h
set_option maxRecDepth 20000 in
set_option maxHeartbeats 1000000 in
theorem Quick1_any (r : Aut) (hf : RoadsFacts r) (n bb fb : Nat) (w : World) (hn : n ≤ 279936) (hne : bb ≠ fb) (h1 : Box1 w bb (.int .i64 (quickLen (colW r) n))) (h2 : Box1 w fb (.int .i64 (quickNo (colW r) n))) :
    Calls Try.prog 107 #[.int .i64 (n : Nat), .int .i64 (surveyOf (colN r n)).1, .int .i64 (surveyOf (colN r n)).2, .pointer (some ⟨bb, 0, none⟩), .pointer (some ⟨fb, 0, none⟩)] w
      fun e w' => e = .returned (.bool true) ∧ But (fun q => q = bb ∨ q = fb) w w' ∧ Box1 w' bb (.int .i64 (quickLen (colW r) (n + 1))) ∧ Box1 w' fb (.int .i64 (quickNo (colW r) (n + 1))) := by
  obtain ⟨v1, v2⟩ := survey_vals hf n
  obtain ⟨S1, hS1⟩ : ∃ z, z = (surveyOf (colN r n)).1 := ⟨_, rfl⟩
  obtain ⟨S2, hS2⟩ : ∃ z, z = (surveyOf (colN r n)).2 := ⟨_, rfl⟩
  rw [← hS1, ← hS2] at v1
  rw [← hS1] at v2
  rw [← hS1, ← hS2]
  have hlen := colW_len hf n
  have hrg := quickAt_range (colW r) n
  clear hS1 hS2
  have hquiet : quickAt (colW r) (n + 1) = quickAt (colW r) n → quickLen (colW r) (n + 1) = quickLen (colW r) n ∧ quickNo (colW r) (n + 1) = quickNo (colW r) n := fun e => by
    unfold quickLen quickNo; rw [e]; exact ⟨rfl, rfl⟩
  have hput : quickAt (colW r) (n + 1) = (n : Int) → quickLen (colW r) (n + 1) = ((colW r n).1.length : Int) ∧ quickNo (colW r) (n + 1) = (n : Int) := fun e => by
    unfold quickLen quickNo
    rw [e, if_neg (by omega), if_neg (by omega), Int.toNat_natCast]
    exact ⟨rfl, rfl⟩
  obtain ⟨c1, f1⟩ := id h1
  obtain ⟨c2, f2⟩ := id h2
  cases hw : (colW r n).2 with
  | false =>
    have hne1 := v2 hw
    have hb : (S1 == 1) = false := by simpa using hne1
    have HQ := hid (hquiet (quickAt_no (by rw [hw]; simp)))
    clear v1 v2 hquiet hput hw hne1
    go_enter Try.func107, Try.ntmps107
    go_wp2_with fail
    go_ret
    rw [HQ.out.1, HQ.out.2]
    exact ⟨rfl, But.refl, h1, h2⟩
  | true =>
    obtain ⟨rfl, rfl⟩ := v1 hw
    by_cases hneg : quickAt (colW r) n < 0
    · have hq := hput (quickAt_yes ⟨hw, Or.inl hneg⟩)
      have eL : quickLen (colW r) n = -1 := by unfold quickLen; rw [if_pos hneg]
      rw [eL] at c1
      have HQ := hid hq
      clear v2 hquiet hput hq eL
      go_enter Try.func107, Try.ntmps107
      go_wp2_with fail
      go_ret
      rw [HQ.out.1, HQ.out.2]
      refine ⟨rfl, ?_, ?_, ?_⟩
      · exact (But.setCell (S := fun q => q = bb ∨ q = fb) ⟨bb, 0, none⟩ _ (Or.inl rfl)).trans (But.setCell (S := fun q => q = bb ∨ q = fb) ⟨fb, 0, none⟩ _ (Or.inr rfl)) (fun q hq => Or.inl hq)
      · exact (h1.set _).but (But.setCell (S := fun q => q = fb) ⟨fb, 0, none⟩ _ rfl) (fun e => hne e)
      · exact (h2.but (But.setCell (S := fun q => q = bb) ⟨bb, 0, none⟩ _ rfl) (fun e => hne e.symm)).set _
    · have eL : quickLen (colW r) n = ((colW r (quickAt (colW r) n).toNat).1.length : Int) := by unfold quickLen; rw [if_neg hneg]
      by_cases hlt : (colW r n).1.length < (colW r (quickAt (colW r) n).toNat).1.length
      · have hq := hput (quickAt_yes ⟨hw, Or.inr hlt⟩)
        rw [eL] at c1
        have hlti : ((colW r n).1.length : Int) < ((colW r (quickAt (colW r) n).toNat).1.length : Int) := by omega
        obtain ⟨LL, hLL⟩ : ∃ z : Int, z = ((colW r (quickAt (colW r) n).toNat).1.length : Int) := ⟨_, rfl⟩
        rw [← hLL] at c1 hlti
        have hL0 : ¬ LL < 0 := by omega
        have HQ := hid hq
        clear v2 hquiet hput hq eL hneg hlt hLL
        go_enter Try.func107, Try.ntmps107
        go_wp2_with fail
        go_ret
        rw [HQ.out.1, HQ.out.2]
        refine ⟨rfl, ?_, ?_, ?_⟩
        · exact (But.setCell (S := fun q => q = bb ∨ q = fb) ⟨bb, 0, none⟩ _ (Or.inl rfl)).trans (But.setCell (S := fun q => q = bb ∨ q = fb) ⟨fb, 0, none⟩ _ (Or.inr rfl)) (fun q hq => Or.inl hq)
        · exact (h1.set _).but (But.setCell (S := fun q => q = fb) ⟨fb, 0, none⟩ _ rfl) (fun e => hne e)
        · exact (h2.but (But.setCell (S := fun q => q = bb) ⟨bb, 0, none⟩ _ rfl) (fun e => hne e.symm)).set _
      · have hq := hquiet (quickAt_no (fun q => q.2.elim (fun h => hneg h) (fun h => hlt h)))
        rw [eL] at c1
        have hlti : ¬ ((colW r n).1.length : Int) < ((colW r (quickAt (colW r) n).toNat).1.length : Int) := by omega
        obtain ⟨LL, hLL⟩ : ∃ z : Int, z = ((colW r (quickAt (colW r) n).toNat).1.length : Int) := ⟨_, rfl⟩
        rw [← hLL] at c1 hlti
        have hL0 : ¬ LL < 0 := by omega
        have HQ := hid hq
        clear v2 hquiet hput hq eL hneg hlt hLL
        go_enter Try.func107, Try.ntmps107
        go_wp2_with fail
        go_ret
        rw [HQ.out.1, HQ.out.2]
        exact ⟨rfl, But.refl, h1, h2⟩

end Go.Proofs.Ytiflokfinkachaa
