/- Two machines are compared, by the reference and by the program. -/
import Derived.Test.YtgkapgmgmekceaaRows
import Derived.Test.YtgkapgmgmekceaaBase
import Derived.Test.YtgkapgmgmekceaaMach
import Derived.Test.YtgkapgmgmekceaaS06a
import Derived.Test.YtgkapgmgmekceaaISame
import Derived.WalkKit
import Derived.WalkSpells
import Derived.WalkLawsBesides
import Derived.Deep.QuietTactic
import Derived.Deep.OwnRows
import Derived.BigQuiet
import Derived.KernelRfl
namespace Go.Proofs.Ytgkapgmgmekceaa
open Go.RowKit

set_option maxHeartbeats 800000 in
theorem implSameMachine_any (v1 v2 : Value) (a b : Mach) (w : World) (h1 : MachAt w v1 a) (h2 : MachAt w v2 b) :
    Calls Try.prog 18 #[v1, v2] w fun e w' => e = .returned (.bool (decide (a = b))) ∧ New w w' := by
  obtain ⟨r1, r2, rfl, hr1, hr2⟩ := h1
  obtain ⟨A1, c1, rfl⟩ := hr1.form
  obtain ⟨A2, c2, rfl⟩ := hr2.form
  obtain ⟨q1, q2, rfl, hq1, hq2⟩ := h2
  obtain ⟨A3, c3, rfl⟩ := hq1.form
  obtain ⟨A4, c4, rfl⟩ := hq2.form
  rw [Mach.ext']
  by_cases h : a.n = b.n
  · have hb : (a.n == b.n) = true := by simp [h]
    have hd : decide (a.n = b.n) = true := by simp [h]
    rw [hd]
    clear h hd
    by_cases h : a.o = b.o
    · have hb2 : (a.o == b.o) = true := by simp [h]
      have hd : decide (a.o = b.o) = true := by simp [h]
      rw [hd]
      clear h hd
      cases hx : decide (a.nx = b.nx) with
      | true =>
        have HX := hid hx
        clear hx
        go_enter Try.func18, Try.ntmps18
        go_wp2_with fail
        refine (sameTable_any _ _ a.nx b.nx _ (hr1.new (by repeat (first | with_reducible exact New.refl _ | with_reducible assumption | with_reducible refine New.alloc ?_ _ | with_reducible refine New.drew ?_ | with_reducible refine New.drewN ?_ _ | with_reducible refine New.setCell ?_ (by simp <;> omega) _))) (hq1.new (by repeat (first | with_reducible exact New.refl _ | with_reducible assumption | with_reducible refine New.alloc ?_ _ | with_reducible refine New.drew ?_ | with_reducible refine New.drewN ?_ _ | with_reducible refine New.setCell ?_ (by simp <;> omega) _)))).mono ?_
        rintro e w1 ⟨rfl, hn⟩
        rw [HX.out]
        obtain ⟨hc_hn, hf_hn⟩ := New.both hn; have hz_hn := New.size hn; try simp only [size_alloc, size_drew, size_drewN, size_setCell] at hz_hn
        have hn0 : New w w1 := New.trans (by repeat (first | with_reducible exact New.refl _ | with_reducible assumption | with_reducible refine New.alloc ?_ _ | with_reducible refine New.drew ?_ | with_reducible refine New.drewN ?_ _ | with_reducible refine New.setCell ?_ (by simp <;> omega) _)) hn
        go_wp2_with fail
        refine (sameTable_any _ _ a.out b.out _ (hr2.new hn0) (hq2.new hn0)).mono ?_
        rintro e w2 ⟨rfl, hm⟩
        go_wp2_with fail
        go_ret
        exact ⟨by simp, hn0.trans hm⟩
      | false =>
        have HX := hid hx
        clear hx
        go_enter Try.func18, Try.ntmps18
        go_wp2_with fail
        refine (sameTable_any _ _ a.nx b.nx _ (hr1.new (by repeat (first | with_reducible exact New.refl _ | with_reducible assumption | with_reducible refine New.alloc ?_ _ | with_reducible refine New.drew ?_ | with_reducible refine New.drewN ?_ _ | with_reducible refine New.setCell ?_ (by simp <;> omega) _))) (hq1.new (by repeat (first | with_reducible exact New.refl _ | with_reducible assumption | with_reducible refine New.alloc ?_ _ | with_reducible refine New.drew ?_ | with_reducible refine New.drewN ?_ _ | with_reducible refine New.setCell ?_ (by simp <;> omega) _)))).mono ?_
        rintro e w1 ⟨rfl, hn⟩
        rw [HX.out]
        go_wp2_with fail
        go_ret
        exact ⟨rfl, New.trans (by repeat (first | with_reducible exact New.refl _ | with_reducible assumption | with_reducible refine New.alloc ?_ _ | with_reducible refine New.drew ?_ | with_reducible refine New.drewN ?_ _ | with_reducible refine New.setCell ?_ (by simp <;> omega) _)) hn⟩
    · have hb2 : (a.o == b.o) = false := by simp [h]
      have hd : decide (a.o = b.o) = false := by simp [h]
      rw [hd]
      clear h hd
      go_enter Try.func18, Try.ntmps18
      go_wp2
      go_ret
      exact ⟨rfl, (by repeat (first | with_reducible exact New.refl _ | with_reducible assumption | with_reducible refine New.alloc ?_ _ | with_reducible refine New.drew ?_ | with_reducible refine New.drewN ?_ _ | with_reducible refine New.setCell ?_ (by simp <;> omega) _))⟩
  · have hb : (a.n == b.n) = false := by simp [h]
    have hd : decide (a.n = b.n) = false := by simp [h]
    rw [hd]
    clear h hd
    go_enter Try.func18, Try.ntmps18
    go_wp2
    go_ret
    exact ⟨rfl, (by repeat (first | with_reducible exact New.refl _ | with_reducible assumption | with_reducible refine New.alloc ?_ _ | with_reducible refine New.drew ?_ | with_reducible refine New.drewN ?_ _ | with_reducible refine New.setCell ?_ (by simp <;> omega) _))⟩
set_option maxHeartbeats 800000 in
theorem specSameMachine_any (v1 v2 : Value) (a b : Mach) (w : World) (h1 : MachAt w v1 a) (h2 : MachAt w v2 b) :
    Calls Try.prog 16 #[v1, v2] w fun e w' => e = .returned (.bool (decide (a = b))) ∧ New w w' := by
  obtain ⟨r1, r2, rfl, hr1, hr2⟩ := h1
  obtain ⟨A1, c1, rfl⟩ := hr1.form
  obtain ⟨A2, c2, rfl⟩ := hr2.form
  obtain ⟨q1, q2, rfl, hq1, hq2⟩ := h2
  obtain ⟨A3, c3, rfl⟩ := hq1.form
  obtain ⟨A4, c4, rfl⟩ := hq2.form
  rw [Mach.ext']
  by_cases h : a.n = b.n
  · have hb : (a.n == b.n) = true := by simp [h]
    have hd : decide (a.n = b.n) = true := by simp [h]
    rw [hd]
    clear h hd
    by_cases h : a.o = b.o
    · have hb2 : (a.o == b.o) = true := by simp [h]
      have hd : decide (a.o = b.o) = true := by simp [h]
      rw [hd]
      clear h hd
      cases hx : decide (a.nx = b.nx) with
      | true =>
        have HX := hid hx
        clear hx
        go_enter Try.func16, Try.ntmps16
        go_wp2_with fail
        refine (l06SameRows_any _ _ a.nx b.nx _ (hr1.new (by repeat (first | with_reducible exact New.refl _ | with_reducible assumption | with_reducible refine New.alloc ?_ _ | with_reducible refine New.drew ?_ | with_reducible refine New.drewN ?_ _ | with_reducible refine New.setCell ?_ (by simp <;> omega) _))) (hq1.new (by repeat (first | with_reducible exact New.refl _ | with_reducible assumption | with_reducible refine New.alloc ?_ _ | with_reducible refine New.drew ?_ | with_reducible refine New.drewN ?_ _ | with_reducible refine New.setCell ?_ (by simp <;> omega) _)))).mono ?_
        rintro e w1 ⟨rfl, hn⟩
        rw [HX.out]
        obtain ⟨hc_hn, hf_hn⟩ := New.both hn; have hz_hn := New.size hn; try simp only [size_alloc, size_drew, size_drewN, size_setCell] at hz_hn
        have hn0 : New w w1 := New.trans (by repeat (first | with_reducible exact New.refl _ | with_reducible assumption | with_reducible refine New.alloc ?_ _ | with_reducible refine New.drew ?_ | with_reducible refine New.drewN ?_ _ | with_reducible refine New.setCell ?_ (by simp <;> omega) _)) hn
        go_wp2_with fail
        refine (l06SameRows_any _ _ a.out b.out _ (hr2.new hn0) (hq2.new hn0)).mono ?_
        rintro e w2 ⟨rfl, hm⟩
        go_wp2_with fail
        go_ret
        exact ⟨by simp, hn0.trans hm⟩
      | false =>
        have HX := hid hx
        clear hx
        go_enter Try.func16, Try.ntmps16
        go_wp2_with fail
        refine (l06SameRows_any _ _ a.nx b.nx _ (hr1.new (by repeat (first | with_reducible exact New.refl _ | with_reducible assumption | with_reducible refine New.alloc ?_ _ | with_reducible refine New.drew ?_ | with_reducible refine New.drewN ?_ _ | with_reducible refine New.setCell ?_ (by simp <;> omega) _))) (hq1.new (by repeat (first | with_reducible exact New.refl _ | with_reducible assumption | with_reducible refine New.alloc ?_ _ | with_reducible refine New.drew ?_ | with_reducible refine New.drewN ?_ _ | with_reducible refine New.setCell ?_ (by simp <;> omega) _)))).mono ?_
        rintro e w1 ⟨rfl, hn⟩
        rw [HX.out]
        go_wp2_with fail
        go_ret
        exact ⟨rfl, New.trans (by repeat (first | with_reducible exact New.refl _ | with_reducible assumption | with_reducible refine New.alloc ?_ _ | with_reducible refine New.drew ?_ | with_reducible refine New.drewN ?_ _ | with_reducible refine New.setCell ?_ (by simp <;> omega) _)) hn⟩
    · have hb2 : (a.o == b.o) = false := by simp [h]
      have hd : decide (a.o = b.o) = false := by simp [h]
      rw [hd]
      clear h hd
      go_enter Try.func16, Try.ntmps16
      go_wp2
      go_ret
      exact ⟨rfl, (by repeat (first | with_reducible exact New.refl _ | with_reducible assumption | with_reducible refine New.alloc ?_ _ | with_reducible refine New.drew ?_ | with_reducible refine New.drewN ?_ _ | with_reducible refine New.setCell ?_ (by simp <;> omega) _))⟩
  · have hb : (a.n == b.n) = false := by simp [h]
    have hd : decide (a.n = b.n) = false := by simp [h]
    rw [hd]
    clear h hd
    go_enter Try.func16, Try.ntmps16
    go_wp2
    go_ret
    exact ⟨rfl, (by repeat (first | with_reducible exact New.refl _ | with_reducible assumption | with_reducible refine New.alloc ?_ _ | with_reducible refine New.drew ?_ | with_reducible refine New.drewN ?_ _ | with_reducible refine New.setCell ?_ (by simp <;> omega) _))⟩

end Go.Proofs.Ytgkapgmgmekceaa
