/- Whether a division is a congruence, by the reference and by the program. -/
import Derived.Test.YtgkapgmgmekceaaRows
import Derived.Test.YtgkapgmgmekceaaBase
import Derived.Test.YtgkapgmgmekceaaAut
import Derived.Test.YtgkapgmgmekceaaPlain1
import Derived.Test.YtgkapgmgmekceaaPlainRun
import Derived.Test.YtgkapgmgmekceaaPlainDiv
import Derived.Test.YtgkapgmgmekceaaS01a
import Derived.Test.YtgkapgmgmekceaaS01d
import Derived.Test.YtgkapgmgmekceaaS01e
import Derived.Test.YtgkapgmgmekceaaI01a
import Derived.Test.YtgkapgmgmekceaaI01b
import Derived.Test.YtgkapgmgmekceaaI01c
import Derived.Test.YtgkapgmgmekceaaI01d
import Derived.Test.YtgkapgmgmekceaaI01e
import Derived.WalkKit
import Derived.WalkSpells
import Derived.WalkLawsBesides
import Derived.Deep.QuietTactic
import Derived.Deep.OwnRows
import Derived.BigQuiet
import Derived.KernelRfl
namespace Go.Proofs.Ytgkapgmgmekceaa
open Go.RowKit

set_option maxHeartbeats 800000 in
theorem specIsCongruence_any (v1 v2 : Value) (a : Aut) (cl : List Int) (w : World) (h1 : AutAt w v1 a) (h2 : IntsAt w v2 cl) :
    Calls Try.prog 22 #[v1, v2] w fun e w' => e = .returned (.tuple #[.bool (IsCongruence a cl).1, .int .i64 (IsCongruence a cl).2]) ∧ New w w' := by
  obtain ⟨rv, rfl, hr⟩ := h1
  obtain ⟨A, c, rfl⟩ := hr.form
  have hp := PAut.box hr 28
  have hn0 : New w (w.alloc (.cells #[.int .i64 a.n, .slice A a.nx.length c] 28)) := (by repeat (first | with_reducible exact New.refl _ | with_reducible assumption | with_reducible refine New.alloc ?_ _ | with_reducible refine New.drew ?_ | with_reducible refine New.drewN ?_ _ | with_reducible refine New.setCell ?_ (by simp <;> omega) _))
  have hA := fun w1 (hn : New (w.alloc (.cells #[.int .i64 a.n, .slice A a.nx.length c] 28)) w1) => l01Ok_any _ _ _ (hp.new hn)
  have hD := fun w1 (hn : New w w1) => l01Division_any _ _ a.n w1 (h2.new hn)
  have HA := hid hA
  have HD := hid hD
  clear hA hD
  cases ha : autOk a with
  | true =>
    rw [ha] at HA
    cases hd : isDiv cl a.n with
    | true =>
      rw [hd] at HD
      have e : IsCongruence a cl = (congB a.nx cl, 0) := by rw [IsCongruence, if_pos ha, if_pos hd]
      rw [e]
      have HAA := hid ha
      have HDD : Hid ((cl.length : Int) = a.n) := by unfold isDiv at hd; rw [Bool.and_eq_true, decide_eq_true_eq] at hd; exact hd.2
      clear e ha hd
      go_enter Try.func22, Try.ntmps22
      go_wp2_with fail
      refine (HA.out _ (New.refl _)).mono ?_
      rintro e w1 ⟨rfl, hn1⟩
      obtain ⟨hc_hn1, hf_hn1⟩ := New.both hn1; have hz_hn1 := New.size hn1; try simp only [size_alloc, size_drew, size_drewN, size_setCell] at hz_hn1
      go_wp2_with fail
      refine (HD.out _ (hn0.trans hn1)).mono ?_
      rintro e w' ⟨rfl, rfl⟩
      go_wp2_with fail
      refine (l01Congruent_any _ _ _ _ _ (hp.new hn1) (h2.new (hn0.trans hn1)) HAA.out HDD.out).mono ?_
      rintro e w2 ⟨rfl, hn2⟩
      go_wp2_with fail
      go_ret2
      exact ⟨rfl, (hn0.trans hn1).trans hn2⟩
    | false =>
      rw [hd] at HD
      have e : IsCongruence a cl = (false, 2) := by rw [IsCongruence, if_pos ha, if_neg (by rw [hd]; simp)]
      rw [e]
      clear e ha hd
      go_enter Try.func22, Try.ntmps22
      go_wp2_with fail
      refine (HA.out _ (New.refl _)).mono ?_
      rintro e w1 ⟨rfl, hn1⟩
      obtain ⟨hc_hn1, hf_hn1⟩ := New.both hn1; have hz_hn1 := New.size hn1; try simp only [size_alloc, size_drew, size_drewN, size_setCell] at hz_hn1
      go_wp2_with fail
      refine (HD.out _ (hn0.trans hn1)).mono ?_
      rintro e w' ⟨rfl, rfl⟩
      go_wp2_with fail
      go_ret2
      exact ⟨rfl, hn0.trans hn1⟩
  | false =>
    rw [ha] at HA
    have e : IsCongruence a cl = (false, 1) := by rw [IsCongruence, if_neg (by rw [ha]; simp)]
    rw [e]
    clear e ha
    go_enter Try.func22, Try.ntmps22
    go_wp2_with fail
    refine (HA.out _ (New.refl _)).mono ?_
    rintro e w1 ⟨rfl, hn1⟩
    go_wp2_with fail
    go_ret2
    exact ⟨rfl, hn0.trans hn1⟩
theorem IsCongruence_code (a : Aut) (cl : List Int) : codeOf (autOk a) (isDiv cl a.n) = (IsCongruence a cl).2 := by
  unfold codeOf IsCongruence
  split
  · split <;> rfl
  · rfl
set_option maxHeartbeats 400000 in
theorem IsCongruence1_any (b1 b2 : Nat) (v2 : Value) (n : Int) (cl : List Int) (w : World) (h0 : w.cell? ⟨b1, 0, none⟩ = some (.int .i64 n)) (h2 : w.cell? ⟨b2, 0, none⟩ = some v2) (hv : IntsAt w v2 cl) :
    Calls Try.prog 48 #[.pointer (some ⟨b2, 0, none⟩), .pointer (some ⟨b1, 0, none⟩)] w fun e w' => e = .returned (.bool (isDiv cl n)) ∧ New w w' := by
  go_enter Try.func48, Try.ntmps48
  go_wp2_with (go_at_call 49; refine (isDivision_any _ _ _ _ hv).mono ?_; rintro e w2 ⟨rfl, rfl⟩)
  go_ret
  exact ⟨rfl, New.refl _⟩
set_option maxHeartbeats 800000 in
theorem implIsCongruence_any (v1 v2 : Value) (a : Aut) (cl : List Int) (w : World) (h1 : AutAt w v1 a) (h2 : IntsAt w v2 cl) :
    Calls Try.prog 23 #[v1, v2] w fun e w' => e = .returned (.tuple #[.bool (IsCongruence a cl).1, .int .i64 (IsCongruence a cl).2]) ∧ New w w' := by
  obtain ⟨rv, rfl, hr⟩ := h1
  obtain ⟨A, c, rfl⟩ := hr.form
  obtain ⟨A2, c2, rfl⟩ := h2.form
  have h1 : AutAt w (.agg #[.int .i64 a.n, .slice A a.nx.length c]) a := ⟨_, rfl, hr⟩
  have hw1 : New w ((w.alloc (.cells #[.int .i64 a.n, .slice A a.nx.length c] 28)).alloc (.cells #[.slice A2 cl.length c2] 25)) := (by repeat (first | with_reducible exact New.refl _ | with_reducible assumption | with_reducible refine New.alloc ?_ _ | with_reducible refine New.drew ?_ | with_reducible refine New.drewN ?_ _ | with_reducible refine New.setCell ?_ (by simp <;> omega) _))
  have hc : ∀ w1, New ((w.alloc (.cells #[.int .i64 a.n, .slice A a.nx.length c] 28)).alloc (.cells #[.slice A2 cl.length c2] 25)) w1 →
      Calls Try.prog 47 #[.agg #[.int .i64 a.n, .slice A a.nx.length c], .func (.func 48) #[] #[.pointer (some ⟨w.heap.size + 1, 0, none⟩), .pointer (some ⟨w.heap.size, 0, none⟩)]] w1
        fun e w' => e = .returned (.int .i64 (IsCongruence a cl).2) ∧ New w1 w' := by
    intro w1 hn
    rw [← IsCongruence_code]
    refine code_any _ a _ _ (isDiv cl a.n) _ (h1.new (hw1.trans hn)) (enters Try.func48 (by decide) (by simp [Try.f48])) fun _ w' hw => ?_
    have hn2 := hn.trans hw
    exact IsCongruence1_any _ _ _ a.n cl _ (hn2.cell (by go_simp)) (hn2.cell (by go_simp)) (h2.new (hw1.trans hn2))
  have HC := hid hc
  clear hc
  cases ha : autOk a with
  | true =>
    cases hd : isDiv cl a.n with
    | true =>
      have e : IsCongruence a cl = (congB a.nx cl, 0) := by rw [IsCongruence, if_pos ha, if_pos hd]
      rw [e] at HC ⊢
      have HAA := hid ha
      have HDD : Hid ((cl.length : Int) = a.n) := by unfold isDiv at hd; rw [Bool.and_eq_true, decide_eq_true_eq] at hd; exact hd.2
      clear e ha hd
      go_enter Try.func23, Try.ntmps23
      go_wp2_with fail
      refine (HC.out _ (New.refl _)).mono ?_
      rintro e w1 ⟨rfl, hn1⟩
      obtain ⟨hc_hn1, hf_hn1⟩ := New.both hn1; have hz_hn1 := New.size hn1; try simp only [size_alloc, size_drew, size_drewN, size_setCell] at hz_hn1
      go_wp2_with fail
      refine (isCongruence_any _ _ a _ _ (h1.new (hw1.trans hn1)) (h2.new (hw1.trans hn1)) HAA.out HDD.out).mono ?_
      rintro e w2 ⟨rfl, hn2⟩
      go_wp2_with fail
      go_ret2
      exact ⟨rfl, (hw1.trans hn1).trans hn2⟩
    | false =>
      have e : IsCongruence a cl = (false, 2) := by rw [IsCongruence, if_pos ha, if_neg (by rw [hd]; simp)]
      rw [e] at HC ⊢
      clear e ha hd
      go_enter Try.func23, Try.ntmps23
      go_wp2_with fail
      refine (HC.out _ (New.refl _)).mono ?_
      rintro e w1 ⟨rfl, hn1⟩
      go_wp2_with fail
      go_ret2
      exact ⟨rfl, hw1.trans hn1⟩
  | false =>
    have e : IsCongruence a cl = (false, 1) := by rw [IsCongruence, if_neg (by rw [ha]; simp)]
    rw [e] at HC ⊢
    clear e ha
    go_enter Try.func23, Try.ntmps23
    go_wp2_with fail
    refine (HC.out _ (New.refl _)).mono ?_
    rintro e w1 ⟨rfl, hn1⟩
    go_wp2_with fail
    go_ret2
    exact ⟨rfl, hw1.trans hn1⟩

end Go.Proofs.Ytgkapgmgmekceaa
