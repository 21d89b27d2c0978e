/- Whether a division is a congruence, by the reference and by the program. -/
import Derived.Test.YtaaaeekdfmfooaaRows
import Derived.Test.YtaaaeekdfmfooaaBase
import Derived.Test.YtaaaeekdfmfooaaAut
import Derived.Test.YtaaaeekdfmfooaaPlain1
import Derived.Test.YtaaaeekdfmfooaaPlainRun
import Derived.Test.YtaaaeekdfmfooaaPlainDiv
import Derived.Test.YtaaaeekdfmfooaaS01a
import Derived.Test.YtaaaeekdfmfooaaS01d
import Derived.Test.YtaaaeekdfmfooaaS01e
import Derived.Test.YtaaaeekdfmfooaaI01a
import Derived.Test.YtaaaeekdfmfooaaI01b
import Derived.Test.YtaaaeekdfmfooaaI01c
import Derived.Test.YtaaaeekdfmfooaaI01d
import Derived.Test.YtaaaeekdfmfooaaI01e
import Derived.WalkKit
import Derived.WalkSpells
import Derived.WalkLawsBesides
import Derived.Deep.QuietTactic
import Derived.Deep.OwnRows
import Derived.BigQuiet
import Derived.KernelRfl
namespace Go.Proofs.Ytaaaeekdfmfooaa
open Go.RowKit

theorem IsCongruence_code (a : Aut) (cl : List Int) : codeOf (autOk a) (isDiv cl a.n) = (IsCongruence a cl).2 := by
  unfold codeOf IsCongruence
  split
  · split <;> rfl
  · rfl
set_option maxHeartbeats 400000 in
theorem IsCongruence1_any (b1 b2 : Nat) (v2 : Value) (n : Int) (cl : List Int) (w : World) (h0 : w.cell? ⟨b1, 0, none⟩ = some (.int .i64 n)) (h2 : w.cell? ⟨b2, 0, none⟩ = some v2) (hv : IntsAt w v2 cl) :
    Calls Try.prog 171 #[.pointer (some ⟨b2, 0, none⟩), .pointer (some ⟨b1, 0, none⟩)] w fun e w' => e = .returned (.bool (isDiv cl n)) ∧ New w w' := by
  go_enter Try.func171, Try.ntmps171
  go_wp2_with (go_at_call 172; refine (isDivision_any _ _ _ _ hv).mono ?_; rintro e w2 ⟨rfl, rfl⟩)
  go_ret
  exact ⟨rfl, New.refl _⟩
set_option maxHeartbeats 800000 in
theorem implIsCongruence_any (v1 v2 : Value) (a : Aut) (cl : List Int) (w : World) (h1 : AutAt w v1 a) (h2 : IntsAt w v2 cl) :
    Calls Try.prog 119 #[v1, v2] w fun e w' => e = .returned (.tuple #[.bool (IsCongruence a cl).1, .int .i64 (IsCongruence a cl).2]) ∧ New w w' := by
  obtain ⟨rv, rfl, hr⟩ := h1
  obtain ⟨A, c, rfl⟩ := hr.form
  obtain ⟨A2, c2, rfl⟩ := h2.form
  have h1 : AutAt w (.agg #[.int .i64 a.n, .slice A a.nx.length c]) a := ⟨_, rfl, hr⟩
  have hw1 : New w ((w.alloc (.cells #[.int .i64 a.n, .slice A a.nx.length c] 27)).alloc (.cells #[.slice A2 cl.length c2] 25)) := (by repeat (first | with_reducible exact New.refl _ | with_reducible assumption | with_reducible refine New.alloc ?_ _ | with_reducible refine New.drew ?_ | with_reducible refine New.drewN ?_ _ | with_reducible refine New.setCell ?_ (by simp <;> omega) _))
  have hc : ∀ w1, New ((w.alloc (.cells #[.int .i64 a.n, .slice A a.nx.length c] 27)).alloc (.cells #[.slice A2 cl.length c2] 25)) w1 →
      Calls Try.prog 66 #[.agg #[.int .i64 a.n, .slice A a.nx.length c], .func (.func 171) #[] #[.pointer (some ⟨w.heap.size + 1, 0, none⟩), .pointer (some ⟨w.heap.size, 0, none⟩)]] w1
        fun e w' => e = .returned (.int .i64 (IsCongruence a cl).2) ∧ New w1 w' := by
    intro w1 hn
    rw [← IsCongruence_code]
    refine code_any _ a _ _ (isDiv cl a.n) _ (h1.new (hw1.trans hn)) (enters Try.func171 (by decide) (by simp [Try.f171])) fun _ w' hw => ?_
    have hn2 := hn.trans hw
    exact IsCongruence1_any _ _ _ a.n cl _ (hn2.cell (by go_simp)) (hn2.cell (by go_simp)) (h2.new (hw1.trans hn2))
  have HC := hid hc
  clear hc
  cases ha : autOk a with
  | true =>
    cases hd : isDiv cl a.n with
    | true =>
      have e : IsCongruence a cl = (congB a.nx cl, 0) := by rw [IsCongruence, if_pos ha, if_pos hd]
      rw [e] at HC ⊢
      have HAA := hid ha
      have HDD : Hid ((cl.length : Int) = a.n) := by unfold isDiv at hd; rw [Bool.and_eq_true, decide_eq_true_eq] at hd; exact hd.2
      clear e ha hd
      go_enter Try.func119, Try.ntmps119
      go_wp2_with fail
      refine (HC.out _ (New.refl _)).mono ?_
      rintro e w1 ⟨rfl, hn1⟩
      obtain ⟨hc_hn1, hf_hn1⟩ := New.both hn1; have hz_hn1 := New.size hn1; try simp only [size_alloc, size_drew, size_drewN, size_setCell] at hz_hn1
      go_wp2_with fail
      refine (isCongruence_any _ _ a _ _ (h1.new (hw1.trans hn1)) (h2.new (hw1.trans hn1)) HAA.out HDD.out).mono ?_
      rintro e w2 ⟨rfl, hn2⟩
      go_wp2_with fail
      go_ret2
      exact ⟨rfl, (hw1.trans hn1).trans hn2⟩
    | false =>
      have e : IsCongruence a cl = (false, 2) := by rw [IsCongruence, if_pos ha, if_neg (by rw [hd]; simp)]
      rw [e] at HC ⊢
      clear e ha hd
      go_enter Try.func119, Try.ntmps119
      go_wp2_with fail
      refine (HC.out _ (New.refl _)).mono ?_
      rintro e w1 ⟨rfl, hn1⟩
      go_wp2_with fail
      go_ret2
      exact ⟨rfl, hw1.trans hn1⟩
  | false =>
    have e : IsCongruence a cl = (false, 1) := by rw [IsCongruence, if_neg (by rw [ha]; simp)]
    rw [e] at HC ⊢
    clear e ha
    go_enter Try.func119, Try.ntmps119
    go_wp2_with fail
    refine (HC.out _ (New.refl _)).mono ?_
    rintro e w1 ⟨rfl, hn1⟩
    go_wp2_with fail
    go_ret2
    exact ⟨rfl, hw1.trans hn1⟩

end Go.Proofs.Ytaaaeekdfmfooaa
