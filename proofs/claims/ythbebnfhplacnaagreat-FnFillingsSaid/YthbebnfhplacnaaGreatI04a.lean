/- The program's partial automata, and where words lead in them. -/
import Derived.Test.YthbebnfhplacnaaGreatRows
import Derived.Test.YthbebnfhplacnaaGreatCore
import Derived.Test.YthbebnfhplacnaaGreatInfos
import Derived.Test.YthbebnfhplacnaaGreatPlains
import Derived.Test.YthbebnfhplacnaaGreatIBase
import Derived.Test.YthbebnfhplacnaaGreatITours
import Derived.WalkKit
import Derived.WalkSpells
import Derived.WalkLawsBesides
import Derived.Deep.QuietTactic
import Derived.Deep.OwnRows
import Derived.BigQuiet
import Derived.KernelRfl
import Derived.Deep.RegionHeld3
namespace Go.Proofs.YthbebnfhplacnaaGreat
open Go.RowKit

set_option maxHeartbeats 400000 in
theorem ValidPartial1_any (v : Value) (xs : List Int) (p : Value) (a : Aut) (w : World) (h : IntsAt w v xs) (hp : PAut w p a) (h0 : 0 ≤ a.n) (h1 : a.n ≤ 1048576) :
    Calls Tryz.prog 54 #[v, p] w fun e w' => e = .returned (.bool (!partRow xs a.n)) ∧ New w w' := by
  obtain ⟨pb, rv, rfl, hp0, hp1, hpr⟩ := hp
  obtain ⟨A, c, rfl⟩ := h.form
  by_cases hlen : (xs.length : Int) = a.n
  · have hb : ((xs.length : Int) != a.n) = false := by simp [hlen]
    have HL := hid hlen
    have hx0 := ext_cell hp0
    have hl := h.len
    clear hlen
    go_enter Tryz.func54, Tryz.ntmps54
    go_wp2_with fail
    refine wp_region_quiet_new (by kernel_rfl) (by kernel_rfl) ?_; (repeat (go_big_quiet_step ((first | (go_at_call 55; exact quiet_same (size64_any _ _ _ _ hl)) | (go_at_call 41; exact quiet_new (areWithin_any _ _ _ _ _ (h.new (ext_new _ _)))))))); refine wpQuiet_nil ?_; intro wq hq; have hnq := new_of_ext hq; clear hq
    go_wp2
    go_ret
    refine ⟨ret_bool ?_, hnq⟩
    simp [partRow, HL.out]
  · have hb : ((xs.length : Int) != a.n) = true := by simp [hlen]
    have hx0 := ext_cell hp0
    have hl := h.len
    go_enter Tryz.func54, Tryz.ntmps54
    go_wp2_with fail
    refine wp_region_quiet_new (by kernel_rfl) (by kernel_rfl) ?_; (repeat (go_big_quiet_step ((first | (go_at_call 55; exact quiet_same (size64_any _ _ _ _ hl)) | (go_at_call 41; exact quiet_new (areWithin_any _ _ _ _ _ (h.new (ext_new _ _)))))))); refine wpQuiet_nil ?_; intro wq hq; have hnq := new_of_ext hq; clear hq
    go_wp2
    go_ret
    refine ⟨ret_bool ?_, hnq⟩
    simp [partRow, hlen]
set_option maxHeartbeats 400000 in
theorem Pletters_any (v : Value) (a : Aut) (w : World) (h : AutAt w v a) :
    Calls Tryz.prog 52 #[v] w fun e w' => e = .returned (.int .i64 a.nx.length) ∧ New w w' := by
  obtain ⟨rv, rfl, hr⟩ := h
  obtain ⟨A, c, rfl⟩ := hr.form
  have hl := hr.len
  go_enter Tryz.func52, Tryz.ntmps52
  go_wp2_with (go_at_call 81; refine (sizeRows_any _ _ _ _ hl).mono ?_; rintro e w' ⟨rfl, rfl⟩)
  go_ret
  exact ⟨rfl, (by repeat (first | with_reducible exact New.refl _ | with_reducible assumption | with_reducible refine New.alloc ?_ _ | with_reducible refine New.drew ?_ | with_reducible refine New.drewN ?_ _ | with_reducible refine New.setCell ?_ (by simp <;> omega) _))⟩
set_option maxHeartbeats 400000 in
theorem ValidPartial_any (v : Value) (a : Aut) (w : World) (h : AutAt w v a) :
    Calls Tryz.prog 22 #[v] w fun e w' => e = .returned (.bool (partOk a)) ∧ New w w' := by
  obtain ⟨rv, rfl, hr⟩ := h
  obtain ⟨A, c, rfl⟩ := hr.form
  have hl := hr.len
  have hn0 : New w (w.alloc (.cells #[.int .i64 a.n, .slice A a.nx.length c] 26)) := (by repeat (first | with_reducible exact New.refl _ | with_reducible assumption | with_reducible refine New.alloc ?_ _ | with_reducible refine New.drew ?_ | with_reducible refine New.drewN ?_ _ | with_reducible refine New.setCell ?_ (by simp <;> omega) _))
  have hp := PAut.box hr 26
  by_cases h1 : inB a.n 1 10 = true
  · have h1' := (inB_iff _ _ _).1 h1
    have h3 : 0 ≤ a.n := by omega
    have h4 : a.n ≤ 1048576 := by omega
    clear h1'
    by_cases h2 : inB (a.nx.length : Int) 1 3 = true
    · go_enter Tryz.func22, Tryz.ntmps22
      go_wp2_with fail
      refine (within_any _ _ _ _).mono ?_
      rintro e w' ⟨rfl, rfl⟩
      go_wp2_with fail
      refine (Pletters_any _ a _ ⟨_, rfl, hr.new hn0⟩).mono ?_
      rintro e w1 ⟨rfl, hn1⟩
      obtain ⟨hc_hn1, hf_hn1⟩ := New.both hn1; have hz_hn1 := New.size hn1; try simp only [sizes] at hz_hn1
      go_wp2_with fail
      refine (within_any _ _ _ _).mono ?_
      rintro e w' ⟨rfl, rfl⟩
      go_wp2_with fail
      refine (ContainsFuncRows_any _ a.nx 54 #[.pointer (some ⟨w.heap.size, 0, none⟩)] (fun xs => !partRow xs a.n) _ (hr.new (hn0.trans hn1))
        (enters Tryz.func54 (by decide) (by simp [Tryz.f54])) fun w' hw i hi rv hrv => ValidPartial1_any _ _ _ a _ hrv (hp.new (hn1.trans hw)) h3 h4).mono ?_
      rintro e w2 ⟨rfl, hn2⟩
      go_wp2_with fail
      go_ret
      refine ⟨ret_bool ?_, (hn0.trans hn1).trans hn2⟩
      unfold partOk partRows; rw [h1, h2, List.not_any_eq_all_not]; simp
    · have h2' : inB (a.nx.length : Int) 1 3 = false := by simpa using h2
      clear h2
      go_enter Tryz.func22, Tryz.ntmps22
      go_wp2_with fail
      refine (within_any _ _ _ _).mono ?_
      rintro e w' ⟨rfl, rfl⟩
      go_wp2_with fail
      refine (Pletters_any _ a _ ⟨_, rfl, hr.new hn0⟩).mono ?_
      rintro e w1 ⟨rfl, hn1⟩
      obtain ⟨hc_hn1, hf_hn1⟩ := New.both hn1; have hz_hn1 := New.size hn1; try simp only [sizes] at hz_hn1
      go_wp2_with fail
      refine (within_any _ _ _ _).mono ?_
      rintro e w' ⟨rfl, rfl⟩
      go_wp2_with fail
      go_ret
      exact ⟨ret_bool (by unfold partOk; rw [h1, h2']; rfl), hn0.trans hn1⟩
  · have h1' : inB a.n 1 10 = false := by simpa using h1
    clear h1
    go_enter Tryz.func22, Tryz.ntmps22
    go_wp2_with (go_at_call 51; refine (within_any _ _ _ _).mono ?_; rintro e w' ⟨rfl, rfl⟩)
    go_ret
    exact ⟨ret_bool (by unfold partOk; rw [h1']; rfl), hn0⟩

end Go.Proofs.YthbebnfhplacnaaGreat
