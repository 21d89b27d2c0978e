/- The program's test of machines. -/
import Derived.Test.YtnhjoiafadapaaaRows
import Derived.Test.YtnhjoiafadapaaaCore
import Derived.Test.YtnhjoiafadapaaaPlains
import Derived.Test.YtnhjoiafadapaaaIBase
import Derived.WalkKit
import Derived.WalkSpells
import Derived.WalkLawsBesides
import Derived.Deep.QuietTactic
import Derived.Deep.OwnRows
import Derived.BigQuiet
import Derived.KernelRfl
namespace Go.Proofs.Ytnhjoiafadapaaa
open Go.RowKit

set_option maxHeartbeats 400000 in
theorem forget_any (v : Value) (m : Mach) (w : World) (h : MachAt w v m) :
    Calls Try.prog 165 #[v] w fun e w' => ∃ rv, e = .returned (.agg #[.int .i64 m.n, rv]) ∧ New w w' ∧ RowsAt w' rv m.nx := by
  obtain ⟨r1, r2, rfl, hr1, hr2⟩ := h
  obtain ⟨A1, c1, rfl⟩ := hr1.form
  obtain ⟨A2, c2, rfl⟩ := hr2.form
  go_enter Try.func165, Try.ntmps165
  go_wp2_with fail
  refine bodyPost_ret (v := .agg #[.int .i64 m.n, .slice A1 m.nx.length c1]) (by simp [results, Try.results165, go_sem]) rfl ⟨_, rfl, (by repeat (first | with_reducible exact New.refl _ | with_reducible assumption | with_reducible refine New.alloc ?_ _ | with_reducible refine New.drew ?_ | with_reducible refine New.drewN ?_ _ | with_reducible refine New.setCell ?_ (by simp <;> omega) _)), hr1.new (by repeat (first | with_reducible exact New.refl _ | with_reducible assumption | with_reducible refine New.alloc ?_ _ | with_reducible refine New.drew ?_ | with_reducible refine New.drewN ?_ _ | with_reducible refine New.setCell ?_ (by simp <;> omega) _))⟩
set_option maxHeartbeats 400000 in
theorem ValidMachine1_any (v : Value) (xs : List Int) (p : Value) (m : Mach) (w : World) (h : IntsAt w v xs) (hp : PMach w p m) (h0 : 1 ≤ m.o) (h1 : m.o ≤ 3) :
    Calls Try.prog 166 #[v, p] w fun e w' => e = .returned (.bool (!outOk xs m.n m.o)) ∧ New w w' := by
  obtain ⟨pb, r1, r2, rfl, hp0, hp1, hp2, hp3, hr1, hr2⟩ := hp
  obtain ⟨A, c, rfl⟩ := h.form
  have hx0 := ext_cell hp0
  have hx1 := ext_cell hp1
  have hl := h.len
  by_cases hlen : (xs.length : Int) = m.n
  · have hb : ((xs.length : Int) != m.n) = false := by simp [hlen]
    have HL := hid hlen
    clear hlen
    go_enter Try.func166, Try.ntmps166
    go_wp2_with fail
    refine wp_region_quiet_new (by kernel_rfl) (by kernel_rfl) ?_; (repeat (go_big_quiet_step ((first | (go_at_call 117; exact quiet_same (size64_any _ _ _ _ hl)) | (go_at_call 118; exact quiet_new (areWithin_any _ _ _ _ _ (h.new (ext_new _ _)))))))); refine wpQuiet_nil ?_; intro wq hq; have hnq := new_of_ext hq; clear hq
    go_wp2
    go_ret
    refine ⟨ret_bool ?_, hnq⟩
    simp [outOk, HL.out]
  · have hb : ((xs.length : Int) != m.n) = true := by simp [hlen]
    go_enter Try.func166, Try.ntmps166
    go_wp2_with fail
    refine wp_region_quiet_new (by kernel_rfl) (by kernel_rfl) ?_; (repeat (go_big_quiet_step ((first | (go_at_call 117; exact quiet_same (size64_any _ _ _ _ hl)) | (go_at_call 118; exact quiet_new (areWithin_any _ _ _ _ _ (h.new (ext_new _ _)))))))); refine wpQuiet_nil ?_; intro wq hq; have hnq := new_of_ext hq; clear hq
    go_wp2
    go_ret
    refine ⟨ret_bool ?_, hnq⟩
    simp [outOk, hlen]
set_option maxHeartbeats 1000000 in
theorem implValidMachine_any (v : Value) (m : Mach) (w : World) (h : MachAt w v m) :
    Calls Try.prog 124 #[v] w fun e w' => e = .returned (.bool (machOk m)) ∧ New w w' := by
  obtain ⟨r1, r2, rfl, hr1, hr2⟩ := h
  obtain ⟨A1, c1, rfl⟩ := hr1.form
  obtain ⟨A2, c2, rfl⟩ := hr2.form
  have hl1 := hr1.len
  have hl2 := hr2.len
  have hm : MachAt w (.agg #[.int .i64 m.n, .int .i64 m.o, .slice A1 m.nx.length c1, .slice A2 m.out.length c2]) m := ⟨_, _, rfl, hr1, hr2⟩
  have hn0 : New w (w.alloc (.cells #[.int .i64 m.n, .int .i64 m.o, .slice A1 m.nx.length c1, .slice A2 m.out.length c2] 40)) := (by repeat (first | with_reducible exact New.refl _ | with_reducible assumption | with_reducible refine New.alloc ?_ _ | with_reducible refine New.drew ?_ | with_reducible refine New.drewN ?_ _ | with_reducible refine New.setCell ?_ (by simp <;> omega) _))
  have hp := PMach.box hr1 hr2 40
  have hA : ∀ w1, New (w.alloc (.cells #[.int .i64 m.n, .int .i64 m.o, .slice A1 m.nx.length c1, .slice A2 m.out.length c2] 40)) w1 → ∀ rv, RowsAt w1 rv m.nx →
      Calls Try.prog 49 #[.agg #[.int .i64 m.n, rv]] w1 fun e w' => e = .returned (.bool (autOk m.aut)) ∧ New w1 w' :=
    fun w1 hn rv hrv => ValidAutomaton_any _ m.aut w1 ⟨rv, rfl, hrv⟩
  have HA := hid hA
  clear hA
  cases ha : autOk m.aut with
  | true =>
    rw [ha] at HA
    cases ho : inB m.o 1 3 with
    | true =>
      have HO := hid ho
      have ho1 := (inB_iff _ _ _).1 ho
      have o1 : 1 ≤ m.o := ho1.1
      have o2 : m.o ≤ 3 := ho1.2
      clear ho1
      have C2 : ∀ w, Calls Try.prog 113 #[.int .i64 m.o, .int .i64 1, .int .i64 3] w fun e' w' => e' = .returned (.bool true) ∧ w' = w := fun w => by have := within_any m.o 1 3 w; rw [HO.out] at this; exact this
      by_cases hlen : m.out.length = m.nx.length
      · have hne : ((m.out.length : Int) == m.nx.length) = true := by simp [hlen]
        have HM : machOk m = outsOk m := by unfold machOk; rw [ha, ho]; simp [hlen]
        rw [HM]
        have HL := hid hlen
        clear ha ho hlen HM
        go_enter Try.func124, Try.ntmps124
        go_wp2_with fail
        refine (forget_any _ m _ (hm.new hn0)).mono ?_
        rintro e w1 ⟨rv, rfl, hn1, hrv⟩
        obtain ⟨hc_hn1, hf_hn1⟩ := New.both hn1; have hz_hn1 := New.size hn1; try simp only [sizes] at hz_hn1
        go_wp2_with fail
        refine (HA.out w1 hn1 _ hrv).mono ?_
        rintro e w2 ⟨rfl, hn2⟩
        obtain ⟨hc_hn2, hf_hn2⟩ := New.both hn2; have hz_hn2 := New.size hn2; try simp only [sizes] at hz_hn2
        have z0 : w.heap.size < w1.heap.size := by omega
        go_wp2_with fail
        refine (C2 _).mono ?_
        rintro e w' ⟨rfl, rfl⟩
        go_wp2_with fail
        refine (ContainsFuncRows_any _ m.out 166 #[.pointer (some ⟨w.heap.size, 0, none⟩)] (fun xs => !outOk xs m.n m.o) _ (hr2.new ((hn0.trans hn1).trans hn2))
          (enters Try.func166 (by decide) (by simp [Try.f166])) fun w' hw i hi rv hrv => ValidMachine1_any _ _ _ m _ hrv (hp.new ((hn1.trans hn2).trans hw)) o1 o2).mono ?_
        rintro e w3 ⟨rfl, hn3⟩
        go_wp2_with fail
        go_ret
        refine ⟨ret_bool ?_, ((hn0.trans hn1).trans hn2).trans hn3⟩
        rw [outsOk, List.not_any_eq_all_not]; simp
      · have hne : ((m.out.length : Int) == m.nx.length) = false := by simp; omega
        have HM : machOk m = false := by unfold machOk; simp [hlen]
        rw [HM]
        clear ha ho hlen HM
        go_enter Try.func124, Try.ntmps124
        go_wp2_with fail
        refine (forget_any _ m _ (hm.new hn0)).mono ?_
        rintro e w1 ⟨rv, rfl, hn1, hrv⟩
        obtain ⟨hc_hn1, hf_hn1⟩ := New.both hn1; have hz_hn1 := New.size hn1; try simp only [sizes] at hz_hn1
        go_wp2_with fail
        refine (HA.out w1 hn1 _ hrv).mono ?_
        rintro e w2 ⟨rfl, hn2⟩
        obtain ⟨hc_hn2, hf_hn2⟩ := New.both hn2; have hz_hn2 := New.size hn2; try simp only [sizes] at hz_hn2
        have z0 : w.heap.size < w1.heap.size := by omega
        go_wp2_with fail
        refine (C2 _).mono ?_
        rintro e w' ⟨rfl, rfl⟩
        go_wp2_with fail
        go_ret
        exact ⟨rfl, (hn0.trans hn1).trans hn2⟩
    | false =>
      have HO := hid ho
      have C2 : ∀ w, Calls Try.prog 113 #[.int .i64 m.o, .int .i64 1, .int .i64 3] w fun e' w' => e' = .returned (.bool false) ∧ w' = w := fun w => by have := within_any m.o 1 3 w; rw [HO.out] at this; exact this
      have HM : machOk m = false := by unfold machOk; simp [ho]
      rw [HM]
      clear ha ho HM
      go_enter Try.func124, Try.ntmps124
      go_wp2_with fail
      refine (forget_any _ m _ (hm.new hn0)).mono ?_
      rintro e w1 ⟨rv, rfl, hn1, hrv⟩
      obtain ⟨hc_hn1, hf_hn1⟩ := New.both hn1; have hz_hn1 := New.size hn1; try simp only [sizes] at hz_hn1
      go_wp2_with fail
      refine (HA.out w1 hn1 _ hrv).mono ?_
      rintro e w2 ⟨rfl, hn2⟩
      obtain ⟨hc_hn2, hf_hn2⟩ := New.both hn2; have hz_hn2 := New.size hn2; try simp only [sizes] at hz_hn2
      have z0 : w.heap.size < w1.heap.size := by omega
      go_wp2_with fail
      refine (C2 _).mono ?_
      rintro e w' ⟨rfl, rfl⟩
      go_wp2_with fail
      go_ret
      exact ⟨rfl, (hn0.trans hn1).trans hn2⟩
  | false =>
    rw [ha] at HA
    have HM : machOk m = false := by unfold machOk; simp [ha]
    rw [HM]
    clear ha HM
    go_enter Try.func124, Try.ntmps124
    go_wp2_with fail
    refine (forget_any _ m _ (hm.new hn0)).mono ?_
    rintro e w1 ⟨rv, rfl, hn1, hrv⟩
    go_wp2_with fail
    refine (HA.out w1 hn1 _ hrv).mono ?_
    rintro e w2 ⟨rfl, hn2⟩
    go_wp2_with fail
    go_ret
    exact ⟨rfl, (hn0.trans hn1).trans hn2⟩

end Go.Proofs.Ytnhjoiafadapaaa
