/- The laws' own small helpers on machines. -/
import Derived.Test.YtnhjoiafadapaaaRows
import Derived.Test.YtnhjoiafadapaaaCore
import Derived.Test.YtnhjoiafadapaaaLLaws
import Derived.WalkKit
import Derived.WalkSpells
import Derived.WalkLawsBesides
import Derived.Deep.QuietTactic
import Derived.Deep.OwnRows
import Derived.BigQuiet
import Derived.KernelRfl
namespace Go.Proofs.Ytnhjoiafadapaaa
open Go.RowKit

def szMach (m : Mach) (left : Int) : Int := if szBB m.nx left < 0 then -1 else szBB m.out (szBB m.nx left)
theorem szMach_bound (m : Mach) (left : Int) (h : -1 ≤ left) : -1 ≤ szMach m left ∧ szMach m left ≤ left := by
  have h1 := szBB_bound m.nx left h
  have h2 := szBB_bound m.out _ h1.1
  unfold szMach; split <;> omega
theorem szMach_len (m : Mach) (left : Int) (h : 0 ≤ left ∧ left ≤ 1048576) (h1 : 0 ≤ szMach m left) :
    m.nx.length ≤ 1048576 ∧ (∀ i, i < m.nx.length → (nth m.nx i).length ≤ 1048576) ∧ m.out.length ≤ 1048576 ∧ (∀ i, i < m.out.length → (nth m.out i).length ≤ 1048576) ∧ m.size ≤ 1048576 := by
  unfold szMach at h1
  by_cases h2 : szBB m.nx left < 0
  · rw [if_pos h2] at h1; omega
  · rw [if_neg h2] at h1
    have h3 := szBB_len m.nx left (by omega) (by omega)
    have h4 := szBB_len m.out _ (by omega) h1
    exact ⟨by omega, fun i hi => by have := length_le_total m.nx i hi; omega, by omega, fun i hi => by have := length_le_total m.out i hi; omega, by unfold Mach.size; omega⟩
set_option maxHeartbeats 400000 in
theorem szMachine_any (v : Value) (a : Mach) (left : Int) (w : World) (h : MachAt w v a) (h1 : left ≤ 1048576) (h0 : -1 ≤ left) :
    Calls Try.prog 17 #[v, .int .i64 left] w fun e w' => e = .returned (.int .i64 (szMach a left)) ∧ New w w' := by
  obtain ⟨r1, r2, rfl, hr1, hr2⟩ := h
  obtain ⟨A1, c1, rfl⟩ := hr1.form
  obtain ⟨A2, c2, rfl⟩ := hr2.form
  have hb := szBB_bound a.nx left h0
  have hb2 := szBB_bound a.out (szBB a.nx left) hb.1
  by_cases hn : szBB a.nx left < 0
  · go_enter Try.func17, Try.ntmps17
    go_wp2_with fail
    refine (szInt64SS_any _ _ _ _ (hr1.new (by repeat (first | with_reducible exact New.refl _ | with_reducible assumption | with_reducible refine New.alloc ?_ _ | with_reducible refine New.drew ?_ | with_reducible refine New.drewN ?_ _ | with_reducible refine New.setCell ?_ (by simp <;> omega) _))) (by omega) (by omega)).mono ?_
    rintro e w' ⟨rfl, rfl⟩
    go_wp2_with fail
    go_ret
    exact ⟨ret_int (by rw [szMach, if_pos (by omega)]), (by repeat (first | with_reducible exact New.refl _ | with_reducible assumption | with_reducible refine New.alloc ?_ _ | with_reducible refine New.drew ?_ | with_reducible refine New.drewN ?_ _ | with_reducible refine New.setCell ?_ (by simp <;> omega) _))⟩
  by_cases hn2 : szBB a.out (szBB a.nx left) < 0
  all_goals
    go_enter Try.func17, Try.ntmps17
    go_wp2_with fail
    refine (szInt64SS_any _ a.nx _ _ (hr1.new (by repeat (first | with_reducible exact New.refl _ | with_reducible assumption | with_reducible refine New.alloc ?_ _ | with_reducible refine New.drew ?_ | with_reducible refine New.drewN ?_ _ | with_reducible refine New.setCell ?_ (by simp <;> omega) _))) (by omega) (by omega)).mono ?_
    rintro e w' ⟨rfl, rfl⟩
    go_wp2_with fail
    refine (szInt64SS_any _ a.out _ _ (hr2.new (by repeat (first | with_reducible exact New.refl _ | with_reducible assumption | with_reducible refine New.alloc ?_ _ | with_reducible refine New.drew ?_ | with_reducible refine New.drewN ?_ _ | with_reducible refine New.setCell ?_ (by simp <;> omega) _))) (by omega) (by omega)).mono ?_
    rintro e w' ⟨rfl, rfl⟩
    go_wp2_with fail
    go_ret
    exact ⟨ret_int (by rw [szMach, if_neg (by omega)] <;> omega), (by repeat (first | with_reducible exact New.refl _ | with_reducible assumption | with_reducible refine New.alloc ?_ _ | with_reducible refine New.drew ?_ | with_reducible refine New.drewN ?_ _ | with_reducible refine New.setCell ?_ (by simp <;> omega) _))⟩
set_option maxHeartbeats 800000 in
theorem toMachine_any (v : Value) (a : Mach) (w : World) (h : MachAt w v a)
    (hb : a.nx.length ≤ 1048576 ∧ (∀ i, i < a.nx.length → (nth a.nx i).length ≤ 1048576) ∧ a.out.length ≤ 1048576 ∧ (∀ i, i < a.out.length → (nth a.out i).length ≤ 1048576) ∧ a.size ≤ 1048576) :
    Calls Try.prog 19 #[v] w fun e w' => ∃ r, e = .returned r ∧ New w w' ∧ OwnMach w.heap.size w'.heap.size w' r a := by
  obtain ⟨r1, r2, rfl, hr1, hr2⟩ := h
  obtain ⟨A1, c1, rfl⟩ := hr1.form
  obtain ⟨A2, c2, rfl⟩ := hr2.form
  have HB := hid hb
  clear hb
  go_enter Try.func19, Try.ntmps19
  go_wp2_with fail
  refine (toInt64SS_any _ a.nx _ (hr1.new (by repeat (first | with_reducible exact New.refl _ | with_reducible assumption | with_reducible refine New.alloc ?_ _ | with_reducible refine New.drew ?_ | with_reducible refine New.drewN ?_ _ | with_reducible refine New.setCell ?_ (by simp <;> omega) _))) HB.out.1 HB.out.2.1).mono ?_
  rintro e w1 ⟨r, rfl, hn, ho⟩
  obtain ⟨A3, c3, rfl⟩ := ho.form
  obtain ⟨hc_hn, hf_hn⟩ := New.both hn; have hz_hn := New.size hn; try simp only [sizes] at hz_hn
  have hn0 : New w w1 := New.trans (by repeat (first | with_reducible exact New.refl _ | with_reducible assumption | with_reducible refine New.alloc ?_ _ | with_reducible refine New.drew ?_ | with_reducible refine New.drewN ?_ _ | with_reducible refine New.setCell ?_ (by simp <;> omega) _)) hn
  have z0 : w.heap.size < w1.heap.size := by omega
  have z1 : w.heap.size + 1 < w1.heap.size := by omega
  have z2 : w.heap.size + 1 + 1 < w1.heap.size := by omega
  go_wp2_with fail
  refine (toInt64SS_any _ a.out _ (hr2.new (by repeat (first | with_reducible exact New.refl _ | with_reducible assumption | with_reducible refine New.alloc ?_ _ | with_reducible refine New.drew ?_ | with_reducible refine New.drewN ?_ _ | with_reducible refine New.setCell ?_ (by simp <;> omega) _))) HB.out.2.2.1 HB.out.2.2.2.1).mono ?_
  rintro e w2 ⟨r', rfl, hm, ho2⟩
  obtain ⟨A4, c4, rfl⟩ := ho2.form
  obtain ⟨hc_hm, hf_hm⟩ := New.both hm; have hz_hm := New.size hm; try simp only [sizes] at hz_hm
  have hm0 : New w w2 := New.trans (by repeat (first | with_reducible exact New.refl _ | with_reducible assumption | with_reducible refine New.alloc ?_ _ | with_reducible refine New.drew ?_ | with_reducible refine New.drewN ?_ _ | with_reducible refine New.setCell ?_ (by simp <;> omega) _)) hm
  go_wp2_with fail
  refine bodyPost_ret (v := .agg #[.int .i64 a.n, .int .i64 a.o, .slice A3 a.nx.length c3, .slice A4 a.out.length c4]) (by simp [results, Try.results19, go_sem, hc_hm, hc_hn, z1]) rfl ⟨_, rfl, ?_, OwnMach.parts ⟨_, _, w1.heap.size, rfl, ?_, ?_, ?_, ?_⟩⟩
  · exact (by repeat (first | with_reducible exact New.refl _ | with_reducible assumption | with_reducible refine New.alloc ?_ _ | with_reducible refine New.drew ?_ | with_reducible refine New.drewN ?_ _ | with_reducible refine New.setCell ?_ (by simp <;> omega) _))
  · exact (by (try simp only [sizes]) <;> omega)
  · exact (by (try simp only [sizes]) <;> omega)
  · have k1 := (ho.widen (B' := w.heap.size + 1 + 1 + 1) (by (try simp only [sizes]) <;> omega) (Nat.le_refl _)).within (B' := w.heap.size) (E' := w.heap.size + 1 + 1 + 1) (w' := w2) (Within.trans (Within.setCell (Within.refl _ _ _) (by simp <;> omega) (by simp <;> omega) _) (Within.of_new hm _ _)) (Or.inr (Nat.le_refl _))
    exact (k1.within (B' := w.heap.size) (E' := w.heap.size + 1 + 1 + 1) (by repeat (first | with_reducible exact Within.refl _ _ _ | with_reducible refine Within.setCell ?_ (by simp <;> omega) (by simp <;> omega) _)) (Or.inr (Nat.le_refl _))).widen (by omega) (Nat.le_refl _)
  · have k2 := ho2.widen (B' := w1.heap.size) (by (try simp only [sizes]) <;> omega) (Nat.le_refl _)
    exact (k2.within (B' := w.heap.size) (E' := w.heap.size + 1 + 1 + 1) (by repeat (first | with_reducible exact Within.refl _ _ _ | with_reducible refine Within.setCell ?_ (by simp <;> omega) (by simp <;> omega) _)) (Or.inr (by omega))).widen (Nat.le_refl _) (by (try simp only [sizes]) <;> omega)
set_option maxHeartbeats 800000 in
theorem eqMachine_any (v1 v2 : Value) (a b : Mach) (w : World) (h1 : MachAt w v1 a) (h2 : MachAt w v2 b) :
    Calls Try.prog 21 #[v1, v2] w fun e w' => e = .returned (.bool (decide (a = b))) ∧ New w w' := by
  obtain ⟨r1, r2, rfl, hr1, hr2⟩ := h1
  obtain ⟨A1, c1, rfl⟩ := hr1.form
  obtain ⟨A2, c2, rfl⟩ := hr2.form
  obtain ⟨q1, q2, rfl, hq1, hq2⟩ := h2
  obtain ⟨A3, c3, rfl⟩ := hq1.form
  obtain ⟨A4, c4, rfl⟩ := hq2.form
  rw [Mach.ext']
  by_cases h : a.n = b.n
  · have hb : (a.n != b.n) = false := by simp [h]
    have hd : decide (a.n = b.n) = true := by simp [h]
    rw [hd]
    clear h hd
    by_cases h : a.o = b.o
    · have hb2 : (a.o != b.o) = false := by simp [h]
      have hd : decide (a.o = b.o) = true := by simp [h]
      rw [hd]
      clear h hd
      by_cases hx : a.nx = b.nx
      · have HX := hid (show decide (a.nx = b.nx) = true by simp [hx])
        clear hx
        by_cases hy : a.out = b.out
        · have HY := hid (show decide (a.out = b.out) = true by simp [hy])
          clear hy
          go_enter Try.func21, Try.ntmps21
          go_wp2_with fail
          refine (eqInt64SS_any _ _ a.nx b.nx _ (hr1.new (by repeat (first | with_reducible exact New.refl _ | with_reducible assumption | with_reducible refine New.alloc ?_ _ | with_reducible refine New.drew ?_ | with_reducible refine New.drewN ?_ _ | with_reducible refine New.setCell ?_ (by simp <;> omega) _))) (hq1.new (by repeat (first | with_reducible exact New.refl _ | with_reducible assumption | with_reducible refine New.alloc ?_ _ | with_reducible refine New.drew ?_ | with_reducible refine New.drewN ?_ _ | with_reducible refine New.setCell ?_ (by simp <;> omega) _)))).mono ?_
          rintro e w1 ⟨rfl, hn⟩
          rw [HX.out]
          obtain ⟨hc_hn, hf_hn⟩ := New.both hn; have hz_hn := New.size hn; try simp only [sizes] at hz_hn
          have hn0 : New w w1 := New.trans (by repeat (first | with_reducible exact New.refl _ | with_reducible assumption | with_reducible refine New.alloc ?_ _ | with_reducible refine New.drew ?_ | with_reducible refine New.drewN ?_ _ | with_reducible refine New.setCell ?_ (by simp <;> omega) _)) hn
          go_wp2_with fail
          refine (eqInt64SS_any _ _ a.out b.out _ (hr2.new hn0) (hq2.new hn0)).mono ?_
          rintro e w2 ⟨rfl, hm⟩
          rw [HY.out]
          go_wp2_with fail
          go_ret
          exact ⟨by rw [HX.out, HY.out]; rfl, hn0.trans hm⟩
        · have HY := hid (show decide (a.out = b.out) = false by simp [hy])
          clear hy
          go_enter Try.func21, Try.ntmps21
          go_wp2_with fail
          refine (eqInt64SS_any _ _ a.nx b.nx _ (hr1.new (by repeat (first | with_reducible exact New.refl _ | with_reducible assumption | with_reducible refine New.alloc ?_ _ | with_reducible refine New.drew ?_ | with_reducible refine New.drewN ?_ _ | with_reducible refine New.setCell ?_ (by simp <;> omega) _))) (hq1.new (by repeat (first | with_reducible exact New.refl _ | with_reducible assumption | with_reducible refine New.alloc ?_ _ | with_reducible refine New.drew ?_ | with_reducible refine New.drewN ?_ _ | with_reducible refine New.setCell ?_ (by simp <;> omega) _)))).mono ?_
          rintro e w1 ⟨rfl, hn⟩
          rw [HX.out]
          obtain ⟨hc_hn, hf_hn⟩ := New.both hn; have hz_hn := New.size hn; try simp only [sizes] at hz_hn
          have hn0 : New w w1 := New.trans (by repeat (first | with_reducible exact New.refl _ | with_reducible assumption | with_reducible refine New.alloc ?_ _ | with_reducible refine New.drew ?_ | with_reducible refine New.drewN ?_ _ | with_reducible refine New.setCell ?_ (by simp <;> omega) _)) hn
          go_wp2_with fail
          refine (eqInt64SS_any _ _ a.out b.out _ (hr2.new hn0) (hq2.new hn0)).mono ?_
          rintro e w2 ⟨rfl, hm⟩
          rw [HY.out]
          go_wp2_with fail
          go_ret
          exact ⟨by rw [HX.out, HY.out]; rfl, hn0.trans hm⟩
      · have HX := hid (show decide (a.nx = b.nx) = false by simp [hx])
        clear hx
        go_enter Try.func21, Try.ntmps21
        go_wp2_with fail
        refine (eqInt64SS_any _ _ a.nx b.nx _ (hr1.new (by repeat (first | with_reducible exact New.refl _ | with_reducible assumption | with_reducible refine New.alloc ?_ _ | with_reducible refine New.drew ?_ | with_reducible refine New.drewN ?_ _ | with_reducible refine New.setCell ?_ (by simp <;> omega) _))) (hq1.new (by repeat (first | with_reducible exact New.refl _ | with_reducible assumption | with_reducible refine New.alloc ?_ _ | with_reducible refine New.drew ?_ | with_reducible refine New.drewN ?_ _ | with_reducible refine New.setCell ?_ (by simp <;> omega) _)))).mono ?_
        rintro e w1 ⟨rfl, hn⟩
        rw [HX.out]
        go_wp2_with fail
        go_ret
        exact ⟨by rw [HX.out]; rfl, New.trans (by repeat (first | with_reducible exact New.refl _ | with_reducible assumption | with_reducible refine New.alloc ?_ _ | with_reducible refine New.drew ?_ | with_reducible refine New.drewN ?_ _ | with_reducible refine New.setCell ?_ (by simp <;> omega) _)) hn⟩
    · have hb2 : (a.o != b.o) = true := by simp [h]
      have hd : decide (a.o = b.o) = false := by simp [h]
      rw [hd]
      clear h hd
      go_enter Try.func21, Try.ntmps21
      go_wp2
      go_ret
      exact ⟨rfl, (by repeat (first | with_reducible exact New.refl _ | with_reducible assumption | with_reducible refine New.alloc ?_ _ | with_reducible refine New.drew ?_ | with_reducible refine New.drewN ?_ _ | with_reducible refine New.setCell ?_ (by simp <;> omega) _))⟩
  · have hb : (a.n != b.n) = true := by simp [h]
    have hd : decide (a.n = b.n) = false := by simp [h]
    rw [hd]
    clear h hd
    go_enter Try.func21, Try.ntmps21
    go_wp2
    go_ret
    exact ⟨rfl, (by repeat (first | with_reducible exact New.refl _ | with_reducible assumption | with_reducible refine New.alloc ?_ _ | with_reducible refine New.drew ?_ | with_reducible refine New.drewN ?_ _ | with_reducible refine New.setCell ?_ (by simp <;> omega) _))⟩

end Go.Proofs.Ytnhjoiafadapaaa
