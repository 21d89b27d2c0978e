/- The laws' own small helpers on Partial. -/
import Derived.Test.YthbebnfhplacnaaRows
import Derived.Test.YthbebnfhplacnaaCore
import Derived.Test.YthbebnfhplacnaaLLaws
import Derived.WalkKit
import Derived.WalkSpells
import Derived.WalkLawsBesides
import Derived.Deep.QuietTactic
import Derived.Deep.OwnRows
import Derived.BigQuiet
import Derived.KernelRfl
namespace Go.Proofs.Ythbebnfhplacnaa
open Go.RowKit

set_option maxHeartbeats 400000 in
theorem szPartial_any (v : Value) (a : Aut) (left : Int) (w : World) (h : AutAt w v a) (h1 : left ≤ 1048576) (h0 : -1 ≤ left) :
    Calls Try.prog 4 #[v, .int .i64 left] w fun e w' => e = .returned (.int .i64 (szBB a.nx left)) ∧ New w w' := by
  obtain ⟨rv, rfl, hr⟩ := h
  obtain ⟨A1, c1, rfl⟩ := hr.form
  have hb := szBB_bound a.nx left h0
  by_cases hn : szBB a.nx left < 0
  all_goals
    go_enter Try.func4, Try.ntmps4
    go_wp2_with (go_at_call 13; refine (szInt64SS_any _ _ _ _ (hr.new (by repeat (first | with_reducible exact New.refl _ | with_reducible assumption | with_reducible refine New.alloc ?_ _ | with_reducible refine New.drew ?_ | with_reducible refine New.drewN ?_ _ | with_reducible refine New.setCell ?_ (by simp <;> omega) _))) (by omega) (by omega)).mono ?_; rintro e w' ⟨rfl, rfl⟩)
    go_ret
    exact ⟨ret_int (by omega), (by repeat (first | with_reducible exact New.refl _ | with_reducible assumption | with_reducible refine New.alloc ?_ _ | with_reducible refine New.drew ?_ | with_reducible refine New.drewN ?_ _ | with_reducible refine New.setCell ?_ (by simp <;> omega) _))⟩
set_option maxHeartbeats 400000 in
theorem toPartial_any (v : Value) (a : Aut) (w : World) (h : AutAt w v a) (hb : a.nx.length ≤ 1048576) (hbb : ∀ i, i < a.nx.length → (nth a.nx i).length ≤ 1048576) :
    Calls Try.prog 6 #[v] w fun e w' => ∃ r, e = .returned r ∧ New w w' ∧ OwnAut w.heap.size w'.heap.size w' r a := by
  obtain ⟨rv, rfl, hr⟩ := h
  obtain ⟨A1, c1, rfl⟩ := hr.form
  go_enter Try.func6, Try.ntmps6
  go_wp2_with fail
  refine (toInt64SS_any _ _ _ (hr.new (by repeat (first | with_reducible exact New.refl _ | with_reducible assumption | with_reducible refine New.alloc ?_ _ | with_reducible refine New.drew ?_ | with_reducible refine New.drewN ?_ _ | with_reducible refine New.setCell ?_ (by simp <;> omega) _))) hb hbb).mono ?_
  rintro e w1 ⟨r, rfl, hn, ho⟩
  obtain ⟨A2, c2, rfl⟩ := ho.form
  obtain ⟨hc_hn, hf_hn⟩ := New.both hn; have hz_hn := New.size hn; try simp only [sizes] at hz_hn
  have hn0 : New w w1 := New.trans (by repeat (first | with_reducible exact New.refl _ | with_reducible assumption | with_reducible refine New.alloc ?_ _ | with_reducible refine New.drew ?_ | with_reducible refine New.drewN ?_ _ | with_reducible refine New.setCell ?_ (by simp <;> omega) _)) hn
  go_wp2_with fail
  refine bodyPost_ret (v := .agg #[.int .i64 a.n, .slice A2 a.nx.length c2]) (by simp [results, Try.results6, go_sem, hc_hn]) rfl ⟨_, rfl, ?_, _, rfl, ?_⟩
  · exact (by repeat (first | with_reducible exact New.refl _ | with_reducible assumption | with_reducible refine New.alloc ?_ _ | with_reducible refine New.drew ?_ | with_reducible refine New.drewN ?_ _ | with_reducible refine New.setCell ?_ (by simp <;> omega) _))
  · exact ((ho.within (B' := w.heap.size) (E' := w.heap.size + 1 + 1 + 1) (by repeat (first | with_reducible exact Within.refl _ _ _ | with_reducible refine Within.setCell ?_ (by simp <;> omega) (by simp <;> omega) _)) (Or.inr (by (try simp only [sizes]) <;> omega))).widen (by (try simp only [sizes]) <;> omega) (by (try simp only [sizes]) <;> omega))
set_option maxHeartbeats 400000 in
theorem eqPartial_any (v1 v2 : Value) (a b : Aut) (w : World) (h1 : AutAt w v1 a) (h2 : AutAt w v2 b) :
    Calls Try.prog 9 #[v1, v2] w fun e w' => e = .returned (.bool (decide (a = b))) ∧ New w w' := by
  obtain ⟨rv, rfl, hr⟩ := h1
  obtain ⟨rv2, rfl, hr2⟩ := h2
  obtain ⟨A1, c1, rfl⟩ := hr.form
  obtain ⟨A2, c2, rfl⟩ := hr2.form
  rw [Aut.ext']
  by_cases h : a.n = b.n
  · have hb : (a.n != b.n) = false := by simp [h]
    have hd : decide (a.n = b.n) = true := by simp [h]
    have H := hid h
    clear h
    by_cases hx : a.nx = b.nx
    · have hd2 : decide (a.nx = b.nx) = true := by simp [hx]
      have HX := hid hx
      clear hx
      go_enter Try.func9, Try.ntmps9
      go_wp2_with (go_at_call 32; refine (eqInt64SS_any _ _ _ _ _ (hr.new (by repeat (first | with_reducible exact New.refl _ | with_reducible assumption | with_reducible refine New.alloc ?_ _ | with_reducible refine New.drew ?_ | with_reducible refine New.drewN ?_ _ | with_reducible refine New.setCell ?_ (by simp <;> omega) _))) (hr2.new (by repeat (first | with_reducible exact New.refl _ | with_reducible assumption | with_reducible refine New.alloc ?_ _ | with_reducible refine New.drew ?_ | with_reducible refine New.drewN ?_ _ | with_reducible refine New.setCell ?_ (by simp <;> omega) _)))).mono ?_; rintro e w' ⟨rfl, hn⟩)
      go_ret
      exact ⟨by simp [H.out, HX.out], New.trans (by repeat (first | with_reducible exact New.refl _ | with_reducible assumption | with_reducible refine New.alloc ?_ _ | with_reducible refine New.drew ?_ | with_reducible refine New.drewN ?_ _ | with_reducible refine New.setCell ?_ (by simp <;> omega) _)) hn⟩
    · have hd2 : decide (a.nx = b.nx) = false := by simp [hx]
      go_enter Try.func9, Try.ntmps9
      go_wp2_with (go_at_call 32; refine (eqInt64SS_any _ _ _ _ _ (hr.new (by repeat (first | with_reducible exact New.refl _ | with_reducible assumption | with_reducible refine New.alloc ?_ _ | with_reducible refine New.drew ?_ | with_reducible refine New.drewN ?_ _ | with_reducible refine New.setCell ?_ (by simp <;> omega) _))) (hr2.new (by repeat (first | with_reducible exact New.refl _ | with_reducible assumption | with_reducible refine New.alloc ?_ _ | with_reducible refine New.drew ?_ | with_reducible refine New.drewN ?_ _ | with_reducible refine New.setCell ?_ (by simp <;> omega) _)))).mono ?_; rintro e w' ⟨rfl, hn⟩)
      go_ret
      exact ⟨by simp [H.out, hx], New.trans (by repeat (first | with_reducible exact New.refl _ | with_reducible assumption | with_reducible refine New.alloc ?_ _ | with_reducible refine New.drew ?_ | with_reducible refine New.drewN ?_ _ | with_reducible refine New.setCell ?_ (by simp <;> omega) _)) hn⟩
  · have hb : (a.n != b.n) = true := by simp [h]
    go_enter Try.func9, Try.ntmps9
    go_wp2
    go_ret
    exact ⟨by simp [h], (by repeat (first | with_reducible exact New.refl _ | with_reducible assumption | with_reducible refine New.alloc ?_ _ | with_reducible refine New.drew ?_ | with_reducible refine New.drewN ?_ _ | with_reducible refine New.setCell ?_ (by simp <;> omega) _))⟩

end Go.Proofs.Ythbebnfhplacnaa
