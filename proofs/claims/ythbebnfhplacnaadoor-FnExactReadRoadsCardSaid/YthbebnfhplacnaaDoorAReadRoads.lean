/- The law of ReadRoads answers true. -/
import Derived.Test.YthbebnfhplacnaaDoorRows
import Derived.Test.YthbebnfhplacnaaDoorCore
import Derived.Test.YthbebnfhplacnaaDoorLLaws
import Derived.Test.YthbebnfhplacnaaDoorLAut
import Derived.Test.YthbebnfhplacnaaDoorMLaws
import Derived.Test.YthbebnfhplacnaaDoorMAut
import Derived.Test.YthbebnfhplacnaaDoorPlains
import Derived.Test.YthbebnfhplacnaaDoorJoins
import Derived.Test.YthbebnfhplacnaaDoorPlainText
import Derived.Test.YthbebnfhplacnaaDoorARoadsOf
import Derived.Test.YthbebnfhplacnaaDoorTText1
import Derived.Test.YthbebnfhplacnaaDoorTText2
import Derived.Test.YthbebnfhplacnaaDoorTText3
import Derived.Test.YthbebnfhplacnaaDoorTText7
import Derived.WalkKit
import Derived.WalkSpells
import Derived.WalkLawsBesides
import Derived.Deep.QuietTactic
import Derived.Deep.OwnRows
import Derived.BigQuiet
import Derived.KernelRfl
import Derived.Deep.RegionHeld3
namespace Go.Proofs.YthbebnfhplacnaaDoor
open Go.RowKit

set_option maxRecDepth 100000 in
set_option maxHeartbeats 4000000 in
theorem FnExactReadRoads_walk (s : ByteArray) (r0 : Aut) (r1 : Int) (w : World) (hl : s.size ≤ 1048576)
    (HS : ∀ (w : World), Calls Tryd.prog 4 #[.string s] w fun e w' => ∃ x0, e = .returned (.tuple #[x0, .int .i64 r1]) ∧ New w w' ∧ OwnAut w.heap.size w'.heap.size w' x0 r0)
    (HI : ∀ (w1 : World), New w w1 → Calls Tryd.prog 5 #[.string s] w1 fun e w' => ∃ x0, e = .returned (.tuple #[x0, .int .i64 r1]) ∧ New w1 w' ∧ OwnAut w1.heap.size w'.heap.size w' x0 r0) (hd0 : r0.nx.length ≤ 1048576 ∧ total r0.nx ≤ 1073741824) :
    Calls Tryd.prog 3 #[.string s] w fun e w' => e = .returned (.bool true) ∧ New w w' := by
  replace HS := hid HS
  replace HI := hid HI
  have hl' : ¬ (1048576 : Int) < (s.size : Int) := by omega
  go_enter Tryd.func3, Tryd.ntmps3
  go_wp2_with fail
  refine (HS.out _).mono ?_
  rintro e w1 ⟨u0, rfl, hn, ho_w0⟩
  have hz1 := hn.size
  have hN := hn
  replace ho_w0 := ho_w0.at
  have hE := New.refl w1
  obtain ⟨rw0, rfl, hrw0⟩ := id ho_w0; obtain ⟨Aw0, cw0, rfl⟩ := hrw0.form; clear hrw0
  go_wp2_with fail
  refine (HI.out _ (New.trans hN (by repeat (first | with_reducible exact New.refl _ | with_reducible assumption | with_reducible refine New.alloc ?_ _ | with_reducible refine New.drew ?_ | with_reducible refine New.drewN ?_ _ | with_reducible refine New.setCell ?_ (by simp <;> omega) _)))).mono ?_
  rintro e w2 ⟨u1, rfl, hn, ho_g0⟩
  replace ho_g0 := ho_g0.widen (B' := w1.heap.size + 1) (by (try simp only [sizes]) <;> omega) (Nat.le_refl _)
  have hz2 := hn.size
  have cb_w0_0 : w2.cell? ⟨w1.heap.size, 0, none⟩ = some (.int .i64 r0.n) := hn.cell (by go_simp)
  have cb_w0_1 : w2.cell? ⟨w1.heap.size, 1, none⟩ = some (.slice Aw0 r0.nx.length cw0) := hn.cell (by go_simp)
  have zb_w0 : w1.heap.size < w2.heap.size := by simp only [size_alloc] at hz2; omega
  try simp only [size_alloc] at hz2
  replace hn : New w1 w2 := New.trans (by repeat (first | with_reducible exact New.refl _ | with_reducible assumption | with_reducible refine New.alloc ?_ _ | with_reducible refine New.drew ?_ | with_reducible refine New.drewN ?_ _ | with_reducible refine New.setCell ?_ (by simp <;> omega) _)) hn
  replace hN := hN.trans hn
  replace hE := hE.trans hn
  obtain ⟨rg0, rfl, hrg0⟩ := id ho_g0; obtain ⟨Ag0, cg0, rfl⟩ := hrg0.form; clear hrg0
  go_wp2_with fail
  refine (eqRoads_any _ _ _ _ _ (ho_g0.new (by repeat (first | with_reducible exact New.refl _ | with_reducible assumption | with_reducible refine New.alloc ?_ _ | with_reducible refine New.drew ?_ | with_reducible refine New.drewN ?_ _ | with_reducible refine New.setCell ?_ (by simp <;> omega) _))).at ((ho_w0.new hE).new (by repeat (first | with_reducible exact New.refl _ | with_reducible assumption | with_reducible refine New.alloc ?_ _ | with_reducible refine New.drew ?_ | with_reducible refine New.drewN ?_ _ | with_reducible refine New.setCell ?_ (by simp <;> omega) _)))).mono ?_
  rintro e w3 ⟨rfl, hn⟩
  have hz3 := hn.size
  have cb_g0_0 : w3.cell? ⟨w2.heap.size, 0, none⟩ = some (.int .i64 r0.n) := hn.cell (by go_simp)
  have cb_g0_1 : w3.cell? ⟨w2.heap.size, 1, none⟩ = some (.slice Ag0 r0.nx.length cg0) := hn.cell (by go_simp)
  have zb_g0 : w2.heap.size < w3.heap.size := by simp only [size_alloc] at hz3; omega
  try simp only [size_alloc] at hz3
  replace hn : New w2 w3 := New.trans (by repeat (first | with_reducible exact New.refl _ | with_reducible assumption | with_reducible refine New.alloc ?_ _ | with_reducible refine New.drew ?_ | with_reducible refine New.drewN ?_ _ | with_reducible refine New.setCell ?_ (by simp <;> omega) _)) hn
  replace cb_w0_0 := hn.cell cb_w0_0
  replace cb_w0_1 := hn.cell cb_w0_1
  replace zb_w0 : w1.heap.size < w3.heap.size := by omega
  replace hN := hN.trans hn
  replace hE := hE.trans hn
  replace ho_g0 := ho_g0.new hn
  go_wp2_with fail
  refine (markRoads_any _ _ _ _ (ho_g0.new (by repeat (first | with_reducible exact New.refl _ | with_reducible assumption | with_reducible refine New.alloc ?_ _ | with_reducible refine New.drew ?_ | with_reducible refine New.drewN ?_ _ | with_reducible refine New.setCell ?_ (by simp <;> omega) _))) (by omega) (by omega)).mono ?_
  rintro e w4 ⟨rfl, hm_g0, hW⟩
  have hz4 := hW.2.2.2.1; try simp only [size_alloc] at hz4
  replace hW : Within (w1.heap.size + 1) (w2.heap.size) w3 w4 := Within.trans (Within.of_new (by repeat (first | with_reducible exact New.refl _ | with_reducible assumption | with_reducible refine New.alloc ?_ _ | with_reducible refine New.drew ?_ | with_reducible refine New.drewN ?_ _ | with_reducible refine New.setCell ?_ (by simp <;> omega) _)) _ _) hW
  replace cb_w0_0 := hW.cell cb_w0_0 (by simp <;> omega)
  replace cb_w0_1 := hW.cell cb_w0_1 (by simp <;> omega)
  replace zb_w0 : w1.heap.size < w4.heap.size := by omega
  replace cb_g0_0 := hW.cell cb_g0_0 (by simp <;> omega)
  replace cb_g0_1 := hW.cell cb_g0_1 (by simp <;> omega)
  replace zb_g0 : w2.heap.size < w4.heap.size := by omega
  replace hN := hN.within hW (by omega)
  replace hE := hE.within hW (by omega)
  clear hW ho_g0
  go_wp2_with fail
  refine (heldRoads_any _ r0 _ _ (hm_g0.new (by repeat (first | with_reducible exact New.refl _ | with_reducible assumption | with_reducible refine New.alloc ?_ _ | with_reducible refine New.drew ?_ | with_reducible refine New.drewN ?_ _ | with_reducible refine New.setCell ?_ (by simp <;> omega) _))).at (by omega) (by omega)).mono ?_
  rintro e w5 ⟨rfl, hn⟩
  have hz5 := hn.size; try simp only [size_alloc] at hz5
  replace hn : New w4 w5 := New.trans (by repeat (first | with_reducible exact New.refl _ | with_reducible assumption | with_reducible refine New.alloc ?_ _ | with_reducible refine New.drew ?_ | with_reducible refine New.drewN ?_ _ | with_reducible refine New.setCell ?_ (by simp <;> omega) _)) hn
  replace cb_w0_0 := hn.cell cb_w0_0
  replace cb_w0_1 := hn.cell cb_w0_1
  replace zb_w0 : w1.heap.size < w5.heap.size := by omega
  replace cb_g0_0 := hn.cell cb_g0_0
  replace cb_g0_1 := hn.cell cb_g0_1
  replace zb_g0 : w2.heap.size < w5.heap.size := by omega
  replace hN := hN.trans hn
  replace hE := hE.trans hn
  replace hm_g0 := hm_g0.new hn
  go_wp2_with fail
  refine (HI.out _ (New.trans hN (by repeat (first | with_reducible exact New.refl _ | with_reducible assumption | with_reducible refine New.alloc ?_ _ | with_reducible refine New.drew ?_ | with_reducible refine New.drewN ?_ _ | with_reducible refine New.setCell ?_ (by simp <;> omega) _)))).mono ?_
  rintro e w6 ⟨u2, rfl, hn, ho_h0⟩
  replace ho_h0 := ho_h0.widen (B' := w5.heap.size) (by (try simp only [sizes]) <;> omega) (Nat.le_refl _)
  have hz6 := hn.size; try simp only [size_alloc] at hz6
  replace hn : New w5 w6 := New.trans (by repeat (first | with_reducible exact New.refl _ | with_reducible assumption | with_reducible refine New.alloc ?_ _ | with_reducible refine New.drew ?_ | with_reducible refine New.drewN ?_ _ | with_reducible refine New.setCell ?_ (by simp <;> omega) _)) hn
  replace cb_w0_0 := hn.cell cb_w0_0
  replace cb_w0_1 := hn.cell cb_w0_1
  replace zb_w0 : w1.heap.size < w6.heap.size := by omega
  replace cb_g0_0 := hn.cell cb_g0_0
  replace cb_g0_1 := hn.cell cb_g0_1
  replace zb_g0 : w2.heap.size < w6.heap.size := by omega
  replace hN := hN.trans hn
  replace hE := hE.trans hn
  replace hm_g0 := hm_g0.new hn
  obtain ⟨rh0, rfl, hrh0⟩ := id ho_h0; obtain ⟨Ah0, ch0, rfl⟩ := hrh0.form; clear hrh0
  go_wp2_with fail
  refine (eqRoads_any _ _ _ _ _ (ho_h0.new (by repeat (first | with_reducible exact New.refl _ | with_reducible assumption | with_reducible refine New.alloc ?_ _ | with_reducible refine New.drew ?_ | with_reducible refine New.drewN ?_ _ | with_reducible refine New.setCell ?_ (by simp <;> omega) _))).at ((ho_w0.new hE).new (by repeat (first | with_reducible exact New.refl _ | with_reducible assumption | with_reducible refine New.alloc ?_ _ | with_reducible refine New.drew ?_ | with_reducible refine New.drewN ?_ _ | with_reducible refine New.setCell ?_ (by simp <;> omega) _)))).mono ?_
  rintro e w7 ⟨rfl, hn⟩
  have hz7 := hn.size
  have cb_h0_0 : w7.cell? ⟨w6.heap.size, 0, none⟩ = some (.int .i64 r0.n) := hn.cell (by go_simp)
  have cb_h0_1 : w7.cell? ⟨w6.heap.size, 1, none⟩ = some (.slice Ah0 r0.nx.length ch0) := hn.cell (by go_simp)
  have zb_h0 : w6.heap.size < w7.heap.size := by simp only [size_alloc] at hz7; omega
  try simp only [size_alloc] at hz7
  replace hn : New w6 w7 := New.trans (by repeat (first | with_reducible exact New.refl _ | with_reducible assumption | with_reducible refine New.alloc ?_ _ | with_reducible refine New.drew ?_ | with_reducible refine New.drewN ?_ _ | with_reducible refine New.setCell ?_ (by simp <;> omega) _)) hn
  replace cb_w0_0 := hn.cell cb_w0_0
  replace cb_w0_1 := hn.cell cb_w0_1
  replace zb_w0 : w1.heap.size < w7.heap.size := by omega
  replace cb_g0_0 := hn.cell cb_g0_0
  replace cb_g0_1 := hn.cell cb_g0_1
  replace zb_g0 : w2.heap.size < w7.heap.size := by omega
  replace hN := hN.trans hn
  replace hE := hE.trans hn
  replace hm_g0 := hm_g0.new hn
  go_wp2_with fail
  refine (heldRoads_any _ r0 _ _ (hm_g0.new (by repeat (first | with_reducible exact New.refl _ | with_reducible assumption | with_reducible refine New.alloc ?_ _ | with_reducible refine New.drew ?_ | with_reducible refine New.drewN ?_ _ | with_reducible refine New.setCell ?_ (by simp <;> omega) _))).at (by omega) (by omega)).mono ?_
  rintro e w8 ⟨rfl, hn⟩
  replace hn : New w7 w8 := New.trans (by repeat (first | with_reducible exact New.refl _ | with_reducible assumption | with_reducible refine New.alloc ?_ _ | with_reducible refine New.drew ?_ | with_reducible refine New.drewN ?_ _ | with_reducible refine New.setCell ?_ (by simp <;> omega) _)) hn
  replace hN := hN.trans hn
  go_wp2_with fail
  go_ret
  exact ⟨rfl, hN⟩
theorem FnExactReadRoads_any (s : ByteArray) (w : World) (hv : LibVars w) :
    Calls Tryd.prog 3 #[.string s] w fun e w' => e = .returned (.bool true) ∧ New w w' := by
  by_cases hl : s.size ≤ 1048576
  · refine FnExactReadRoads_walk s (readI s.data.toList).1 (readI s.data.toList).2 w hl (fun w => ?_) (fun w1 h1 => implReadRoads_any s w1 (hv.new h1) hl) ?_
    · have h := specReadRoads_any s w hl
      rw [read_same] at h
      exact h
    · have h := readI_big s.data.toList
      have ht := total_le_mul (readI s.data.toList).1.nx 3 h.2
      have : (readI s.data.toList).1.nx.length * 3 ≤ 7 * 3 := Nat.mul_le_mul_right _ h.1
      exact ⟨by omega, by omega⟩
  · have hl' : (1048576 : Int) < (s.size : Int) := by omega
    go_enter Tryd.func3, Tryd.ntmps3
    go_wp2_with fail
    go_ret
    exact ⟨rfl, New.refl _⟩

end Go.Proofs.YthbebnfhplacnaaDoor
