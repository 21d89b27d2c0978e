/- The law of SurestWord answers true, whatever its two functions return, if they return the same. -/
import Derived.Test.YthbebnfhplacnaaRows
import Derived.Test.YthbebnfhplacnaaCore
import Derived.Test.YthbebnfhplacnaaLLaws
import Derived.Test.YthbebnfhplacnaaLPart
import Derived.Test.YthbebnfhplacnaaMLaws
import Derived.Test.YthbebnfhplacnaaMPart
import Derived.WalkKit
import Derived.WalkSpells
import Derived.WalkLawsBesides
import Derived.Deep.QuietTactic
import Derived.Deep.OwnRows
import Derived.BigQuiet
import Derived.KernelRfl
import Derived.Deep.RegionHeld3
namespace Go.Proofs.Ythbebnfhplacnaa
open Go.RowKit

set_option maxRecDepth 100000 in
set_option maxHeartbeats 4000000 in
theorem FnExactSurestWord_walk (v0 : Value) (a0 : Aut) (r0 : List Int) (r1 : Int) (w : World) (h0 : AutAt w v0 a0)
    (HS : ∀ (w : World) (u0 : Value), AutAt w u0 a0 → Calls Try.prog 5 #[u0] w fun e w' => ∃ x0, e = .returned (.tuple #[x0, .int .i64 r1]) ∧ New w w' ∧ OwnInts w.heap.size w'.heap.size w' x0 r0)
    (HI : ∀ (w : World) (u0 : Value), AutAt w u0 a0 → Calls Try.prog 7 #[u0] w fun e w' => ∃ x0, e = .returned (.tuple #[x0, .int .i64 r1]) ∧ New w w' ∧ OwnInts w.heap.size w'.heap.size w' x0 r0) (hd0 : r0.length ≤ 1048576) :
    Calls Try.prog 3 #[v0] w fun e w' => e = .returned (.bool true) ∧ New w w' := by
  replace HS := hid HS
  replace HI := hid HI
  obtain ⟨raP, rfl, hraP⟩ := id h0; obtain ⟨AaP, caP, rfl⟩ := hraP.form; clear hraP
  have hbd_aP := szBB_bound a0.nx 1048576 (by omega)
  by_cases hs_aP : szBB a0.nx 1048576 < 0
  · go_enter Try.func3, Try.ntmps3
    go_wp2_with fail
    refine (szPartial_any _ a0 _ _ (h0.new (by repeat (first | with_reducible exact New.refl _ | with_reducible assumption | with_reducible refine New.alloc ?_ _ | with_reducible refine New.drew ?_ | with_reducible refine New.drewN ?_ _ | with_reducible refine New.setCell ?_ (by simp <;> omega) _))) (by omega) (by omega)).mono ?_
    rintro e w1 ⟨rfl, hn⟩
    have cb_aP_0 : w1.cell? ⟨w.heap.size, 0, none⟩ = some (.int .i64 a0.n) := hn.cell (by go_simp)
    have cb_aP_1 : w1.cell? ⟨w.heap.size, 1, none⟩ = some (.slice AaP a0.nx.length caP) := hn.cell (by go_simp)
    have hN : New w w1 := New.trans (by repeat (first | with_reducible exact New.refl _ | with_reducible assumption | with_reducible refine New.alloc ?_ _ | with_reducible refine New.drew ?_ | with_reducible refine New.drewN ?_ _ | with_reducible refine New.setCell ?_ (by simp <;> omega) _)) hn
    go_wp2_with fail
    go_ret
    exact ⟨rfl, hN⟩
  have hsz_aP := szBB_len a0.nx 1048576 (by omega) (by omega)
  have hb_aP : a0.nx.length ≤ 1048576 := by omega
  have ht_aP : total a0.nx ≤ 1048576 := by omega
  have HB_aP := hid (fun i (hi : i < a0.nx.length) => Nat.le_trans (length_le_total a0.nx i hi) ht_aP)
  clear hsz_aP
  go_enter Try.func3, Try.ntmps3
  go_wp2_with fail
  refine (szPartial_any _ a0 _ _ (h0.new (by repeat (first | with_reducible exact New.refl _ | with_reducible assumption | with_reducible refine New.alloc ?_ _ | with_reducible refine New.drew ?_ | with_reducible refine New.drewN ?_ _ | with_reducible refine New.setCell ?_ (by simp <;> omega) _))) (by omega) (by omega)).mono ?_
  rintro e w1 ⟨rfl, hn⟩
  have hz1 := hn.size; try simp only [size_alloc] at hz1
  have cb_aP_0 : w1.cell? ⟨w.heap.size, 0, none⟩ = some (.int .i64 a0.n) := hn.cell (by go_simp)
  have cb_aP_1 : w1.cell? ⟨w.heap.size, 1, none⟩ = some (.slice AaP a0.nx.length caP) := hn.cell (by go_simp)
  replace hn : New w w1 := New.trans (by repeat (first | with_reducible exact New.refl _ | with_reducible assumption | with_reducible refine New.alloc ?_ _ | with_reducible refine New.drew ?_ | with_reducible refine New.drewN ?_ _ | with_reducible refine New.setCell ?_ (by simp <;> omega) _)) hn
  replace zb_aP : w.heap.size < w1.heap.size := by omega
  have hN := hn
  go_wp2_with fail
  refine (toPartial_any _ a0 _ (h0.new (New.trans hN (by repeat (first | with_reducible exact New.refl _ | with_reducible assumption | with_reducible refine New.alloc ?_ _ | with_reducible refine New.drew ?_ | with_reducible refine New.drewN ?_ _ | with_reducible refine New.setCell ?_ (by simp <;> omega) _)))) hb_aP HB_aP.out).mono ?_
  rintro e w2 ⟨v_t1_aP, rfl, hn, ho_t1_aP⟩
  replace ho_t1_aP := ho_t1_aP.widen (B' := w1.heap.size) (by (try simp only [sizes]) <;> omega) (Nat.le_refl _)
  have hz2 := hn.size; try simp only [size_alloc] at hz2
  replace hn : New w1 w2 := New.trans (by repeat (first | with_reducible exact New.refl _ | with_reducible assumption | with_reducible refine New.alloc ?_ _ | with_reducible refine New.drew ?_ | with_reducible refine New.drewN ?_ _ | with_reducible refine New.setCell ?_ (by simp <;> omega) _)) hn
  replace cb_aP_0 := hn.cell cb_aP_0
  replace cb_aP_1 := hn.cell cb_aP_1
  replace zb_aP : w.heap.size < w2.heap.size := by omega
  replace hN := hN.trans hn
  obtain ⟨rt1_aP, rfl, hrt1_aP⟩ := id ho_t1_aP; obtain ⟨At1_aP, ct1_aP, rfl⟩ := hrt1_aP.form; clear hrt1_aP
  go_wp2_with fail
  refine (HS.out _ _ (ho_t1_aP.new (by repeat (first | with_reducible exact New.refl _ | with_reducible assumption | with_reducible refine New.alloc ?_ _ | with_reducible refine New.drew ?_ | with_reducible refine New.drewN ?_ _ | with_reducible refine New.setCell ?_ (by simp <;> omega) _))).at).mono ?_
  rintro e w3 ⟨u_w0, rfl, hn, ho_w0⟩
  replace ho_w0 := ho_w0.widen (B' := w2.heap.size) (by (try simp only [sizes]) <;> omega) (Nat.le_refl _)
  have hz3 := hn.size; try simp only [size_alloc] at hz3
  replace hn : New w2 w3 := New.trans (by repeat (first | with_reducible exact New.refl _ | with_reducible assumption | with_reducible refine New.alloc ?_ _ | with_reducible refine New.drew ?_ | with_reducible refine New.drewN ?_ _ | with_reducible refine New.setCell ?_ (by simp <;> omega) _)) hn
  replace cb_aP_0 := hn.cell cb_aP_0
  replace cb_aP_1 := hn.cell cb_aP_1
  replace zb_aP : w.heap.size < w3.heap.size := by omega
  replace hN := hN.trans hn
  replace ho_t1_aP := ho_t1_aP.new hn
  replace ho_w0 := ho_w0.at
  have hE := New.refl w3
  obtain ⟨Aw0, cw0, rfl⟩ := ho_w0.form
  clear ho_t1_aP
  go_wp2_with fail
  refine (toPartial_any _ a0 _ (h0.new (New.trans hN (by repeat (first | with_reducible exact New.refl _ | with_reducible assumption | with_reducible refine New.alloc ?_ _ | with_reducible refine New.drew ?_ | with_reducible refine New.drewN ?_ _ | with_reducible refine New.setCell ?_ (by simp <;> omega) _)))) hb_aP HB_aP.out).mono ?_
  rintro e w4 ⟨v_x0, rfl, hn, ho_x0⟩
  replace ho_x0 := ho_x0.widen (B' := w3.heap.size) (by (try simp only [sizes]) <;> omega) (Nat.le_refl _)
  have hz4 := hn.size; try simp only [size_alloc] at hz4
  replace hn : New w3 w4 := New.trans (by repeat (first | with_reducible exact New.refl _ | with_reducible assumption | with_reducible refine New.alloc ?_ _ | with_reducible refine New.drew ?_ | with_reducible refine New.drewN ?_ _ | with_reducible refine New.setCell ?_ (by simp <;> omega) _)) hn
  replace cb_aP_0 := hn.cell cb_aP_0
  replace cb_aP_1 := hn.cell cb_aP_1
  replace zb_aP : w.heap.size < w4.heap.size := by omega
  replace hN := hN.trans hn
  replace hE := hE.trans hn
  obtain ⟨rx0, rfl, hrx0⟩ := id ho_x0; obtain ⟨Ax0, cx0, rfl⟩ := hrx0.form; clear hrx0
  go_wp2_with fail
  refine (HI.out _ _ (ho_x0.new (by repeat (first | with_reducible exact New.refl _ | with_reducible assumption | with_reducible refine New.alloc ?_ _ | with_reducible refine New.drew ?_ | with_reducible refine New.drewN ?_ _ | with_reducible refine New.setCell ?_ (by simp <;> omega) _))).at).mono ?_
  rintro e w5 ⟨u_g0, rfl, hn, ho_g0⟩
  replace ho_g0 := ho_g0.widen (B' := w4.heap.size + 1) (by (try simp only [sizes]) <;> omega) (Nat.le_refl _)
  have hz5 := hn.size; try simp only [size_alloc] at hz5
  have cb_x0_0 : w5.cell? ⟨w4.heap.size, 0, none⟩ = some (.int .i64 a0.n) := hn.cell (by go_simp)
  have cb_x0_1 : w5.cell? ⟨w4.heap.size, 1, none⟩ = some (.slice Ax0 a0.nx.length cx0) := hn.cell (by go_simp)
  replace hn : New w4 w5 := New.trans (by repeat (first | with_reducible exact New.refl _ | with_reducible assumption | with_reducible refine New.alloc ?_ _ | with_reducible refine New.drew ?_ | with_reducible refine New.drewN ?_ _ | with_reducible refine New.setCell ?_ (by simp <;> omega) _)) hn
  replace cb_aP_0 := hn.cell cb_aP_0
  replace cb_aP_1 := hn.cell cb_aP_1
  replace zb_aP : w.heap.size < w5.heap.size := by omega
  replace zb_x0 : w4.heap.size < w5.heap.size := by omega
  replace hN := hN.trans hn
  replace hE := hE.trans hn
  replace ho_x0 := ho_x0.new hn
  obtain ⟨Ag0, cg0, rfl⟩ := ho_g0.form
  go_wp2_with fail
  refine (eqInt64S_any _ _ _ _ _ (ho_g0.new (by repeat (first | with_reducible exact New.refl _ | with_reducible assumption | with_reducible refine New.alloc ?_ _ | with_reducible refine New.drew ?_ | with_reducible refine New.drewN ?_ _ | with_reducible refine New.setCell ?_ (by simp <;> omega) _))).at ((ho_w0.new hE).new (by repeat (first | with_reducible exact New.refl _ | with_reducible assumption | with_reducible refine New.alloc ?_ _ | with_reducible refine New.drew ?_ | with_reducible refine New.drewN ?_ _ | with_reducible refine New.setCell ?_ (by simp <;> omega) _)))).mono ?_
  rintro e w6 ⟨rfl, hn⟩
  have hz6 := hn.size; try simp only [size_alloc] at hz6
  replace hn : New w5 w6 := New.trans (by repeat (first | with_reducible exact New.refl _ | with_reducible assumption | with_reducible refine New.alloc ?_ _ | with_reducible refine New.drew ?_ | with_reducible refine New.drewN ?_ _ | with_reducible refine New.setCell ?_ (by simp <;> omega) _)) hn
  replace cb_aP_0 := hn.cell cb_aP_0
  replace cb_aP_1 := hn.cell cb_aP_1
  replace cb_x0_0 := hn.cell cb_x0_0
  replace cb_x0_1 := hn.cell cb_x0_1
  replace zb_aP : w.heap.size < w6.heap.size := by omega
  replace zb_x0 : w4.heap.size < w6.heap.size := by omega
  replace hN := hN.trans hn
  replace hE := hE.trans hn
  replace ho_x0 := ho_x0.new hn
  replace ho_g0 := ho_g0.new hn
  go_wp2_with fail
  go_region_held3 (fun w' => w'.cell? ⟨w4.heap.size, 0, none⟩ = some (.int .i64 a0.n) ∧ w'.cell? ⟨w4.heap.size, 1, none⟩ = some (.slice Ax0 a0.nx.length cx0) ∧ w'.cell? ⟨w.heap.size, 0, none⟩ = some (.int .i64 a0.n) ∧ w'.cell? ⟨w.heap.size, 1, none⟩ = some (.slice AaP a0.nx.length caP))
    (first | go_keep | exact ⟨New.cell hq1 cb_x0_0, New.cell hq1 cb_x0_1, New.cell hq1 cb_aP_0, New.cell hq1 cb_aP_1⟩ | exact ⟨New.cell hq2 cb_x0_0, New.cell hq2 cb_x0_1, New.cell hq2 cb_aP_0, New.cell hq2 cb_aP_1⟩)
    (first
      | (go_at_call 6; refine (toPartial_any _ a0 _ (h0.new (hN.trans (New.refl _).drew)) hb_aP HB_aP.out).mono ?_; rintro e w7 ⟨r3, rfl, hq1, ho3⟩; replace hq1 : New w6 w7 := New.trans (New.refl _).drew hq1; obtain ⟨rq8, rfl, hrq8⟩ := id ho3; obtain ⟨Aq8, cq8, rfl⟩ := hrq8.form; clear hrq8)
      | (go_at_call 9; refine (eqPartial_any _ _ _ _ _ (ho_x0.new hq1).at ho3.at).mono ?_; rintro e w8 ⟨rfl, hq2⟩; replace hq2 : New w6 w8 := New.trans hq1 hq2))
  have hn := hq2
  have hz8 := hn.size; try simp only [size_alloc] at hz8
  replace hn : New w6 w8 := New.trans (by repeat (first | with_reducible exact New.refl _ | with_reducible assumption | with_reducible refine New.alloc ?_ _ | with_reducible refine New.drew ?_ | with_reducible refine New.drewN ?_ _ | with_reducible refine New.setCell ?_ (by simp <;> omega) _)) hn
  replace cb_aP_0 := hn.cell cb_aP_0
  replace cb_aP_1 := hn.cell cb_aP_1
  replace cb_x0_0 := hn.cell cb_x0_0
  replace cb_x0_1 := hn.cell cb_x0_1
  replace zb_aP : w.heap.size < w8.heap.size := by omega
  replace zb_x0 : w4.heap.size < w8.heap.size := by omega
  replace hN := hN.trans hn
  replace hE := hE.trans hn
  replace ho_x0 := ho_x0.new hn
  replace ho_g0 := ho_g0.new hn
  clear hq1 hq2 ho3
  go_wp2_with fail
  refine (markPartial_any _ _ _ _ (ho_x0.new (by repeat (first | with_reducible exact New.refl _ | with_reducible assumption | with_reducible refine New.alloc ?_ _ | with_reducible refine New.drew ?_ | with_reducible refine New.drewN ?_ _ | with_reducible refine New.setCell ?_ (by simp <;> omega) _))) (by omega) (by omega)).mono ?_
  rintro e w9 ⟨rfl, hm_x0, hW⟩
  have hz9 := hW.2.2.2.1; try simp only [size_alloc] at hz9
  replace hW : Within (w3.heap.size) (w4.heap.size) w8 w9 := Within.trans (Within.of_new (by repeat (first | with_reducible exact New.refl _ | with_reducible assumption | with_reducible refine New.alloc ?_ _ | with_reducible refine New.drew ?_ | with_reducible refine New.drewN ?_ _ | with_reducible refine New.setCell ?_ (by simp <;> omega) _)) _ _) hW
  replace cb_aP_0 := hW.cell cb_aP_0 (by simp <;> omega)
  replace cb_aP_1 := hW.cell cb_aP_1 (by simp <;> omega)
  replace cb_x0_0 := hW.cell cb_x0_0 (by simp <;> omega)
  replace cb_x0_1 := hW.cell cb_x0_1 (by simp <;> omega)
  replace zb_aP : w.heap.size < w9.heap.size := by omega
  replace zb_x0 : w4.heap.size < w9.heap.size := by omega
  replace hN := hN.within hW (by omega)
  replace hE := hE.within hW (by omega)
  replace ho_g0 := ho_g0.within hW (by omega)
  clear hW
  clear ho_x0 hm_x0
  go_wp2_with fail
  refine (eqInt64S_any _ _ _ _ _ (ho_g0.new (by repeat (first | with_reducible exact New.refl _ | with_reducible assumption | with_reducible refine New.alloc ?_ _ | with_reducible refine New.drew ?_ | with_reducible refine New.drewN ?_ _ | with_reducible refine New.setCell ?_ (by simp <;> omega) _))).at ((ho_w0.new hE).new (by repeat (first | with_reducible exact New.refl _ | with_reducible assumption | with_reducible refine New.alloc ?_ _ | with_reducible refine New.drew ?_ | with_reducible refine New.drewN ?_ _ | with_reducible refine New.setCell ?_ (by simp <;> omega) _)))).mono ?_
  rintro e w10 ⟨rfl, hn⟩
  have hz10 := hn.size; try simp only [size_alloc] at hz10
  replace hn : New w9 w10 := New.trans (by repeat (first | with_reducible exact New.refl _ | with_reducible assumption | with_reducible refine New.alloc ?_ _ | with_reducible refine New.drew ?_ | with_reducible refine New.drewN ?_ _ | with_reducible refine New.setCell ?_ (by simp <;> omega) _)) hn
  replace cb_aP_0 := hn.cell cb_aP_0
  replace cb_aP_1 := hn.cell cb_aP_1
  replace cb_x0_0 := hn.cell cb_x0_0
  replace cb_x0_1 := hn.cell cb_x0_1
  replace zb_aP : w.heap.size < w10.heap.size := by omega
  replace zb_x0 : w4.heap.size < w10.heap.size := by omega
  replace hN := hN.trans hn
  replace hE := hE.trans hn
  replace ho_g0 := ho_g0.new hn
  go_wp2_with fail
  refine (markInt64S_any _ _ _ _ (ho_g0.new (by repeat (first | with_reducible exact New.refl _ | with_reducible assumption | with_reducible refine New.alloc ?_ _ | with_reducible refine New.drew ?_ | with_reducible refine New.drewN ?_ _ | with_reducible refine New.setCell ?_ (by simp <;> omega) _))) (by omega) (by omega)).mono ?_
  rintro e w11 ⟨rfl, hm_g0, hW⟩
  replace hW := Within.of_grown hW (fun b hb => ho_g0.block b hb)
  have hz11 := hW.2.2.2.1; try simp only [size_alloc] at hz11
  replace hW : Within (w4.heap.size + 1) (w5.heap.size) w10 w11 := Within.trans (Within.of_new (by repeat (first | with_reducible exact New.refl _ | with_reducible assumption | with_reducible refine New.alloc ?_ _ | with_reducible refine New.drew ?_ | with_reducible refine New.drewN ?_ _ | with_reducible refine New.setCell ?_ (by simp <;> omega) _)) _ _) hW
  replace cb_aP_0 := hW.cell cb_aP_0 (by simp <;> omega)
  replace cb_aP_1 := hW.cell cb_aP_1 (by simp <;> omega)
  replace cb_x0_0 := hW.cell cb_x0_0 (by simp <;> omega)
  replace cb_x0_1 := hW.cell cb_x0_1 (by simp <;> omega)
  replace zb_aP : w.heap.size < w11.heap.size := by omega
  replace zb_x0 : w4.heap.size < w11.heap.size := by omega
  replace hN := hN.within hW (by omega)
  replace hE := hE.within hW (by omega)
  clear hW
  clear ho_g0
  go_wp2_with fail
  refine (heldInt64S_any _ r0.length _ _ (hm_g0.new (by repeat (first | with_reducible exact New.refl _ | with_reducible assumption | with_reducible refine New.alloc ?_ _ | with_reducible refine New.drew ?_ | with_reducible refine New.drewN ?_ _ | with_reducible refine New.setCell ?_ (by simp <;> omega) _))).at (by omega) (by omega) (by omega)).mono ?_
  rintro e w12 ⟨rfl, hn⟩
  replace hn := New.of_eq hn
  have hz12 := hn.size; try simp only [size_alloc] at hz12
  replace hn : New w11 w12 := New.trans (by repeat (first | with_reducible exact New.refl _ | with_reducible assumption | with_reducible refine New.alloc ?_ _ | with_reducible refine New.drew ?_ | with_reducible refine New.drewN ?_ _ | with_reducible refine New.setCell ?_ (by simp <;> omega) _)) hn
  replace cb_aP_0 := hn.cell cb_aP_0
  replace cb_aP_1 := hn.cell cb_aP_1
  replace cb_x0_0 := hn.cell cb_x0_0
  replace cb_x0_1 := hn.cell cb_x0_1
  replace zb_aP : w.heap.size < w12.heap.size := by omega
  replace zb_x0 : w4.heap.size < w12.heap.size := by omega
  replace hN := hN.trans hn
  replace hE := hE.trans hn
  replace hm_g0 := hm_g0.new hn
  go_wp2_with fail
  refine (toPartial_any _ a0 _ (h0.new (New.trans hN (by repeat (first | with_reducible exact New.refl _ | with_reducible assumption | with_reducible refine New.alloc ?_ _ | with_reducible refine New.drew ?_ | with_reducible refine New.drewN ?_ _ | with_reducible refine New.setCell ?_ (by simp <;> omega) _)))) hb_aP HB_aP.out).mono ?_
  rintro e w13 ⟨v_t12_aP, rfl, hn, ho_t12_aP⟩
  replace ho_t12_aP := ho_t12_aP.widen (B' := w12.heap.size) (by (try simp only [sizes]) <;> omega) (Nat.le_refl _)
  have hz13 := hn.size; try simp only [size_alloc] at hz13
  replace hn : New w12 w13 := New.trans (by repeat (first | with_reducible exact New.refl _ | with_reducible assumption | with_reducible refine New.alloc ?_ _ | with_reducible refine New.drew ?_ | with_reducible refine New.drewN ?_ _ | with_reducible refine New.setCell ?_ (by simp <;> omega) _)) hn
  replace cb_aP_0 := hn.cell cb_aP_0
  replace cb_aP_1 := hn.cell cb_aP_1
  replace cb_x0_0 := hn.cell cb_x0_0
  replace cb_x0_1 := hn.cell cb_x0_1
  replace zb_aP : w.heap.size < w13.heap.size := by omega
  replace zb_x0 : w4.heap.size < w13.heap.size := by omega
  replace hN := hN.trans hn
  replace hE := hE.trans hn
  replace hm_g0 := hm_g0.new hn
  obtain ⟨rt12_aP, rfl, hrt12_aP⟩ := id ho_t12_aP; obtain ⟨At12_aP, ct12_aP, rfl⟩ := hrt12_aP.form; clear hrt12_aP
  go_wp2_with fail
  refine (HI.out _ _ (ho_t12_aP.new (by repeat (first | with_reducible exact New.refl _ | with_reducible assumption | with_reducible refine New.alloc ?_ _ | with_reducible refine New.drew ?_ | with_reducible refine New.drewN ?_ _ | with_reducible refine New.setCell ?_ (by simp <;> omega) _))).at).mono ?_
  rintro e w14 ⟨u_h0, rfl, hn, ho_h0⟩
  replace ho_h0 := ho_h0.widen (B' := w13.heap.size) (by (try simp only [sizes]) <;> omega) (Nat.le_refl _)
  have hz14 := hn.size; try simp only [size_alloc] at hz14
  replace hn : New w13 w14 := New.trans (by repeat (first | with_reducible exact New.refl _ | with_reducible assumption | with_reducible refine New.alloc ?_ _ | with_reducible refine New.drew ?_ | with_reducible refine New.drewN ?_ _ | with_reducible refine New.setCell ?_ (by simp <;> omega) _)) hn
  replace cb_aP_0 := hn.cell cb_aP_0
  replace cb_aP_1 := hn.cell cb_aP_1
  replace cb_x0_0 := hn.cell cb_x0_0
  replace cb_x0_1 := hn.cell cb_x0_1
  replace zb_aP : w.heap.size < w14.heap.size := by omega
  replace zb_x0 : w4.heap.size < w14.heap.size := by omega
  replace hN := hN.trans hn
  replace hE := hE.trans hn
  replace hm_g0 := hm_g0.new hn
  replace ho_t12_aP := ho_t12_aP.new hn
  obtain ⟨Ah0, ch0, rfl⟩ := ho_h0.form
  clear ho_t12_aP
  go_wp2_with fail
  refine (eqInt64S_any _ _ _ _ _ (ho_h0.new (by repeat (first | with_reducible exact New.refl _ | with_reducible assumption | with_reducible refine New.alloc ?_ _ | with_reducible refine New.drew ?_ | with_reducible refine New.drewN ?_ _ | with_reducible refine New.setCell ?_ (by simp <;> omega) _))).at ((ho_w0.new hE).new (by repeat (first | with_reducible exact New.refl _ | with_reducible assumption | with_reducible refine New.alloc ?_ _ | with_reducible refine New.drew ?_ | with_reducible refine New.drewN ?_ _ | with_reducible refine New.setCell ?_ (by simp <;> omega) _)))).mono ?_
  rintro e w15 ⟨rfl, hn⟩
  have hz15 := hn.size; try simp only [size_alloc] at hz15
  replace hn : New w14 w15 := New.trans (by repeat (first | with_reducible exact New.refl _ | with_reducible assumption | with_reducible refine New.alloc ?_ _ | with_reducible refine New.drew ?_ | with_reducible refine New.drewN ?_ _ | with_reducible refine New.setCell ?_ (by simp <;> omega) _)) hn
  replace cb_aP_0 := hn.cell cb_aP_0
  replace cb_aP_1 := hn.cell cb_aP_1
  replace cb_x0_0 := hn.cell cb_x0_0
  replace cb_x0_1 := hn.cell cb_x0_1
  replace zb_aP : w.heap.size < w15.heap.size := by omega
  replace zb_x0 : w4.heap.size < w15.heap.size := by omega
  replace hN := hN.trans hn
  replace hE := hE.trans hn
  replace hm_g0 := hm_g0.new hn
  replace ho_h0 := ho_h0.new hn
  go_wp2_with fail
  refine (heldInt64S_any _ r0.length _ _ (hm_g0.new (by repeat (first | with_reducible exact New.refl _ | with_reducible assumption | with_reducible refine New.alloc ?_ _ | with_reducible refine New.drew ?_ | with_reducible refine New.drewN ?_ _ | with_reducible refine New.setCell ?_ (by simp <;> omega) _))).at (by omega) (by omega) (by omega)).mono ?_
  rintro e w16 ⟨rfl, hn⟩
  replace hn := New.of_eq hn
  have hz16 := hn.size; try simp only [size_alloc] at hz16
  replace hn : New w15 w16 := New.trans (by repeat (first | with_reducible exact New.refl _ | with_reducible assumption | with_reducible refine New.alloc ?_ _ | with_reducible refine New.drew ?_ | with_reducible refine New.drewN ?_ _ | with_reducible refine New.setCell ?_ (by simp <;> omega) _)) hn
  replace cb_aP_0 := hn.cell cb_aP_0
  replace cb_aP_1 := hn.cell cb_aP_1
  replace cb_x0_0 := hn.cell cb_x0_0
  replace cb_x0_1 := hn.cell cb_x0_1
  replace zb_aP : w.heap.size < w16.heap.size := by omega
  replace zb_x0 : w4.heap.size < w16.heap.size := by omega
  replace hN := hN.trans hn
  replace hE := hE.trans hn
  replace hm_g0 := hm_g0.new hn
  replace ho_h0 := ho_h0.new hn
  go_wp2_with fail
  go_ret
  exact ⟨rfl, hN⟩

end Go.Proofs.Ythbebnfhplacnaa
