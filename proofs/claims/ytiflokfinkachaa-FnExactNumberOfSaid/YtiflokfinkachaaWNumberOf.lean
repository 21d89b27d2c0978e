/- The law of NumberOf answers true, whatever its two functions return, if they return the same. -/
import Derived.Test.YtiflokfinkachaaRows
import Derived.Test.YtiflokfinkachaaCore
import Derived.Test.YtiflokfinkachaaLInts
import Derived.Test.YtiflokfinkachaaLRoads
import Derived.Test.YtiflokfinkachaaLAut
import Derived.Test.YtiflokfinkachaaSArr
import Derived.Test.YtiflokfinkachaaSChoices
import Derived.Test.YtiflokfinkachaaSIsJoined
import Derived.Test.YtiflokfinkachaaLCaps
import Derived.WalkKit
import Derived.WalkSpells
import Derived.WalkLawsBesides
import Derived.Deep.QuietTactic
import Derived.Deep.OwnRows
import Derived.BigQuiet
import Derived.KernelRfl
import Derived.Deep.RegionHeld3
namespace Go.Proofs.Ytiflokfinkachaa
open Go.RowKit

set_option maxRecDepth 100000 in
set_option maxHeartbeats 4000000 in
theorem FnExactNumberOf_walk (v0 v1 : Value) (a0 : Aut) (a1 : Aut) (r0 : Int) (r1 : Int) (w : World) (h0 : AutAt w v0 a0) (h1 : AutAt w v1 a1)
    (HS : ∀ (w : World) (u0 u1 : Value), CapAut w u0 a0 → AutAt w u1 a1 → Calls Try.prog 45 #[u0, u1] w fun e w' => e = .returned (.tuple #[.int .i64 r0, .int .i64 r1]) ∧ New w w')
    (HI : ∀ (w : World) (u0 u1 : Value), AutAt w u0 a0 → AutAt w u1 a1 → Calls Try.prog 46 #[u0, u1] w fun e w' => e = .returned (.tuple #[.int .i64 r0, .int .i64 r1]) ∧ New w w') :
    Calls Try.prog 8 #[v0, v1] w fun e w' => e = .returned (.bool true) ∧ New w w' := by
  replace HS := hid HS
  replace HI := hid HI
  obtain ⟨raR, rfl, hraR⟩ := id h0; obtain ⟨AaR, caR, rfl⟩ := hraR.form; clear hraR
  obtain ⟨raA, rfl, hraA⟩ := id h1; obtain ⟨AaA, caA, rfl⟩ := hraA.form; clear hraA
  have hbd_aR := szBB_bound a0.nx 1048576 (by omega)
  by_cases hs_aR : szBB a0.nx 1048576 < 0
  · go_enter Try.func8, Try.ntmps8
    go_wp2_with fail
    refine (szRoads_any _ a0 _ _ (h0.new (by repeat (first | with_reducible exact New.refl _ | with_reducible assumption | with_reducible refine New.alloc ?_ _ | with_reducible refine New.drew ?_ | with_reducible refine New.drewN ?_ _ | with_reducible refine New.setCell ?_ (by simp <;> omega) _))) (by omega) (by omega)).mono ?_
    rintro e w1 ⟨rfl, hn⟩
    have cb_aR_0 : w1.cell? ⟨w.heap.size, 0, none⟩ = some (.int .i64 a0.n) := hn.cell (by go_simp)
    have cb_aR_1 : w1.cell? ⟨w.heap.size, 1, none⟩ = some (.slice AaR a0.nx.length caR) := hn.cell (by go_simp)
    have cb_aA_0 : w1.cell? ⟨w.heap.size + 1, 0, none⟩ = some (.int .i64 a1.n) := hn.cell (by go_simp)
    have cb_aA_1 : w1.cell? ⟨w.heap.size + 1, 1, none⟩ = some (.slice AaA a1.nx.length caA) := hn.cell (by go_simp)
    have hN : New w w1 := New.trans (by repeat (first | with_reducible exact New.refl _ | with_reducible assumption | with_reducible refine New.alloc ?_ _ | with_reducible refine New.drew ?_ | with_reducible refine New.drewN ?_ _ | with_reducible refine New.setCell ?_ (by simp <;> omega) _)) hn
    go_wp2_with fail
    go_ret
    exact ⟨rfl, hN⟩
  have hbd_aA := szBB_bound a1.nx (szBB a0.nx 1048576) (by omega)
  by_cases hs_aA : szBB a1.nx (szBB a0.nx 1048576) < 0
  · go_enter Try.func8, Try.ntmps8
    go_wp2_with fail
    refine (szRoads_any _ a0 _ _ (h0.new (by repeat (first | with_reducible exact New.refl _ | with_reducible assumption | with_reducible refine New.alloc ?_ _ | with_reducible refine New.drew ?_ | with_reducible refine New.drewN ?_ _ | with_reducible refine New.setCell ?_ (by simp <;> omega) _))) (by omega) (by omega)).mono ?_
    rintro e w1 ⟨rfl, hn⟩
    have cb_aR_0 : w1.cell? ⟨w.heap.size, 0, none⟩ = some (.int .i64 a0.n) := hn.cell (by go_simp)
    have cb_aR_1 : w1.cell? ⟨w.heap.size, 1, none⟩ = some (.slice AaR a0.nx.length caR) := hn.cell (by go_simp)
    have cb_aA_0 : w1.cell? ⟨w.heap.size + 1, 0, none⟩ = some (.int .i64 a1.n) := hn.cell (by go_simp)
    have cb_aA_1 : w1.cell? ⟨w.heap.size + 1, 1, none⟩ = some (.slice AaA a1.nx.length caA) := hn.cell (by go_simp)
    have hN : New w w1 := New.trans (by repeat (first | with_reducible exact New.refl _ | with_reducible assumption | with_reducible refine New.alloc ?_ _ | with_reducible refine New.drew ?_ | with_reducible refine New.drewN ?_ _ | with_reducible refine New.setCell ?_ (by simp <;> omega) _)) hn
    go_wp2_with fail
    refine (szAutomaton_any _ a1 _ _ (h1.new (New.trans hN (by repeat (first | with_reducible exact New.refl _ | with_reducible assumption | with_reducible refine New.alloc ?_ _ | with_reducible refine New.drew ?_ | with_reducible refine New.drewN ?_ _ | with_reducible refine New.setCell ?_ (by simp <;> omega) _)))) (by omega) (by omega)).mono ?_
    rintro e w2 ⟨rfl, hn⟩
    replace cb_aR_0 := hn.cell cb_aR_0
    replace cb_aR_1 := hn.cell cb_aR_1
    replace cb_aA_0 := hn.cell cb_aA_0
    replace cb_aA_1 := hn.cell cb_aA_1
    replace hN := hN.trans hn
    go_wp2_with fail
    go_ret
    exact ⟨rfl, hN⟩
  have hsz_aR := szBB_len a0.nx 1048576 (by omega) (by omega)
  have hb_aR : a0.nx.length ≤ 1048576 := by omega
  have ht_aR : total a0.nx ≤ 1048576 := by omega
  have HB_aR := hid (fun i (hi : i < a0.nx.length) => Nat.le_trans (length_le_total a0.nx i hi) ht_aR)
  clear hsz_aR
  have hsz_aA := szBB_len a1.nx (szBB a0.nx 1048576) (by omega) (by omega)
  have hb_aA : a1.nx.length ≤ 1048576 := by omega
  have ht_aA : total a1.nx ≤ 1048576 := by omega
  have HB_aA := hid (fun i (hi : i < a1.nx.length) => Nat.le_trans (length_le_total a1.nx i hi) ht_aA)
  clear hsz_aA
  go_enter Try.func8, Try.ntmps8
  go_wp2_with fail
  refine (szRoads_any _ a0 _ _ (h0.new (by repeat (first | with_reducible exact New.refl _ | with_reducible assumption | with_reducible refine New.alloc ?_ _ | with_reducible refine New.drew ?_ | with_reducible refine New.drewN ?_ _ | with_reducible refine New.setCell ?_ (by simp <;> omega) _))) (by omega) (by omega)).mono ?_
  rintro e w1 ⟨rfl, hn⟩
  have hz1 := hn.size; try simp only [size_alloc] at hz1
  have cb_aR_0 : w1.cell? ⟨w.heap.size, 0, none⟩ = some (.int .i64 a0.n) := hn.cell (by go_simp)
  have cb_aR_1 : w1.cell? ⟨w.heap.size, 1, none⟩ = some (.slice AaR a0.nx.length caR) := hn.cell (by go_simp)
  have cb_aA_0 : w1.cell? ⟨w.heap.size + 1, 0, none⟩ = some (.int .i64 a1.n) := hn.cell (by go_simp)
  have cb_aA_1 : w1.cell? ⟨w.heap.size + 1, 1, none⟩ = some (.slice AaA a1.nx.length caA) := hn.cell (by go_simp)
  replace hn : New w w1 := New.trans (by repeat (first | with_reducible exact New.refl _ | with_reducible assumption | with_reducible refine New.alloc ?_ _ | with_reducible refine New.drew ?_ | with_reducible refine New.drewN ?_ _ | with_reducible refine New.setCell ?_ (by simp <;> omega) _)) hn
  replace zb_aR : w.heap.size < w1.heap.size := by omega
  replace zb_aA : w.heap.size + 1 < w1.heap.size := by omega
  have hN := hn
  go_wp2_with fail
  refine (szAutomaton_any _ a1 _ _ (h1.new (New.trans hN (by repeat (first | with_reducible exact New.refl _ | with_reducible assumption | with_reducible refine New.alloc ?_ _ | with_reducible refine New.drew ?_ | with_reducible refine New.drewN ?_ _ | with_reducible refine New.setCell ?_ (by simp <;> omega) _)))) (by omega) (by omega)).mono ?_
  rintro e w2 ⟨rfl, hn⟩
  have hz2 := hn.size; try simp only [size_alloc] at hz2
  replace hn : New w1 w2 := New.trans (by repeat (first | with_reducible exact New.refl _ | with_reducible assumption | with_reducible refine New.alloc ?_ _ | with_reducible refine New.drew ?_ | with_reducible refine New.drewN ?_ _ | with_reducible refine New.setCell ?_ (by simp <;> omega) _)) hn
  replace cb_aR_0 := hn.cell cb_aR_0
  replace cb_aR_1 := hn.cell cb_aR_1
  replace cb_aA_0 := hn.cell cb_aA_0
  replace cb_aA_1 := hn.cell cb_aA_1
  replace zb_aR : w.heap.size < w2.heap.size := by omega
  replace zb_aA : w.heap.size + 1 < w2.heap.size := by omega
  replace hN := hN.trans hn
  go_wp2_with fail
  go_region_held3 (fun w' => w'.cell? ⟨w.heap.size, 0, none⟩ = some (.int .i64 a0.n) ∧ w'.cell? ⟨w.heap.size, 1, none⟩ = some (.slice AaR a0.nx.length caR) ∧ w'.cell? ⟨w.heap.size + 1, 0, none⟩ = some (.int .i64 a1.n) ∧ w'.cell? ⟨w.heap.size + 1, 1, none⟩ = some (.slice AaA a1.nx.length caA))
    (first | go_keep | exact ⟨New.cell hq3 cb_aR_0, New.cell hq3 cb_aR_1, New.cell hq3 cb_aA_0, New.cell hq3 cb_aA_1⟩ | exact ⟨New.cell hq4 cb_aR_0, New.cell hq4 cb_aR_1, New.cell hq4 cb_aA_0, New.cell hq4 cb_aA_1⟩ | exact ⟨New.cell hq5 cb_aR_0, New.cell hq5 cb_aR_1, New.cell hq5 cb_aA_0, New.cell hq5 cb_aA_1⟩)
    (first
      | (go_at_call_of 39 AaR; refine (toRoadsC_any _ a0 _ (h0.new (hN.trans (New.refl _).drew)) hb_aR HB_aR.out).mono ?_; rintro e w3 ⟨v_d3, rfl, hr3, ho_d3, hcp_d3⟩; have hq3 : New w2 w3 := New.trans (New.refl _).drew hr3; obtain ⟨rd3, rfl, hrd3⟩ := id ho_d3; obtain ⟨Ad3, cd3, rfl⟩ := hrd3.form; clear hrd3)
      | (go_at_call_of 26 AaA; refine (toAutomaton_any _ a1 _ (h1.new (hN.trans hq3)) hb_aA HB_aA.out).mono ?_; rintro e w4 ⟨v_d4, rfl, hr4, ho_d4⟩; have hq4 : New w2 w4 := New.trans hq3 hr4; obtain ⟨rd4, rfl, hrd4⟩ := id ho_d4; obtain ⟨Ad4, cd4, rfl⟩ := hrd4.form; clear hrd4)
      | (go_at_call 45; refine (HS.out _ _ _ (hcp_d3.new hr4) ho_d4.at).mono ?_; rintro e w5 ⟨rfl, hr5⟩; have hq5 : New w2 w5 := New.trans hq4 hr5))
  have hn := hq5
  have hz5 := hn.size; try simp only [size_alloc] at hz5
  replace hn : New w2 w5 := New.trans (by repeat (first | with_reducible exact New.refl _ | with_reducible assumption | with_reducible refine New.alloc ?_ _ | with_reducible refine New.drew ?_ | with_reducible refine New.drewN ?_ _ | with_reducible refine New.setCell ?_ (by simp <;> omega) _)) hn
  replace cb_aR_0 := hn.cell cb_aR_0
  replace cb_aR_1 := hn.cell cb_aR_1
  replace cb_aA_0 := hn.cell cb_aA_0
  replace cb_aA_1 := hn.cell cb_aA_1
  replace zb_aR : w.heap.size < w5.heap.size := by omega
  replace zb_aA : w.heap.size + 1 < w5.heap.size := by omega
  replace hN := hN.trans hn
  have hE := New.refl w5
  clear ho_d3 hcp_d3
  clear ho_d4
  go_wp2_with fail
  refine (toRoads_any _ a0 _ (h0.new (New.trans hN (by repeat (first | with_reducible exact New.refl _ | with_reducible assumption | with_reducible refine New.alloc ?_ _ | with_reducible refine New.drew ?_ | with_reducible refine New.drewN ?_ _ | with_reducible refine New.setCell ?_ (by simp <;> omega) _)))) hb_aR HB_aR.out).mono ?_
  rintro e w6 ⟨v_x0, rfl, hn, ho_x0⟩
  replace ho_x0 := ho_x0.widen (B' := w5.heap.size) (by (try simp only [sizes]) <;> omega) (Nat.le_refl _)
  have hz6 := hn.size; try simp only [size_alloc] at hz6
  replace hn : New w5 w6 := New.trans (by repeat (first | with_reducible exact New.refl _ | with_reducible assumption | with_reducible refine New.alloc ?_ _ | with_reducible refine New.drew ?_ | with_reducible refine New.drewN ?_ _ | with_reducible refine New.setCell ?_ (by simp <;> omega) _)) hn
  replace cb_aR_0 := hn.cell cb_aR_0
  replace cb_aR_1 := hn.cell cb_aR_1
  replace cb_aA_0 := hn.cell cb_aA_0
  replace cb_aA_1 := hn.cell cb_aA_1
  replace zb_aR : w.heap.size < w6.heap.size := by omega
  replace zb_aA : w.heap.size + 1 < w6.heap.size := by omega
  replace hN := hN.trans hn
  replace hE := hE.trans hn
  obtain ⟨rx0, rfl, hrx0⟩ := id ho_x0; obtain ⟨Ax0, cx0, rfl⟩ := hrx0.form; clear hrx0
  go_wp2_with fail
  refine (toAutomaton_any _ a1 _ (h1.new (New.trans hN (by repeat (first | with_reducible exact New.refl _ | with_reducible assumption | with_reducible refine New.alloc ?_ _ | with_reducible refine New.drew ?_ | with_reducible refine New.drewN ?_ _ | with_reducible refine New.setCell ?_ (by simp <;> omega) _)))) hb_aA HB_aA.out).mono ?_
  rintro e w7 ⟨v_x1, rfl, hn, ho_x1⟩
  replace ho_x1 := ho_x1.widen (B' := w6.heap.size + 1) (by (try simp only [sizes]) <;> omega) (Nat.le_refl _)
  have hz7 := hn.size; try simp only [size_alloc] at hz7
  have cb_x0_0 : w7.cell? ⟨w6.heap.size, 0, none⟩ = some (.int .i64 a0.n) := hn.cell (by go_simp)
  have cb_x0_1 : w7.cell? ⟨w6.heap.size, 1, none⟩ = some (.slice Ax0 a0.nx.length cx0) := hn.cell (by go_simp)
  replace hn : New w6 w7 := New.trans (by repeat (first | with_reducible exact New.refl _ | with_reducible assumption | with_reducible refine New.alloc ?_ _ | with_reducible refine New.drew ?_ | with_reducible refine New.drewN ?_ _ | with_reducible refine New.setCell ?_ (by simp <;> omega) _)) hn
  replace cb_aR_0 := hn.cell cb_aR_0
  replace cb_aR_1 := hn.cell cb_aR_1
  replace cb_aA_0 := hn.cell cb_aA_0
  replace cb_aA_1 := hn.cell cb_aA_1
  replace zb_aR : w.heap.size < w7.heap.size := by omega
  replace zb_aA : w.heap.size + 1 < w7.heap.size := by omega
  replace zb_x0 : w6.heap.size < w7.heap.size := by omega
  replace hN := hN.trans hn
  replace hE := hE.trans hn
  replace ho_x0 := ho_x0.new hn
  obtain ⟨rx1, rfl, hrx1⟩ := id ho_x1; obtain ⟨Ax1, cx1, rfl⟩ := hrx1.form; clear hrx1
  go_wp2_with fail
  refine (HI.out _ _ _ (ho_x0.new (by repeat (first | with_reducible exact New.refl _ | with_reducible assumption | with_reducible refine New.alloc ?_ _ | with_reducible refine New.drew ?_ | with_reducible refine New.drewN ?_ _ | with_reducible refine New.setCell ?_ (by simp <;> omega) _))).at (ho_x1.new (by repeat (first | with_reducible exact New.refl _ | with_reducible assumption | with_reducible refine New.alloc ?_ _ | with_reducible refine New.drew ?_ | with_reducible refine New.drewN ?_ _ | with_reducible refine New.setCell ?_ (by simp <;> omega) _))).at).mono ?_
  rintro e w8 ⟨rfl, hn⟩
  have hz8 := hn.size; try simp only [size_alloc] at hz8
  have cb_x1_0 : w8.cell? ⟨w7.heap.size, 0, none⟩ = some (.int .i64 a1.n) := hn.cell (by go_simp)
  have cb_x1_1 : w8.cell? ⟨w7.heap.size, 1, none⟩ = some (.slice Ax1 a1.nx.length cx1) := hn.cell (by go_simp)
  replace hn : New w7 w8 := New.trans (by repeat (first | with_reducible exact New.refl _ | with_reducible assumption | with_reducible refine New.alloc ?_ _ | with_reducible refine New.drew ?_ | with_reducible refine New.drewN ?_ _ | with_reducible refine New.setCell ?_ (by simp <;> omega) _)) hn
  replace cb_aR_0 := hn.cell cb_aR_0
  replace cb_aR_1 := hn.cell cb_aR_1
  replace cb_aA_0 := hn.cell cb_aA_0
  replace cb_aA_1 := hn.cell cb_aA_1
  replace cb_x0_0 := hn.cell cb_x0_0
  replace cb_x0_1 := hn.cell cb_x0_1
  replace zb_aR : w.heap.size < w8.heap.size := by omega
  replace zb_aA : w.heap.size + 1 < w8.heap.size := by omega
  replace zb_x0 : w6.heap.size < w8.heap.size := by omega
  replace zb_x1 : w7.heap.size < w8.heap.size := by omega
  replace hN := hN.trans hn
  replace hE := hE.trans hn
  replace ho_x0 := ho_x0.new hn
  replace ho_x1 := ho_x1.new hn
  go_wp2_with fail
  go_region_held3 (fun w' => w'.cell? ⟨w6.heap.size, 0, none⟩ = some (.int .i64 a0.n) ∧ w'.cell? ⟨w6.heap.size, 1, none⟩ = some (.slice Ax0 a0.nx.length cx0) ∧ w'.cell? ⟨w.heap.size, 0, none⟩ = some (.int .i64 a0.n) ∧ w'.cell? ⟨w.heap.size, 1, none⟩ = some (.slice AaR a0.nx.length caR))
    (first | go_keep | exact ⟨New.cell hq1 cb_x0_0, New.cell hq1 cb_x0_1, New.cell hq1 cb_aR_0, New.cell hq1 cb_aR_1⟩ | exact ⟨New.cell hq2 cb_x0_0, New.cell hq2 cb_x0_1, New.cell hq2 cb_aR_0, New.cell hq2 cb_aR_1⟩)
    (first
      | (go_at_call 39; refine (toRoads_any _ a0 _ (h0.new (hN.trans (New.refl _).drew)) hb_aR HB_aR.out).mono ?_; rintro e w9 ⟨r3, rfl, hq1, ho3⟩; replace hq1 : New w8 w9 := New.trans (New.refl _).drew hq1; obtain ⟨rq10, rfl, hrq10⟩ := id ho3; obtain ⟨Aq10, cq10, rfl⟩ := hrq10.form; clear hrq10)
      | (go_at_call 41; refine (eqRoads_any _ _ _ _ _ (ho_x0.new hq1).at ho3.at).mono ?_; rintro e w10 ⟨rfl, hq2⟩; replace hq2 : New w8 w10 := New.trans hq1 hq2))
  have hn := hq2
  have hz10 := hn.size; try simp only [size_alloc] at hz10
  replace hn : New w8 w10 := New.trans (by repeat (first | with_reducible exact New.refl _ | with_reducible assumption | with_reducible refine New.alloc ?_ _ | with_reducible refine New.drew ?_ | with_reducible refine New.drewN ?_ _ | with_reducible refine New.setCell ?_ (by simp <;> omega) _)) hn
  replace cb_aR_0 := hn.cell cb_aR_0
  replace cb_aR_1 := hn.cell cb_aR_1
  replace cb_aA_0 := hn.cell cb_aA_0
  replace cb_aA_1 := hn.cell cb_aA_1
  replace cb_x0_0 := hn.cell cb_x0_0
  replace cb_x0_1 := hn.cell cb_x0_1
  replace cb_x1_0 := hn.cell cb_x1_0
  replace cb_x1_1 := hn.cell cb_x1_1
  replace zb_aR : w.heap.size < w10.heap.size := by omega
  replace zb_aA : w.heap.size + 1 < w10.heap.size := by omega
  replace zb_x0 : w6.heap.size < w10.heap.size := by omega
  replace zb_x1 : w7.heap.size < w10.heap.size := by omega
  replace hN := hN.trans hn
  replace hE := hE.trans hn
  replace ho_x0 := ho_x0.new hn
  replace ho_x1 := ho_x1.new hn
  clear hq1 hq2 ho3
  go_wp2_with fail
  go_region_held3 (fun w' => w'.cell? ⟨w7.heap.size, 0, none⟩ = some (.int .i64 a1.n) ∧ w'.cell? ⟨w7.heap.size, 1, none⟩ = some (.slice Ax1 a1.nx.length cx1) ∧ w'.cell? ⟨w.heap.size + 1, 0, none⟩ = some (.int .i64 a1.n) ∧ w'.cell? ⟨w.heap.size + 1, 1, none⟩ = some (.slice AaA a1.nx.length caA))
    (first | go_keep | exact ⟨New.cell hq1 cb_x1_0, New.cell hq1 cb_x1_1, New.cell hq1 cb_aA_0, New.cell hq1 cb_aA_1⟩ | exact ⟨New.cell hq2 cb_x1_0, New.cell hq2 cb_x1_1, New.cell hq2 cb_aA_0, New.cell hq2 cb_aA_1⟩)
    (first
      | (go_at_call 26; refine (toAutomaton_any _ a1 _ (h1.new (hN.trans (New.refl _).drew)) hb_aA HB_aA.out).mono ?_; rintro e w11 ⟨r3, rfl, hq1, ho3⟩; replace hq1 : New w10 w11 := New.trans (New.refl _).drew hq1; obtain ⟨rq12, rfl, hrq12⟩ := id ho3; obtain ⟨Aq12, cq12, rfl⟩ := hrq12.form; clear hrq12)
      | (go_at_call 28; refine (eqAutomaton_any _ _ _ _ _ (ho_x1.new hq1).at ho3.at).mono ?_; rintro e w12 ⟨rfl, hq2⟩; replace hq2 : New w10 w12 := New.trans hq1 hq2))
  have hn := hq2
  have hz12 := hn.size; try simp only [size_alloc] at hz12
  replace hn : New w10 w12 := New.trans (by repeat (first | with_reducible exact New.refl _ | with_reducible assumption | with_reducible refine New.alloc ?_ _ | with_reducible refine New.drew ?_ | with_reducible refine New.drewN ?_ _ | with_reducible refine New.setCell ?_ (by simp <;> omega) _)) hn
  replace cb_aR_0 := hn.cell cb_aR_0
  replace cb_aR_1 := hn.cell cb_aR_1
  replace cb_aA_0 := hn.cell cb_aA_0
  replace cb_aA_1 := hn.cell cb_aA_1
  replace cb_x0_0 := hn.cell cb_x0_0
  replace cb_x0_1 := hn.cell cb_x0_1
  replace cb_x1_0 := hn.cell cb_x1_0
  replace cb_x1_1 := hn.cell cb_x1_1
  replace zb_aR : w.heap.size < w12.heap.size := by omega
  replace zb_aA : w.heap.size + 1 < w12.heap.size := by omega
  replace zb_x0 : w6.heap.size < w12.heap.size := by omega
  replace zb_x1 : w7.heap.size < w12.heap.size := by omega
  replace hN := hN.trans hn
  replace hE := hE.trans hn
  replace ho_x0 := ho_x0.new hn
  replace ho_x1 := ho_x1.new hn
  clear hq1 hq2 ho3
  go_wp2_with fail
  go_ret
  exact ⟨rfl, hN⟩

end Go.Proofs.Ytiflokfinkachaa
