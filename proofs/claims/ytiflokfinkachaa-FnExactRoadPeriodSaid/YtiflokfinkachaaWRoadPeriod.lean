/- The law of RoadPeriod answers true, whatever its two functions return, if they return the same. -/
import Derived.Test.YtiflokfinkachaaRows
import Derived.Test.YtiflokfinkachaaCore
import Derived.Test.YtiflokfinkachaaLInts
import Derived.Test.YtiflokfinkachaaLRoads
import Derived.Test.YtiflokfinkachaaSArr
import Derived.Test.YtiflokfinkachaaSChoices
import Derived.Test.YtiflokfinkachaaSIsJoined
import Derived.Test.YtiflokfinkachaaLCaps
import Derived.WalkKit
import Derived.WalkSpells
import Derived.WalkLawsBesides
import Derived.Deep.QuietTactic
import Derived.Deep.OwnRows
import Derived.BigQuiet
import Derived.KernelRfl
import Derived.Deep.RegionHeld3
namespace Go.Proofs.Ytiflokfinkachaa
open Go.RowKit

set_option maxRecDepth 100000 in
set_option maxHeartbeats 4000000 in
theorem FnExactRoadPeriod_walk (v0 : Value) (a0 : Aut) (r0 : Int) (r1 : Int) (w : World) (h0 : AutAt w v0 a0)
    (HS : ∀ (w : World) (u0 : Value), CapAut w u0 a0 → Calls Try.prog 49 #[u0] w fun e w' => e = .returned (.tuple #[.int .i64 r0, .int .i64 r1]) ∧ New w w')
    (HI : ∀ (w : World) (u0 : Value), AutAt w u0 a0 → Calls Try.prog 50 #[u0] w fun e w' => e = .returned (.tuple #[.int .i64 r0, .int .i64 r1]) ∧ New w w') :
    Calls Try.prog 10 #[v0] w fun e w' => e = .returned (.bool true) ∧ New w w' := by
  replace HS := hid HS
  replace HI := hid HI
  obtain ⟨raR, rfl, hraR⟩ := id h0; obtain ⟨AaR, caR, rfl⟩ := hraR.form; clear hraR
  have hbd_aR := szBB_bound a0.nx 1048576 (by omega)
  by_cases hs_aR : szBB a0.nx 1048576 < 0
  · go_enter Try.func10, Try.ntmps10
    go_wp2_with fail
    refine (szRoads_any _ a0 _ _ (h0.new (by repeat (first | with_reducible exact New.refl _ | with_reducible assumption | with_reducible refine New.alloc ?_ _ | with_reducible refine New.drew ?_ | with_reducible refine New.drewN ?_ _ | with_reducible refine New.setCell ?_ (by simp <;> omega) _))) (by omega) (by omega)).mono ?_
    rintro e w1 ⟨rfl, hn⟩
    have cb_aR_0 : w1.cell? ⟨w.heap.size, 0, none⟩ = some (.int .i64 a0.n) := hn.cell (by go_simp)
    have cb_aR_1 : w1.cell? ⟨w.heap.size, 1, none⟩ = some (.slice AaR a0.nx.length caR) := hn.cell (by go_simp)
    have hN : New w w1 := New.trans (by repeat (first | with_reducible exact New.refl _ | with_reducible assumption | with_reducible refine New.alloc ?_ _ | with_reducible refine New.drew ?_ | with_reducible refine New.drewN ?_ _ | with_reducible refine New.setCell ?_ (by simp <;> omega) _)) hn
    go_wp2_with fail
    go_ret
    exact ⟨rfl, hN⟩
  have hsz_aR := szBB_len a0.nx 1048576 (by omega) (by omega)
  have hb_aR : a0.nx.length ≤ 1048576 := by omega
  have ht_aR : total a0.nx ≤ 1048576 := by omega
  have HB_aR := hid (fun i (hi : i < a0.nx.length) => Nat.le_trans (length_le_total a0.nx i hi) ht_aR)
  clear hsz_aR
  go_enter Try.func10, Try.ntmps10
  go_wp2_with fail
  refine (szRoads_any _ a0 _ _ (h0.new (by repeat (first | with_reducible exact New.refl _ | with_reducible assumption | with_reducible refine New.alloc ?_ _ | with_reducible refine New.drew ?_ | with_reducible refine New.drewN ?_ _ | with_reducible refine New.setCell ?_ (by simp <;> omega) _))) (by omega) (by omega)).mono ?_
  rintro e w1 ⟨rfl, hn⟩
  have hz1 := hn.size; try simp only [size_alloc] at hz1
  have cb_aR_0 : w1.cell? ⟨w.heap.size, 0, none⟩ = some (.int .i64 a0.n) := hn.cell (by go_simp)
  have cb_aR_1 : w1.cell? ⟨w.heap.size, 1, none⟩ = some (.slice AaR a0.nx.length caR) := hn.cell (by go_simp)
  replace hn : New w w1 := New.trans (by repeat (first | with_reducible exact New.refl _ | with_reducible assumption | with_reducible refine New.alloc ?_ _ | with_reducible refine New.drew ?_ | with_reducible refine New.drewN ?_ _ | with_reducible refine New.setCell ?_ (by simp <;> omega) _)) hn
  replace zb_aR : w.heap.size < w1.heap.size := by omega
  have hN := hn
  go_wp2_with fail
  refine (toRoadsC_any _ a0 _ (h0.new (New.trans hN (by repeat (first | with_reducible exact New.refl _ | with_reducible assumption | with_reducible refine New.alloc ?_ _ | with_reducible refine New.drew ?_ | with_reducible refine New.drewN ?_ _ | with_reducible refine New.setCell ?_ (by simp <;> omega) _)))) hb_aR HB_aR.out).mono ?_
  rintro e w2 ⟨v_t1_aR, rfl, hn, ho_t1_aR, hcp_t1⟩
  replace ho_t1_aR := ho_t1_aR.widen (B' := w1.heap.size) (by (try simp only [sizes]) <;> omega) (Nat.le_refl _)
  have hz2 := hn.size; try simp only [size_alloc] at hz2
  replace hn : New w1 w2 := New.trans (by repeat (first | with_reducible exact New.refl _ | with_reducible assumption | with_reducible refine New.alloc ?_ _ | with_reducible refine New.drew ?_ | with_reducible refine New.drewN ?_ _ | with_reducible refine New.setCell ?_ (by simp <;> omega) _)) hn
  replace cb_aR_0 := hn.cell cb_aR_0
  replace cb_aR_1 := hn.cell cb_aR_1
  replace zb_aR : w.heap.size < w2.heap.size := by omega
  replace hN := hN.trans hn
  obtain ⟨rt1_aR, rfl, hrt1_aR⟩ := id ho_t1_aR; obtain ⟨At1_aR, ct1_aR, rfl⟩ := hrt1_aR.form; clear hrt1_aR
  go_wp2_with fail
  refine (HS.out _ _ (hcp_t1.new (by repeat (first | with_reducible exact New.refl _ | with_reducible assumption | with_reducible refine New.alloc ?_ _ | with_reducible refine New.drew ?_ | with_reducible refine New.drewN ?_ _ | with_reducible refine New.setCell ?_ (by simp <;> omega) _)))).mono ?_
  rintro e w3 ⟨rfl, hn⟩
  have hz3 := hn.size; try simp only [size_alloc] at hz3
  replace hn : New w2 w3 := New.trans (by repeat (first | with_reducible exact New.refl _ | with_reducible assumption | with_reducible refine New.alloc ?_ _ | with_reducible refine New.drew ?_ | with_reducible refine New.drewN ?_ _ | with_reducible refine New.setCell ?_ (by simp <;> omega) _)) hn
  replace cb_aR_0 := hn.cell cb_aR_0
  replace cb_aR_1 := hn.cell cb_aR_1
  replace zb_aR : w.heap.size < w3.heap.size := by omega
  replace hN := hN.trans hn
  replace ho_t1_aR := ho_t1_aR.new hn
  have hE := New.refl w3
  clear ho_t1_aR hcp_t1
  go_wp2_with fail
  refine (toRoads_any _ a0 _ (h0.new (New.trans hN (by repeat (first | with_reducible exact New.refl _ | with_reducible assumption | with_reducible refine New.alloc ?_ _ | with_reducible refine New.drew ?_ | with_reducible refine New.drewN ?_ _ | with_reducible refine New.setCell ?_ (by simp <;> omega) _)))) hb_aR HB_aR.out).mono ?_
  rintro e w4 ⟨v_x0, rfl, hn, ho_x0⟩
  replace ho_x0 := ho_x0.widen (B' := w3.heap.size) (by (try simp only [sizes]) <;> omega) (Nat.le_refl _)
  have hz4 := hn.size; try simp only [size_alloc] at hz4
  replace hn : New w3 w4 := New.trans (by repeat (first | with_reducible exact New.refl _ | with_reducible assumption | with_reducible refine New.alloc ?_ _ | with_reducible refine New.drew ?_ | with_reducible refine New.drewN ?_ _ | with_reducible refine New.setCell ?_ (by simp <;> omega) _)) hn
  replace cb_aR_0 := hn.cell cb_aR_0
  replace cb_aR_1 := hn.cell cb_aR_1
  replace zb_aR : w.heap.size < w4.heap.size := by omega
  replace hN := hN.trans hn
  replace hE := hE.trans hn
  obtain ⟨rx0, rfl, hrx0⟩ := id ho_x0; obtain ⟨Ax0, cx0, rfl⟩ := hrx0.form; clear hrx0
  go_wp2_with fail
  refine (HI.out _ _ (ho_x0.new (by repeat (first | with_reducible exact New.refl _ | with_reducible assumption | with_reducible refine New.alloc ?_ _ | with_reducible refine New.drew ?_ | with_reducible refine New.drewN ?_ _ | with_reducible refine New.setCell ?_ (by simp <;> omega) _))).at).mono ?_
  rintro e w5 ⟨rfl, hn⟩
  have hz5 := hn.size; try simp only [size_alloc] at hz5
  have cb_x0_0 : w5.cell? ⟨w4.heap.size, 0, none⟩ = some (.int .i64 a0.n) := hn.cell (by go_simp)
  have cb_x0_1 : w5.cell? ⟨w4.heap.size, 1, none⟩ = some (.slice Ax0 a0.nx.length cx0) := hn.cell (by go_simp)
  replace hn : New w4 w5 := New.trans (by repeat (first | with_reducible exact New.refl _ | with_reducible assumption | with_reducible refine New.alloc ?_ _ | with_reducible refine New.drew ?_ | with_reducible refine New.drewN ?_ _ | with_reducible refine New.setCell ?_ (by simp <;> omega) _)) hn
  replace cb_aR_0 := hn.cell cb_aR_0
  replace cb_aR_1 := hn.cell cb_aR_1
  replace zb_aR : w.heap.size < w5.heap.size := by omega
  replace zb_x0 : w4.heap.size < w5.heap.size := by omega
  replace hN := hN.trans hn
  replace hE := hE.trans hn
  replace ho_x0 := ho_x0.new hn
  go_wp2_with fail
  go_region_held3 (fun w' => w'.cell? ⟨w4.heap.size, 0, none⟩ = some (.int .i64 a0.n) ∧ w'.cell? ⟨w4.heap.size, 1, none⟩ = some (.slice Ax0 a0.nx.length cx0) ∧ w'.cell? ⟨w.heap.size, 0, none⟩ = some (.int .i64 a0.n) ∧ w'.cell? ⟨w.heap.size, 1, none⟩ = some (.slice AaR a0.nx.length caR))
    (first | go_keep | exact ⟨New.cell hq1 cb_x0_0, New.cell hq1 cb_x0_1, New.cell hq1 cb_aR_0, New.cell hq1 cb_aR_1⟩ | exact ⟨New.cell hq2 cb_x0_0, New.cell hq2 cb_x0_1, New.cell hq2 cb_aR_0, New.cell hq2 cb_aR_1⟩)
    (first
      | (go_at_call 39; refine (toRoads_any _ a0 _ (h0.new (hN.trans (New.refl _).drew)) hb_aR HB_aR.out).mono ?_; rintro e w6 ⟨r3, rfl, hq1, ho3⟩; replace hq1 : New w5 w6 := New.trans (New.refl _).drew hq1; obtain ⟨rq7, rfl, hrq7⟩ := id ho3; obtain ⟨Aq7, cq7, rfl⟩ := hrq7.form; clear hrq7)
      | (go_at_call 41; refine (eqRoads_any _ _ _ _ _ (ho_x0.new hq1).at ho3.at).mono ?_; rintro e w7 ⟨rfl, hq2⟩; replace hq2 : New w5 w7 := New.trans hq1 hq2))
  have hn := hq2
  have hz7 := hn.size; try simp only [size_alloc] at hz7
  replace hn : New w5 w7 := New.trans (by repeat (first | with_reducible exact New.refl _ | with_reducible assumption | with_reducible refine New.alloc ?_ _ | with_reducible refine New.drew ?_ | with_reducible refine New.drewN ?_ _ | with_reducible refine New.setCell ?_ (by simp <;> omega) _)) hn
  replace cb_aR_0 := hn.cell cb_aR_0
  replace cb_aR_1 := hn.cell cb_aR_1
  replace cb_x0_0 := hn.cell cb_x0_0
  replace cb_x0_1 := hn.cell cb_x0_1
  replace zb_aR : w.heap.size < w7.heap.size := by omega
  replace zb_x0 : w4.heap.size < w7.heap.size := by omega
  replace hN := hN.trans hn
  replace hE := hE.trans hn
  replace ho_x0 := ho_x0.new hn
  clear hq1 hq2 ho3
  go_wp2_with fail
  go_ret
  exact ⟨rfl, hN⟩

end Go.Proofs.Ytiflokfinkachaa
