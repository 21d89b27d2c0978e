/- The law of ContractRoads answers true, whatever its two functions return, if they return the same. -/
import Derived.Test.YtdaaglfemaoigaaRows
import Derived.Test.YtdaaglfemaoigaaBase
import Derived.Test.YtdaaglfemaoigaaAut
import Derived.Test.YtdaaglfemaoigaaMach
import Derived.Test.YtdaaglfemaoigaaLInts
import Derived.Test.YtdaaglfemaoigaaLRoads
import Derived.Test.YtdaaglfemaoigaaMInts
import Derived.Test.YtdaaglfemaoigaaMRoads
import Derived.WalkKit
import Derived.WalkSpells
import Derived.WalkLawsBesides
import Derived.Deep.QuietTactic
import Derived.Deep.OwnRows
import Derived.BigQuiet
import Derived.KernelRfl
import Derived.Deep.RegionHeld3
namespace Go.Proofs.Ytdaaglfemaoigaa
open Go.RowKit

set_option maxRecDepth 100000 in
set_option maxHeartbeats 4000000 in
theorem FnExactContractRoads_walk (v0 v1 : Value) (a0 : Aut) (a1 : List Int) (r0 : Aut) (r1 : Int) (w : World) (h0 : AutAt w v0 a0) (h1 : IntsAt w v1 a1)
    (HS : ∀ (w : World) (u0 u1 : Value), AutAt w u0 a0 → IntsAt w u1 a1 → Calls Try.prog 55 #[u0, u1] w fun e w' => ∃ x0, e = .returned (.tuple #[x0, .int .i64 r1]) ∧ New w w' ∧ OwnAut w.heap.size w'.heap.size w' x0 r0)
    (HI : ∀ (w : World) (u0 u1 : Value), AutAt w u0 a0 → IntsAt w u1 a1 → Calls Try.prog 56 #[u0, u1] w fun e w' => ∃ x0, e = .returned (.tuple #[x0, .int .i64 r1]) ∧ New w w' ∧ OwnAut w.heap.size w'.heap.size w' x0 r0) (hd0 : r0.nx.length ≤ 1048576 ∧ total r0.nx ≤ 1073741824) :
    Calls Try.prog 12 #[v0, v1] w fun e w' => e = .returned (.bool true) ∧ New w w' := by
  replace HS := hid HS
  replace HI := hid HI
  obtain ⟨raR, rfl, hraR⟩ := id h0; obtain ⟨AaR, caR, rfl⟩ := hraR.form; clear hraR
  obtain ⟨AaClass, caClass, rfl⟩ := h1.form
  have hl_aClass := h1.len
  by_cases hs_aClass : 1048576 < a1.length
  · go_enter Try.func12, Try.ntmps12
    go_wp2_with fail
    go_ret
    exact ⟨rfl, (by repeat (first | with_reducible exact New.refl _ | with_reducible assumption | with_reducible refine New.alloc ?_ _ | with_reducible refine New.drew ?_ | with_reducible refine New.drewN ?_ _ | with_reducible refine New.setCell ?_ (by simp <;> omega) _))⟩
  have hbd_aR := szBB_bound a0.nx 1048576 (by omega)
  by_cases hs_aR : szBB a0.nx 1048576 < 0
  · go_enter Try.func12, Try.ntmps12
    go_wp2_with fail
    refine (szRoads_any _ a0 _ _ (h0.new (by repeat (first | with_reducible exact New.refl _ | with_reducible assumption | with_reducible refine New.alloc ?_ _ | with_reducible refine New.drew ?_ | with_reducible refine New.drewN ?_ _ | with_reducible refine New.setCell ?_ (by simp <;> omega) _))) (by omega) (by omega)).mono ?_
    rintro e w1 ⟨rfl, hn⟩
    have cb_aR_0 : w1.cell? ⟨w.heap.size, 0, none⟩ = some (.int .i64 a0.n) := hn.cell (by go_simp)
    have cb_aR_1 : w1.cell? ⟨w.heap.size, 1, none⟩ = some (.slice AaR a0.nx.length caR) := hn.cell (by go_simp)
    have hN : New w w1 := New.trans (by repeat (first | with_reducible exact New.refl _ | with_reducible assumption | with_reducible refine New.alloc ?_ _ | with_reducible refine New.drew ?_ | with_reducible refine New.drewN ?_ _ | with_reducible refine New.setCell ?_ (by simp <;> omega) _)) hn
    go_wp2_with fail
    go_ret
    exact ⟨rfl, hN⟩
  have hsz_aR := szBB_len a0.nx 1048576 (by omega) (by omega)
  have hb_aR : a0.nx.length ≤ 1048576 := by omega
  have ht_aR : total a0.nx ≤ 1048576 := by omega
  have HB_aR := hid (fun i (hi : i < a0.nx.length) => Nat.le_trans (length_le_total a0.nx i hi) ht_aR)
  clear hsz_aR
  go_enter Try.func12, Try.ntmps12
  go_wp2_with fail
  refine (szRoads_any _ a0 _ _ (h0.new (by repeat (first | with_reducible exact New.refl _ | with_reducible assumption | with_reducible refine New.alloc ?_ _ | with_reducible refine New.drew ?_ | with_reducible refine New.drewN ?_ _ | with_reducible refine New.setCell ?_ (by simp <;> omega) _))) (by omega) (by omega)).mono ?_
  rintro e w1 ⟨rfl, hn⟩
  have hz1 := hn.size; try simp only [size_alloc] at hz1
  have cb_aR_0 : w1.cell? ⟨w.heap.size, 0, none⟩ = some (.int .i64 a0.n) := hn.cell (by go_simp)
  have cb_aR_1 : w1.cell? ⟨w.heap.size, 1, none⟩ = some (.slice AaR a0.nx.length caR) := hn.cell (by go_simp)
  replace hn : New w w1 := New.trans (by repeat (first | with_reducible exact New.refl _ | with_reducible assumption | with_reducible refine New.alloc ?_ _ | with_reducible refine New.drew ?_ | with_reducible refine New.drewN ?_ _ | with_reducible refine New.setCell ?_ (by simp <;> omega) _)) hn
  replace zb_aR : w.heap.size < w1.heap.size := by omega
  have hN := hn
  go_wp2_with fail
  refine (toRoads_any _ a0 _ (h0.new (New.trans hN (by repeat (first | with_reducible exact New.refl _ | with_reducible assumption | with_reducible refine New.alloc ?_ _ | with_reducible refine New.drew ?_ | with_reducible refine New.drewN ?_ _ | with_reducible refine New.setCell ?_ (by simp <;> omega) _)))) hb_aR HB_aR.out).mono ?_
  rintro e w2 ⟨v_t1_aR, rfl, hn, ho_t1_aR⟩
  replace ho_t1_aR := ho_t1_aR.widen (B' := w1.heap.size) (by (try simp only [sizes]) <;> omega) (Nat.le_refl _)
  have hz2 := hn.size; try simp only [size_alloc] at hz2
  replace hn : New w1 w2 := New.trans (by repeat (first | with_reducible exact New.refl _ | with_reducible assumption | with_reducible refine New.alloc ?_ _ | with_reducible refine New.drew ?_ | with_reducible refine New.drewN ?_ _ | with_reducible refine New.setCell ?_ (by simp <;> omega) _)) hn
  replace cb_aR_0 := hn.cell cb_aR_0
  replace cb_aR_1 := hn.cell cb_aR_1
  replace zb_aR : w.heap.size < w2.heap.size := by omega
  replace hN := hN.trans hn
  obtain ⟨rt1_aR, rfl, hrt1_aR⟩ := id ho_t1_aR; obtain ⟨At1_aR, ct1_aR, rfl⟩ := hrt1_aR.form; clear hrt1_aR
  go_wp2_with fail
  refine (toInt64S_any _ a1 _ (h1.new (New.trans hN (by repeat (first | with_reducible exact New.refl _ | with_reducible assumption | with_reducible refine New.alloc ?_ _ | with_reducible refine New.drew ?_ | with_reducible refine New.drewN ?_ _ | with_reducible refine New.setCell ?_ (by simp <;> omega) _)))) (by omega)).mono ?_
  rintro e w3 ⟨v_t2_aClass, rfl, hn, ho_t2_aClass⟩
  replace ho_t2_aClass := ho_t2_aClass.widen (B' := w2.heap.size) (by (try simp only [sizes]) <;> omega) (Nat.le_refl _)
  have hz3 := hn.size; try simp only [size_alloc] at hz3
  replace hn : New w2 w3 := New.trans (by repeat (first | with_reducible exact New.refl _ | with_reducible assumption | with_reducible refine New.alloc ?_ _ | with_reducible refine New.drew ?_ | with_reducible refine New.drewN ?_ _ | with_reducible refine New.setCell ?_ (by simp <;> omega) _)) hn
  replace cb_aR_0 := hn.cell cb_aR_0
  replace cb_aR_1 := hn.cell cb_aR_1
  replace zb_aR : w.heap.size < w3.heap.size := by omega
  replace hN := hN.trans hn
  replace ho_t1_aR := ho_t1_aR.new hn
  go_wp2_with fail
  refine (HS.out _ _ _ (ho_t1_aR.new (by repeat (first | with_reducible exact New.refl _ | with_reducible assumption | with_reducible refine New.alloc ?_ _ | with_reducible refine New.drew ?_ | with_reducible refine New.drewN ?_ _ | with_reducible refine New.setCell ?_ (by simp <;> omega) _))).at (ho_t2_aClass.new (by repeat (first | with_reducible exact New.refl _ | with_reducible assumption | with_reducible refine New.alloc ?_ _ | with_reducible refine New.drew ?_ | with_reducible refine New.drewN ?_ _ | with_reducible refine New.setCell ?_ (by simp <;> omega) _))).at).mono ?_
  rintro e w4 ⟨u_w0, rfl, hn, ho_w0⟩
  replace ho_w0 := ho_w0.widen (B' := w3.heap.size) (by (try simp only [sizes]) <;> omega) (Nat.le_refl _)
  have hz4 := hn.size; try simp only [size_alloc] at hz4
  replace hn : New w3 w4 := New.trans (by repeat (first | with_reducible exact New.refl _ | with_reducible assumption | with_reducible refine New.alloc ?_ _ | with_reducible refine New.drew ?_ | with_reducible refine New.drewN ?_ _ | with_reducible refine New.setCell ?_ (by simp <;> omega) _)) hn
  replace cb_aR_0 := hn.cell cb_aR_0
  replace cb_aR_1 := hn.cell cb_aR_1
  replace zb_aR : w.heap.size < w4.heap.size := by omega
  replace hN := hN.trans hn
  replace ho_t1_aR := ho_t1_aR.new hn
  replace ho_t2_aClass := ho_t2_aClass.new hn
  replace ho_w0 := ho_w0.at
  have hE := New.refl w4
  obtain ⟨rw0, rfl, hrw0⟩ := id id ho_w0; obtain ⟨Aw0, cw0, rfl⟩ := hrw0.form; clear hrw0
  clear ho_t1_aR
  clear ho_t2_aClass
  go_wp2_with fail
  refine (toRoads_any _ a0 _ (h0.new (New.trans hN (by repeat (first | with_reducible exact New.refl _ | with_reducible assumption | with_reducible refine New.alloc ?_ _ | with_reducible refine New.drew ?_ | with_reducible refine New.drewN ?_ _ | with_reducible refine New.setCell ?_ (by simp <;> omega) _)))) hb_aR HB_aR.out).mono ?_
  rintro e w5 ⟨v_x0, rfl, hn, ho_x0⟩
  replace ho_x0 := ho_x0.widen (B' := w4.heap.size + 1) (by (try simp only [sizes]) <;> omega) (Nat.le_refl _)
  have hz5 := hn.size; try simp only [size_alloc] at hz5
  have cb_w0_0 : w5.cell? ⟨w4.heap.size, 0, none⟩ = some (.int .i64 r0.n) := hn.cell (by go_simp)
  have cb_w0_1 : w5.cell? ⟨w4.heap.size, 1, none⟩ = some (.slice Aw0 r0.nx.length cw0) := hn.cell (by go_simp)
  replace hn : New w4 w5 := New.trans (by repeat (first | with_reducible exact New.refl _ | with_reducible assumption | with_reducible refine New.alloc ?_ _ | with_reducible refine New.drew ?_ | with_reducible refine New.drewN ?_ _ | with_reducible refine New.setCell ?_ (by simp <;> omega) _)) hn
  replace cb_aR_0 := hn.cell cb_aR_0
  replace cb_aR_1 := hn.cell cb_aR_1
  replace zb_aR : w.heap.size < w5.heap.size := by omega
  replace zb_w0 : w4.heap.size < w5.heap.size := by omega
  replace hN := hN.trans hn
  replace hE := hE.trans hn
  obtain ⟨rx0, rfl, hrx0⟩ := id ho_x0; obtain ⟨Ax0, cx0, rfl⟩ := hrx0.form; clear hrx0
  go_wp2_with fail
  refine (toInt64S_any _ a1 _ (h1.new (New.trans hN (by repeat (first | with_reducible exact New.refl _ | with_reducible assumption | with_reducible refine New.alloc ?_ _ | with_reducible refine New.drew ?_ | with_reducible refine New.drewN ?_ _ | with_reducible refine New.setCell ?_ (by simp <;> omega) _)))) (by omega)).mono ?_
  rintro e w6 ⟨v_x1, rfl, hn, ho_x1⟩
  replace ho_x1 := ho_x1.widen (B' := w5.heap.size + 1) (by (try simp only [sizes]) <;> omega) (Nat.le_refl _)
  have hz6 := hn.size; try simp only [size_alloc] at hz6
  have cb_x0_0 : w6.cell? ⟨w5.heap.size, 0, none⟩ = some (.int .i64 a0.n) := hn.cell (by go_simp)
  have cb_x0_1 : w6.cell? ⟨w5.heap.size, 1, none⟩ = some (.slice Ax0 a0.nx.length cx0) := hn.cell (by go_simp)
  replace hn : New w5 w6 := New.trans (by repeat (first | with_reducible exact New.refl _ | with_reducible assumption | with_reducible refine New.alloc ?_ _ | with_reducible refine New.drew ?_ | with_reducible refine New.drewN ?_ _ | with_reducible refine New.setCell ?_ (by simp <;> omega) _)) hn
  replace cb_aR_0 := hn.cell cb_aR_0
  replace cb_aR_1 := hn.cell cb_aR_1
  replace cb_w0_0 := hn.cell cb_w0_0
  replace cb_w0_1 := hn.cell cb_w0_1
  replace zb_aR : w.heap.size < w6.heap.size := by omega
  replace zb_w0 : w4.heap.size < w6.heap.size := by omega
  replace zb_x0 : w5.heap.size < w6.heap.size := by omega
  replace hN := hN.trans hn
  replace hE := hE.trans hn
  replace ho_x0 := ho_x0.new hn
  go_wp2_with fail
  refine (HI.out _ _ _ (ho_x0.new (by repeat (first | with_reducible exact New.refl _ | with_reducible assumption | with_reducible refine New.alloc ?_ _ | with_reducible refine New.drew ?_ | with_reducible refine New.drewN ?_ _ | with_reducible refine New.setCell ?_ (by simp <;> omega) _))).at (ho_x1.new (by repeat (first | with_reducible exact New.refl _ | with_reducible assumption | with_reducible refine New.alloc ?_ _ | with_reducible refine New.drew ?_ | with_reducible refine New.drewN ?_ _ | with_reducible refine New.setCell ?_ (by simp <;> omega) _))).at).mono ?_
  rintro e w7 ⟨u_g0, rfl, hn, ho_g0⟩
  replace ho_g0 := ho_g0.widen (B' := w6.heap.size) (by (try simp only [sizes]) <;> omega) (Nat.le_refl _)
  have hz7 := hn.size; try simp only [size_alloc] at hz7
  replace hn : New w6 w7 := New.trans (by repeat (first | with_reducible exact New.refl _ | with_reducible assumption | with_reducible refine New.alloc ?_ _ | with_reducible refine New.drew ?_ | with_reducible refine New.drewN ?_ _ | with_reducible refine New.setCell ?_ (by simp <;> omega) _)) hn
  replace cb_aR_0 := hn.cell cb_aR_0
  replace cb_aR_1 := hn.cell cb_aR_1
  replace cb_w0_0 := hn.cell cb_w0_0
  replace cb_w0_1 := hn.cell cb_w0_1
  replace cb_x0_0 := hn.cell cb_x0_0
  replace cb_x0_1 := hn.cell cb_x0_1
  replace zb_aR : w.heap.size < w7.heap.size := by omega
  replace zb_w0 : w4.heap.size < w7.heap.size := by omega
  replace zb_x0 : w5.heap.size < w7.heap.size := by omega
  replace hN := hN.trans hn
  replace hE := hE.trans hn
  replace ho_x0 := ho_x0.new hn
  replace ho_x1 := ho_x1.new hn
  obtain ⟨rg0, rfl, hrg0⟩ := id ho_g0; obtain ⟨Ag0, cg0, rfl⟩ := hrg0.form; clear hrg0
  go_wp2_with fail
  refine (eqRoads_any _ _ _ _ _ (ho_g0.new (by repeat (first | with_reducible exact New.refl _ | with_reducible assumption | with_reducible refine New.alloc ?_ _ | with_reducible refine New.drew ?_ | with_reducible refine New.drewN ?_ _ | with_reducible refine New.setCell ?_ (by simp <;> omega) _))).at ((ho_w0.new hE).new (by repeat (first | with_reducible exact New.refl _ | with_reducible assumption | with_reducible refine New.alloc ?_ _ | with_reducible refine New.drew ?_ | with_reducible refine New.drewN ?_ _ | with_reducible refine New.setCell ?_ (by simp <;> omega) _)))).mono ?_
  rintro e w8 ⟨rfl, hn⟩
  have hz8 := hn.size; try simp only [size_alloc] at hz8
  have cb_g0_0 : w8.cell? ⟨w7.heap.size, 0, none⟩ = some (.int .i64 r0.n) := hn.cell (by go_simp)
  have cb_g0_1 : w8.cell? ⟨w7.heap.size, 1, none⟩ = some (.slice Ag0 r0.nx.length cg0) := hn.cell (by go_simp)
  replace hn : New w7 w8 := New.trans (by repeat (first | with_reducible exact New.refl _ | with_reducible assumption | with_reducible refine New.alloc ?_ _ | with_reducible refine New.drew ?_ | with_reducible refine New.drewN ?_ _ | with_reducible refine New.setCell ?_ (by simp <;> omega) _)) hn
  replace cb_aR_0 := hn.cell cb_aR_0
  replace cb_aR_1 := hn.cell cb_aR_1
  replace cb_w0_0 := hn.cell cb_w0_0
  replace cb_w0_1 := hn.cell cb_w0_1
  replace cb_x0_0 := hn.cell cb_x0_0
  replace cb_x0_1 := hn.cell cb_x0_1
  replace zb_aR : w.heap.size < w8.heap.size := by omega
  replace zb_w0 : w4.heap.size < w8.heap.size := by omega
  replace zb_x0 : w5.heap.size < w8.heap.size := by omega
  replace zb_g0 : w7.heap.size < w8.heap.size := by omega
  replace hN := hN.trans hn
  replace hE := hE.trans hn
  replace ho_x0 := ho_x0.new hn
  replace ho_x1 := ho_x1.new hn
  replace ho_g0 := ho_g0.new hn
  go_wp2_with fail
  go_region_held3 (fun w' => w'.cell? ⟨w5.heap.size, 0, none⟩ = some (.int .i64 a0.n) ∧ w'.cell? ⟨w5.heap.size, 1, none⟩ = some (.slice Ax0 a0.nx.length cx0) ∧ w'.cell? ⟨w.heap.size, 0, none⟩ = some (.int .i64 a0.n) ∧ w'.cell? ⟨w.heap.size, 1, none⟩ = some (.slice AaR a0.nx.length caR))
    (first | go_keep | exact ⟨New.cell hq1 cb_x0_0, New.cell hq1 cb_x0_1, New.cell hq1 cb_aR_0, New.cell hq1 cb_aR_1⟩ | exact ⟨New.cell hq2 cb_x0_0, New.cell hq2 cb_x0_1, New.cell hq2 cb_aR_0, New.cell hq2 cb_aR_1⟩)
    (first
      | (go_at_call 51; refine (toRoads_any _ a0 _ (h0.new (hN.trans (New.refl _).drew)) hb_aR HB_aR.out).mono ?_; rintro e w9 ⟨r3, rfl, hq1, ho3⟩; replace hq1 : New w8 w9 := New.trans (New.refl _).drew hq1; obtain ⟨rq10, rfl, hrq10⟩ := id ho3; obtain ⟨Aq10, cq10, rfl⟩ := hrq10.form; clear hrq10)
      | (go_at_call 53; refine (eqRoads_any _ _ _ _ _ (ho_x0.new hq1).at ho3.at).mono ?_; rintro e w10 ⟨rfl, hq2⟩; replace hq2 : New w8 w10 := New.trans hq1 hq2))
  have hn := hq2
  have hz10 := hn.size; try simp only [size_alloc] at hz10
  replace hn : New w8 w10 := New.trans (by repeat (first | with_reducible exact New.refl _ | with_reducible assumption | with_reducible refine New.alloc ?_ _ | with_reducible refine New.drew ?_ | with_reducible refine New.drewN ?_ _ | with_reducible refine New.setCell ?_ (by simp <;> omega) _)) hn
  replace cb_aR_0 := hn.cell cb_aR_0
  replace cb_aR_1 := hn.cell cb_aR_1
  replace cb_w0_0 := hn.cell cb_w0_0
  replace cb_w0_1 := hn.cell cb_w0_1
  replace cb_x0_0 := hn.cell cb_x0_0
  replace cb_x0_1 := hn.cell cb_x0_1
  replace cb_g0_0 := hn.cell cb_g0_0
  replace cb_g0_1 := hn.cell cb_g0_1
  replace zb_aR : w.heap.size < w10.heap.size := by omega
  replace zb_w0 : w4.heap.size < w10.heap.size := by omega
  replace zb_x0 : w5.heap.size < w10.heap.size := by omega
  replace zb_g0 : w7.heap.size < w10.heap.size := by omega
  replace hN := hN.trans hn
  replace hE := hE.trans hn
  replace ho_x0 := ho_x0.new hn
  replace ho_x1 := ho_x1.new hn
  replace ho_g0 := ho_g0.new hn
  clear hq1 hq2 ho3
  go_wp2_with fail
  refine (toInt64S_any _ a1 _ (h1.new (New.trans hN (by repeat (first | with_reducible exact New.refl _ | with_reducible assumption | with_reducible refine New.alloc ?_ _ | with_reducible refine New.drew ?_ | with_reducible refine New.drewN ?_ _ | with_reducible refine New.setCell ?_ (by simp <;> omega) _)))) (by omega)).mono ?_
  rintro e w11 ⟨v_t10_aClass, rfl, hn, ho_t10_aClass⟩
  replace ho_t10_aClass := ho_t10_aClass.widen (B' := w10.heap.size) (by (try simp only [sizes]) <;> omega) (Nat.le_refl _)
  have hz11 := hn.size; try simp only [size_alloc] at hz11
  replace hn : New w10 w11 := New.trans (by repeat (first | with_reducible exact New.refl _ | with_reducible assumption | with_reducible refine New.alloc ?_ _ | with_reducible refine New.drew ?_ | with_reducible refine New.drewN ?_ _ | with_reducible refine New.setCell ?_ (by simp <;> omega) _)) hn
  replace cb_aR_0 := hn.cell cb_aR_0
  replace cb_aR_1 := hn.cell cb_aR_1
  replace cb_w0_0 := hn.cell cb_w0_0
  replace cb_w0_1 := hn.cell cb_w0_1
  replace cb_x0_0 := hn.cell cb_x0_0
  replace cb_x0_1 := hn.cell cb_x0_1
  replace cb_g0_0 := hn.cell cb_g0_0
  replace cb_g0_1 := hn.cell cb_g0_1
  replace zb_aR : w.heap.size < w11.heap.size := by omega
  replace zb_w0 : w4.heap.size < w11.heap.size := by omega
  replace zb_x0 : w5.heap.size < w11.heap.size := by omega
  replace zb_g0 : w7.heap.size < w11.heap.size := by omega
  replace hN := hN.trans hn
  replace hE := hE.trans hn
  replace ho_x0 := ho_x0.new hn
  replace ho_x1 := ho_x1.new hn
  replace ho_g0 := ho_g0.new hn
  go_wp2_with fail
  refine (eqInt64S_any _ _ _ _ _ (ho_x1.new (by repeat (first | with_reducible exact New.refl _ | with_reducible assumption | with_reducible refine New.alloc ?_ _ | with_reducible refine New.drew ?_ | with_reducible refine New.drewN ?_ _ | with_reducible refine New.setCell ?_ (by simp <;> omega) _))).at (ho_t10_aClass.new (by repeat (first | with_reducible exact New.refl _ | with_reducible assumption | with_reducible refine New.alloc ?_ _ | with_reducible refine New.drew ?_ | with_reducible refine New.drewN ?_ _ | with_reducible refine New.setCell ?_ (by simp <;> omega) _))).at).mono ?_
  rintro e w12 ⟨rfl, hn⟩
  have hz12 := hn.size; try simp only [size_alloc] at hz12
  replace hn : New w11 w12 := New.trans (by repeat (first | with_reducible exact New.refl _ | with_reducible assumption | with_reducible refine New.alloc ?_ _ | with_reducible refine New.drew ?_ | with_reducible refine New.drewN ?_ _ | with_reducible refine New.setCell ?_ (by simp <;> omega) _)) hn
  replace cb_aR_0 := hn.cell cb_aR_0
  replace cb_aR_1 := hn.cell cb_aR_1
  replace cb_w0_0 := hn.cell cb_w0_0
  replace cb_w0_1 := hn.cell cb_w0_1
  replace cb_x0_0 := hn.cell cb_x0_0
  replace cb_x0_1 := hn.cell cb_x0_1
  replace cb_g0_0 := hn.cell cb_g0_0
  replace cb_g0_1 := hn.cell cb_g0_1
  replace zb_aR : w.heap.size < w12.heap.size := by omega
  replace zb_w0 : w4.heap.size < w12.heap.size := by omega
  replace zb_x0 : w5.heap.size < w12.heap.size := by omega
  replace zb_g0 : w7.heap.size < w12.heap.size := by omega
  replace hN := hN.trans hn
  replace hE := hE.trans hn
  replace ho_x0 := ho_x0.new hn
  replace ho_x1 := ho_x1.new hn
  replace ho_g0 := ho_g0.new hn
  replace ho_t10_aClass := ho_t10_aClass.new hn
  clear ho_t10_aClass
  go_wp2_with fail
  refine (markRoads_any _ _ _ _ (ho_x0.new (by repeat (first | with_reducible exact New.refl _ | with_reducible assumption | with_reducible refine New.alloc ?_ _ | with_reducible refine New.drew ?_ | with_reducible refine New.drewN ?_ _ | with_reducible refine New.setCell ?_ (by simp <;> omega) _))) (by omega) (by omega)).mono ?_
  rintro e w13 ⟨rfl, hm_x0, hW⟩
  have hz13 := hW.2.2.2.1; try simp only [size_alloc] at hz13
  replace hW : Within (w4.heap.size + 1) (w5.heap.size) w12 w13 := Within.trans (Within.of_new (by repeat (first | with_reducible exact New.refl _ | with_reducible assumption | with_reducible refine New.alloc ?_ _ | with_reducible refine New.drew ?_ | with_reducible refine New.drewN ?_ _ | with_reducible refine New.setCell ?_ (by simp <;> omega) _)) _ _) hW
  replace cb_aR_0 := hW.cell cb_aR_0 (by simp <;> omega)
  replace cb_aR_1 := hW.cell cb_aR_1 (by simp <;> omega)
  replace cb_w0_0 := hW.cell cb_w0_0 (by simp <;> omega)
  replace cb_w0_1 := hW.cell cb_w0_1 (by simp <;> omega)
  replace cb_x0_0 := hW.cell cb_x0_0 (by simp <;> omega)
  replace cb_x0_1 := hW.cell cb_x0_1 (by simp <;> omega)
  replace cb_g0_0 := hW.cell cb_g0_0 (by simp <;> omega)
  replace cb_g0_1 := hW.cell cb_g0_1 (by simp <;> omega)
  replace zb_aR : w.heap.size < w13.heap.size := by omega
  replace zb_w0 : w4.heap.size < w13.heap.size := by omega
  replace zb_x0 : w5.heap.size < w13.heap.size := by omega
  replace zb_g0 : w7.heap.size < w13.heap.size := by omega
  replace hN := hN.within hW (by omega)
  replace hE := hE.within hW (by omega)
  replace ho_x1 := ho_x1.within hW (by omega)
  replace ho_g0 := ho_g0.within hW (by omega)
  clear hW
  clear ho_x0 hm_x0
  go_wp2_with fail
  refine (markInt64S_any _ _ _ _ (ho_x1.new (by repeat (first | with_reducible exact New.refl _ | with_reducible assumption | with_reducible refine New.alloc ?_ _ | with_reducible refine New.drew ?_ | with_reducible refine New.drewN ?_ _ | with_reducible refine New.setCell ?_ (by simp <;> omega) _))) (by omega) (by omega)).mono ?_
  rintro e w14 ⟨rfl, hm_x1, hW⟩
  replace hW := Within.of_grown hW (fun b hb => ho_x1.block b hb)
  have hz14 := hW.2.2.2.1; try simp only [size_alloc] at hz14
  replace hW : Within (w5.heap.size + 1) (w6.heap.size) w13 w14 := Within.trans (Within.of_new (by repeat (first | with_reducible exact New.refl _ | with_reducible assumption | with_reducible refine New.alloc ?_ _ | with_reducible refine New.drew ?_ | with_reducible refine New.drewN ?_ _ | with_reducible refine New.setCell ?_ (by simp <;> omega) _)) _ _) hW
  replace cb_aR_0 := hW.cell cb_aR_0 (by simp <;> omega)
  replace cb_aR_1 := hW.cell cb_aR_1 (by simp <;> omega)
  replace cb_w0_0 := hW.cell cb_w0_0 (by simp <;> omega)
  replace cb_w0_1 := hW.cell cb_w0_1 (by simp <;> omega)
  replace cb_x0_0 := hW.cell cb_x0_0 (by simp <;> omega)
  replace cb_x0_1 := hW.cell cb_x0_1 (by simp <;> omega)
  replace cb_g0_0 := hW.cell cb_g0_0 (by simp <;> omega)
  replace cb_g0_1 := hW.cell cb_g0_1 (by simp <;> omega)
  replace zb_aR : w.heap.size < w14.heap.size := by omega
  replace zb_w0 : w4.heap.size < w14.heap.size := by omega
  replace zb_x0 : w5.heap.size < w14.heap.size := by omega
  replace zb_g0 : w7.heap.size < w14.heap.size := by omega
  replace hN := hN.within hW (by omega)
  replace hE := hE.within hW (by omega)
  replace ho_g0 := ho_g0.within hW (by omega)
  clear hW
  clear ho_x1 hm_x1
  go_wp2_with fail
  refine (eqRoads_any _ _ _ _ _ (ho_g0.new (by repeat (first | with_reducible exact New.refl _ | with_reducible assumption | with_reducible refine New.alloc ?_ _ | with_reducible refine New.drew ?_ | with_reducible refine New.drewN ?_ _ | with_reducible refine New.setCell ?_ (by simp <;> omega) _))).at ((ho_w0.new hE).new (by repeat (first | with_reducible exact New.refl _ | with_reducible assumption | with_reducible refine New.alloc ?_ _ | with_reducible refine New.drew ?_ | with_reducible refine New.drewN ?_ _ | with_reducible refine New.setCell ?_ (by simp <;> omega) _)))).mono ?_
  rintro e w15 ⟨rfl, hn⟩
  have hz15 := hn.size; try simp only [size_alloc] at hz15
  replace hn : New w14 w15 := New.trans (by repeat (first | with_reducible exact New.refl _ | with_reducible assumption | with_reducible refine New.alloc ?_ _ | with_reducible refine New.drew ?_ | with_reducible refine New.drewN ?_ _ | with_reducible refine New.setCell ?_ (by simp <;> omega) _)) hn
  replace cb_aR_0 := hn.cell cb_aR_0
  replace cb_aR_1 := hn.cell cb_aR_1
  replace cb_w0_0 := hn.cell cb_w0_0
  replace cb_w0_1 := hn.cell cb_w0_1
  replace cb_x0_0 := hn.cell cb_x0_0
  replace cb_x0_1 := hn.cell cb_x0_1
  replace cb_g0_0 := hn.cell cb_g0_0
  replace cb_g0_1 := hn.cell cb_g0_1
  replace zb_aR : w.heap.size < w15.heap.size := by omega
  replace zb_w0 : w4.heap.size < w15.heap.size := by omega
  replace zb_x0 : w5.heap.size < w15.heap.size := by omega
  replace zb_g0 : w7.heap.size < w15.heap.size := by omega
  replace hN := hN.trans hn
  replace hE := hE.trans hn
  replace ho_g0 := ho_g0.new hn
  go_wp2_with fail
  refine (markRoads_any _ _ _ _ (ho_g0.new (by repeat (first | with_reducible exact New.refl _ | with_reducible assumption | with_reducible refine New.alloc ?_ _ | with_reducible refine New.drew ?_ | with_reducible refine New.drewN ?_ _ | with_reducible refine New.setCell ?_ (by simp <;> omega) _))) (by omega) (by omega)).mono ?_
  rintro e w16 ⟨rfl, hm_g0, hW⟩
  have hz16 := hW.2.2.2.1; try simp only [size_alloc] at hz16
  replace hW : Within (w6.heap.size) (w7.heap.size) w15 w16 := Within.trans (Within.of_new (by repeat (first | with_reducible exact New.refl _ | with_reducible assumption | with_reducible refine New.alloc ?_ _ | with_reducible refine New.drew ?_ | with_reducible refine New.drewN ?_ _ | with_reducible refine New.setCell ?_ (by simp <;> omega) _)) _ _) hW
  replace cb_aR_0 := hW.cell cb_aR_0 (by simp <;> omega)
  replace cb_aR_1 := hW.cell cb_aR_1 (by simp <;> omega)
  replace cb_w0_0 := hW.cell cb_w0_0 (by simp <;> omega)
  replace cb_w0_1 := hW.cell cb_w0_1 (by simp <;> omega)
  replace cb_x0_0 := hW.cell cb_x0_0 (by simp <;> omega)
  replace cb_x0_1 := hW.cell cb_x0_1 (by simp <;> omega)
  replace cb_g0_0 := hW.cell cb_g0_0 (by simp <;> omega)
  replace cb_g0_1 := hW.cell cb_g0_1 (by simp <;> omega)
  replace zb_aR : w.heap.size < w16.heap.size := by omega
  replace zb_w0 : w4.heap.size < w16.heap.size := by omega
  replace zb_x0 : w5.heap.size < w16.heap.size := by omega
  replace zb_g0 : w7.heap.size < w16.heap.size := by omega
  replace hN := hN.within hW (by omega)
  replace hE := hE.within hW (by omega)
  clear hW
  clear ho_g0
  go_wp2_with fail
  refine (heldRoads_any _ r0 _ _ (hm_g0.new (by repeat (first | with_reducible exact New.refl _ | with_reducible assumption | with_reducible refine New.alloc ?_ _ | with_reducible refine New.drew ?_ | with_reducible refine New.drewN ?_ _ | with_reducible refine New.setCell ?_ (by simp <;> omega) _))).at (by omega) (by omega)).mono ?_
  rintro e w17 ⟨rfl, hn⟩
  have hz17 := hn.size; try simp only [size_alloc] at hz17
  replace hn : New w16 w17 := New.trans (by repeat (first | with_reducible exact New.refl _ | with_reducible assumption | with_reducible refine New.alloc ?_ _ | with_reducible refine New.drew ?_ | with_reducible refine New.drewN ?_ _ | with_reducible refine New.setCell ?_ (by simp <;> omega) _)) hn
  replace cb_aR_0 := hn.cell cb_aR_0
  replace cb_aR_1 := hn.cell cb_aR_1
  replace cb_w0_0 := hn.cell cb_w0_0
  replace cb_w0_1 := hn.cell cb_w0_1
  replace cb_x0_0 := hn.cell cb_x0_0
  replace cb_x0_1 := hn.cell cb_x0_1
  replace cb_g0_0 := hn.cell cb_g0_0
  replace cb_g0_1 := hn.cell cb_g0_1
  replace zb_aR : w.heap.size < w17.heap.size := by omega
  replace zb_w0 : w4.heap.size < w17.heap.size := by omega
  replace zb_x0 : w5.heap.size < w17.heap.size := by omega
  replace zb_g0 : w7.heap.size < w17.heap.size := by omega
  replace hN := hN.trans hn
  replace hE := hE.trans hn
  replace hm_g0 := hm_g0.new hn
  go_wp2_with fail
  refine (toRoads_any _ a0 _ (h0.new (New.trans hN (by repeat (first | with_reducible exact New.refl _ | with_reducible assumption | with_reducible refine New.alloc ?_ _ | with_reducible refine New.drew ?_ | with_reducible refine New.drewN ?_ _ | with_reducible refine New.setCell ?_ (by simp <;> omega) _)))) hb_aR HB_aR.out).mono ?_
  rintro e w18 ⟨v_t17_aR, rfl, hn, ho_t17_aR⟩
  replace ho_t17_aR := ho_t17_aR.widen (B' := w17.heap.size) (by (try simp only [sizes]) <;> omega) (Nat.le_refl _)
  have hz18 := hn.size; try simp only [size_alloc] at hz18
  replace hn : New w17 w18 := New.trans (by repeat (first | with_reducible exact New.refl _ | with_reducible assumption | with_reducible refine New.alloc ?_ _ | with_reducible refine New.drew ?_ | with_reducible refine New.drewN ?_ _ | with_reducible refine New.setCell ?_ (by simp <;> omega) _)) hn
  replace cb_aR_0 := hn.cell cb_aR_0
  replace cb_aR_1 := hn.cell cb_aR_1
  replace cb_w0_0 := hn.cell cb_w0_0
  replace cb_w0_1 := hn.cell cb_w0_1
  replace cb_x0_0 := hn.cell cb_x0_0
  replace cb_x0_1 := hn.cell cb_x0_1
  replace cb_g0_0 := hn.cell cb_g0_0
  replace cb_g0_1 := hn.cell cb_g0_1
  replace zb_aR : w.heap.size < w18.heap.size := by omega
  replace zb_w0 : w4.heap.size < w18.heap.size := by omega
  replace zb_x0 : w5.heap.size < w18.heap.size := by omega
  replace zb_g0 : w7.heap.size < w18.heap.size := by omega
  replace hN := hN.trans hn
  replace hE := hE.trans hn
  replace hm_g0 := hm_g0.new hn
  obtain ⟨rt17_aR, rfl, hrt17_aR⟩ := id ho_t17_aR; obtain ⟨At17_aR, ct17_aR, rfl⟩ := hrt17_aR.form; clear hrt17_aR
  go_wp2_with fail
  refine (toInt64S_any _ a1 _ (h1.new (New.trans hN (by repeat (first | with_reducible exact New.refl _ | with_reducible assumption | with_reducible refine New.alloc ?_ _ | with_reducible refine New.drew ?_ | with_reducible refine New.drewN ?_ _ | with_reducible refine New.setCell ?_ (by simp <;> omega) _)))) (by omega)).mono ?_
  rintro e w19 ⟨v_t18_aClass, rfl, hn, ho_t18_aClass⟩
  replace ho_t18_aClass := ho_t18_aClass.widen (B' := w18.heap.size) (by (try simp only [sizes]) <;> omega) (Nat.le_refl _)
  have hz19 := hn.size; try simp only [size_alloc] at hz19
  replace hn : New w18 w19 := New.trans (by repeat (first | with_reducible exact New.refl _ | with_reducible assumption | with_reducible refine New.alloc ?_ _ | with_reducible refine New.drew ?_ | with_reducible refine New.drewN ?_ _ | with_reducible refine New.setCell ?_ (by simp <;> omega) _)) hn
  replace cb_aR_0 := hn.cell cb_aR_0
  replace cb_aR_1 := hn.cell cb_aR_1
  replace cb_w0_0 := hn.cell cb_w0_0
  replace cb_w0_1 := hn.cell cb_w0_1
  replace cb_x0_0 := hn.cell cb_x0_0
  replace cb_x0_1 := hn.cell cb_x0_1
  replace cb_g0_0 := hn.cell cb_g0_0
  replace cb_g0_1 := hn.cell cb_g0_1
  replace zb_aR : w.heap.size < w19.heap.size := by omega
  replace zb_w0 : w4.heap.size < w19.heap.size := by omega
  replace zb_x0 : w5.heap.size < w19.heap.size := by omega
  replace zb_g0 : w7.heap.size < w19.heap.size := by omega
  replace hN := hN.trans hn
  replace hE := hE.trans hn
  replace hm_g0 := hm_g0.new hn
  replace ho_t17_aR := ho_t17_aR.new hn
  go_wp2_with fail
  refine (HI.out _ _ _ (ho_t17_aR.new (by repeat (first | with_reducible exact New.refl _ | with_reducible assumption | with_reducible refine New.alloc ?_ _ | with_reducible refine New.drew ?_ | with_reducible refine New.drewN ?_ _ | with_reducible refine New.setCell ?_ (by simp <;> omega) _))).at (ho_t18_aClass.new (by repeat (first | with_reducible exact New.refl _ | with_reducible assumption | with_reducible refine New.alloc ?_ _ | with_reducible refine New.drew ?_ | with_reducible refine New.drewN ?_ _ | with_reducible refine New.setCell ?_ (by simp <;> omega) _))).at).mono ?_
  rintro e w20 ⟨u_h0, rfl, hn, ho_h0⟩
  replace ho_h0 := ho_h0.widen (B' := w19.heap.size) (by (try simp only [sizes]) <;> omega) (Nat.le_refl _)
  have hz20 := hn.size; try simp only [size_alloc] at hz20
  replace hn : New w19 w20 := New.trans (by repeat (first | with_reducible exact New.refl _ | with_reducible assumption | with_reducible refine New.alloc ?_ _ | with_reducible refine New.drew ?_ | with_reducible refine New.drewN ?_ _ | with_reducible refine New.setCell ?_ (by simp <;> omega) _)) hn
  replace cb_aR_0 := hn.cell cb_aR_0
  replace cb_aR_1 := hn.cell cb_aR_1
  replace cb_w0_0 := hn.cell cb_w0_0
  replace cb_w0_1 := hn.cell cb_w0_1
  replace cb_x0_0 := hn.cell cb_x0_0
  replace cb_x0_1 := hn.cell cb_x0_1
  replace cb_g0_0 := hn.cell cb_g0_0
  replace cb_g0_1 := hn.cell cb_g0_1
  replace zb_aR : w.heap.size < w20.heap.size := by omega
  replace zb_w0 : w4.heap.size < w20.heap.size := by omega
  replace zb_x0 : w5.heap.size < w20.heap.size := by omega
  replace zb_g0 : w7.heap.size < w20.heap.size := by omega
  replace hN := hN.trans hn
  replace hE := hE.trans hn
  replace hm_g0 := hm_g0.new hn
  replace ho_t17_aR := ho_t17_aR.new hn
  replace ho_t18_aClass := ho_t18_aClass.new hn
  obtain ⟨rh0, rfl, hrh0⟩ := id ho_h0; obtain ⟨Ah0, ch0, rfl⟩ := hrh0.form; clear hrh0
  clear ho_t17_aR
  clear ho_t18_aClass
  go_wp2_with fail
  refine (eqRoads_any _ _ _ _ _ (ho_h0.new (by repeat (first | with_reducible exact New.refl _ | with_reducible assumption | with_reducible refine New.alloc ?_ _ | with_reducible refine New.drew ?_ | with_reducible refine New.drewN ?_ _ | with_reducible refine New.setCell ?_ (by simp <;> omega) _))).at ((ho_w0.new hE).new (by repeat (first | with_reducible exact New.refl _ | with_reducible assumption | with_reducible refine New.alloc ?_ _ | with_reducible refine New.drew ?_ | with_reducible refine New.drewN ?_ _ | with_reducible refine New.setCell ?_ (by simp <;> omega) _)))).mono ?_
  rintro e w21 ⟨rfl, hn⟩
  have hz21 := hn.size; try simp only [size_alloc] at hz21
  have cb_h0_0 : w21.cell? ⟨w20.heap.size, 0, none⟩ = some (.int .i64 r0.n) := hn.cell (by go_simp)
  have cb_h0_1 : w21.cell? ⟨w20.heap.size, 1, none⟩ = some (.slice Ah0 r0.nx.length ch0) := hn.cell (by go_simp)
  replace hn : New w20 w21 := New.trans (by repeat (first | with_reducible exact New.refl _ | with_reducible assumption | with_reducible refine New.alloc ?_ _ | with_reducible refine New.drew ?_ | with_reducible refine New.drewN ?_ _ | with_reducible refine New.setCell ?_ (by simp <;> omega) _)) hn
  replace cb_aR_0 := hn.cell cb_aR_0
  replace cb_aR_1 := hn.cell cb_aR_1
  replace cb_w0_0 := hn.cell cb_w0_0
  replace cb_w0_1 := hn.cell cb_w0_1
  replace cb_x0_0 := hn.cell cb_x0_0
  replace cb_x0_1 := hn.cell cb_x0_1
  replace cb_g0_0 := hn.cell cb_g0_0
  replace cb_g0_1 := hn.cell cb_g0_1
  replace zb_aR : w.heap.size < w21.heap.size := by omega
  replace zb_w0 : w4.heap.size < w21.heap.size := by omega
  replace zb_x0 : w5.heap.size < w21.heap.size := by omega
  replace zb_g0 : w7.heap.size < w21.heap.size := by omega
  replace zb_h0 : w20.heap.size < w21.heap.size := by omega
  replace hN := hN.trans hn
  replace hE := hE.trans hn
  replace hm_g0 := hm_g0.new hn
  replace ho_h0 := ho_h0.new hn
  go_wp2_with fail
  refine (heldRoads_any _ r0 _ _ (hm_g0.new (by repeat (first | with_reducible exact New.refl _ | with_reducible assumption | with_reducible refine New.alloc ?_ _ | with_reducible refine New.drew ?_ | with_reducible refine New.drewN ?_ _ | with_reducible refine New.setCell ?_ (by simp <;> omega) _))).at (by omega) (by omega)).mono ?_
  rintro e w22 ⟨rfl, hn⟩
  have hz22 := hn.size; try simp only [size_alloc] at hz22
  replace hn : New w21 w22 := New.trans (by repeat (first | with_reducible exact New.refl _ | with_reducible assumption | with_reducible refine New.alloc ?_ _ | with_reducible refine New.drew ?_ | with_reducible refine New.drewN ?_ _ | with_reducible refine New.setCell ?_ (by simp <;> omega) _)) hn
  replace cb_aR_0 := hn.cell cb_aR_0
  replace cb_aR_1 := hn.cell cb_aR_1
  replace cb_w0_0 := hn.cell cb_w0_0
  replace cb_w0_1 := hn.cell cb_w0_1
  replace cb_x0_0 := hn.cell cb_x0_0
  replace cb_x0_1 := hn.cell cb_x0_1
  replace cb_g0_0 := hn.cell cb_g0_0
  replace cb_g0_1 := hn.cell cb_g0_1
  replace cb_h0_0 := hn.cell cb_h0_0
  replace cb_h0_1 := hn.cell cb_h0_1
  replace zb_aR : w.heap.size < w22.heap.size := by omega
  replace zb_w0 : w4.heap.size < w22.heap.size := by omega
  replace zb_x0 : w5.heap.size < w22.heap.size := by omega
  replace zb_g0 : w7.heap.size < w22.heap.size := by omega
  replace zb_h0 : w20.heap.size < w22.heap.size := by omega
  replace hN := hN.trans hn
  replace hE := hE.trans hn
  replace hm_g0 := hm_g0.new hn
  replace ho_h0 := ho_h0.new hn
  go_wp2_with fail
  go_ret
  exact ⟨rfl, hN⟩

end Go.Proofs.Ytdaaglfemaoigaa
