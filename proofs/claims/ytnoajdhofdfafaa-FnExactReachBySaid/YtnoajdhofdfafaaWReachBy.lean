/- The law of ReachBy answers true, whatever its two functions return, if they return the same. -/
import Derived.Test.YtnoajdhofdfafaaRows
import Derived.Test.YtnoajdhofdfafaaBase
import Derived.Test.YtnoajdhofdfafaaAut
import Derived.Test.YtnoajdhofdfafaaMach
import Derived.Test.YtnoajdhofdfafaaLInts
import Derived.Test.YtnoajdhofdfafaaLCho
import Derived.Test.YtnoajdhofdfafaaMInts
import Derived.Test.YtnoajdhofdfafaaMCho
import Derived.WalkKit
import Derived.WalkSpells
import Derived.WalkLawsBesides
import Derived.Deep.QuietTactic
import Derived.Deep.OwnRows
import Derived.BigQuiet
import Derived.KernelRfl
import Derived.Deep.RegionHeld3
namespace Go.Proofs.Ytnoajdhofdfafaa
open Go.RowKit

set_option maxRecDepth 100000 in
set_option maxHeartbeats 4000000 in
theorem FnExactReachBy_walk (v0 v1 v2 : Value) (a0 : Cho) (a1 : List Int) (a2 : List Int) (r0 : List Int) (r1 : Int) (w : World) (h0 : ChoAt w v0 a0) (h1 : IntsAt w v1 a1) (h2 : IntsAt w v2 a2)
    (HS : ∀ (w : World) (u0 u1 u2 : Value), ChoAt w u0 a0 → IntsAt w u1 a1 → IntsAt w u2 a2 → Calls Try.prog 23 #[u0, u1, u2] w fun e w' => ∃ x0, e = .returned (.tuple #[x0, .int .i64 r1]) ∧ New w w' ∧ OwnInts w.heap.size w'.heap.size w' x0 r0)
    (HI : ∀ (w : World) (u0 u1 u2 : Value), ChoAt w u0 a0 → IntsAt w u1 a1 → IntsAt w u2 a2 → Calls Try.prog 26 #[u0, u1, u2] w fun e w' => ∃ x0, e = .returned (.tuple #[x0, .int .i64 r1]) ∧ New w w' ∧ OwnInts w.heap.size w'.heap.size w' x0 r0) (hd0 : r0.length ≤ 1048576) :
    Calls Try.prog 4 #[v0, v1, v2] w fun e w' => e = .returned (.bool true) ∧ New w w' := by
  replace HS := hid HS
  replace HI := hid HI
  obtain ⟨raC, rfl, hraC⟩ := id h0; obtain ⟨AaC, caC, rfl⟩ := hraC.form; clear hraC
  obtain ⟨AaSet, caSet, rfl⟩ := h1.form
  have hl_aSet := h1.len
  obtain ⟨AaW, caW, rfl⟩ := h2.form
  have hl_aW := h2.len
  by_cases hs_aSet : 1048576 < a1.length
  · go_enter Try.func4, Try.ntmps4
    go_wp2_with fail
    go_ret
    exact ⟨rfl, (by repeat (first | with_reducible exact New.refl _ | with_reducible assumption | with_reducible refine New.alloc ?_ _ | with_reducible refine New.drew ?_ | with_reducible refine New.drewN ?_ _ | with_reducible refine New.setCell ?_ (by simp <;> omega) _))⟩
  by_cases hs_aW : 1048576 < a2.length
  · go_enter Try.func4, Try.ntmps4
    go_wp2_with fail
    go_ret
    exact ⟨rfl, (by repeat (first | with_reducible exact New.refl _ | with_reducible assumption | with_reducible refine New.alloc ?_ _ | with_reducible refine New.drew ?_ | with_reducible refine New.drewN ?_ _ | with_reducible refine New.setCell ?_ (by simp <;> omega) _))⟩
  have hbd_aC := szCho_bound a0 1048576 (by omega)
  by_cases hs_aC : szCho a0 1048576 < 0
  · go_enter Try.func4, Try.ntmps4
    go_wp2_with fail
    refine (szChoice_any _ a0 _ _ (h0.new (by repeat (first | with_reducible exact New.refl _ | with_reducible assumption | with_reducible refine New.alloc ?_ _ | with_reducible refine New.drew ?_ | with_reducible refine New.drewN ?_ _ | with_reducible refine New.setCell ?_ (by simp <;> omega) _))) (by omega) (by omega)).mono ?_
    rintro e w1 ⟨rfl, hn⟩
    have cb_aC_0 : w1.cell? ⟨w.heap.size, 0, none⟩ = some (.int .i64 a0.n) := hn.cell (by go_simp)
    have cb_aC_1 : w1.cell? ⟨w.heap.size, 1, none⟩ = some (.slice AaC a0.nx.length caC) := hn.cell (by go_simp)
    have hN : New w w1 := New.trans (by repeat (first | with_reducible exact New.refl _ | with_reducible assumption | with_reducible refine New.alloc ?_ _ | with_reducible refine New.drew ?_ | with_reducible refine New.drewN ?_ _ | with_reducible refine New.setCell ?_ (by simp <;> omega) _)) hn
    go_wp2_with fail
    go_ret
    exact ⟨rfl, hN⟩
  have HB_aC := hid (szCho_len a0 1048576 (by omega) (by omega))
  have ht_aC : totalCho a0.nx ≤ 1048576 := HB_aC.out.2.1
  go_enter Try.func4, Try.ntmps4
  go_wp2_with fail
  refine (szChoice_any _ a0 _ _ (h0.new (by repeat (first | with_reducible exact New.refl _ | with_reducible assumption | with_reducible refine New.alloc ?_ _ | with_reducible refine New.drew ?_ | with_reducible refine New.drewN ?_ _ | with_reducible refine New.setCell ?_ (by simp <;> omega) _))) (by omega) (by omega)).mono ?_
  rintro e w1 ⟨rfl, hn⟩
  have hz1 := hn.size; try simp only [size_alloc] at hz1
  have cb_aC_0 : w1.cell? ⟨w.heap.size, 0, none⟩ = some (.int .i64 a0.n) := hn.cell (by go_simp)
  have cb_aC_1 : w1.cell? ⟨w.heap.size, 1, none⟩ = some (.slice AaC a0.nx.length caC) := hn.cell (by go_simp)
  replace hn : New w w1 := New.trans (by repeat (first | with_reducible exact New.refl _ | with_reducible assumption | with_reducible refine New.alloc ?_ _ | with_reducible refine New.drew ?_ | with_reducible refine New.drewN ?_ _ | with_reducible refine New.setCell ?_ (by simp <;> omega) _)) hn
  replace zb_aC : w.heap.size < w1.heap.size := by omega
  have hN := hn
  go_wp2_with fail
  refine (toChoice_any _ a0 _ (h0.new (New.trans hN (by repeat (first | with_reducible exact New.refl _ | with_reducible assumption | with_reducible refine New.alloc ?_ _ | with_reducible refine New.drew ?_ | with_reducible refine New.drewN ?_ _ | with_reducible refine New.setCell ?_ (by simp <;> omega) _)))) HB_aC.out).mono ?_
  rintro e w2 ⟨v_t1_aC, rfl, hn, ho_t1_aC⟩
  replace ho_t1_aC := ho_t1_aC.widen (B' := w1.heap.size) (by (try simp only [size_alloc, size_drew, size_drewN, size_setCell]) <;> omega) (Nat.le_refl _)
  have hz2 := hn.size; try simp only [size_alloc] at hz2
  replace hn : New w1 w2 := New.trans (by repeat (first | with_reducible exact New.refl _ | with_reducible assumption | with_reducible refine New.alloc ?_ _ | with_reducible refine New.drew ?_ | with_reducible refine New.drewN ?_ _ | with_reducible refine New.setCell ?_ (by simp <;> omega) _)) hn
  replace cb_aC_0 := hn.cell cb_aC_0
  replace cb_aC_1 := hn.cell cb_aC_1
  replace zb_aC : w.heap.size < w2.heap.size := by omega
  replace hN := hN.trans hn
  obtain ⟨rt1_aC, rfl, hrt1_aC⟩ := id ho_t1_aC; obtain ⟨At1_aC, ct1_aC, rfl⟩ := hrt1_aC.form; clear hrt1_aC
  go_wp2_with fail
  refine (toInt64S_any _ a1 _ (h1.new (New.trans hN (by repeat (first | with_reducible exact New.refl _ | with_reducible assumption | with_reducible refine New.alloc ?_ _ | with_reducible refine New.drew ?_ | with_reducible refine New.drewN ?_ _ | with_reducible refine New.setCell ?_ (by simp <;> omega) _)))) (by omega)).mono ?_
  rintro e w3 ⟨v_t2_aSet, rfl, hn, ho_t2_aSet⟩
  replace ho_t2_aSet := ho_t2_aSet.widen (B' := w2.heap.size) (by (try simp only [size_alloc, size_drew, size_drewN, size_setCell]) <;> omega) (Nat.le_refl _)
  have hz3 := hn.size; try simp only [size_alloc] at hz3
  replace hn : New w2 w3 := New.trans (by repeat (first | with_reducible exact New.refl _ | with_reducible assumption | with_reducible refine New.alloc ?_ _ | with_reducible refine New.drew ?_ | with_reducible refine New.drewN ?_ _ | with_reducible refine New.setCell ?_ (by simp <;> omega) _)) hn
  replace cb_aC_0 := hn.cell cb_aC_0
  replace cb_aC_1 := hn.cell cb_aC_1
  replace zb_aC : w.heap.size < w3.heap.size := by omega
  replace hN := hN.trans hn
  replace ho_t1_aC := ho_t1_aC.new hn
  go_wp2_with fail
  refine (toInt64S_any _ a2 _ (h2.new (New.trans hN (by repeat (first | with_reducible exact New.refl _ | with_reducible assumption | with_reducible refine New.alloc ?_ _ | with_reducible refine New.drew ?_ | with_reducible refine New.drewN ?_ _ | with_reducible refine New.setCell ?_ (by simp <;> omega) _)))) (by omega)).mono ?_
  rintro e w4 ⟨v_t3_aW, rfl, hn, ho_t3_aW⟩
  replace ho_t3_aW := ho_t3_aW.widen (B' := w3.heap.size) (by (try simp only [size_alloc, size_drew, size_drewN, size_setCell]) <;> omega) (Nat.le_refl _)
  have hz4 := hn.size; try simp only [size_alloc] at hz4
  replace hn : New w3 w4 := New.trans (by repeat (first | with_reducible exact New.refl _ | with_reducible assumption | with_reducible refine New.alloc ?_ _ | with_reducible refine New.drew ?_ | with_reducible refine New.drewN ?_ _ | with_reducible refine New.setCell ?_ (by simp <;> omega) _)) hn
  replace cb_aC_0 := hn.cell cb_aC_0
  replace cb_aC_1 := hn.cell cb_aC_1
  replace zb_aC : w.heap.size < w4.heap.size := by omega
  replace hN := hN.trans hn
  replace ho_t1_aC := ho_t1_aC.new hn
  replace ho_t2_aSet := ho_t2_aSet.new hn
  go_wp2_with fail
  refine (HS.out _ _ _ _ (ho_t1_aC.new (by repeat (first | with_reducible exact New.refl _ | with_reducible assumption | with_reducible refine New.alloc ?_ _ | with_reducible refine New.drew ?_ | with_reducible refine New.drewN ?_ _ | with_reducible refine New.setCell ?_ (by simp <;> omega) _))).at (ho_t2_aSet.new (by repeat (first | with_reducible exact New.refl _ | with_reducible assumption | with_reducible refine New.alloc ?_ _ | with_reducible refine New.drew ?_ | with_reducible refine New.drewN ?_ _ | with_reducible refine New.setCell ?_ (by simp <;> omega) _))).at (ho_t3_aW.new (by repeat (first | with_reducible exact New.refl _ | with_reducible assumption | with_reducible refine New.alloc ?_ _ | with_reducible refine New.drew ?_ | with_reducible refine New.drewN ?_ _ | with_reducible refine New.setCell ?_ (by simp <;> omega) _))).at).mono ?_
  rintro e w5 ⟨u_w0, rfl, hn, ho_w0⟩
  replace ho_w0 := ho_w0.widen (B' := w4.heap.size) (by (try simp only [size_alloc, size_drew, size_drewN, size_setCell]) <;> omega) (Nat.le_refl _)
  have hz5 := hn.size; try simp only [size_alloc] at hz5
  replace hn : New w4 w5 := New.trans (by repeat (first | with_reducible exact New.refl _ | with_reducible assumption | with_reducible refine New.alloc ?_ _ | with_reducible refine New.drew ?_ | with_reducible refine New.drewN ?_ _ | with_reducible refine New.setCell ?_ (by simp <;> omega) _)) hn
  replace cb_aC_0 := hn.cell cb_aC_0
  replace cb_aC_1 := hn.cell cb_aC_1
  replace zb_aC : w.heap.size < w5.heap.size := by omega
  replace hN := hN.trans hn
  replace ho_t1_aC := ho_t1_aC.new hn
  replace ho_t2_aSet := ho_t2_aSet.new hn
  replace ho_t3_aW := ho_t3_aW.new hn
  replace ho_w0 := ho_w0.at
  have hE := New.refl w5
  obtain ⟨Aw0, cw0, rfl⟩ := ho_w0.form
  clear ho_t1_aC
  clear ho_t2_aSet
  clear ho_t3_aW
  go_wp2_with fail
  refine (toChoice_any _ a0 _ (h0.new (New.trans hN (by repeat (first | with_reducible exact New.refl _ | with_reducible assumption | with_reducible refine New.alloc ?_ _ | with_reducible refine New.drew ?_ | with_reducible refine New.drewN ?_ _ | with_reducible refine New.setCell ?_ (by simp <;> omega) _)))) HB_aC.out).mono ?_
  rintro e w6 ⟨v_x0, rfl, hn, ho_x0⟩
  replace ho_x0 := ho_x0.widen (B' := w5.heap.size) (by (try simp only [size_alloc, size_drew, size_drewN, size_setCell]) <;> omega) (Nat.le_refl _)
  have hz6 := hn.size; try simp only [size_alloc] at hz6
  replace hn : New w5 w6 := New.trans (by repeat (first | with_reducible exact New.refl _ | with_reducible assumption | with_reducible refine New.alloc ?_ _ | with_reducible refine New.drew ?_ | with_reducible refine New.drewN ?_ _ | with_reducible refine New.setCell ?_ (by simp <;> omega) _)) hn
  replace cb_aC_0 := hn.cell cb_aC_0
  replace cb_aC_1 := hn.cell cb_aC_1
  replace zb_aC : w.heap.size < w6.heap.size := by omega
  replace hN := hN.trans hn
  replace hE := hE.trans hn
  obtain ⟨rx0, rfl, hrx0⟩ := id ho_x0; obtain ⟨Ax0, cx0, rfl⟩ := hrx0.form; clear hrx0
  go_wp2_with fail
  refine (toInt64S_any _ a1 _ (h1.new (New.trans hN (by repeat (first | with_reducible exact New.refl _ | with_reducible assumption | with_reducible refine New.alloc ?_ _ | with_reducible refine New.drew ?_ | with_reducible refine New.drewN ?_ _ | with_reducible refine New.setCell ?_ (by simp <;> omega) _)))) (by omega)).mono ?_
  rintro e w7 ⟨v_x1, rfl, hn, ho_x1⟩
  replace ho_x1 := ho_x1.widen (B' := w6.heap.size + 1) (by (try simp only [size_alloc, size_drew, size_drewN, size_setCell]) <;> omega) (Nat.le_refl _)
  have hz7 := hn.size; try simp only [size_alloc] at hz7
  have cb_x0_0 : w7.cell? ⟨w6.heap.size, 0, none⟩ = some (.int .i64 a0.n) := hn.cell (by go_simp)
  have cb_x0_1 : w7.cell? ⟨w6.heap.size, 1, none⟩ = some (.slice Ax0 a0.nx.length cx0) := hn.cell (by go_simp)
  replace hn : New w6 w7 := New.trans (by repeat (first | with_reducible exact New.refl _ | with_reducible assumption | with_reducible refine New.alloc ?_ _ | with_reducible refine New.drew ?_ | with_reducible refine New.drewN ?_ _ | with_reducible refine New.setCell ?_ (by simp <;> omega) _)) hn
  replace cb_aC_0 := hn.cell cb_aC_0
  replace cb_aC_1 := hn.cell cb_aC_1
  replace zb_aC : w.heap.size < w7.heap.size := by omega
  replace zb_x0 : w6.heap.size < w7.heap.size := by omega
  replace hN := hN.trans hn
  replace hE := hE.trans hn
  replace ho_x0 := ho_x0.new hn
  go_wp2_with fail
  refine (toInt64S_any _ a2 _ (h2.new (New.trans hN (by repeat (first | with_reducible exact New.refl _ | with_reducible assumption | with_reducible refine New.alloc ?_ _ | with_reducible refine New.drew ?_ | with_reducible refine New.drewN ?_ _ | with_reducible refine New.setCell ?_ (by simp <;> omega) _)))) (by omega)).mono ?_
  rintro e w8 ⟨v_x2, rfl, hn, ho_x2⟩
  replace ho_x2 := ho_x2.widen (B' := w7.heap.size) (by (try simp only [size_alloc, size_drew, size_drewN, size_setCell]) <;> omega) (Nat.le_refl _)
  have hz8 := hn.size; try simp only [size_alloc] at hz8
  replace hn : New w7 w8 := New.trans (by repeat (first | with_reducible exact New.refl _ | with_reducible assumption | with_reducible refine New.alloc ?_ _ | with_reducible refine New.drew ?_ | with_reducible refine New.drewN ?_ _ | with_reducible refine New.setCell ?_ (by simp <;> omega) _)) hn
  replace cb_aC_0 := hn.cell cb_aC_0
  replace cb_aC_1 := hn.cell cb_aC_1
  replace cb_x0_0 := hn.cell cb_x0_0
  replace cb_x0_1 := hn.cell cb_x0_1
  replace zb_aC : w.heap.size < w8.heap.size := by omega
  replace zb_x0 : w6.heap.size < w8.heap.size := by omega
  replace hN := hN.trans hn
  replace hE := hE.trans hn
  replace ho_x0 := ho_x0.new hn
  replace ho_x1 := ho_x1.new hn
  go_wp2_with fail
  refine (HI.out _ _ _ _ (ho_x0.new (by repeat (first | with_reducible exact New.refl _ | with_reducible assumption | with_reducible refine New.alloc ?_ _ | with_reducible refine New.drew ?_ | with_reducible refine New.drewN ?_ _ | with_reducible refine New.setCell ?_ (by simp <;> omega) _))).at (ho_x1.new (by repeat (first | with_reducible exact New.refl _ | with_reducible assumption | with_reducible refine New.alloc ?_ _ | with_reducible refine New.drew ?_ | with_reducible refine New.drewN ?_ _ | with_reducible refine New.setCell ?_ (by simp <;> omega) _))).at (ho_x2.new (by repeat (first | with_reducible exact New.refl _ | with_reducible assumption | with_reducible refine New.alloc ?_ _ | with_reducible refine New.drew ?_ | with_reducible refine New.drewN ?_ _ | with_reducible refine New.setCell ?_ (by simp <;> omega) _))).at).mono ?_
  rintro e w9 ⟨u_g0, rfl, hn, ho_g0⟩
  replace ho_g0 := ho_g0.widen (B' := w8.heap.size) (by (try simp only [size_alloc, size_drew, size_drewN, size_setCell]) <;> omega) (Nat.le_refl _)
  have hz9 := hn.size; try simp only [size_alloc] at hz9
  replace hn : New w8 w9 := New.trans (by repeat (first | with_reducible exact New.refl _ | with_reducible assumption | with_reducible refine New.alloc ?_ _ | with_reducible refine New.drew ?_ | with_reducible refine New.drewN ?_ _ | with_reducible refine New.setCell ?_ (by simp <;> omega) _)) hn
  replace cb_aC_0 := hn.cell cb_aC_0
  replace cb_aC_1 := hn.cell cb_aC_1
  replace cb_x0_0 := hn.cell cb_x0_0
  replace cb_x0_1 := hn.cell cb_x0_1
  replace zb_aC : w.heap.size < w9.heap.size := by omega
  replace zb_x0 : w6.heap.size < w9.heap.size := by omega
  replace hN := hN.trans hn
  replace hE := hE.trans hn
  replace ho_x0 := ho_x0.new hn
  replace ho_x1 := ho_x1.new hn
  replace ho_x2 := ho_x2.new hn
  obtain ⟨Ag0, cg0, rfl⟩ := ho_g0.form
  go_wp2_with fail
  refine (eqInt64S_any _ _ _ _ _ (ho_g0.new (by repeat (first | with_reducible exact New.refl _ | with_reducible assumption | with_reducible refine New.alloc ?_ _ | with_reducible refine New.drew ?_ | with_reducible refine New.drewN ?_ _ | with_reducible refine New.setCell ?_ (by simp <;> omega) _))).at ((ho_w0.new hE).new (by repeat (first | with_reducible exact New.refl _ | with_reducible assumption | with_reducible refine New.alloc ?_ _ | with_reducible refine New.drew ?_ | with_reducible refine New.drewN ?_ _ | with_reducible refine New.setCell ?_ (by simp <;> omega) _)))).mono ?_
  rintro e w10 ⟨rfl, hn⟩
  have hz10 := hn.size; try simp only [size_alloc] at hz10
  replace hn : New w9 w10 := New.trans (by repeat (first | with_reducible exact New.refl _ | with_reducible assumption | with_reducible refine New.alloc ?_ _ | with_reducible refine New.drew ?_ | with_reducible refine New.drewN ?_ _ | with_reducible refine New.setCell ?_ (by simp <;> omega) _)) hn
  replace cb_aC_0 := hn.cell cb_aC_0
  replace cb_aC_1 := hn.cell cb_aC_1
  replace cb_x0_0 := hn.cell cb_x0_0
  replace cb_x0_1 := hn.cell cb_x0_1
  replace zb_aC : w.heap.size < w10.heap.size := by omega
  replace zb_x0 : w6.heap.size < w10.heap.size := by omega
  replace hN := hN.trans hn
  replace hE := hE.trans hn
  replace ho_x0 := ho_x0.new hn
  replace ho_x1 := ho_x1.new hn
  replace ho_x2 := ho_x2.new hn
  replace ho_g0 := ho_g0.new hn
  go_wp2_with fail
  go_region_held3 (fun w' => w'.cell? ⟨w6.heap.size, 0, none⟩ = some (.int .i64 a0.n) ∧ w'.cell? ⟨w6.heap.size, 1, none⟩ = some (.slice Ax0 a0.nx.length cx0) ∧ w'.cell? ⟨w.heap.size, 0, none⟩ = some (.int .i64 a0.n) ∧ w'.cell? ⟨w.heap.size, 1, none⟩ = some (.slice AaC a0.nx.length caC))
    (first | go_keep | exact ⟨New.cell hq1 cb_x0_0, New.cell hq1 cb_x0_1, New.cell hq1 cb_aC_0, New.cell hq1 cb_aC_1⟩ | exact ⟨New.cell hq2 cb_x0_0, New.cell hq2 cb_x0_1, New.cell hq2 cb_aC_0, New.cell hq2 cb_aC_1⟩)
    (first
      | (go_at_call 24; refine (toChoice_any _ a0 _ (h0.new (hN.trans (New.refl _).drew)) HB_aC.out).mono ?_; rintro e w11 ⟨r3, rfl, hq1, ho3⟩; replace hq1 : New w10 w11 := New.trans (New.refl _).drew hq1; obtain ⟨rq12, rfl, hrq12⟩ := id ho3; obtain ⟨Aq12, cq12, rfl⟩ := hrq12.form; clear hrq12)
      | (go_at_call 28; refine (eqChoice_any _ _ _ _ _ (ho_x0.new hq1).at ho3.at).mono ?_; rintro e w12 ⟨rfl, hq2⟩; replace hq2 : New w10 w12 := New.trans hq1 hq2))
  have hn := hq2
  have hz12 := hn.size; try simp only [size_alloc] at hz12
  replace hn : New w10 w12 := New.trans (by repeat (first | with_reducible exact New.refl _ | with_reducible assumption | with_reducible refine New.alloc ?_ _ | with_reducible refine New.drew ?_ | with_reducible refine New.drewN ?_ _ | with_reducible refine New.setCell ?_ (by simp <;> omega) _)) hn
  replace cb_aC_0 := hn.cell cb_aC_0
  replace cb_aC_1 := hn.cell cb_aC_1
  replace cb_x0_0 := hn.cell cb_x0_0
  replace cb_x0_1 := hn.cell cb_x0_1
  replace zb_aC : w.heap.size < w12.heap.size := by omega
  replace zb_x0 : w6.heap.size < w12.heap.size := by omega
  replace hN := hN.trans hn
  replace hE := hE.trans hn
  replace ho_x0 := ho_x0.new hn
  replace ho_x1 := ho_x1.new hn
  replace ho_x2 := ho_x2.new hn
  replace ho_g0 := ho_g0.new hn
  clear hq1 hq2 ho3
  go_wp2_with fail
  refine (toInt64S_any _ a1 _ (h1.new (New.trans hN (by repeat (first | with_reducible exact New.refl _ | with_reducible assumption | with_reducible refine New.alloc ?_ _ | with_reducible refine New.drew ?_ | with_reducible refine New.drewN ?_ _ | with_reducible refine New.setCell ?_ (by simp <;> omega) _)))) (by omega)).mono ?_
  rintro e w13 ⟨v_t12_aSet, rfl, hn, ho_t12_aSet⟩
  replace ho_t12_aSet := ho_t12_aSet.widen (B' := w12.heap.size) (by (try simp only [size_alloc, size_drew, size_drewN, size_setCell]) <;> omega) (Nat.le_refl _)
  have hz13 := hn.size; try simp only [size_alloc] at hz13
  replace hn : New w12 w13 := New.trans (by repeat (first | with_reducible exact New.refl _ | with_reducible assumption | with_reducible refine New.alloc ?_ _ | with_reducible refine New.drew ?_ | with_reducible refine New.drewN ?_ _ | with_reducible refine New.setCell ?_ (by simp <;> omega) _)) hn
  replace cb_aC_0 := hn.cell cb_aC_0
  replace cb_aC_1 := hn.cell cb_aC_1
  replace cb_x0_0 := hn.cell cb_x0_0
  replace cb_x0_1 := hn.cell cb_x0_1
  replace zb_aC : w.heap.size < w13.heap.size := by omega
  replace zb_x0 : w6.heap.size < w13.heap.size := by omega
  replace hN := hN.trans hn
  replace hE := hE.trans hn
  replace ho_x0 := ho_x0.new hn
  replace ho_x1 := ho_x1.new hn
  replace ho_x2 := ho_x2.new hn
  replace ho_g0 := ho_g0.new hn
  go_wp2_with fail
  refine (eqInt64S_any _ _ _ _ _ (ho_x1.new (by repeat (first | with_reducible exact New.refl _ | with_reducible assumption | with_reducible refine New.alloc ?_ _ | with_reducible refine New.drew ?_ | with_reducible refine New.drewN ?_ _ | with_reducible refine New.setCell ?_ (by simp <;> omega) _))).at (ho_t12_aSet.new (by repeat (first | with_reducible exact New.refl _ | with_reducible assumption | with_reducible refine New.alloc ?_ _ | with_reducible refine New.drew ?_ | with_reducible refine New.drewN ?_ _ | with_reducible refine New.setCell ?_ (by simp <;> omega) _))).at).mono ?_
  rintro e w14 ⟨rfl, hn⟩
  have hz14 := hn.size; try simp only [size_alloc] at hz14
  replace hn : New w13 w14 := New.trans (by repeat (first | with_reducible exact New.refl _ | with_reducible assumption | with_reducible refine New.alloc ?_ _ | with_reducible refine New.drew ?_ | with_reducible refine New.drewN ?_ _ | with_reducible refine New.setCell ?_ (by simp <;> omega) _)) hn
  replace cb_aC_0 := hn.cell cb_aC_0
  replace cb_aC_1 := hn.cell cb_aC_1
  replace cb_x0_0 := hn.cell cb_x0_0
  replace cb_x0_1 := hn.cell cb_x0_1
  replace zb_aC : w.heap.size < w14.heap.size := by omega
  replace zb_x0 : w6.heap.size < w14.heap.size := by omega
  replace hN := hN.trans hn
  replace hE := hE.trans hn
  replace ho_x0 := ho_x0.new hn
  replace ho_x1 := ho_x1.new hn
  replace ho_x2 := ho_x2.new hn
  replace ho_g0 := ho_g0.new hn
  replace ho_t12_aSet := ho_t12_aSet.new hn
  clear ho_t12_aSet
  go_wp2_with fail
  refine (toInt64S_any _ a2 _ (h2.new (New.trans hN (by repeat (first | with_reducible exact New.refl _ | with_reducible assumption | with_reducible refine New.alloc ?_ _ | with_reducible refine New.drew ?_ | with_reducible refine New.drewN ?_ _ | with_reducible refine New.setCell ?_ (by simp <;> omega) _)))) (by omega)).mono ?_
  rintro e w15 ⟨v_t14_aW, rfl, hn, ho_t14_aW⟩
  replace ho_t14_aW := ho_t14_aW.widen (B' := w14.heap.size) (by (try simp only [size_alloc, size_drew, size_drewN, size_setCell]) <;> omega) (Nat.le_refl _)
  have hz15 := hn.size; try simp only [size_alloc] at hz15
  replace hn : New w14 w15 := New.trans (by repeat (first | with_reducible exact New.refl _ | with_reducible assumption | with_reducible refine New.alloc ?_ _ | with_reducible refine New.drew ?_ | with_reducible refine New.drewN ?_ _ | with_reducible refine New.setCell ?_ (by simp <;> omega) _)) hn
  replace cb_aC_0 := hn.cell cb_aC_0
  replace cb_aC_1 := hn.cell cb_aC_1
  replace cb_x0_0 := hn.cell cb_x0_0
  replace cb_x0_1 := hn.cell cb_x0_1
  replace zb_aC : w.heap.size < w15.heap.size := by omega
  replace zb_x0 : w6.heap.size < w15.heap.size := by omega
  replace hN := hN.trans hn
  replace hE := hE.trans hn
  replace ho_x0 := ho_x0.new hn
  replace ho_x1 := ho_x1.new hn
  replace ho_x2 := ho_x2.new hn
  replace ho_g0 := ho_g0.new hn
  go_wp2_with fail
  refine (eqInt64S_any _ _ _ _ _ (ho_x2.new (by repeat (first | with_reducible exact New.refl _ | with_reducible assumption | with_reducible refine New.alloc ?_ _ | with_reducible refine New.drew ?_ | with_reducible refine New.drewN ?_ _ | with_reducible refine New.setCell ?_ (by simp <;> omega) _))).at (ho_t14_aW.new (by repeat (first | with_reducible exact New.refl _ | with_reducible assumption | with_reducible refine New.alloc ?_ _ | with_reducible refine New.drew ?_ | with_reducible refine New.drewN ?_ _ | with_reducible refine New.setCell ?_ (by simp <;> omega) _))).at).mono ?_
  rintro e w16 ⟨rfl, hn⟩
  have hz16 := hn.size; try simp only [size_alloc] at hz16
  replace hn : New w15 w16 := New.trans (by repeat (first | with_reducible exact New.refl _ | with_reducible assumption | with_reducible refine New.alloc ?_ _ | with_reducible refine New.drew ?_ | with_reducible refine New.drewN ?_ _ | with_reducible refine New.setCell ?_ (by simp <;> omega) _)) hn
  replace cb_aC_0 := hn.cell cb_aC_0
  replace cb_aC_1 := hn.cell cb_aC_1
  replace cb_x0_0 := hn.cell cb_x0_0
  replace cb_x0_1 := hn.cell cb_x0_1
  replace zb_aC : w.heap.size < w16.heap.size := by omega
  replace zb_x0 : w6.heap.size < w16.heap.size := by omega
  replace hN := hN.trans hn
  replace hE := hE.trans hn
  replace ho_x0 := ho_x0.new hn
  replace ho_x1 := ho_x1.new hn
  replace ho_x2 := ho_x2.new hn
  replace ho_g0 := ho_g0.new hn
  replace ho_t14_aW := ho_t14_aW.new hn
  clear ho_t14_aW
  go_wp2_with fail
  refine (markChoice_any _ _ _ _ (ho_x0.new (by repeat (first | with_reducible exact New.refl _ | with_reducible assumption | with_reducible refine New.alloc ?_ _ | with_reducible refine New.drew ?_ | with_reducible refine New.drewN ?_ _ | with_reducible refine New.setCell ?_ (by simp <;> omega) _))) (by omega) (by omega)).mono ?_
  rintro e w17 ⟨rfl, hm_x0, hW⟩
  have hz17 := hW.2.2.2.1; try simp only [size_alloc] at hz17
  replace hW : Within (w5.heap.size) (w6.heap.size) w16 w17 := Within.trans (Within.of_new (by repeat (first | with_reducible exact New.refl _ | with_reducible assumption | with_reducible refine New.alloc ?_ _ | with_reducible refine New.drew ?_ | with_reducible refine New.drewN ?_ _ | with_reducible refine New.setCell ?_ (by simp <;> omega) _)) _ _) hW
  replace cb_aC_0 := hW.cell cb_aC_0 (by simp <;> omega)
  replace cb_aC_1 := hW.cell cb_aC_1 (by simp <;> omega)
  replace cb_x0_0 := hW.cell cb_x0_0 (by simp <;> omega)
  replace cb_x0_1 := hW.cell cb_x0_1 (by simp <;> omega)
  replace zb_aC : w.heap.size < w17.heap.size := by omega
  replace zb_x0 : w6.heap.size < w17.heap.size := by omega
  replace hN := hN.within hW (by omega)
  replace hE := hE.within hW (by omega)
  replace ho_x1 := ho_x1.within hW (by omega)
  replace ho_x2 := ho_x2.within hW (by omega)
  replace ho_g0 := ho_g0.within hW (by omega)
  clear hW
  clear ho_x0 hm_x0
  go_wp2_with fail
  refine (markInt64S_any _ _ _ _ (ho_x1.new (by repeat (first | with_reducible exact New.refl _ | with_reducible assumption | with_reducible refine New.alloc ?_ _ | with_reducible refine New.drew ?_ | with_reducible refine New.drewN ?_ _ | with_reducible refine New.setCell ?_ (by simp <;> omega) _))) (by omega) (by omega)).mono ?_
  rintro e w18 ⟨rfl, hm_x1, hW⟩
  replace hW := Within.of_grown hW (fun b hb => ho_x1.block b hb)
  have hz18 := hW.2.2.2.1; try simp only [size_alloc] at hz18
  replace hW : Within (w6.heap.size + 1) (w7.heap.size) w17 w18 := Within.trans (Within.of_new (by repeat (first | with_reducible exact New.refl _ | with_reducible assumption | with_reducible refine New.alloc ?_ _ | with_reducible refine New.drew ?_ | with_reducible refine New.drewN ?_ _ | with_reducible refine New.setCell ?_ (by simp <;> omega) _)) _ _) hW
  replace cb_aC_0 := hW.cell cb_aC_0 (by simp <;> omega)
  replace cb_aC_1 := hW.cell cb_aC_1 (by simp <;> omega)
  replace cb_x0_0 := hW.cell cb_x0_0 (by simp <;> omega)
  replace cb_x0_1 := hW.cell cb_x0_1 (by simp <;> omega)
  replace zb_aC : w.heap.size < w18.heap.size := by omega
  replace zb_x0 : w6.heap.size < w18.heap.size := by omega
  replace hN := hN.within hW (by omega)
  replace hE := hE.within hW (by omega)
  replace ho_x2 := ho_x2.within hW (by omega)
  replace ho_g0 := ho_g0.within hW (by omega)
  clear hW
  clear ho_x1 hm_x1
  go_wp2_with fail
  refine (markInt64S_any _ _ _ _ (ho_x2.new (by repeat (first | with_reducible exact New.refl _ | with_reducible assumption | with_reducible refine New.alloc ?_ _ | with_reducible refine New.drew ?_ | with_reducible refine New.drewN ?_ _ | with_reducible refine New.setCell ?_ (by simp <;> omega) _))) (by omega) (by omega)).mono ?_
  rintro e w19 ⟨rfl, hm_x2, hW⟩
  replace hW := Within.of_grown hW (fun b hb => ho_x2.block b hb)
  have hz19 := hW.2.2.2.1; try simp only [size_alloc] at hz19
  replace hW : Within (w7.heap.size) (w8.heap.size) w18 w19 := Within.trans (Within.of_new (by repeat (first | with_reducible exact New.refl _ | with_reducible assumption | with_reducible refine New.alloc ?_ _ | with_reducible refine New.drew ?_ | with_reducible refine New.drewN ?_ _ | with_reducible refine New.setCell ?_ (by simp <;> omega) _)) _ _) hW
  replace cb_aC_0 := hW.cell cb_aC_0 (by simp <;> omega)
  replace cb_aC_1 := hW.cell cb_aC_1 (by simp <;> omega)
  replace cb_x0_0 := hW.cell cb_x0_0 (by simp <;> omega)
  replace cb_x0_1 := hW.cell cb_x0_1 (by simp <;> omega)
  replace zb_aC : w.heap.size < w19.heap.size := by omega
  replace zb_x0 : w6.heap.size < w19.heap.size := by omega
  replace hN := hN.within hW (by omega)
  replace hE := hE.within hW (by omega)
  replace ho_g0 := ho_g0.within hW (by omega)
  clear hW
  clear ho_x2 hm_x2
  go_wp2_with fail
  refine (eqInt64S_any _ _ _ _ _ (ho_g0.new (by repeat (first | with_reducible exact New.refl _ | with_reducible assumption | with_reducible refine New.alloc ?_ _ | with_reducible refine New.drew ?_ | with_reducible refine New.drewN ?_ _ | with_reducible refine New.setCell ?_ (by simp <;> omega) _))).at ((ho_w0.new hE).new (by repeat (first | with_reducible exact New.refl _ | with_reducible assumption | with_reducible refine New.alloc ?_ _ | with_reducible refine New.drew ?_ | with_reducible refine New.drewN ?_ _ | with_reducible refine New.setCell ?_ (by simp <;> omega) _)))).mono ?_
  rintro e w20 ⟨rfl, hn⟩
  have hz20 := hn.size; try simp only [size_alloc] at hz20
  replace hn : New w19 w20 := New.trans (by repeat (first | with_reducible exact New.refl _ | with_reducible assumption | with_reducible refine New.alloc ?_ _ | with_reducible refine New.drew ?_ | with_reducible refine New.drewN ?_ _ | with_reducible refine New.setCell ?_ (by simp <;> omega) _)) hn
  replace cb_aC_0 := hn.cell cb_aC_0
  replace cb_aC_1 := hn.cell cb_aC_1
  replace cb_x0_0 := hn.cell cb_x0_0
  replace cb_x0_1 := hn.cell cb_x0_1
  replace zb_aC : w.heap.size < w20.heap.size := by omega
  replace zb_x0 : w6.heap.size < w20.heap.size := by omega
  replace hN := hN.trans hn
  replace hE := hE.trans hn
  replace ho_g0 := ho_g0.new hn
  go_wp2_with fail
  refine (markInt64S_any _ _ _ _ (ho_g0.new (by repeat (first | with_reducible exact New.refl _ | with_reducible assumption | with_reducible refine New.alloc ?_ _ | with_reducible refine New.drew ?_ | with_reducible refine New.drewN ?_ _ | with_reducible refine New.setCell ?_ (by simp <;> omega) _))) (by omega) (by omega)).mono ?_
  rintro e w21 ⟨rfl, hm_g0, hW⟩
  replace hW := Within.of_grown hW (fun b hb => ho_g0.block b hb)
  have hz21 := hW.2.2.2.1; try simp only [size_alloc] at hz21
  replace hW : Within (w8.heap.size) (w9.heap.size) w20 w21 := Within.trans (Within.of_new (by repeat (first | with_reducible exact New.refl _ | with_reducible assumption | with_reducible refine New.alloc ?_ _ | with_reducible refine New.drew ?_ | with_reducible refine New.drewN ?_ _ | with_reducible refine New.setCell ?_ (by simp <;> omega) _)) _ _) hW
  replace cb_aC_0 := hW.cell cb_aC_0 (by simp <;> omega)
  replace cb_aC_1 := hW.cell cb_aC_1 (by simp <;> omega)
  replace cb_x0_0 := hW.cell cb_x0_0 (by simp <;> omega)
  replace cb_x0_1 := hW.cell cb_x0_1 (by simp <;> omega)
  replace zb_aC : w.heap.size < w21.heap.size := by omega
  replace zb_x0 : w6.heap.size < w21.heap.size := by omega
  replace hN := hN.within hW (by omega)
  replace hE := hE.within hW (by omega)
  clear hW
  clear ho_g0
  go_wp2_with fail
  refine (heldInt64S_any _ r0.length _ _ (hm_g0.new (by repeat (first | with_reducible exact New.refl _ | with_reducible assumption | with_reducible refine New.alloc ?_ _ | with_reducible refine New.drew ?_ | with_reducible refine New.drewN ?_ _ | with_reducible refine New.setCell ?_ (by simp <;> omega) _))).at (by omega) (by omega) (by omega)).mono ?_
  rintro e w22 ⟨rfl, hn⟩
  replace hn := New.of_eq hn
  have hz22 := hn.size; try simp only [size_alloc] at hz22
  replace hn : New w21 w22 := New.trans (by repeat (first | with_reducible exact New.refl _ | with_reducible assumption | with_reducible refine New.alloc ?_ _ | with_reducible refine New.drew ?_ | with_reducible refine New.drewN ?_ _ | with_reducible refine New.setCell ?_ (by simp <;> omega) _)) hn
  replace cb_aC_0 := hn.cell cb_aC_0
  replace cb_aC_1 := hn.cell cb_aC_1
  replace cb_x0_0 := hn.cell cb_x0_0
  replace cb_x0_1 := hn.cell cb_x0_1
  replace zb_aC : w.heap.size < w22.heap.size := by omega
  replace zb_x0 : w6.heap.size < w22.heap.size := by omega
  replace hN := hN.trans hn
  replace hE := hE.trans hn
  replace hm_g0 := hm_g0.new hn
  go_wp2_with fail
  refine (toChoice_any _ a0 _ (h0.new (New.trans hN (by repeat (first | with_reducible exact New.refl _ | with_reducible assumption | with_reducible refine New.alloc ?_ _ | with_reducible refine New.drew ?_ | with_reducible refine New.drewN ?_ _ | with_reducible refine New.setCell ?_ (by simp <;> omega) _)))) HB_aC.out).mono ?_
  rintro e w23 ⟨v_t22_aC, rfl, hn, ho_t22_aC⟩
  replace ho_t22_aC := ho_t22_aC.widen (B' := w22.heap.size) (by (try simp only [size_alloc, size_drew, size_drewN, size_setCell]) <;> omega) (Nat.le_refl _)
  have hz23 := hn.size; try simp only [size_alloc] at hz23
  replace hn : New w22 w23 := New.trans (by repeat (first | with_reducible exact New.refl _ | with_reducible assumption | with_reducible refine New.alloc ?_ _ | with_reducible refine New.drew ?_ | with_reducible refine New.drewN ?_ _ | with_reducible refine New.setCell ?_ (by simp <;> omega) _)) hn
  replace cb_aC_0 := hn.cell cb_aC_0
  replace cb_aC_1 := hn.cell cb_aC_1
  replace cb_x0_0 := hn.cell cb_x0_0
  replace cb_x0_1 := hn.cell cb_x0_1
  replace zb_aC : w.heap.size < w23.heap.size := by omega
  replace zb_x0 : w6.heap.size < w23.heap.size := by omega
  replace hN := hN.trans hn
  replace hE := hE.trans hn
  replace hm_g0 := hm_g0.new hn
  obtain ⟨rt22_aC, rfl, hrt22_aC⟩ := id ho_t22_aC; obtain ⟨At22_aC, ct22_aC, rfl⟩ := hrt22_aC.form; clear hrt22_aC
  go_wp2_with fail
  refine (toInt64S_any _ a1 _ (h1.new (New.trans hN (by repeat (first | with_reducible exact New.refl _ | with_reducible assumption | with_reducible refine New.alloc ?_ _ | with_reducible refine New.drew ?_ | with_reducible refine New.drewN ?_ _ | with_reducible refine New.setCell ?_ (by simp <;> omega) _)))) (by omega)).mono ?_
  rintro e w24 ⟨v_t23_aSet, rfl, hn, ho_t23_aSet⟩
  replace ho_t23_aSet := ho_t23_aSet.widen (B' := w23.heap.size) (by (try simp only [size_alloc, size_drew, size_drewN, size_setCell]) <;> omega) (Nat.le_refl _)
  have hz24 := hn.size; try simp only [size_alloc] at hz24
  replace hn : New w23 w24 := New.trans (by repeat (first | with_reducible exact New.refl _ | with_reducible assumption | with_reducible refine New.alloc ?_ _ | with_reducible refine New.drew ?_ | with_reducible refine New.drewN ?_ _ | with_reducible refine New.setCell ?_ (by simp <;> omega) _)) hn
  replace cb_aC_0 := hn.cell cb_aC_0
  replace cb_aC_1 := hn.cell cb_aC_1
  replace cb_x0_0 := hn.cell cb_x0_0
  replace cb_x0_1 := hn.cell cb_x0_1
  replace zb_aC : w.heap.size < w24.heap.size := by omega
  replace zb_x0 : w6.heap.size < w24.heap.size := by omega
  replace hN := hN.trans hn
  replace hE := hE.trans hn
  replace hm_g0 := hm_g0.new hn
  replace ho_t22_aC := ho_t22_aC.new hn
  go_wp2_with fail
  refine (toInt64S_any _ a2 _ (h2.new (New.trans hN (by repeat (first | with_reducible exact New.refl _ | with_reducible assumption | with_reducible refine New.alloc ?_ _ | with_reducible refine New.drew ?_ | with_reducible refine New.drewN ?_ _ | with_reducible refine New.setCell ?_ (by simp <;> omega) _)))) (by omega)).mono ?_
  rintro e w25 ⟨v_t24_aW, rfl, hn, ho_t24_aW⟩
  replace ho_t24_aW := ho_t24_aW.widen (B' := w24.heap.size) (by (try simp only [size_alloc, size_drew, size_drewN, size_setCell]) <;> omega) (Nat.le_refl _)
  have hz25 := hn.size; try simp only [size_alloc] at hz25
  replace hn : New w24 w25 := New.trans (by repeat (first | with_reducible exact New.refl _ | with_reducible assumption | with_reducible refine New.alloc ?_ _ | with_reducible refine New.drew ?_ | with_reducible refine New.drewN ?_ _ | with_reducible refine New.setCell ?_ (by simp <;> omega) _)) hn
  replace cb_aC_0 := hn.cell cb_aC_0
  replace cb_aC_1 := hn.cell cb_aC_1
  replace cb_x0_0 := hn.cell cb_x0_0
  replace cb_x0_1 := hn.cell cb_x0_1
  replace zb_aC : w.heap.size < w25.heap.size := by omega
  replace zb_x0 : w6.heap.size < w25.heap.size := by omega
  replace hN := hN.trans hn
  replace hE := hE.trans hn
  replace hm_g0 := hm_g0.new hn
  replace ho_t22_aC := ho_t22_aC.new hn
  replace ho_t23_aSet := ho_t23_aSet.new hn
  go_wp2_with fail
  refine (HI.out _ _ _ _ (ho_t22_aC.new (by repeat (first | with_reducible exact New.refl _ | with_reducible assumption | with_reducible refine New.alloc ?_ _ | with_reducible refine New.drew ?_ | with_reducible refine New.drewN ?_ _ | with_reducible refine New.setCell ?_ (by simp <;> omega) _))).at (ho_t23_aSet.new (by repeat (first | with_reducible exact New.refl _ | with_reducible assumption | with_reducible refine New.alloc ?_ _ | with_reducible refine New.drew ?_ | with_reducible refine New.drewN ?_ _ | with_reducible refine New.setCell ?_ (by simp <;> omega) _))).at (ho_t24_aW.new (by repeat (first | with_reducible exact New.refl _ | with_reducible assumption | with_reducible refine New.alloc ?_ _ | with_reducible refine New.drew ?_ | with_reducible refine New.drewN ?_ _ | with_reducible refine New.setCell ?_ (by simp <;> omega) _))).at).mono ?_
  rintro e w26 ⟨u_h0, rfl, hn, ho_h0⟩
  replace ho_h0 := ho_h0.widen (B' := w25.heap.size) (by (try simp only [size_alloc, size_drew, size_drewN, size_setCell]) <;> omega) (Nat.le_refl _)
  have hz26 := hn.size; try simp only [size_alloc] at hz26
  replace hn : New w25 w26 := New.trans (by repeat (first | with_reducible exact New.refl _ | with_reducible assumption | with_reducible refine New.alloc ?_ _ | with_reducible refine New.drew ?_ | with_reducible refine New.drewN ?_ _ | with_reducible refine New.setCell ?_ (by simp <;> omega) _)) hn
  replace cb_aC_0 := hn.cell cb_aC_0
  replace cb_aC_1 := hn.cell cb_aC_1
  replace cb_x0_0 := hn.cell cb_x0_0
  replace cb_x0_1 := hn.cell cb_x0_1
  replace zb_aC : w.heap.size < w26.heap.size := by omega
  replace zb_x0 : w6.heap.size < w26.heap.size := by omega
  replace hN := hN.trans hn
  replace hE := hE.trans hn
  replace hm_g0 := hm_g0.new hn
  replace ho_t22_aC := ho_t22_aC.new hn
  replace ho_t23_aSet := ho_t23_aSet.new hn
  replace ho_t24_aW := ho_t24_aW.new hn
  obtain ⟨Ah0, ch0, rfl⟩ := ho_h0.form
  clear ho_t22_aC
  clear ho_t23_aSet
  clear ho_t24_aW
  go_wp2_with fail
  refine (eqInt64S_any _ _ _ _ _ (ho_h0.new (by repeat (first | with_reducible exact New.refl _ | with_reducible assumption | with_reducible refine New.alloc ?_ _ | with_reducible refine New.drew ?_ | with_reducible refine New.drewN ?_ _ | with_reducible refine New.setCell ?_ (by simp <;> omega) _))).at ((ho_w0.new hE).new (by repeat (first | with_reducible exact New.refl _ | with_reducible assumption | with_reducible refine New.alloc ?_ _ | with_reducible refine New.drew ?_ | with_reducible refine New.drewN ?_ _ | with_reducible refine New.setCell ?_ (by simp <;> omega) _)))).mono ?_
  rintro e w27 ⟨rfl, hn⟩
  have hz27 := hn.size; try simp only [size_alloc] at hz27
  replace hn : New w26 w27 := New.trans (by repeat (first | with_reducible exact New.refl _ | with_reducible assumption | with_reducible refine New.alloc ?_ _ | with_reducible refine New.drew ?_ | with_reducible refine New.drewN ?_ _ | with_reducible refine New.setCell ?_ (by simp <;> omega) _)) hn
  replace cb_aC_0 := hn.cell cb_aC_0
  replace cb_aC_1 := hn.cell cb_aC_1
  replace cb_x0_0 := hn.cell cb_x0_0
  replace cb_x0_1 := hn.cell cb_x0_1
  replace zb_aC : w.heap.size < w27.heap.size := by omega
  replace zb_x0 : w6.heap.size < w27.heap.size := by omega
  replace hN := hN.trans hn
  replace hE := hE.trans hn
  replace hm_g0 := hm_g0.new hn
  replace ho_h0 := ho_h0.new hn
  go_wp2_with fail
  refine (heldInt64S_any _ r0.length _ _ (hm_g0.new (by repeat (first | with_reducible exact New.refl _ | with_reducible assumption | with_reducible refine New.alloc ?_ _ | with_reducible refine New.drew ?_ | with_reducible refine New.drewN ?_ _ | with_reducible refine New.setCell ?_ (by simp <;> omega) _))).at (by omega) (by omega) (by omega)).mono ?_
  rintro e w28 ⟨rfl, hn⟩
  replace hn := New.of_eq hn
  have hz28 := hn.size; try simp only [size_alloc] at hz28
  replace hn : New w27 w28 := New.trans (by repeat (first | with_reducible exact New.refl _ | with_reducible assumption | with_reducible refine New.alloc ?_ _ | with_reducible refine New.drew ?_ | with_reducible refine New.drewN ?_ _ | with_reducible refine New.setCell ?_ (by simp <;> omega) _)) hn
  replace cb_aC_0 := hn.cell cb_aC_0
  replace cb_aC_1 := hn.cell cb_aC_1
  replace cb_x0_0 := hn.cell cb_x0_0
  replace cb_x0_1 := hn.cell cb_x0_1
  replace zb_aC : w.heap.size < w28.heap.size := by omega
  replace zb_x0 : w6.heap.size < w28.heap.size := by omega
  replace hN := hN.trans hn
  replace hE := hE.trans hn
  replace hm_g0 := hm_g0.new hn
  replace ho_h0 := ho_h0.new hn
  go_wp2_with fail
  go_ret
  exact ⟨rfl, hN⟩

end Go.Proofs.Ytnoajdhofdfafaa
