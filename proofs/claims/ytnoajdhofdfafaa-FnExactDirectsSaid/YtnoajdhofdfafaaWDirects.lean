/- The law of Directs answers true, whatever its two functions return, if they return the same. -/
import Derived.Test.YtnoajdhofdfafaaRows
import Derived.Test.YtnoajdhofdfafaaBase
import Derived.Test.YtnoajdhofdfafaaAut
import Derived.Test.YtnoajdhofdfafaaMach
import Derived.Test.YtnoajdhofdfafaaLInts
import Derived.Test.YtnoajdhofdfafaaLCho
import Derived.WalkKit
import Derived.WalkSpells
import Derived.WalkLawsBesides
import Derived.Deep.QuietTactic
import Derived.Deep.OwnRows
import Derived.BigQuiet
import Derived.KernelRfl
import Derived.Deep.RegionHeld3
namespace Go.Proofs.Ytnoajdhofdfafaa
open Go.RowKit

set_option maxRecDepth 100000 in
set_option maxHeartbeats 4000000 in
theorem FnExactDirects_walk (v0 v1 : Value) (a0 : Cho) (a1 : List Int) (z2 : Int) (r0 : Bool) (r1 : Int) (w : World) (h0 : ChoAt w v0 a0) (h1 : IntsAt w v1 a1)
    (HS : ∀ (w : World) (u0 u1 : Value), ChoAt w u0 a0 → IntsAt w u1 a1 → Calls Try.prog 32 #[u0, u1, .int .i64 z2] w fun e w' => e = .returned (.tuple #[.bool r0, .int .i64 r1]) ∧ New w w')
    (HI : ∀ (w : World) (u0 u1 : Value), ChoAt w u0 a0 → IntsAt w u1 a1 → Calls Try.prog 33 #[u0, u1, .int .i64 z2] w fun e w' => e = .returned (.tuple #[.bool r0, .int .i64 r1]) ∧ New w w') :
    Calls Try.prog 5 #[v0, v1, .int .i64 z2] w fun e w' => e = .returned (.bool true) ∧ New w w' := by
  replace HS := hid HS
  replace HI := hid HI
  obtain ⟨raC, rfl, hraC⟩ := id h0; obtain ⟨AaC, caC, rfl⟩ := hraC.form; clear hraC
  obtain ⟨AaW, caW, rfl⟩ := h1.form
  have hl_aW := h1.len
  by_cases hs_aW : 1048576 < a1.length
  · go_enter Try.func5, Try.ntmps5
    go_wp2_with fail
    go_ret
    exact ⟨rfl, (by repeat (first | with_reducible exact New.refl _ | with_reducible assumption | with_reducible refine New.alloc ?_ _ | with_reducible refine New.drew ?_ | with_reducible refine New.drewN ?_ _ | with_reducible refine New.setCell ?_ (by simp <;> omega) _))⟩
  have hbd_aC := szCho_bound a0 1048576 (by omega)
  by_cases hs_aC : szCho a0 1048576 < 0
  · go_enter Try.func5, Try.ntmps5
    go_wp2_with fail
    refine (szChoice_any _ a0 _ _ (h0.new (by repeat (first | with_reducible exact New.refl _ | with_reducible assumption | with_reducible refine New.alloc ?_ _ | with_reducible refine New.drew ?_ | with_reducible refine New.drewN ?_ _ | with_reducible refine New.setCell ?_ (by simp <;> omega) _))) (by omega) (by omega)).mono ?_
    rintro e w1 ⟨rfl, hn⟩
    have cb_aC_0 : w1.cell? ⟨w.heap.size, 0, none⟩ = some (.int .i64 a0.n) := hn.cell (by go_simp)
    have cb_aC_1 : w1.cell? ⟨w.heap.size, 1, none⟩ = some (.slice AaC a0.nx.length caC) := hn.cell (by go_simp)
    have hN : New w w1 := New.trans (by repeat (first | with_reducible exact New.refl _ | with_reducible assumption | with_reducible refine New.alloc ?_ _ | with_reducible refine New.drew ?_ | with_reducible refine New.drewN ?_ _ | with_reducible refine New.setCell ?_ (by simp <;> omega) _)) hn
    go_wp2_with fail
    go_ret
    exact ⟨rfl, hN⟩
  have HB_aC := hid (szCho_len a0 1048576 (by omega) (by omega))
  go_enter Try.func5, Try.ntmps5
  go_wp2_with fail
  refine (szChoice_any _ a0 _ _ (h0.new (by repeat (first | with_reducible exact New.refl _ | with_reducible assumption | with_reducible refine New.alloc ?_ _ | with_reducible refine New.drew ?_ | with_reducible refine New.drewN ?_ _ | with_reducible refine New.setCell ?_ (by simp <;> omega) _))) (by omega) (by omega)).mono ?_
  rintro e w1 ⟨rfl, hn⟩
  have hz1 := hn.size; try simp only [size_alloc] at hz1
  have cb_aC_0 : w1.cell? ⟨w.heap.size, 0, none⟩ = some (.int .i64 a0.n) := hn.cell (by go_simp)
  have cb_aC_1 : w1.cell? ⟨w.heap.size, 1, none⟩ = some (.slice AaC a0.nx.length caC) := hn.cell (by go_simp)
  replace hn : New w w1 := New.trans (by repeat (first | with_reducible exact New.refl _ | with_reducible assumption | with_reducible refine New.alloc ?_ _ | with_reducible refine New.drew ?_ | with_reducible refine New.drewN ?_ _ | with_reducible refine New.setCell ?_ (by simp <;> omega) _)) hn
  replace zb_aC : w.heap.size < w1.heap.size := by omega
  have hN := hn
  go_wp2_with fail
  refine (toChoice_any _ a0 _ (h0.new (New.trans hN (by repeat (first | with_reducible exact New.refl _ | with_reducible assumption | with_reducible refine New.alloc ?_ _ | with_reducible refine New.drew ?_ | with_reducible refine New.drewN ?_ _ | with_reducible refine New.setCell ?_ (by simp <;> omega) _)))) HB_aC.out).mono ?_
  rintro e w2 ⟨v_t1_aC, rfl, hn, ho_t1_aC⟩
  replace ho_t1_aC := ho_t1_aC.widen (B' := w1.heap.size) (by (try simp only [size_alloc, size_drew, size_drewN, size_setCell]) <;> omega) (Nat.le_refl _)
  have hz2 := hn.size; try simp only [size_alloc] at hz2
  replace hn : New w1 w2 := New.trans (by repeat (first | with_reducible exact New.refl _ | with_reducible assumption | with_reducible refine New.alloc ?_ _ | with_reducible refine New.drew ?_ | with_reducible refine New.drewN ?_ _ | with_reducible refine New.setCell ?_ (by simp <;> omega) _)) hn
  replace cb_aC_0 := hn.cell cb_aC_0
  replace cb_aC_1 := hn.cell cb_aC_1
  replace zb_aC : w.heap.size < w2.heap.size := by omega
  replace hN := hN.trans hn
  obtain ⟨rt1_aC, rfl, hrt1_aC⟩ := id ho_t1_aC; obtain ⟨At1_aC, ct1_aC, rfl⟩ := hrt1_aC.form; clear hrt1_aC
  go_wp2_with fail
  refine (toInt64S_any _ a1 _ (h1.new (New.trans hN (by repeat (first | with_reducible exact New.refl _ | with_reducible assumption | with_reducible refine New.alloc ?_ _ | with_reducible refine New.drew ?_ | with_reducible refine New.drewN ?_ _ | with_reducible refine New.setCell ?_ (by simp <;> omega) _)))) (by omega)).mono ?_
  rintro e w3 ⟨v_t2_aW, rfl, hn, ho_t2_aW⟩
  replace ho_t2_aW := ho_t2_aW.widen (B' := w2.heap.size) (by (try simp only [size_alloc, size_drew, size_drewN, size_setCell]) <;> omega) (Nat.le_refl _)
  have hz3 := hn.size; try simp only [size_alloc] at hz3
  replace hn : New w2 w3 := New.trans (by repeat (first | with_reducible exact New.refl _ | with_reducible assumption | with_reducible refine New.alloc ?_ _ | with_reducible refine New.drew ?_ | with_reducible refine New.drewN ?_ _ | with_reducible refine New.setCell ?_ (by simp <;> omega) _)) hn
  replace cb_aC_0 := hn.cell cb_aC_0
  replace cb_aC_1 := hn.cell cb_aC_1
  replace zb_aC : w.heap.size < w3.heap.size := by omega
  replace hN := hN.trans hn
  replace ho_t1_aC := ho_t1_aC.new hn
  go_wp2_with fail
  refine (HS.out _ _ _ (ho_t1_aC.new (by repeat (first | with_reducible exact New.refl _ | with_reducible assumption | with_reducible refine New.alloc ?_ _ | with_reducible refine New.drew ?_ | with_reducible refine New.drewN ?_ _ | with_reducible refine New.setCell ?_ (by simp <;> omega) _))).at (ho_t2_aW.new (by repeat (first | with_reducible exact New.refl _ | with_reducible assumption | with_reducible refine New.alloc ?_ _ | with_reducible refine New.drew ?_ | with_reducible refine New.drewN ?_ _ | with_reducible refine New.setCell ?_ (by simp <;> omega) _))).at).mono ?_
  rintro e w4 ⟨rfl, hn⟩
  have hz4 := hn.size; try simp only [size_alloc] at hz4
  replace hn : New w3 w4 := New.trans (by repeat (first | with_reducible exact New.refl _ | with_reducible assumption | with_reducible refine New.alloc ?_ _ | with_reducible refine New.drew ?_ | with_reducible refine New.drewN ?_ _ | with_reducible refine New.setCell ?_ (by simp <;> omega) _)) hn
  replace cb_aC_0 := hn.cell cb_aC_0
  replace cb_aC_1 := hn.cell cb_aC_1
  replace zb_aC : w.heap.size < w4.heap.size := by omega
  replace hN := hN.trans hn
  replace ho_t1_aC := ho_t1_aC.new hn
  replace ho_t2_aW := ho_t2_aW.new hn
  have hE := New.refl w4
  clear ho_t1_aC
  clear ho_t2_aW
  go_wp2_with fail
  refine (toChoice_any _ a0 _ (h0.new (New.trans hN (by repeat (first | with_reducible exact New.refl _ | with_reducible assumption | with_reducible refine New.alloc ?_ _ | with_reducible refine New.drew ?_ | with_reducible refine New.drewN ?_ _ | with_reducible refine New.setCell ?_ (by simp <;> omega) _)))) HB_aC.out).mono ?_
  rintro e w5 ⟨v_x0, rfl, hn, ho_x0⟩
  replace ho_x0 := ho_x0.widen (B' := w4.heap.size) (by (try simp only [size_alloc, size_drew, size_drewN, size_setCell]) <;> omega) (Nat.le_refl _)
  have hz5 := hn.size; try simp only [size_alloc] at hz5
  replace hn : New w4 w5 := New.trans (by repeat (first | with_reducible exact New.refl _ | with_reducible assumption | with_reducible refine New.alloc ?_ _ | with_reducible refine New.drew ?_ | with_reducible refine New.drewN ?_ _ | with_reducible refine New.setCell ?_ (by simp <;> omega) _)) hn
  replace cb_aC_0 := hn.cell cb_aC_0
  replace cb_aC_1 := hn.cell cb_aC_1
  replace zb_aC : w.heap.size < w5.heap.size := by omega
  replace hN := hN.trans hn
  replace hE := hE.trans hn
  obtain ⟨rx0, rfl, hrx0⟩ := id ho_x0; obtain ⟨Ax0, cx0, rfl⟩ := hrx0.form; clear hrx0
  go_wp2_with fail
  refine (toInt64S_any _ a1 _ (h1.new (New.trans hN (by repeat (first | with_reducible exact New.refl _ | with_reducible assumption | with_reducible refine New.alloc ?_ _ | with_reducible refine New.drew ?_ | with_reducible refine New.drewN ?_ _ | with_reducible refine New.setCell ?_ (by simp <;> omega) _)))) (by omega)).mono ?_
  rintro e w6 ⟨v_x1, rfl, hn, ho_x1⟩
  replace ho_x1 := ho_x1.widen (B' := w5.heap.size + 1) (by (try simp only [size_alloc, size_drew, size_drewN, size_setCell]) <;> omega) (Nat.le_refl _)
  have hz6 := hn.size; try simp only [size_alloc] at hz6
  have cb_x0_0 : w6.cell? ⟨w5.heap.size, 0, none⟩ = some (.int .i64 a0.n) := hn.cell (by go_simp)
  have cb_x0_1 : w6.cell? ⟨w5.heap.size, 1, none⟩ = some (.slice Ax0 a0.nx.length cx0) := hn.cell (by go_simp)
  replace hn : New w5 w6 := New.trans (by repeat (first | with_reducible exact New.refl _ | with_reducible assumption | with_reducible refine New.alloc ?_ _ | with_reducible refine New.drew ?_ | with_reducible refine New.drewN ?_ _ | with_reducible refine New.setCell ?_ (by simp <;> omega) _)) hn
  replace cb_aC_0 := hn.cell cb_aC_0
  replace cb_aC_1 := hn.cell cb_aC_1
  replace zb_aC : w.heap.size < w6.heap.size := by omega
  replace zb_x0 : w5.heap.size < w6.heap.size := by omega
  replace hN := hN.trans hn
  replace hE := hE.trans hn
  replace ho_x0 := ho_x0.new hn
  go_wp2_with fail
  refine (HI.out _ _ _ (ho_x0.new (by repeat (first | with_reducible exact New.refl _ | with_reducible assumption | with_reducible refine New.alloc ?_ _ | with_reducible refine New.drew ?_ | with_reducible refine New.drewN ?_ _ | with_reducible refine New.setCell ?_ (by simp <;> omega) _))).at (ho_x1.new (by repeat (first | with_reducible exact New.refl _ | with_reducible assumption | with_reducible refine New.alloc ?_ _ | with_reducible refine New.drew ?_ | with_reducible refine New.drewN ?_ _ | with_reducible refine New.setCell ?_ (by simp <;> omega) _))).at).mono ?_
  rintro e w7 ⟨rfl, hn⟩
  have hz7 := hn.size; try simp only [size_alloc] at hz7
  replace hn : New w6 w7 := New.trans (by repeat (first | with_reducible exact New.refl _ | with_reducible assumption | with_reducible refine New.alloc ?_ _ | with_reducible refine New.drew ?_ | with_reducible refine New.drewN ?_ _ | with_reducible refine New.setCell ?_ (by simp <;> omega) _)) hn
  replace cb_aC_0 := hn.cell cb_aC_0
  replace cb_aC_1 := hn.cell cb_aC_1
  replace cb_x0_0 := hn.cell cb_x0_0
  replace cb_x0_1 := hn.cell cb_x0_1
  replace zb_aC : w.heap.size < w7.heap.size := by omega
  replace zb_x0 : w5.heap.size < w7.heap.size := by omega
  replace hN := hN.trans hn
  replace hE := hE.trans hn
  replace ho_x0 := ho_x0.new hn
  replace ho_x1 := ho_x1.new hn
  go_wp2_with fail
  go_region_held3 (fun w' => w'.cell? ⟨w5.heap.size, 0, none⟩ = some (.int .i64 a0.n) ∧ w'.cell? ⟨w5.heap.size, 1, none⟩ = some (.slice Ax0 a0.nx.length cx0) ∧ w'.cell? ⟨w.heap.size, 0, none⟩ = some (.int .i64 a0.n) ∧ w'.cell? ⟨w.heap.size, 1, none⟩ = some (.slice AaC a0.nx.length caC))
    (first | go_keep | exact ⟨New.cell hq1 cb_x0_0, New.cell hq1 cb_x0_1, New.cell hq1 cb_aC_0, New.cell hq1 cb_aC_1⟩ | exact ⟨New.cell hq2 cb_x0_0, New.cell hq2 cb_x0_1, New.cell hq2 cb_aC_0, New.cell hq2 cb_aC_1⟩)
    (first
      | (go_at_call 24; refine (toChoice_any _ a0 _ (h0.new (hN.trans (New.refl _).drew)) HB_aC.out).mono ?_; rintro e w8 ⟨r3, rfl, hq1, ho3⟩; replace hq1 : New w7 w8 := New.trans (New.refl _).drew hq1; obtain ⟨rq9, rfl, hrq9⟩ := id ho3; obtain ⟨Aq9, cq9, rfl⟩ := hrq9.form; clear hrq9)
      | (go_at_call 28; refine (eqChoice_any _ _ _ _ _ (ho_x0.new hq1).at ho3.at).mono ?_; rintro e w9 ⟨rfl, hq2⟩; replace hq2 : New w7 w9 := New.trans hq1 hq2))
  have hn := hq2
  have hz9 := hn.size; try simp only [size_alloc] at hz9
  replace hn : New w7 w9 := New.trans (by repeat (first | with_reducible exact New.refl _ | with_reducible assumption | with_reducible refine New.alloc ?_ _ | with_reducible refine New.drew ?_ | with_reducible refine New.drewN ?_ _ | with_reducible refine New.setCell ?_ (by simp <;> omega) _)) hn
  replace cb_aC_0 := hn.cell cb_aC_0
  replace cb_aC_1 := hn.cell cb_aC_1
  replace cb_x0_0 := hn.cell cb_x0_0
  replace cb_x0_1 := hn.cell cb_x0_1
  replace zb_aC : w.heap.size < w9.heap.size := by omega
  replace zb_x0 : w5.heap.size < w9.heap.size := by omega
  replace hN := hN.trans hn
  replace hE := hE.trans hn
  replace ho_x0 := ho_x0.new hn
  replace ho_x1 := ho_x1.new hn
  clear hq1 hq2 ho3
  go_wp2_with fail
  refine (toInt64S_any _ a1 _ (h1.new (New.trans hN (by repeat (first | with_reducible exact New.refl _ | with_reducible assumption | with_reducible refine New.alloc ?_ _ | with_reducible refine New.drew ?_ | with_reducible refine New.drewN ?_ _ | with_reducible refine New.setCell ?_ (by simp <;> omega) _)))) (by omega)).mono ?_
  rintro e w10 ⟨v_t9_aW, rfl, hn, ho_t9_aW⟩
  replace ho_t9_aW := ho_t9_aW.widen (B' := w9.heap.size) (by (try simp only [size_alloc, size_drew, size_drewN, size_setCell]) <;> omega) (Nat.le_refl _)
  have hz10 := hn.size; try simp only [size_alloc] at hz10
  replace hn : New w9 w10 := New.trans (by repeat (first | with_reducible exact New.refl _ | with_reducible assumption | with_reducible refine New.alloc ?_ _ | with_reducible refine New.drew ?_ | with_reducible refine New.drewN ?_ _ | with_reducible refine New.setCell ?_ (by simp <;> omega) _)) hn
  replace cb_aC_0 := hn.cell cb_aC_0
  replace cb_aC_1 := hn.cell cb_aC_1
  replace cb_x0_0 := hn.cell cb_x0_0
  replace cb_x0_1 := hn.cell cb_x0_1
  replace zb_aC : w.heap.size < w10.heap.size := by omega
  replace zb_x0 : w5.heap.size < w10.heap.size := by omega
  replace hN := hN.trans hn
  replace hE := hE.trans hn
  replace ho_x0 := ho_x0.new hn
  replace ho_x1 := ho_x1.new hn
  go_wp2_with fail
  refine (eqInt64S_any _ _ _ _ _ (ho_x1.new (by repeat (first | with_reducible exact New.refl _ | with_reducible assumption | with_reducible refine New.alloc ?_ _ | with_reducible refine New.drew ?_ | with_reducible refine New.drewN ?_ _ | with_reducible refine New.setCell ?_ (by simp <;> omega) _))).at (ho_t9_aW.new (by repeat (first | with_reducible exact New.refl _ | with_reducible assumption | with_reducible refine New.alloc ?_ _ | with_reducible refine New.drew ?_ | with_reducible refine New.drewN ?_ _ | with_reducible refine New.setCell ?_ (by simp <;> omega) _))).at).mono ?_
  rintro e w11 ⟨rfl, hn⟩
  have hz11 := hn.size; try simp only [size_alloc] at hz11
  replace hn : New w10 w11 := New.trans (by repeat (first | with_reducible exact New.refl _ | with_reducible assumption | with_reducible refine New.alloc ?_ _ | with_reducible refine New.drew ?_ | with_reducible refine New.drewN ?_ _ | with_reducible refine New.setCell ?_ (by simp <;> omega) _)) hn
  replace cb_aC_0 := hn.cell cb_aC_0
  replace cb_aC_1 := hn.cell cb_aC_1
  replace cb_x0_0 := hn.cell cb_x0_0
  replace cb_x0_1 := hn.cell cb_x0_1
  replace zb_aC : w.heap.size < w11.heap.size := by omega
  replace zb_x0 : w5.heap.size < w11.heap.size := by omega
  replace hN := hN.trans hn
  replace hE := hE.trans hn
  replace ho_x0 := ho_x0.new hn
  replace ho_x1 := ho_x1.new hn
  replace ho_t9_aW := ho_t9_aW.new hn
  clear ho_t9_aW
  go_wp2_with fail
  go_ret
  exact ⟨rfl, hN⟩

end Go.Proofs.Ytnoajdhofdfafaa
