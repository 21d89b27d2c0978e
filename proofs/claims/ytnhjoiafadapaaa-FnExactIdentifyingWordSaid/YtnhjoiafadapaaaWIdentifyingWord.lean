/- The law of IdentifyingWord answers true, whatever its two functions return, if they return the same. -/
import Derived.Test.YtnhjoiafadapaaaRows
import Derived.Test.YtnhjoiafadapaaaCore
import Derived.Test.YtnhjoiafadapaaaLLaws
import Derived.Test.YtnhjoiafadapaaaLMach
import Derived.Test.YtnhjoiafadapaaaMLaws
import Derived.Test.YtnhjoiafadapaaaMMach
import Derived.WalkKit
import Derived.WalkSpells
import Derived.WalkLawsBesides
import Derived.Deep.QuietTactic
import Derived.Deep.OwnRows
import Derived.BigQuiet
import Derived.KernelRfl
import Derived.Deep.RegionHeld3
namespace Go.Proofs.Ytnhjoiafadapaaa
open Go.RowKit

set_option maxRecDepth 100000 in
set_option maxHeartbeats 4000000 in
theorem FnExactIdentifyingWord_walk (v0 : Value) (a0 : Mach) (z1 : Int) (r0 : List Int) (r1 : Int) (w : World) (h0 : MachAt w v0 a0)
    (HS : ∀ (w : World) (u0 : Value), MachAt w u0 a0 → Calls Try.prog 18 #[u0, .int .i64 z1] w fun e w' => ∃ x0, e = .returned (.tuple #[x0, .int .i64 r1]) ∧ New w w' ∧ OwnInts w.heap.size w'.heap.size w' x0 r0)
    (HI : ∀ (w : World) (u0 : Value), MachAt w u0 a0 → Calls Try.prog 20 #[u0, .int .i64 z1] w fun e w' => ∃ x0, e = .returned (.tuple #[x0, .int .i64 r1]) ∧ New w w' ∧ OwnInts w.heap.size w'.heap.size w' x0 r0) (hd0 : r0.length ≤ 1048576) :
    Calls Try.prog 4 #[v0, .int .i64 z1] w fun e w' => e = .returned (.bool true) ∧ New w w' := by
  replace HS := hid HS
  replace HI := hid HI
  obtain ⟨raMn, raMo, rfl, hraMn, hraMo⟩ := id h0; obtain ⟨AaMn, caMn, rfl⟩ := hraMn.form; obtain ⟨AaMo, caMo, rfl⟩ := hraMo.form; clear hraMn hraMo
  have hbd_aM := szMach_bound a0 1048576 (by omega)
  by_cases hs_aM : szMach a0 1048576 < 0
  · go_enter Try.func4, Try.ntmps4
    go_wp2_with fail
    refine (szMachine_any _ a0 _ _ (h0.new (by repeat (first | with_reducible exact New.refl _ | with_reducible assumption | with_reducible refine New.alloc ?_ _ | with_reducible refine New.drew ?_ | with_reducible refine New.drewN ?_ _ | with_reducible refine New.setCell ?_ (by simp <;> omega) _))) (by omega) (by omega)).mono ?_
    rintro e w1 ⟨rfl, hn⟩
    have cb_aM_0 : w1.cell? ⟨w.heap.size, 0, none⟩ = some (.int .i64 a0.n) := hn.cell (by go_simp)
    have cb_aM_1 : w1.cell? ⟨w.heap.size, 1, none⟩ = some (.int .i64 a0.o) := hn.cell (by go_simp)
    have cb_aM_2 : w1.cell? ⟨w.heap.size, 2, none⟩ = some (.slice AaMn a0.nx.length caMn) := hn.cell (by go_simp)
    have cb_aM_3 : w1.cell? ⟨w.heap.size, 3, none⟩ = some (.slice AaMo a0.out.length caMo) := hn.cell (by go_simp)
    have hN : New w w1 := New.trans (by repeat (first | with_reducible exact New.refl _ | with_reducible assumption | with_reducible refine New.alloc ?_ _ | with_reducible refine New.drew ?_ | with_reducible refine New.drewN ?_ _ | with_reducible refine New.setCell ?_ (by simp <;> omega) _)) hn
    go_wp2_with fail
    go_ret
    exact ⟨rfl, hN⟩
  have HB_aM := hid (szMach_len a0 1048576 (by omega) (by omega))
  have ht_aM : a0.size ≤ 1048576 := HB_aM.out.2.2.2.2
  go_enter Try.func4, Try.ntmps4
  go_wp2_with fail
  refine (szMachine_any _ a0 _ _ (h0.new (by repeat (first | with_reducible exact New.refl _ | with_reducible assumption | with_reducible refine New.alloc ?_ _ | with_reducible refine New.drew ?_ | with_reducible refine New.drewN ?_ _ | with_reducible refine New.setCell ?_ (by simp <;> omega) _))) (by omega) (by omega)).mono ?_
  rintro e w1 ⟨rfl, hn⟩
  have hz1 := hn.size; try simp only [size_alloc] at hz1
  have cb_aM_0 : w1.cell? ⟨w.heap.size, 0, none⟩ = some (.int .i64 a0.n) := hn.cell (by go_simp)
  have cb_aM_1 : w1.cell? ⟨w.heap.size, 1, none⟩ = some (.int .i64 a0.o) := hn.cell (by go_simp)
  have cb_aM_2 : w1.cell? ⟨w.heap.size, 2, none⟩ = some (.slice AaMn a0.nx.length caMn) := hn.cell (by go_simp)
  have cb_aM_3 : w1.cell? ⟨w.heap.size, 3, none⟩ = some (.slice AaMo a0.out.length caMo) := hn.cell (by go_simp)
  replace hn : New w w1 := New.trans (by repeat (first | with_reducible exact New.refl _ | with_reducible assumption | with_reducible refine New.alloc ?_ _ | with_reducible refine New.drew ?_ | with_reducible refine New.drewN ?_ _ | with_reducible refine New.setCell ?_ (by simp <;> omega) _)) hn
  replace zb_aM : w.heap.size < w1.heap.size := by omega
  have hN := hn
  go_wp2_with fail
  refine (toMachine_any _ a0 _ (h0.new (New.trans hN (by repeat (first | with_reducible exact New.refl _ | with_reducible assumption | with_reducible refine New.alloc ?_ _ | with_reducible refine New.drew ?_ | with_reducible refine New.drewN ?_ _ | with_reducible refine New.setCell ?_ (by simp <;> omega) _)))) HB_aM.out).mono ?_
  rintro e w2 ⟨v_t1_aM, rfl, hn, ho_t1_aM⟩
  replace ho_t1_aM := ho_t1_aM.widen (B' := w1.heap.size) (by (try simp only [sizes]) <;> omega) (Nat.le_refl _)
  have hz2 := hn.size; try simp only [size_alloc] at hz2
  replace hn : New w1 w2 := New.trans (by repeat (first | with_reducible exact New.refl _ | with_reducible assumption | with_reducible refine New.alloc ?_ _ | with_reducible refine New.drew ?_ | with_reducible refine New.drewN ?_ _ | with_reducible refine New.setCell ?_ (by simp <;> omega) _)) hn
  replace cb_aM_0 := hn.cell cb_aM_0
  replace cb_aM_1 := hn.cell cb_aM_1
  replace cb_aM_2 := hn.cell cb_aM_2
  replace cb_aM_3 := hn.cell cb_aM_3
  replace zb_aM : w.heap.size < w2.heap.size := by omega
  replace hN := hN.trans hn
  obtain ⟨rt1_aMn, rt1_aMo, rfl, hrt1_aMn, hrt1_aMo⟩ := ho_t1_aM.at; obtain ⟨At1_aMn, ct1_aMn, rfl⟩ := hrt1_aMn.form; obtain ⟨At1_aMo, ct1_aMo, rfl⟩ := hrt1_aMo.form; clear hrt1_aMn hrt1_aMo
  go_wp2_with fail
  refine (HS.out _ _ (ho_t1_aM.new (by repeat (first | with_reducible exact New.refl _ | with_reducible assumption | with_reducible refine New.alloc ?_ _ | with_reducible refine New.drew ?_ | with_reducible refine New.drewN ?_ _ | with_reducible refine New.setCell ?_ (by simp <;> omega) _))).at).mono ?_
  rintro e w3 ⟨u_w0, rfl, hn, ho_w0⟩
  replace ho_w0 := ho_w0.widen (B' := w2.heap.size) (by (try simp only [sizes]) <;> omega) (Nat.le_refl _)
  have hz3 := hn.size; try simp only [size_alloc] at hz3
  replace hn : New w2 w3 := New.trans (by repeat (first | with_reducible exact New.refl _ | with_reducible assumption | with_reducible refine New.alloc ?_ _ | with_reducible refine New.drew ?_ | with_reducible refine New.drewN ?_ _ | with_reducible refine New.setCell ?_ (by simp <;> omega) _)) hn
  replace cb_aM_0 := hn.cell cb_aM_0
  replace cb_aM_1 := hn.cell cb_aM_1
  replace cb_aM_2 := hn.cell cb_aM_2
  replace cb_aM_3 := hn.cell cb_aM_3
  replace zb_aM : w.heap.size < w3.heap.size := by omega
  replace hN := hN.trans hn
  replace ho_t1_aM := ho_t1_aM.new hn
  replace ho_w0 := ho_w0.at
  have hE := New.refl w3
  obtain ⟨Aw0, cw0, rfl⟩ := ho_w0.form
  clear ho_t1_aM
  go_wp2_with fail
  refine (toMachine_any _ a0 _ (h0.new (New.trans hN (by repeat (first | with_reducible exact New.refl _ | with_reducible assumption | with_reducible refine New.alloc ?_ _ | with_reducible refine New.drew ?_ | with_reducible refine New.drewN ?_ _ | with_reducible refine New.setCell ?_ (by simp <;> omega) _)))) HB_aM.out).mono ?_
  rintro e w4 ⟨v_x0, rfl, hn, ho_x0⟩
  replace ho_x0 := ho_x0.widen (B' := w3.heap.size) (by (try simp only [sizes]) <;> omega) (Nat.le_refl _)
  have hz4 := hn.size; try simp only [size_alloc] at hz4
  replace hn : New w3 w4 := New.trans (by repeat (first | with_reducible exact New.refl _ | with_reducible assumption | with_reducible refine New.alloc ?_ _ | with_reducible refine New.drew ?_ | with_reducible refine New.drewN ?_ _ | with_reducible refine New.setCell ?_ (by simp <;> omega) _)) hn
  replace cb_aM_0 := hn.cell cb_aM_0
  replace cb_aM_1 := hn.cell cb_aM_1
  replace cb_aM_2 := hn.cell cb_aM_2
  replace cb_aM_3 := hn.cell cb_aM_3
  replace zb_aM : w.heap.size < w4.heap.size := by omega
  replace hN := hN.trans hn
  replace hE := hE.trans hn
  obtain ⟨rx0n, rx0o, rfl, hrx0n, hrx0o⟩ := ho_x0.at; obtain ⟨Ax0n, cx0n, rfl⟩ := hrx0n.form; obtain ⟨Ax0o, cx0o, rfl⟩ := hrx0o.form; clear hrx0n hrx0o
  go_wp2_with fail
  refine (HI.out _ _ (ho_x0.new (by repeat (first | with_reducible exact New.refl _ | with_reducible assumption | with_reducible refine New.alloc ?_ _ | with_reducible refine New.drew ?_ | with_reducible refine New.drewN ?_ _ | with_reducible refine New.setCell ?_ (by simp <;> omega) _))).at).mono ?_
  rintro e w5 ⟨u_g0, rfl, hn, ho_g0⟩
  replace ho_g0 := ho_g0.widen (B' := w4.heap.size + 1) (by (try simp only [sizes]) <;> omega) (Nat.le_refl _)
  have hz5 := hn.size; try simp only [size_alloc] at hz5
  have cb_x0_0 : w5.cell? ⟨w4.heap.size, 0, none⟩ = some (.int .i64 a0.n) := hn.cell (by go_simp)
  have cb_x0_1 : w5.cell? ⟨w4.heap.size, 1, none⟩ = some (.int .i64 a0.o) := hn.cell (by go_simp)
  have cb_x0_2 : w5.cell? ⟨w4.heap.size, 2, none⟩ = some (.slice Ax0n a0.nx.length cx0n) := hn.cell (by go_simp)
  have cb_x0_3 : w5.cell? ⟨w4.heap.size, 3, none⟩ = some (.slice Ax0o a0.out.length cx0o) := hn.cell (by go_simp)
  replace hn : New w4 w5 := New.trans (by repeat (first | with_reducible exact New.refl _ | with_reducible assumption | with_reducible refine New.alloc ?_ _ | with_reducible refine New.drew ?_ | with_reducible refine New.drewN ?_ _ | with_reducible refine New.setCell ?_ (by simp <;> omega) _)) hn
  replace cb_aM_0 := hn.cell cb_aM_0
  replace cb_aM_1 := hn.cell cb_aM_1
  replace cb_aM_2 := hn.cell cb_aM_2
  replace cb_aM_3 := hn.cell cb_aM_3
  replace zb_aM : w.heap.size < w5.heap.size := by omega
  replace zb_x0 : w4.heap.size < w5.heap.size := by omega
  replace hN := hN.trans hn
  replace hE := hE.trans hn
  replace ho_x0 := ho_x0.new hn
  obtain ⟨Ag0, cg0, rfl⟩ := ho_g0.form
  go_wp2_with fail
  refine (eqInt64S_any _ _ _ _ _ (ho_g0.new (by repeat (first | with_reducible exact New.refl _ | with_reducible assumption | with_reducible refine New.alloc ?_ _ | with_reducible refine New.drew ?_ | with_reducible refine New.drewN ?_ _ | with_reducible refine New.setCell ?_ (by simp <;> omega) _))).at ((ho_w0.new hE).new (by repeat (first | with_reducible exact New.refl _ | with_reducible assumption | with_reducible refine New.alloc ?_ _ | with_reducible refine New.drew ?_ | with_reducible refine New.drewN ?_ _ | with_reducible refine New.setCell ?_ (by simp <;> omega) _)))).mono ?_
  rintro e w6 ⟨rfl, hn⟩
  have hz6 := hn.size; try simp only [size_alloc] at hz6
  replace hn : New w5 w6 := New.trans (by repeat (first | with_reducible exact New.refl _ | with_reducible assumption | with_reducible refine New.alloc ?_ _ | with_reducible refine New.drew ?_ | with_reducible refine New.drewN ?_ _ | with_reducible refine New.setCell ?_ (by simp <;> omega) _)) hn
  replace cb_aM_0 := hn.cell cb_aM_0
  replace cb_aM_1 := hn.cell cb_aM_1
  replace cb_aM_2 := hn.cell cb_aM_2
  replace cb_aM_3 := hn.cell cb_aM_3
  replace cb_x0_0 := hn.cell cb_x0_0
  replace cb_x0_1 := hn.cell cb_x0_1
  replace cb_x0_2 := hn.cell cb_x0_2
  replace cb_x0_3 := hn.cell cb_x0_3
  replace zb_aM : w.heap.size < w6.heap.size := by omega
  replace zb_x0 : w4.heap.size < w6.heap.size := by omega
  replace hN := hN.trans hn
  replace hE := hE.trans hn
  replace ho_x0 := ho_x0.new hn
  replace ho_g0 := ho_g0.new hn
  go_wp2_with fail
  go_region_held3 (fun w' => w'.cell? ⟨w4.heap.size, 0, none⟩ = some (.int .i64 a0.n) ∧ w'.cell? ⟨w4.heap.size, 1, none⟩ = some (.int .i64 a0.o) ∧ w'.cell? ⟨w4.heap.size, 2, none⟩ = some (.slice Ax0n a0.nx.length cx0n) ∧ w'.cell? ⟨w4.heap.size, 3, none⟩ = some (.slice Ax0o a0.out.length cx0o) ∧ w'.cell? ⟨w.heap.size, 0, none⟩ = some (.int .i64 a0.n) ∧ w'.cell? ⟨w.heap.size, 1, none⟩ = some (.int .i64 a0.o) ∧ w'.cell? ⟨w.heap.size, 2, none⟩ = some (.slice AaMn a0.nx.length caMn) ∧ w'.cell? ⟨w.heap.size, 3, none⟩ = some (.slice AaMo a0.out.length caMo))
    (first | go_keep | exact ⟨New.cell hq1 cb_x0_0, New.cell hq1 cb_x0_1, New.cell hq1 cb_x0_2, New.cell hq1 cb_x0_3, New.cell hq1 cb_aM_0, New.cell hq1 cb_aM_1, New.cell hq1 cb_aM_2, New.cell hq1 cb_aM_3⟩ | exact ⟨New.cell hq2 cb_x0_0, New.cell hq2 cb_x0_1, New.cell hq2 cb_x0_2, New.cell hq2 cb_x0_3, New.cell hq2 cb_aM_0, New.cell hq2 cb_aM_1, New.cell hq2 cb_aM_2, New.cell hq2 cb_aM_3⟩)
    (first
      | (go_at_call 19; refine (toMachine_any _ a0 _ (h0.new (hN.trans (New.refl _).drew)) HB_aM.out).mono ?_; rintro e w7 ⟨r3, rfl, hq1, ho3⟩; replace hq1 : New w6 w7 := New.trans (New.refl _).drew hq1; obtain ⟨rq8n, rq8o, rfl, hrq8n, hrq8o⟩ := ho3.at; obtain ⟨Aq8n, cq8n, rfl⟩ := hrq8n.form; obtain ⟨Aq8o, cq8o, rfl⟩ := hrq8o.form; clear hrq8n hrq8o)
      | (go_at_call 21; refine (eqMachine_any _ _ _ _ _ (ho_x0.new hq1).at ho3.at).mono ?_; rintro e w8 ⟨rfl, hq2⟩; replace hq2 : New w6 w8 := New.trans hq1 hq2))
  have hn := hq2
  have hz8 := hn.size; try simp only [size_alloc] at hz8
  replace hn : New w6 w8 := New.trans (by repeat (first | with_reducible exact New.refl _ | with_reducible assumption | with_reducible refine New.alloc ?_ _ | with_reducible refine New.drew ?_ | with_reducible refine New.drewN ?_ _ | with_reducible refine New.setCell ?_ (by simp <;> omega) _)) hn
  replace cb_aM_0 := hn.cell cb_aM_0
  replace cb_aM_1 := hn.cell cb_aM_1
  replace cb_aM_2 := hn.cell cb_aM_2
  replace cb_aM_3 := hn.cell cb_aM_3
  replace cb_x0_0 := hn.cell cb_x0_0
  replace cb_x0_1 := hn.cell cb_x0_1
  replace cb_x0_2 := hn.cell cb_x0_2
  replace cb_x0_3 := hn.cell cb_x0_3
  replace zb_aM : w.heap.size < w8.heap.size := by omega
  replace zb_x0 : w4.heap.size < w8.heap.size := by omega
  replace hN := hN.trans hn
  replace hE := hE.trans hn
  replace ho_x0 := ho_x0.new hn
  replace ho_g0 := ho_g0.new hn
  clear hq1 hq2 ho3
  go_wp2_with fail
  refine (markMachine_any _ _ _ _ (ho_x0.new (by repeat (first | with_reducible exact New.refl _ | with_reducible assumption | with_reducible refine New.alloc ?_ _ | with_reducible refine New.drew ?_ | with_reducible refine New.drewN ?_ _ | with_reducible refine New.setCell ?_ (by simp <;> omega) _))) (by omega) (by omega) (by (try simp only [sizes]) <;> omega)).mono ?_
  rintro e w9 ⟨rfl, hm_x0, hW⟩
  have hz9 := hW.2.2.2.1; try simp only [size_alloc] at hz9
  replace hW : Within (w3.heap.size) (w4.heap.size) w8 w9 := Within.trans (Within.of_new (by repeat (first | with_reducible exact New.refl _ | with_reducible assumption | with_reducible refine New.alloc ?_ _ | with_reducible refine New.drew ?_ | with_reducible refine New.drewN ?_ _ | with_reducible refine New.setCell ?_ (by simp <;> omega) _)) _ _) hW
  replace cb_aM_0 := hW.cell cb_aM_0 (by simp <;> omega)
  replace cb_aM_1 := hW.cell cb_aM_1 (by simp <;> omega)
  replace cb_aM_2 := hW.cell cb_aM_2 (by simp <;> omega)
  replace cb_aM_3 := hW.cell cb_aM_3 (by simp <;> omega)
  replace cb_x0_0 := hW.cell cb_x0_0 (by simp <;> omega)
  replace cb_x0_1 := hW.cell cb_x0_1 (by simp <;> omega)
  replace cb_x0_2 := hW.cell cb_x0_2 (by simp <;> omega)
  replace cb_x0_3 := hW.cell cb_x0_3 (by simp <;> omega)
  replace zb_aM : w.heap.size < w9.heap.size := by omega
  replace zb_x0 : w4.heap.size < w9.heap.size := by omega
  replace hN := hN.within hW (by omega)
  replace hE := hE.within hW (by omega)
  replace ho_g0 := ho_g0.within hW (by omega)
  clear hW
  clear ho_x0 hm_x0
  go_wp2_with fail
  refine (eqInt64S_any _ _ _ _ _ (ho_g0.new (by repeat (first | with_reducible exact New.refl _ | with_reducible assumption | with_reducible refine New.alloc ?_ _ | with_reducible refine New.drew ?_ | with_reducible refine New.drewN ?_ _ | with_reducible refine New.setCell ?_ (by simp <;> omega) _))).at ((ho_w0.new hE).new (by repeat (first | with_reducible exact New.refl _ | with_reducible assumption | with_reducible refine New.alloc ?_ _ | with_reducible refine New.drew ?_ | with_reducible refine New.drewN ?_ _ | with_reducible refine New.setCell ?_ (by simp <;> omega) _)))).mono ?_
  rintro e w10 ⟨rfl, hn⟩
  have hz10 := hn.size; try simp only [size_alloc] at hz10
  replace hn : New w9 w10 := New.trans (by repeat (first | with_reducible exact New.refl _ | with_reducible assumption | with_reducible refine New.alloc ?_ _ | with_reducible refine New.drew ?_ | with_reducible refine New.drewN ?_ _ | with_reducible refine New.setCell ?_ (by simp <;> omega) _)) hn
  replace cb_aM_0 := hn.cell cb_aM_0
  replace cb_aM_1 := hn.cell cb_aM_1
  replace cb_aM_2 := hn.cell cb_aM_2
  replace cb_aM_3 := hn.cell cb_aM_3
  replace cb_x0_0 := hn.cell cb_x0_0
  replace cb_x0_1 := hn.cell cb_x0_1
  replace cb_x0_2 := hn.cell cb_x0_2
  replace cb_x0_3 := hn.cell cb_x0_3
  replace zb_aM : w.heap.size < w10.heap.size := by omega
  replace zb_x0 : w4.heap.size < w10.heap.size := by omega
  replace hN := hN.trans hn
  replace hE := hE.trans hn
  replace ho_g0 := ho_g0.new hn
  go_wp2_with fail
  refine (markInt64S_any _ _ _ _ (ho_g0.new (by repeat (first | with_reducible exact New.refl _ | with_reducible assumption | with_reducible refine New.alloc ?_ _ | with_reducible refine New.drew ?_ | with_reducible refine New.drewN ?_ _ | with_reducible refine New.setCell ?_ (by simp <;> omega) _))) (by omega) (by omega)).mono ?_
  rintro e w11 ⟨rfl, hm_g0, hW⟩
  replace hW := Within.of_grown hW (fun b hb => ho_g0.block b hb)
  have hz11 := hW.2.2.2.1; try simp only [size_alloc] at hz11
  replace hW : Within (w4.heap.size + 1) (w5.heap.size) w10 w11 := Within.trans (Within.of_new (by repeat (first | with_reducible exact New.refl _ | with_reducible assumption | with_reducible refine New.alloc ?_ _ | with_reducible refine New.drew ?_ | with_reducible refine New.drewN ?_ _ | with_reducible refine New.setCell ?_ (by simp <;> omega) _)) _ _) hW
  replace cb_aM_0 := hW.cell cb_aM_0 (by simp <;> omega)
  replace cb_aM_1 := hW.cell cb_aM_1 (by simp <;> omega)
  replace cb_aM_2 := hW.cell cb_aM_2 (by simp <;> omega)
  replace cb_aM_3 := hW.cell cb_aM_3 (by simp <;> omega)
  replace cb_x0_0 := hW.cell cb_x0_0 (by simp <;> omega)
  replace cb_x0_1 := hW.cell cb_x0_1 (by simp <;> omega)
  replace cb_x0_2 := hW.cell cb_x0_2 (by simp <;> omega)
  replace cb_x0_3 := hW.cell cb_x0_3 (by simp <;> omega)
  replace zb_aM : w.heap.size < w11.heap.size := by omega
  replace zb_x0 : w4.heap.size < w11.heap.size := by omega
  replace hN := hN.within hW (by omega)
  replace hE := hE.within hW (by omega)
  clear hW
  clear ho_g0
  go_wp2_with fail
  refine (heldInt64S_any _ r0.length _ _ (hm_g0.new (by repeat (first | with_reducible exact New.refl _ | with_reducible assumption | with_reducible refine New.alloc ?_ _ | with_reducible refine New.drew ?_ | with_reducible refine New.drewN ?_ _ | with_reducible refine New.setCell ?_ (by simp <;> omega) _))).at (by omega) (by omega) (by omega)).mono ?_
  rintro e w12 ⟨rfl, hn⟩
  replace hn := New.of_eq hn
  have hz12 := hn.size; try simp only [size_alloc] at hz12
  replace hn : New w11 w12 := New.trans (by repeat (first | with_reducible exact New.refl _ | with_reducible assumption | with_reducible refine New.alloc ?_ _ | with_reducible refine New.drew ?_ | with_reducible refine New.drewN ?_ _ | with_reducible refine New.setCell ?_ (by simp <;> omega) _)) hn
  replace cb_aM_0 := hn.cell cb_aM_0
  replace cb_aM_1 := hn.cell cb_aM_1
  replace cb_aM_2 := hn.cell cb_aM_2
  replace cb_aM_3 := hn.cell cb_aM_3
  replace cb_x0_0 := hn.cell cb_x0_0
  replace cb_x0_1 := hn.cell cb_x0_1
  replace cb_x0_2 := hn.cell cb_x0_2
  replace cb_x0_3 := hn.cell cb_x0_3
  replace zb_aM : w.heap.size < w12.heap.size := by omega
  replace zb_x0 : w4.heap.size < w12.heap.size := by omega
  replace hN := hN.trans hn
  replace hE := hE.trans hn
  replace hm_g0 := hm_g0.new hn
  go_wp2_with fail
  refine (toMachine_any _ a0 _ (h0.new (New.trans hN (by repeat (first | with_reducible exact New.refl _ | with_reducible assumption | with_reducible refine New.alloc ?_ _ | with_reducible refine New.drew ?_ | with_reducible refine New.drewN ?_ _ | with_reducible refine New.setCell ?_ (by simp <;> omega) _)))) HB_aM.out).mono ?_
  rintro e w13 ⟨v_t12_aM, rfl, hn, ho_t12_aM⟩
  replace ho_t12_aM := ho_t12_aM.widen (B' := w12.heap.size) (by (try simp only [sizes]) <;> omega) (Nat.le_refl _)
  have hz13 := hn.size; try simp only [size_alloc] at hz13
  replace hn : New w12 w13 := New.trans (by repeat (first | with_reducible exact New.refl _ | with_reducible assumption | with_reducible refine New.alloc ?_ _ | with_reducible refine New.drew ?_ | with_reducible refine New.drewN ?_ _ | with_reducible refine New.setCell ?_ (by simp <;> omega) _)) hn
  replace cb_aM_0 := hn.cell cb_aM_0
  replace cb_aM_1 := hn.cell cb_aM_1
  replace cb_aM_2 := hn.cell cb_aM_2
  replace cb_aM_3 := hn.cell cb_aM_3
  replace cb_x0_0 := hn.cell cb_x0_0
  replace cb_x0_1 := hn.cell cb_x0_1
  replace cb_x0_2 := hn.cell cb_x0_2
  replace cb_x0_3 := hn.cell cb_x0_3
  replace zb_aM : w.heap.size < w13.heap.size := by omega
  replace zb_x0 : w4.heap.size < w13.heap.size := by omega
  replace hN := hN.trans hn
  replace hE := hE.trans hn
  replace hm_g0 := hm_g0.new hn
  obtain ⟨rt12_aMn, rt12_aMo, rfl, hrt12_aMn, hrt12_aMo⟩ := ho_t12_aM.at; obtain ⟨At12_aMn, ct12_aMn, rfl⟩ := hrt12_aMn.form; obtain ⟨At12_aMo, ct12_aMo, rfl⟩ := hrt12_aMo.form; clear hrt12_aMn hrt12_aMo
  go_wp2_with fail
  refine (HI.out _ _ (ho_t12_aM.new (by repeat (first | with_reducible exact New.refl _ | with_reducible assumption | with_reducible refine New.alloc ?_ _ | with_reducible refine New.drew ?_ | with_reducible refine New.drewN ?_ _ | with_reducible refine New.setCell ?_ (by simp <;> omega) _))).at).mono ?_
  rintro e w14 ⟨u_h0, rfl, hn, ho_h0⟩
  replace ho_h0 := ho_h0.widen (B' := w13.heap.size) (by (try simp only [sizes]) <;> omega) (Nat.le_refl _)
  have hz14 := hn.size; try simp only [size_alloc] at hz14
  replace hn : New w13 w14 := New.trans (by repeat (first | with_reducible exact New.refl _ | with_reducible assumption | with_reducible refine New.alloc ?_ _ | with_reducible refine New.drew ?_ | with_reducible refine New.drewN ?_ _ | with_reducible refine New.setCell ?_ (by simp <;> omega) _)) hn
  replace cb_aM_0 := hn.cell cb_aM_0
  replace cb_aM_1 := hn.cell cb_aM_1
  replace cb_aM_2 := hn.cell cb_aM_2
  replace cb_aM_3 := hn.cell cb_aM_3
  replace cb_x0_0 := hn.cell cb_x0_0
  replace cb_x0_1 := hn.cell cb_x0_1
  replace cb_x0_2 := hn.cell cb_x0_2
  replace cb_x0_3 := hn.cell cb_x0_3
  replace zb_aM : w.heap.size < w14.heap.size := by omega
  replace zb_x0 : w4.heap.size < w14.heap.size := by omega
  replace hN := hN.trans hn
  replace hE := hE.trans hn
  replace hm_g0 := hm_g0.new hn
  replace ho_t12_aM := ho_t12_aM.new hn
  obtain ⟨Ah0, ch0, rfl⟩ := ho_h0.form
  clear ho_t12_aM
  go_wp2_with fail
  refine (eqInt64S_any _ _ _ _ _ (ho_h0.new (by repeat (first | with_reducible exact New.refl _ | with_reducible assumption | with_reducible refine New.alloc ?_ _ | with_reducible refine New.drew ?_ | with_reducible refine New.drewN ?_ _ | with_reducible refine New.setCell ?_ (by simp <;> omega) _))).at ((ho_w0.new hE).new (by repeat (first | with_reducible exact New.refl _ | with_reducible assumption | with_reducible refine New.alloc ?_ _ | with_reducible refine New.drew ?_ | with_reducible refine New.drewN ?_ _ | with_reducible refine New.setCell ?_ (by simp <;> omega) _)))).mono ?_
  rintro e w15 ⟨rfl, hn⟩
  have hz15 := hn.size; try simp only [size_alloc] at hz15
  replace hn : New w14 w15 := New.trans (by repeat (first | with_reducible exact New.refl _ | with_reducible assumption | with_reducible refine New.alloc ?_ _ | with_reducible refine New.drew ?_ | with_reducible refine New.drewN ?_ _ | with_reducible refine New.setCell ?_ (by simp <;> omega) _)) hn
  replace cb_aM_0 := hn.cell cb_aM_0
  replace cb_aM_1 := hn.cell cb_aM_1
  replace cb_aM_2 := hn.cell cb_aM_2
  replace cb_aM_3 := hn.cell cb_aM_3
  replace cb_x0_0 := hn.cell cb_x0_0
  replace cb_x0_1 := hn.cell cb_x0_1
  replace cb_x0_2 := hn.cell cb_x0_2
  replace cb_x0_3 := hn.cell cb_x0_3
  replace zb_aM : w.heap.size < w15.heap.size := by omega
  replace zb_x0 : w4.heap.size < w15.heap.size := by omega
  replace hN := hN.trans hn
  replace hE := hE.trans hn
  replace hm_g0 := hm_g0.new hn
  replace ho_h0 := ho_h0.new hn
  go_wp2_with fail
  refine (heldInt64S_any _ r0.length _ _ (hm_g0.new (by repeat (first | with_reducible exact New.refl _ | with_reducible assumption | with_reducible refine New.alloc ?_ _ | with_reducible refine New.drew ?_ | with_reducible refine New.drewN ?_ _ | with_reducible refine New.setCell ?_ (by simp <;> omega) _))).at (by omega) (by omega) (by omega)).mono ?_
  rintro e w16 ⟨rfl, hn⟩
  replace hn := New.of_eq hn
  have hz16 := hn.size; try simp only [size_alloc] at hz16
  replace hn : New w15 w16 := New.trans (by repeat (first | with_reducible exact New.refl _ | with_reducible assumption | with_reducible refine New.alloc ?_ _ | with_reducible refine New.drew ?_ | with_reducible refine New.drewN ?_ _ | with_reducible refine New.setCell ?_ (by simp <;> omega) _)) hn
  replace cb_aM_0 := hn.cell cb_aM_0
  replace cb_aM_1 := hn.cell cb_aM_1
  replace cb_aM_2 := hn.cell cb_aM_2
  replace cb_aM_3 := hn.cell cb_aM_3
  replace cb_x0_0 := hn.cell cb_x0_0
  replace cb_x0_1 := hn.cell cb_x0_1
  replace cb_x0_2 := hn.cell cb_x0_2
  replace cb_x0_3 := hn.cell cb_x0_3
  replace zb_aM : w.heap.size < w16.heap.size := by omega
  replace zb_x0 : w4.heap.size < w16.heap.size := by omega
  replace hN := hN.trans hn
  replace hE := hE.trans hn
  replace hm_g0 := hm_g0.new hn
  replace ho_h0 := ho_h0.new hn
  go_wp2_with fail
  go_ret
  exact ⟨rfl, hN⟩

end Go.Proofs.Ytnhjoiafadapaaa
