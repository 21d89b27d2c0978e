/- The law of CountResets answers true, whatever its two functions return, if they return the same. -/
import Derived.Test.YtheimpgjkfphnaaRows
import Derived.Test.YtheimpgjkfphnaaBase
import Derived.Test.YtheimpgjkfphnaaAut
import Derived.Test.YtheimpgjkfphnaaMach
import Derived.Test.YtheimpgjkfphnaaLInts
import Derived.Test.YtheimpgjkfphnaaLAut
import Derived.WalkKit
import Derived.WalkSpells
import Derived.WalkLawsBesides
import Derived.Deep.QuietTactic
import Derived.Deep.OwnRows
import Derived.BigQuiet
import Derived.KernelRfl
import Derived.Deep.RegionHeld3
namespace Go.Proofs.Ytheimpgjkfphnaa
open Go.RowKit

set_option maxRecDepth 100000 in
set_option maxHeartbeats 4000000 in
theorem FnExactCountResets_walk (v0 : Value) (a0 : Aut) (z1 : Int) (r0 : Int) (r1 : Int) (w : World) (h0 : AutAt w v0 a0)
    (HS : ∀ (w : World) (u0 : Value), AutAt w u0 a0 → Calls Try.prog 20 #[u0, .int .i64 z1] w fun e w' => e = .returned (.tuple #[.int .i64 r0, .int .i64 r1]) ∧ New w w')
    (HI : ∀ (w : World) (u0 : Value), AutAt w u0 a0 → Calls Try.prog 21 #[u0, .int .i64 z1] w fun e w' => e = .returned (.tuple #[.int .i64 r0, .int .i64 r1]) ∧ New w w') :
    Calls Try.prog 4 #[v0, .int .i64 z1] w fun e w' => e = .returned (.bool true) ∧ New w w' := by
  replace HS := hid HS
  replace HI := hid HI
  obtain ⟨raA, rfl, hraA⟩ := id h0; obtain ⟨AaA, caA, rfl⟩ := hraA.form; clear hraA
  have hbd_aA := szBB_bound a0.nx 1048576 (by omega)
  by_cases hs_aA : szBB a0.nx 1048576 < 0
  · go_enter Try.func4, Try.ntmps4
    go_wp2_with fail
    refine (szAutomaton_any _ a0 _ _ (h0.new (by repeat (first | with_reducible exact New.refl _ | with_reducible assumption | with_reducible refine New.alloc ?_ _ | with_reducible refine New.drew ?_ | with_reducible refine New.drewN ?_ _ | with_reducible refine New.setCell ?_ (by simp <;> omega) _))) (by omega) (by omega)).mono ?_
    rintro e w1 ⟨rfl, hn⟩
    have cb_aA_0 : w1.cell? ⟨w.heap.size, 0, none⟩ = some (.int .i64 a0.n) := hn.cell (by go_simp)
    have cb_aA_1 : w1.cell? ⟨w.heap.size, 1, none⟩ = some (.slice AaA a0.nx.length caA) := hn.cell (by go_simp)
    have hN : New w w1 := New.trans (by repeat (first | with_reducible exact New.refl _ | with_reducible assumption | with_reducible refine New.alloc ?_ _ | with_reducible refine New.drew ?_ | with_reducible refine New.drewN ?_ _ | with_reducible refine New.setCell ?_ (by simp <;> omega) _)) hn
    go_wp2_with fail
    go_ret
    exact ⟨rfl, hN⟩
  have hsz_aA := szBB_len a0.nx 1048576 (by omega) (by omega)
  have hb_aA : a0.nx.length ≤ 1048576 := by omega
  have ht_aA : total a0.nx ≤ 1048576 := by omega
  have HB_aA := hid (fun i (hi : i < a0.nx.length) => Nat.le_trans (length_le_total a0.nx i hi) ht_aA)
  clear hsz_aA
  go_enter Try.func4, Try.ntmps4
  go_wp2_with fail
  refine (szAutomaton_any _ a0 _ _ (h0.new (by repeat (first | with_reducible exact New.refl _ | with_reducible assumption | with_reducible refine New.alloc ?_ _ | with_reducible refine New.drew ?_ | with_reducible refine New.drewN ?_ _ | with_reducible refine New.setCell ?_ (by simp <;> omega) _))) (by omega) (by omega)).mono ?_
  rintro e w1 ⟨rfl, hn⟩
  have hz1 := hn.size; try simp only [size_alloc] at hz1
  have cb_aA_0 : w1.cell? ⟨w.heap.size, 0, none⟩ = some (.int .i64 a0.n) := hn.cell (by go_simp)
  have cb_aA_1 : w1.cell? ⟨w.heap.size, 1, none⟩ = some (.slice AaA a0.nx.length caA) := hn.cell (by go_simp)
  replace hn : New w w1 := New.trans (by repeat (first | with_reducible exact New.refl _ | with_reducible assumption | with_reducible refine New.alloc ?_ _ | with_reducible refine New.drew ?_ | with_reducible refine New.drewN ?_ _ | with_reducible refine New.setCell ?_ (by simp <;> omega) _)) hn
  replace zb_aA : w.heap.size < w1.heap.size := by omega
  have hN := hn
  go_wp2_with fail
  refine (toAutomaton_any _ a0 _ (h0.new (New.trans hN (by repeat (first | with_reducible exact New.refl _ | with_reducible assumption | with_reducible refine New.alloc ?_ _ | with_reducible refine New.drew ?_ | with_reducible refine New.drewN ?_ _ | with_reducible refine New.setCell ?_ (by simp <;> omega) _)))) hb_aA HB_aA.out).mono ?_
  rintro e w2 ⟨v_t1_aA, rfl, hn, ho_t1_aA⟩
  replace ho_t1_aA := ho_t1_aA.widen (B' := w1.heap.size) (by (try simp only [size_alloc, size_drew, size_drewN, size_setCell]) <;> omega) (Nat.le_refl _)
  have hz2 := hn.size; try simp only [size_alloc] at hz2
  replace hn : New w1 w2 := New.trans (by repeat (first | with_reducible exact New.refl _ | with_reducible assumption | with_reducible refine New.alloc ?_ _ | with_reducible refine New.drew ?_ | with_reducible refine New.drewN ?_ _ | with_reducible refine New.setCell ?_ (by simp <;> omega) _)) hn
  replace cb_aA_0 := hn.cell cb_aA_0
  replace cb_aA_1 := hn.cell cb_aA_1
  replace zb_aA : w.heap.size < w2.heap.size := by omega
  replace hN := hN.trans hn
  obtain ⟨rt1_aA, rfl, hrt1_aA⟩ := id ho_t1_aA; obtain ⟨At1_aA, ct1_aA, rfl⟩ := hrt1_aA.form; clear hrt1_aA
  go_wp2_with fail
  refine (HS.out _ _ (ho_t1_aA.new (by repeat (first | with_reducible exact New.refl _ | with_reducible assumption | with_reducible refine New.alloc ?_ _ | with_reducible refine New.drew ?_ | with_reducible refine New.drewN ?_ _ | with_reducible refine New.setCell ?_ (by simp <;> omega) _))).at).mono ?_
  rintro e w3 ⟨rfl, hn⟩
  have hz3 := hn.size; try simp only [size_alloc] at hz3
  replace hn : New w2 w3 := New.trans (by repeat (first | with_reducible exact New.refl _ | with_reducible assumption | with_reducible refine New.alloc ?_ _ | with_reducible refine New.drew ?_ | with_reducible refine New.drewN ?_ _ | with_reducible refine New.setCell ?_ (by simp <;> omega) _)) hn
  replace cb_aA_0 := hn.cell cb_aA_0
  replace cb_aA_1 := hn.cell cb_aA_1
  replace zb_aA : w.heap.size < w3.heap.size := by omega
  replace hN := hN.trans hn
  replace ho_t1_aA := ho_t1_aA.new hn
  have hE := New.refl w3
  clear ho_t1_aA
  go_wp2_with fail
  refine (toAutomaton_any _ a0 _ (h0.new (New.trans hN (by repeat (first | with_reducible exact New.refl _ | with_reducible assumption | with_reducible refine New.alloc ?_ _ | with_reducible refine New.drew ?_ | with_reducible refine New.drewN ?_ _ | with_reducible refine New.setCell ?_ (by simp <;> omega) _)))) hb_aA HB_aA.out).mono ?_
  rintro e w4 ⟨v_x0, rfl, hn, ho_x0⟩
  replace ho_x0 := ho_x0.widen (B' := w3.heap.size) (by (try simp only [size_alloc, size_drew, size_drewN, size_setCell]) <;> omega) (Nat.le_refl _)
  have hz4 := hn.size; try simp only [size_alloc] at hz4
  replace hn : New w3 w4 := New.trans (by repeat (first | with_reducible exact New.refl _ | with_reducible assumption | with_reducible refine New.alloc ?_ _ | with_reducible refine New.drew ?_ | with_reducible refine New.drewN ?_ _ | with_reducible refine New.setCell ?_ (by simp <;> omega) _)) hn
  replace cb_aA_0 := hn.cell cb_aA_0
  replace cb_aA_1 := hn.cell cb_aA_1
  replace zb_aA : w.heap.size < w4.heap.size := by omega
  replace hN := hN.trans hn
  replace hE := hE.trans hn
  obtain ⟨rx0, rfl, hrx0⟩ := id ho_x0; obtain ⟨Ax0, cx0, rfl⟩ := hrx0.form; clear hrx0
  go_wp2_with fail
  refine (HI.out _ _ (ho_x0.new (by repeat (first | with_reducible exact New.refl _ | with_reducible assumption | with_reducible refine New.alloc ?_ _ | with_reducible refine New.drew ?_ | with_reducible refine New.drewN ?_ _ | with_reducible refine New.setCell ?_ (by simp <;> omega) _))).at).mono ?_
  rintro e w5 ⟨rfl, hn⟩
  have hz5 := hn.size; try simp only [size_alloc] at hz5
  have cb_x0_0 : w5.cell? ⟨w4.heap.size, 0, none⟩ = some (.int .i64 a0.n) := hn.cell (by go_simp)
  have cb_x0_1 : w5.cell? ⟨w4.heap.size, 1, none⟩ = some (.slice Ax0 a0.nx.length cx0) := hn.cell (by go_simp)
  replace hn : New w4 w5 := New.trans (by repeat (first | with_reducible exact New.refl _ | with_reducible assumption | with_reducible refine New.alloc ?_ _ | with_reducible refine New.drew ?_ | with_reducible refine New.drewN ?_ _ | with_reducible refine New.setCell ?_ (by simp <;> omega) _)) hn
  replace cb_aA_0 := hn.cell cb_aA_0
  replace cb_aA_1 := hn.cell cb_aA_1
  replace zb_aA : w.heap.size < w5.heap.size := by omega
  replace zb_x0 : w4.heap.size < w5.heap.size := by omega
  replace hN := hN.trans hn
  replace hE := hE.trans hn
  replace ho_x0 := ho_x0.new hn
  go_wp2_with fail
  go_region_held3 (fun w' => w'.cell? ⟨w4.heap.size, 0, none⟩ = some (.int .i64 a0.n) ∧ w'.cell? ⟨w4.heap.size, 1, none⟩ = some (.slice Ax0 a0.nx.length cx0) ∧ w'.cell? ⟨w.heap.size, 0, none⟩ = some (.int .i64 a0.n) ∧ w'.cell? ⟨w.heap.size, 1, none⟩ = some (.slice AaA a0.nx.length caA))
    (first | go_keep | exact ⟨New.cell hq1 cb_x0_0, New.cell hq1 cb_x0_1, New.cell hq1 cb_aA_0, New.cell hq1 cb_aA_1⟩ | exact ⟨New.cell hq2 cb_x0_0, New.cell hq2 cb_x0_1, New.cell hq2 cb_aA_0, New.cell hq2 cb_aA_1⟩)
    (first
      | (go_at_call 15; refine (toAutomaton_any _ a0 _ (h0.new (hN.trans (New.refl _).drew)) hb_aA HB_aA.out).mono ?_; rintro e w6 ⟨r3, rfl, hq1, ho3⟩; replace hq1 : New w5 w6 := New.trans (New.refl _).drew hq1; obtain ⟨rq7, rfl, hrq7⟩ := id ho3; obtain ⟨Aq7, cq7, rfl⟩ := hrq7.form; clear hrq7)
      | (go_at_call 17; refine (eqAutomaton_any _ _ _ _ _ (ho_x0.new hq1).at ho3.at).mono ?_; rintro e w7 ⟨rfl, hq2⟩; replace hq2 : New w5 w7 := New.trans hq1 hq2))
  have hn := hq2
  have hz7 := hn.size; try simp only [size_alloc] at hz7
  replace hn : New w5 w7 := New.trans (by repeat (first | with_reducible exact New.refl _ | with_reducible assumption | with_reducible refine New.alloc ?_ _ | with_reducible refine New.drew ?_ | with_reducible refine New.drewN ?_ _ | with_reducible refine New.setCell ?_ (by simp <;> omega) _)) hn
  replace cb_aA_0 := hn.cell cb_aA_0
  replace cb_aA_1 := hn.cell cb_aA_1
  replace cb_x0_0 := hn.cell cb_x0_0
  replace cb_x0_1 := hn.cell cb_x0_1
  replace zb_aA : w.heap.size < w7.heap.size := by omega
  replace zb_x0 : w4.heap.size < w7.heap.size := by omega
  replace hN := hN.trans hn
  replace hE := hE.trans hn
  replace ho_x0 := ho_x0.new hn
  clear hq1 hq2 ho3
  go_wp2_with fail
  go_ret
  exact ⟨rfl, hN⟩

end Go.Proofs.Ytheimpgjkfphnaa
