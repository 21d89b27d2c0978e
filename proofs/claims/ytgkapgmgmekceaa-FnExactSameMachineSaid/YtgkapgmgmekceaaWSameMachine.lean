/- The law of SameMachine answers true, whatever its two functions return, if they return the same. -/
import Derived.Test.YtgkapgmgmekceaaRows
import Derived.Test.YtgkapgmgmekceaaBase
import Derived.Test.YtgkapgmgmekceaaAut
import Derived.Test.YtgkapgmgmekceaaMach
import Derived.Test.YtgkapgmgmekceaaLInts
import Derived.Test.YtgkapgmgmekceaaLMach
import Derived.WalkKit
import Derived.WalkSpells
import Derived.WalkLawsBesides
import Derived.Deep.QuietTactic
import Derived.Deep.OwnRows
import Derived.BigQuiet
import Derived.KernelRfl
import Derived.Deep.RegionHeld3
namespace Go.Proofs.Ytgkapgmgmekceaa
open Go.RowKit

set_option maxRecDepth 100000 in
set_option maxHeartbeats 4000000 in
theorem FnExactSameMachine_walk (v0 v1 : Value) (a0 : Mach) (a1 : Mach) (r0 : Bool) (w : World) (h0 : MachAt w v0 a0) (h1 : MachAt w v1 a1)
    (HS : ∀ (w : World) (u0 u1 : Value), MachAt w u0 a0 → MachAt w u1 a1 → Calls Try.prog 16 #[u0, u1] w fun e w' => e = .returned (.bool r0) ∧ New w w')
    (HI : ∀ (w : World) (u0 u1 : Value), MachAt w u0 a0 → MachAt w u1 a1 → Calls Try.prog 18 #[u0, u1] w fun e w' => e = .returned (.bool r0) ∧ New w w') :
    Calls Try.prog 4 #[v0, v1] w fun e w' => e = .returned (.bool true) ∧ New w w' := by
  replace HS := hid HS
  replace HI := hid HI
  obtain ⟨raAn, raAo, rfl, hraAn, hraAo⟩ := id h0; obtain ⟨AaAn, caAn, rfl⟩ := hraAn.form; obtain ⟨AaAo, caAo, rfl⟩ := hraAo.form; clear hraAn hraAo
  obtain ⟨raBn, raBo, rfl, hraBn, hraBo⟩ := id h1; obtain ⟨AaBn, caBn, rfl⟩ := hraBn.form; obtain ⟨AaBo, caBo, rfl⟩ := hraBo.form; clear hraBn hraBo
  have hbd_aA := szMach_bound a0 1048576 (by omega)
  by_cases hs_aA : szMach a0 1048576 < 0
  · go_enter Try.func4, Try.ntmps4
    go_wp2_with fail
    refine (szMachine_any _ a0 _ _ (h0.new (by repeat (first | with_reducible exact New.refl _ | with_reducible assumption | with_reducible refine New.alloc ?_ _ | with_reducible refine New.drew ?_ | with_reducible refine New.drewN ?_ _ | with_reducible refine New.setCell ?_ (by simp <;> omega) _))) (by omega) (by omega)).mono ?_
    rintro e w1 ⟨rfl, hn⟩
    have cb_aA_0 : w1.cell? ⟨w.heap.size, 0, none⟩ = some (.int .i64 a0.n) := hn.cell (by go_simp)
    have cb_aA_1 : w1.cell? ⟨w.heap.size, 1, none⟩ = some (.int .i64 a0.o) := hn.cell (by go_simp)
    have cb_aA_2 : w1.cell? ⟨w.heap.size, 2, none⟩ = some (.slice AaAn a0.nx.length caAn) := hn.cell (by go_simp)
    have cb_aA_3 : w1.cell? ⟨w.heap.size, 3, none⟩ = some (.slice AaAo a0.out.length caAo) := hn.cell (by go_simp)
    have cb_aB_0 : w1.cell? ⟨w.heap.size + 1, 0, none⟩ = some (.int .i64 a1.n) := hn.cell (by go_simp)
    have cb_aB_1 : w1.cell? ⟨w.heap.size + 1, 1, none⟩ = some (.int .i64 a1.o) := hn.cell (by go_simp)
    have cb_aB_2 : w1.cell? ⟨w.heap.size + 1, 2, none⟩ = some (.slice AaBn a1.nx.length caBn) := hn.cell (by go_simp)
    have cb_aB_3 : w1.cell? ⟨w.heap.size + 1, 3, none⟩ = some (.slice AaBo a1.out.length caBo) := hn.cell (by go_simp)
    have hN : New w w1 := New.trans (by repeat (first | with_reducible exact New.refl _ | with_reducible assumption | with_reducible refine New.alloc ?_ _ | with_reducible refine New.drew ?_ | with_reducible refine New.drewN ?_ _ | with_reducible refine New.setCell ?_ (by simp <;> omega) _)) hn
    go_wp2_with fail
    go_ret
    exact ⟨rfl, hN⟩
  have hbd_aB := szMach_bound a1 (szMach a0 1048576) (by omega)
  by_cases hs_aB : szMach a1 (szMach a0 1048576) < 0
  · go_enter Try.func4, Try.ntmps4
    go_wp2_with fail
    refine (szMachine_any _ a0 _ _ (h0.new (by repeat (first | with_reducible exact New.refl _ | with_reducible assumption | with_reducible refine New.alloc ?_ _ | with_reducible refine New.drew ?_ | with_reducible refine New.drewN ?_ _ | with_reducible refine New.setCell ?_ (by simp <;> omega) _))) (by omega) (by omega)).mono ?_
    rintro e w1 ⟨rfl, hn⟩
    have cb_aA_0 : w1.cell? ⟨w.heap.size, 0, none⟩ = some (.int .i64 a0.n) := hn.cell (by go_simp)
    have cb_aA_1 : w1.cell? ⟨w.heap.size, 1, none⟩ = some (.int .i64 a0.o) := hn.cell (by go_simp)
    have cb_aA_2 : w1.cell? ⟨w.heap.size, 2, none⟩ = some (.slice AaAn a0.nx.length caAn) := hn.cell (by go_simp)
    have cb_aA_3 : w1.cell? ⟨w.heap.size, 3, none⟩ = some (.slice AaAo a0.out.length caAo) := hn.cell (by go_simp)
    have cb_aB_0 : w1.cell? ⟨w.heap.size + 1, 0, none⟩ = some (.int .i64 a1.n) := hn.cell (by go_simp)
    have cb_aB_1 : w1.cell? ⟨w.heap.size + 1, 1, none⟩ = some (.int .i64 a1.o) := hn.cell (by go_simp)
    have cb_aB_2 : w1.cell? ⟨w.heap.size + 1, 2, none⟩ = some (.slice AaBn a1.nx.length caBn) := hn.cell (by go_simp)
    have cb_aB_3 : w1.cell? ⟨w.heap.size + 1, 3, none⟩ = some (.slice AaBo a1.out.length caBo) := hn.cell (by go_simp)
    have hN : New w w1 := New.trans (by repeat (first | with_reducible exact New.refl _ | with_reducible assumption | with_reducible refine New.alloc ?_ _ | with_reducible refine New.drew ?_ | with_reducible refine New.drewN ?_ _ | with_reducible refine New.setCell ?_ (by simp <;> omega) _)) hn
    go_wp2_with fail
    refine (szMachine_any _ a1 _ _ (h1.new (New.trans hN (by repeat (first | with_reducible exact New.refl _ | with_reducible assumption | with_reducible refine New.alloc ?_ _ | with_reducible refine New.drew ?_ | with_reducible refine New.drewN ?_ _ | with_reducible refine New.setCell ?_ (by simp <;> omega) _)))) (by omega) (by omega)).mono ?_
    rintro e w2 ⟨rfl, hn⟩
    replace cb_aA_0 := hn.cell cb_aA_0
    replace cb_aA_1 := hn.cell cb_aA_1
    replace cb_aA_2 := hn.cell cb_aA_2
    replace cb_aA_3 := hn.cell cb_aA_3
    replace cb_aB_0 := hn.cell cb_aB_0
    replace cb_aB_1 := hn.cell cb_aB_1
    replace cb_aB_2 := hn.cell cb_aB_2
    replace cb_aB_3 := hn.cell cb_aB_3
    replace hN := hN.trans hn
    go_wp2_with fail
    go_ret
    exact ⟨rfl, hN⟩
  have HB_aA := hid (szMach_len a0 1048576 (by omega) (by omega))
  have ht_aA : a0.size ≤ 1048576 := HB_aA.out.2.2.2.2
  have HB_aB := hid (szMach_len a1 (szMach a0 1048576) (by omega) (by omega))
  have ht_aB : a1.size ≤ 1048576 := HB_aB.out.2.2.2.2
  go_enter Try.func4, Try.ntmps4
  go_wp2_with fail
  refine (szMachine_any _ a0 _ _ (h0.new (by repeat (first | with_reducible exact New.refl _ | with_reducible assumption | with_reducible refine New.alloc ?_ _ | with_reducible refine New.drew ?_ | with_reducible refine New.drewN ?_ _ | with_reducible refine New.setCell ?_ (by simp <;> omega) _))) (by omega) (by omega)).mono ?_
  rintro e w1 ⟨rfl, hn⟩
  have hz1 := hn.size; try simp only [size_alloc] at hz1
  have cb_aA_0 : w1.cell? ⟨w.heap.size, 0, none⟩ = some (.int .i64 a0.n) := hn.cell (by go_simp)
  have cb_aA_1 : w1.cell? ⟨w.heap.size, 1, none⟩ = some (.int .i64 a0.o) := hn.cell (by go_simp)
  have cb_aA_2 : w1.cell? ⟨w.heap.size, 2, none⟩ = some (.slice AaAn a0.nx.length caAn) := hn.cell (by go_simp)
  have cb_aA_3 : w1.cell? ⟨w.heap.size, 3, none⟩ = some (.slice AaAo a0.out.length caAo) := hn.cell (by go_simp)
  have cb_aB_0 : w1.cell? ⟨w.heap.size + 1, 0, none⟩ = some (.int .i64 a1.n) := hn.cell (by go_simp)
  have cb_aB_1 : w1.cell? ⟨w.heap.size + 1, 1, none⟩ = some (.int .i64 a1.o) := hn.cell (by go_simp)
  have cb_aB_2 : w1.cell? ⟨w.heap.size + 1, 2, none⟩ = some (.slice AaBn a1.nx.length caBn) := hn.cell (by go_simp)
  have cb_aB_3 : w1.cell? ⟨w.heap.size + 1, 3, none⟩ = some (.slice AaBo a1.out.length caBo) := hn.cell (by go_simp)
  replace hn : New w w1 := New.trans (by repeat (first | with_reducible exact New.refl _ | with_reducible assumption | with_reducible refine New.alloc ?_ _ | with_reducible refine New.drew ?_ | with_reducible refine New.drewN ?_ _ | with_reducible refine New.setCell ?_ (by simp <;> omega) _)) hn
  replace zb_aA : w.heap.size < w1.heap.size := by omega
  replace zb_aB : w.heap.size + 1 < w1.heap.size := by omega
  have hN := hn
  go_wp2_with fail
  refine (szMachine_any _ a1 _ _ (h1.new (New.trans hN (by repeat (first | with_reducible exact New.refl _ | with_reducible assumption | with_reducible refine New.alloc ?_ _ | with_reducible refine New.drew ?_ | with_reducible refine New.drewN ?_ _ | with_reducible refine New.setCell ?_ (by simp <;> omega) _)))) (by omega) (by omega)).mono ?_
  rintro e w2 ⟨rfl, hn⟩
  have hz2 := hn.size; try simp only [size_alloc] at hz2
  replace hn : New w1 w2 := New.trans (by repeat (first | with_reducible exact New.refl _ | with_reducible assumption | with_reducible refine New.alloc ?_ _ | with_reducible refine New.drew ?_ | with_reducible refine New.drewN ?_ _ | with_reducible refine New.setCell ?_ (by simp <;> omega) _)) hn
  replace cb_aA_0 := hn.cell cb_aA_0
  replace cb_aA_1 := hn.cell cb_aA_1
  replace cb_aA_2 := hn.cell cb_aA_2
  replace cb_aA_3 := hn.cell cb_aA_3
  replace cb_aB_0 := hn.cell cb_aB_0
  replace cb_aB_1 := hn.cell cb_aB_1
  replace cb_aB_2 := hn.cell cb_aB_2
  replace cb_aB_3 := hn.cell cb_aB_3
  replace zb_aA : w.heap.size < w2.heap.size := by omega
  replace zb_aB : w.heap.size + 1 < w2.heap.size := by omega
  replace hN := hN.trans hn
  go_wp2_with fail
  go_region_held3 (fun w' => w'.cell? ⟨w.heap.size, 0, none⟩ = some (.int .i64 a0.n) ∧ w'.cell? ⟨w.heap.size, 1, none⟩ = some (.int .i64 a0.o) ∧ w'.cell? ⟨w.heap.size, 2, none⟩ = some (.slice AaAn a0.nx.length caAn) ∧ w'.cell? ⟨w.heap.size, 3, none⟩ = some (.slice AaAo a0.out.length caAo) ∧ w'.cell? ⟨w.heap.size + 1, 0, none⟩ = some (.int .i64 a1.n) ∧ w'.cell? ⟨w.heap.size + 1, 1, none⟩ = some (.int .i64 a1.o) ∧ w'.cell? ⟨w.heap.size + 1, 2, none⟩ = some (.slice AaBn a1.nx.length caBn) ∧ w'.cell? ⟨w.heap.size + 1, 3, none⟩ = some (.slice AaBo a1.out.length caBo))
    (first | go_keep | exact ⟨New.cell hq3 cb_aA_0, New.cell hq3 cb_aA_1, New.cell hq3 cb_aA_2, New.cell hq3 cb_aA_3, New.cell hq3 cb_aB_0, New.cell hq3 cb_aB_1, New.cell hq3 cb_aB_2, New.cell hq3 cb_aB_3⟩ | exact ⟨New.cell hq4 cb_aA_0, New.cell hq4 cb_aA_1, New.cell hq4 cb_aA_2, New.cell hq4 cb_aA_3, New.cell hq4 cb_aB_0, New.cell hq4 cb_aB_1, New.cell hq4 cb_aB_2, New.cell hq4 cb_aB_3⟩ | exact ⟨New.cell hq5 cb_aA_0, New.cell hq5 cb_aA_1, New.cell hq5 cb_aA_2, New.cell hq5 cb_aA_3, New.cell hq5 cb_aB_0, New.cell hq5 cb_aB_1, New.cell hq5 cb_aB_2, New.cell hq5 cb_aB_3⟩)
    (first
      | (go_at_call_of 17 AaAn; refine (toMachine_any _ a0 _ (h0.new (hN.trans (New.refl _).drew)) HB_aA.out).mono ?_; rintro e w3 ⟨v_d3, rfl, hr3, ho_d3⟩; have hq3 : New w2 w3 := New.trans (New.refl _).drew hr3; obtain ⟨rd3n, rd3o, rfl, hrd3n, hrd3o⟩ := ho_d3.at; obtain ⟨Ad3n, cd3n, rfl⟩ := hrd3n.form; obtain ⟨Ad3o, cd3o, rfl⟩ := hrd3o.form; clear hrd3n hrd3o)
      | (go_at_call_of 17 AaBn; refine (toMachine_any _ a1 _ (h1.new (hN.trans hq3)) HB_aB.out).mono ?_; rintro e w4 ⟨v_d4, rfl, hr4, ho_d4⟩; have hq4 : New w2 w4 := New.trans hq3 hr4; obtain ⟨rd4n, rd4o, rfl, hrd4n, hrd4o⟩ := ho_d4.at; obtain ⟨Ad4n, cd4n, rfl⟩ := hrd4n.form; obtain ⟨Ad4o, cd4o, rfl⟩ := hrd4o.form; clear hrd4n hrd4o)
      | (go_at_call 16; refine (HS.out _ _ _ (ho_d3.new hr4).at ho_d4.at).mono ?_; rintro e w5 ⟨rfl, hr5⟩; have hq5 : New w2 w5 := New.trans hq4 hr5))
  have hn := hq5
  have hz5 := hn.size; try simp only [size_alloc] at hz5
  replace hn : New w2 w5 := New.trans (by repeat (first | with_reducible exact New.refl _ | with_reducible assumption | with_reducible refine New.alloc ?_ _ | with_reducible refine New.drew ?_ | with_reducible refine New.drewN ?_ _ | with_reducible refine New.setCell ?_ (by simp <;> omega) _)) hn
  replace cb_aA_0 := hn.cell cb_aA_0
  replace cb_aA_1 := hn.cell cb_aA_1
  replace cb_aA_2 := hn.cell cb_aA_2
  replace cb_aA_3 := hn.cell cb_aA_3
  replace cb_aB_0 := hn.cell cb_aB_0
  replace cb_aB_1 := hn.cell cb_aB_1
  replace cb_aB_2 := hn.cell cb_aB_2
  replace cb_aB_3 := hn.cell cb_aB_3
  replace zb_aA : w.heap.size < w5.heap.size := by omega
  replace zb_aB : w.heap.size + 1 < w5.heap.size := by omega
  replace hN := hN.trans hn
  have hE := New.refl w5
  clear ho_d3
  clear ho_d4
  go_wp2_with fail
  refine (toMachine_any _ a0 _ (h0.new (New.trans hN (by repeat (first | with_reducible exact New.refl _ | with_reducible assumption | with_reducible refine New.alloc ?_ _ | with_reducible refine New.drew ?_ | with_reducible refine New.drewN ?_ _ | with_reducible refine New.setCell ?_ (by simp <;> omega) _)))) HB_aA.out).mono ?_
  rintro e w6 ⟨v_x0, rfl, hn, ho_x0⟩
  replace ho_x0 := ho_x0.widen (B' := w5.heap.size) (by (try simp only [size_alloc, size_drew, size_drewN, size_setCell]) <;> omega) (Nat.le_refl _)
  have hz6 := hn.size; try simp only [size_alloc] at hz6
  replace hn : New w5 w6 := New.trans (by repeat (first | with_reducible exact New.refl _ | with_reducible assumption | with_reducible refine New.alloc ?_ _ | with_reducible refine New.drew ?_ | with_reducible refine New.drewN ?_ _ | with_reducible refine New.setCell ?_ (by simp <;> omega) _)) hn
  replace cb_aA_0 := hn.cell cb_aA_0
  replace cb_aA_1 := hn.cell cb_aA_1
  replace cb_aA_2 := hn.cell cb_aA_2
  replace cb_aA_3 := hn.cell cb_aA_3
  replace cb_aB_0 := hn.cell cb_aB_0
  replace cb_aB_1 := hn.cell cb_aB_1
  replace cb_aB_2 := hn.cell cb_aB_2
  replace cb_aB_3 := hn.cell cb_aB_3
  replace zb_aA : w.heap.size < w6.heap.size := by omega
  replace zb_aB : w.heap.size + 1 < w6.heap.size := by omega
  replace hN := hN.trans hn
  replace hE := hE.trans hn
  obtain ⟨rx0n, rx0o, rfl, hrx0n, hrx0o⟩ := ho_x0.at; obtain ⟨Ax0n, cx0n, rfl⟩ := hrx0n.form; obtain ⟨Ax0o, cx0o, rfl⟩ := hrx0o.form; clear hrx0n hrx0o
  go_wp2_with fail
  refine (toMachine_any _ a1 _ (h1.new (New.trans hN (by repeat (first | with_reducible exact New.refl _ | with_reducible assumption | with_reducible refine New.alloc ?_ _ | with_reducible refine New.drew ?_ | with_reducible refine New.drewN ?_ _ | with_reducible refine New.setCell ?_ (by simp <;> omega) _)))) HB_aB.out).mono ?_
  rintro e w7 ⟨v_x1, rfl, hn, ho_x1⟩
  replace ho_x1 := ho_x1.widen (B' := w6.heap.size + 1) (by (try simp only [size_alloc, size_drew, size_drewN, size_setCell]) <;> omega) (Nat.le_refl _)
  have hz7 := hn.size; try simp only [size_alloc] at hz7
  have cb_x0_0 : w7.cell? ⟨w6.heap.size, 0, none⟩ = some (.int .i64 a0.n) := hn.cell (by go_simp)
  have cb_x0_1 : w7.cell? ⟨w6.heap.size, 1, none⟩ = some (.int .i64 a0.o) := hn.cell (by go_simp)
  have cb_x0_2 : w7.cell? ⟨w6.heap.size, 2, none⟩ = some (.slice Ax0n a0.nx.length cx0n) := hn.cell (by go_simp)
  have cb_x0_3 : w7.cell? ⟨w6.heap.size, 3, none⟩ = some (.slice Ax0o a0.out.length cx0o) := hn.cell (by go_simp)
  replace hn : New w6 w7 := New.trans (by repeat (first | with_reducible exact New.refl _ | with_reducible assumption | with_reducible refine New.alloc ?_ _ | with_reducible refine New.drew ?_ | with_reducible refine New.drewN ?_ _ | with_reducible refine New.setCell ?_ (by simp <;> omega) _)) hn
  replace cb_aA_0 := hn.cell cb_aA_0
  replace cb_aA_1 := hn.cell cb_aA_1
  replace cb_aA_2 := hn.cell cb_aA_2
  replace cb_aA_3 := hn.cell cb_aA_3
  replace cb_aB_0 := hn.cell cb_aB_0
  replace cb_aB_1 := hn.cell cb_aB_1
  replace cb_aB_2 := hn.cell cb_aB_2
  replace cb_aB_3 := hn.cell cb_aB_3
  replace zb_aA : w.heap.size < w7.heap.size := by omega
  replace zb_aB : w.heap.size + 1 < w7.heap.size := by omega
  replace zb_x0 : w6.heap.size < w7.heap.size := by omega
  replace hN := hN.trans hn
  replace hE := hE.trans hn
  replace ho_x0 := ho_x0.new hn
  obtain ⟨rx1n, rx1o, rfl, hrx1n, hrx1o⟩ := ho_x1.at; obtain ⟨Ax1n, cx1n, rfl⟩ := hrx1n.form; obtain ⟨Ax1o, cx1o, rfl⟩ := hrx1o.form; clear hrx1n hrx1o
  go_wp2_with fail
  refine (HI.out _ _ _ (ho_x0.new (by repeat (first | with_reducible exact New.refl _ | with_reducible assumption | with_reducible refine New.alloc ?_ _ | with_reducible refine New.drew ?_ | with_reducible refine New.drewN ?_ _ | with_reducible refine New.setCell ?_ (by simp <;> omega) _))).at (ho_x1.new (by repeat (first | with_reducible exact New.refl _ | with_reducible assumption | with_reducible refine New.alloc ?_ _ | with_reducible refine New.drew ?_ | with_reducible refine New.drewN ?_ _ | with_reducible refine New.setCell ?_ (by simp <;> omega) _))).at).mono ?_
  rintro e w8 ⟨rfl, hn⟩
  have hz8 := hn.size; try simp only [size_alloc] at hz8
  have cb_x1_0 : w8.cell? ⟨w7.heap.size, 0, none⟩ = some (.int .i64 a1.n) := hn.cell (by go_simp)
  have cb_x1_1 : w8.cell? ⟨w7.heap.size, 1, none⟩ = some (.int .i64 a1.o) := hn.cell (by go_simp)
  have cb_x1_2 : w8.cell? ⟨w7.heap.size, 2, none⟩ = some (.slice Ax1n a1.nx.length cx1n) := hn.cell (by go_simp)
  have cb_x1_3 : w8.cell? ⟨w7.heap.size, 3, none⟩ = some (.slice Ax1o a1.out.length cx1o) := hn.cell (by go_simp)
  replace hn : New w7 w8 := New.trans (by repeat (first | with_reducible exact New.refl _ | with_reducible assumption | with_reducible refine New.alloc ?_ _ | with_reducible refine New.drew ?_ | with_reducible refine New.drewN ?_ _ | with_reducible refine New.setCell ?_ (by simp <;> omega) _)) hn
  replace cb_aA_0 := hn.cell cb_aA_0
  replace cb_aA_1 := hn.cell cb_aA_1
  replace cb_aA_2 := hn.cell cb_aA_2
  replace cb_aA_3 := hn.cell cb_aA_3
  replace cb_aB_0 := hn.cell cb_aB_0
  replace cb_aB_1 := hn.cell cb_aB_1
  replace cb_aB_2 := hn.cell cb_aB_2
  replace cb_aB_3 := hn.cell cb_aB_3
  replace cb_x0_0 := hn.cell cb_x0_0
  replace cb_x0_1 := hn.cell cb_x0_1
  replace cb_x0_2 := hn.cell cb_x0_2
  replace cb_x0_3 := hn.cell cb_x0_3
  replace zb_aA : w.heap.size < w8.heap.size := by omega
  replace zb_aB : w.heap.size + 1 < w8.heap.size := by omega
  replace zb_x0 : w6.heap.size < w8.heap.size := by omega
  replace zb_x1 : w7.heap.size < w8.heap.size := by omega
  replace hN := hN.trans hn
  replace hE := hE.trans hn
  replace ho_x0 := ho_x0.new hn
  replace ho_x1 := ho_x1.new hn
  go_wp2_with fail
  go_region_held3 (fun w' => w'.cell? ⟨w6.heap.size, 0, none⟩ = some (.int .i64 a0.n) ∧ w'.cell? ⟨w6.heap.size, 1, none⟩ = some (.int .i64 a0.o) ∧ w'.cell? ⟨w6.heap.size, 2, none⟩ = some (.slice Ax0n a0.nx.length cx0n) ∧ w'.cell? ⟨w6.heap.size, 3, none⟩ = some (.slice Ax0o a0.out.length cx0o) ∧ w'.cell? ⟨w.heap.size, 0, none⟩ = some (.int .i64 a0.n) ∧ w'.cell? ⟨w.heap.size, 1, none⟩ = some (.int .i64 a0.o) ∧ w'.cell? ⟨w.heap.size, 2, none⟩ = some (.slice AaAn a0.nx.length caAn) ∧ w'.cell? ⟨w.heap.size, 3, none⟩ = some (.slice AaAo a0.out.length caAo))
    (first | go_keep | exact ⟨New.cell hq1 cb_x0_0, New.cell hq1 cb_x0_1, New.cell hq1 cb_x0_2, New.cell hq1 cb_x0_3, New.cell hq1 cb_aA_0, New.cell hq1 cb_aA_1, New.cell hq1 cb_aA_2, New.cell hq1 cb_aA_3⟩ | exact ⟨New.cell hq2 cb_x0_0, New.cell hq2 cb_x0_1, New.cell hq2 cb_x0_2, New.cell hq2 cb_x0_3, New.cell hq2 cb_aA_0, New.cell hq2 cb_aA_1, New.cell hq2 cb_aA_2, New.cell hq2 cb_aA_3⟩)
    (first
      | (go_at_call 17; refine (toMachine_any _ a0 _ (h0.new (hN.trans (New.refl _).drew)) HB_aA.out).mono ?_; rintro e w9 ⟨r3, rfl, hq1, ho3⟩; replace hq1 : New w8 w9 := New.trans (New.refl _).drew hq1; obtain ⟨rq10n, rq10o, rfl, hrq10n, hrq10o⟩ := ho3.at; obtain ⟨Aq10n, cq10n, rfl⟩ := hrq10n.form; obtain ⟨Aq10o, cq10o, rfl⟩ := hrq10o.form; clear hrq10n hrq10o)
      | (go_at_call 19; refine (eqMachine_any _ _ _ _ _ (ho_x0.new hq1).at ho3.at).mono ?_; rintro e w10 ⟨rfl, hq2⟩; replace hq2 : New w8 w10 := New.trans hq1 hq2))
  have hn := hq2
  have hz10 := hn.size; try simp only [size_alloc] at hz10
  replace hn : New w8 w10 := New.trans (by repeat (first | with_reducible exact New.refl _ | with_reducible assumption | with_reducible refine New.alloc ?_ _ | with_reducible refine New.drew ?_ | with_reducible refine New.drewN ?_ _ | with_reducible refine New.setCell ?_ (by simp <;> omega) _)) hn
  replace cb_aA_0 := hn.cell cb_aA_0
  replace cb_aA_1 := hn.cell cb_aA_1
  replace cb_aA_2 := hn.cell cb_aA_2
  replace cb_aA_3 := hn.cell cb_aA_3
  replace cb_aB_0 := hn.cell cb_aB_0
  replace cb_aB_1 := hn.cell cb_aB_1
  replace cb_aB_2 := hn.cell cb_aB_2
  replace cb_aB_3 := hn.cell cb_aB_3
  replace cb_x0_0 := hn.cell cb_x0_0
  replace cb_x0_1 := hn.cell cb_x0_1
  replace cb_x0_2 := hn.cell cb_x0_2
  replace cb_x0_3 := hn.cell cb_x0_3
  replace cb_x1_0 := hn.cell cb_x1_0
  replace cb_x1_1 := hn.cell cb_x1_1
  replace cb_x1_2 := hn.cell cb_x1_2
  replace cb_x1_3 := hn.cell cb_x1_3
  replace zb_aA : w.heap.size < w10.heap.size := by omega
  replace zb_aB : w.heap.size + 1 < w10.heap.size := by omega
  replace zb_x0 : w6.heap.size < w10.heap.size := by omega
  replace zb_x1 : w7.heap.size < w10.heap.size := by omega
  replace hN := hN.trans hn
  replace hE := hE.trans hn
  replace ho_x0 := ho_x0.new hn
  replace ho_x1 := ho_x1.new hn
  clear hq1 hq2 ho3
  go_wp2_with fail
  go_region_held3 (fun w' => w'.cell? ⟨w7.heap.size, 0, none⟩ = some (.int .i64 a1.n) ∧ w'.cell? ⟨w7.heap.size, 1, none⟩ = some (.int .i64 a1.o) ∧ w'.cell? ⟨w7.heap.size, 2, none⟩ = some (.slice Ax1n a1.nx.length cx1n) ∧ w'.cell? ⟨w7.heap.size, 3, none⟩ = some (.slice Ax1o a1.out.length cx1o) ∧ w'.cell? ⟨w.heap.size + 1, 0, none⟩ = some (.int .i64 a1.n) ∧ w'.cell? ⟨w.heap.size + 1, 1, none⟩ = some (.int .i64 a1.o) ∧ w'.cell? ⟨w.heap.size + 1, 2, none⟩ = some (.slice AaBn a1.nx.length caBn) ∧ w'.cell? ⟨w.heap.size + 1, 3, none⟩ = some (.slice AaBo a1.out.length caBo))
    (first | go_keep | exact ⟨New.cell hq1 cb_x1_0, New.cell hq1 cb_x1_1, New.cell hq1 cb_x1_2, New.cell hq1 cb_x1_3, New.cell hq1 cb_aB_0, New.cell hq1 cb_aB_1, New.cell hq1 cb_aB_2, New.cell hq1 cb_aB_3⟩ | exact ⟨New.cell hq2 cb_x1_0, New.cell hq2 cb_x1_1, New.cell hq2 cb_x1_2, New.cell hq2 cb_x1_3, New.cell hq2 cb_aB_0, New.cell hq2 cb_aB_1, New.cell hq2 cb_aB_2, New.cell hq2 cb_aB_3⟩)
    (first
      | (go_at_call 17; refine (toMachine_any _ a1 _ (h1.new (hN.trans (New.refl _).drew)) HB_aB.out).mono ?_; rintro e w11 ⟨r3, rfl, hq1, ho3⟩; replace hq1 : New w10 w11 := New.trans (New.refl _).drew hq1; obtain ⟨rq12n, rq12o, rfl, hrq12n, hrq12o⟩ := ho3.at; obtain ⟨Aq12n, cq12n, rfl⟩ := hrq12n.form; obtain ⟨Aq12o, cq12o, rfl⟩ := hrq12o.form; clear hrq12n hrq12o)
      | (go_at_call 19; refine (eqMachine_any _ _ _ _ _ (ho_x1.new hq1).at ho3.at).mono ?_; rintro e w12 ⟨rfl, hq2⟩; replace hq2 : New w10 w12 := New.trans hq1 hq2))
  have hn := hq2
  have hz12 := hn.size; try simp only [size_alloc] at hz12
  replace hn : New w10 w12 := New.trans (by repeat (first | with_reducible exact New.refl _ | with_reducible assumption | with_reducible refine New.alloc ?_ _ | with_reducible refine New.drew ?_ | with_reducible refine New.drewN ?_ _ | with_reducible refine New.setCell ?_ (by simp <;> omega) _)) hn
  replace cb_aA_0 := hn.cell cb_aA_0
  replace cb_aA_1 := hn.cell cb_aA_1
  replace cb_aA_2 := hn.cell cb_aA_2
  replace cb_aA_3 := hn.cell cb_aA_3
  replace cb_aB_0 := hn.cell cb_aB_0
  replace cb_aB_1 := hn.cell cb_aB_1
  replace cb_aB_2 := hn.cell cb_aB_2
  replace cb_aB_3 := hn.cell cb_aB_3
  replace cb_x0_0 := hn.cell cb_x0_0
  replace cb_x0_1 := hn.cell cb_x0_1
  replace cb_x0_2 := hn.cell cb_x0_2
  replace cb_x0_3 := hn.cell cb_x0_3
  replace cb_x1_0 := hn.cell cb_x1_0
  replace cb_x1_1 := hn.cell cb_x1_1
  replace cb_x1_2 := hn.cell cb_x1_2
  replace cb_x1_3 := hn.cell cb_x1_3
  replace zb_aA : w.heap.size < w12.heap.size := by omega
  replace zb_aB : w.heap.size + 1 < w12.heap.size := by omega
  replace zb_x0 : w6.heap.size < w12.heap.size := by omega
  replace zb_x1 : w7.heap.size < w12.heap.size := by omega
  replace hN := hN.trans hn
  replace hE := hE.trans hn
  replace ho_x0 := ho_x0.new hn
  replace ho_x1 := ho_x1.new hn
  clear hq1 hq2 ho3
  go_wp2_with fail
  go_ret
  exact ⟨rfl, hN⟩

end Go.Proofs.Ytgkapgmgmekceaa
