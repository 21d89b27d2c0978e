/- The law of MachineDifference answers true, whatever its two functions return, if they return the same. -/
import Derived.Test.YtcjmcpfdpnakkaaRows
import Derived.Test.YtcjmcpfdpnakkaaBase
import Derived.Test.YtcjmcpfdpnakkaaAut
import Derived.Test.YtcjmcpfdpnakkaaMach
import Derived.Test.YtcjmcpfdpnakkaaLInts
import Derived.Test.YtcjmcpfdpnakkaaLMach
import Derived.Test.YtcjmcpfdpnakkaaMInts
import Derived.Test.YtcjmcpfdpnakkaaMMach
import Derived.WalkKit
import Derived.WalkSpells
import Derived.WalkLawsBesides
import Derived.Deep.QuietTactic
import Derived.Deep.OwnRows
import Derived.BigQuiet
import Derived.KernelRfl
import Derived.Deep.RegionHeld3
namespace Go.Proofs.Ytcjmcpfdpnakkaa
open Go.RowKit

set_option maxRecDepth 100000 in
set_option maxHeartbeats 4000000 in
theorem FnExactMachineDifference_walk (v0 v1 : Value) (a0 : Mach) (a1 : Mach) (r0 : List Int) (r1 : Int) (w : World) (h0 : MachAt w v0 a0) (h1 : MachAt w v1 a1)
    (HS : ∀ (w : World) (u0 u1 : Value), MachAt w u0 a0 → MachAt w u1 a1 → Calls Try.prog 16 #[u0, u1] w fun e w' => ∃ x0, e = .returned (.tuple #[x0, .int .i64 r1]) ∧ New w w' ∧ OwnInts w.heap.size w'.heap.size w' x0 r0)
    (HI : ∀ (w : World) (u0 u1 : Value), MachAt w u0 a0 → MachAt w u1 a1 → Calls Try.prog 18 #[u0, u1] w fun e w' => ∃ x0, e = .returned (.tuple #[x0, .int .i64 r1]) ∧ New w w' ∧ OwnInts w.heap.size w'.heap.size w' x0 r0) (hd0 : r0.length ≤ 1048576) :
    Calls Try.prog 3 #[v0, v1] w fun e w' => e = .returned (.bool true) ∧ New w w' := by
  replace HS := hid HS
  replace HI := hid HI
  obtain ⟨raAn, raAo, rfl, hraAn, hraAo⟩ := id h0; obtain ⟨AaAn, caAn, rfl⟩ := hraAn.form; obtain ⟨AaAo, caAo, rfl⟩ := hraAo.form; clear hraAn hraAo
  obtain ⟨raBn, raBo, rfl, hraBn, hraBo⟩ := id h1; obtain ⟨AaBn, caBn, rfl⟩ := hraBn.form; obtain ⟨AaBo, caBo, rfl⟩ := hraBo.form; clear hraBn hraBo
  have hbd_aA := szMach_bound a0 1048576 (by omega)
  by_cases hs_aA : szMach a0 1048576 < 0
  · go_enter Try.func3, Try.ntmps3
    go_wp2_with fail
    refine (szMachine_any _ a0 _ _ (h0.new (by repeat (first | with_reducible exact New.refl _ | with_reducible assumption | with_reducible refine New.alloc ?_ _ | with_reducible refine New.drew ?_ | with_reducible refine New.drewN ?_ _ | with_reducible refine New.setCell ?_ (by simp <;> omega) _))) (by omega) (by omega)).mono ?_
    rintro e w1 ⟨rfl, hn⟩
    have cb_aA_0 : w1.cell? ⟨w.heap.size, 0, none⟩ = some (.int .i64 a0.n) := hn.cell (by go_simp)
    have cb_aA_1 : w1.cell? ⟨w.heap.size, 1, none⟩ = some (.int .i64 a0.o) := hn.cell (by go_simp)
    have cb_aA_2 : w1.cell? ⟨w.heap.size, 2, none⟩ = some (.slice AaAn a0.nx.length caAn) := hn.cell (by go_simp)
    have cb_aA_3 : w1.cell? ⟨w.heap.size, 3, none⟩ = some (.slice AaAo a0.out.length caAo) := hn.cell (by go_simp)
    have cb_aB_0 : w1.cell? ⟨w.heap.size + 1, 0, none⟩ = some (.int .i64 a1.n) := hn.cell (by go_simp)
    have cb_aB_1 : w1.cell? ⟨w.heap.size + 1, 1, none⟩ = some (.int .i64 a1.o) := hn.cell (by go_simp)
    have cb_aB_2 : w1.cell? ⟨w.heap.size + 1, 2, none⟩ = some (.slice AaBn a1.nx.length caBn) := hn.cell (by go_simp)
    have cb_aB_3 : w1.cell? ⟨w.heap.size + 1, 3, none⟩ = some (.slice AaBo a1.out.length caBo) := hn.cell (by go_simp)
    have hN : New w w1 := New.trans (by repeat (first | with_reducible exact New.refl _ | with_reducible assumption | with_reducible refine New.alloc ?_ _ | with_reducible refine New.drew ?_ | with_reducible refine New.drewN ?_ _ | with_reducible refine New.setCell ?_ (by simp <;> omega) _)) hn
    go_wp2_with fail
    go_ret
    exact ⟨rfl, hN⟩
  have hbd_aB := szMach_bound a1 (szMach a0 1048576) (by omega)
  by_cases hs_aB : szMach a1 (szMach a0 1048576) < 0
  · go_enter Try.func3, Try.ntmps3
    go_wp2_with fail
    refine (szMachine_any _ a0 _ _ (h0.new (by repeat (first | with_reducible exact New.refl _ | with_reducible assumption | with_reducible refine New.alloc ?_ _ | with_reducible refine New.drew ?_ | with_reducible refine New.drewN ?_ _ | with_reducible refine New.setCell ?_ (by simp <;> omega) _))) (by omega) (by omega)).mono ?_
    rintro e w1 ⟨rfl, hn⟩
    have cb_aA_0 : w1.cell? ⟨w.heap.size, 0, none⟩ = some (.int .i64 a0.n) := hn.cell (by go_simp)
    have cb_aA_1 : w1.cell? ⟨w.heap.size, 1, none⟩ = some (.int .i64 a0.o) := hn.cell (by go_simp)
    have cb_aA_2 : w1.cell? ⟨w.heap.size, 2, none⟩ = some (.slice AaAn a0.nx.length caAn) := hn.cell (by go_simp)
    have cb_aA_3 : w1.cell? ⟨w.heap.size, 3, none⟩ = some (.slice AaAo a0.out.length caAo) := hn.cell (by go_simp)
    have cb_aB_0 : w1.cell? ⟨w.heap.size + 1, 0, none⟩ = some (.int .i64 a1.n) := hn.cell (by go_simp)
    have cb_aB_1 : w1.cell? ⟨w.heap.size + 1, 1, none⟩ = some (.int .i64 a1.o) := hn.cell (by go_simp)
    have cb_aB_2 : w1.cell? ⟨w.heap.size + 1, 2, none⟩ = some (.slice AaBn a1.nx.length caBn) := hn.cell (by go_simp)
    have cb_aB_3 : w1.cell? ⟨w.heap.size + 1, 3, none⟩ = some (.slice AaBo a1.out.length caBo) := hn.cell (by go_simp)
    have hN : New w w1 := New.trans (by repeat (first | with_reducible exact New.refl _ | with_reducible assumption | with_reducible refine New.alloc ?_ _ | with_reducible refine New.drew ?_ | with_reducible refine New.drewN ?_ _ | with_reducible refine New.setCell ?_ (by simp <;> omega) _)) hn
    go_wp2_with fail
    refine (szMachine_any _ a1 _ _ (h1.new (New.trans hN (by repeat (first | with_reducible exact New.refl _ | with_reducible assumption | with_reducible refine New.alloc ?_ _ | with_reducible refine New.drew ?_ | with_reducible refine New.drewN ?_ _ | with_reducible refine New.setCell ?_ (by simp <;> omega) _)))) (by omega) (by omega)).mono ?_
    rintro e w2 ⟨rfl, hn⟩
    replace cb_aA_0 := hn.cell cb_aA_0
    replace cb_aA_1 := hn.cell cb_aA_1
    replace cb_aA_2 := hn.cell cb_aA_2
    replace cb_aA_3 := hn.cell cb_aA_3
    replace cb_aB_0 := hn.cell cb_aB_0
    replace cb_aB_1 := hn.cell cb_aB_1
    replace cb_aB_2 := hn.cell cb_aB_2
    replace cb_aB_3 := hn.cell cb_aB_3
    replace hN := hN.trans hn
    go_wp2_with fail
    go_ret
    exact ⟨rfl, hN⟩
  have HB_aA := hid (szMach_len a0 1048576 (by omega) (by omega))
  have ht_aA : a0.size ≤ 1048576 := HB_aA.out.2.2.2.2
  have HB_aB := hid (szMach_len a1 (szMach a0 1048576) (by omega) (by omega))
  have ht_aB : a1.size ≤ 1048576 := HB_aB.out.2.2.2.2
  go_enter Try.func3, Try.ntmps3
  go_wp2_with fail
  refine (szMachine_any _ a0 _ _ (h0.new (by repeat (first | with_reducible exact New.refl _ | with_reducible assumption | with_reducible refine New.alloc ?_ _ | with_reducible refine New.drew ?_ | with_reducible refine New.drewN ?_ _ | with_reducible refine New.setCell ?_ (by simp <;> omega) _))) (by omega) (by omega)).mono ?_
  rintro e w1 ⟨rfl, hn⟩
  have hz1 := hn.size; try simp only [size_alloc] at hz1
  have cb_aA_0 : w1.cell? ⟨w.heap.size, 0, none⟩ = some (.int .i64 a0.n) := hn.cell (by go_simp)
  have cb_aA_1 : w1.cell? ⟨w.heap.size, 1, none⟩ = some (.int .i64 a0.o) := hn.cell (by go_simp)
  have cb_aA_2 : w1.cell? ⟨w.heap.size, 2, none⟩ = some (.slice AaAn a0.nx.length caAn) := hn.cell (by go_simp)
  have cb_aA_3 : w1.cell? ⟨w.heap.size, 3, none⟩ = some (.slice AaAo a0.out.length caAo) := hn.cell (by go_simp)
  have cb_aB_0 : w1.cell? ⟨w.heap.size + 1, 0, none⟩ = some (.int .i64 a1.n) := hn.cell (by go_simp)
  have cb_aB_1 : w1.cell? ⟨w.heap.size + 1, 1, none⟩ = some (.int .i64 a1.o) := hn.cell (by go_simp)
  have cb_aB_2 : w1.cell? ⟨w.heap.size + 1, 2, none⟩ = some (.slice AaBn a1.nx.length caBn) := hn.cell (by go_simp)
  have cb_aB_3 : w1.cell? ⟨w.heap.size + 1, 3, none⟩ = some (.slice AaBo a1.out.length caBo) := hn.cell (by go_simp)
  replace hn : New w w1 := New.trans (by repeat (first | with_reducible exact New.refl _ | with_reducible assumption | with_reducible refine New.alloc ?_ _ | with_reducible refine New.drew ?_ | with_reducible refine New.drewN ?_ _ | with_reducible refine New.setCell ?_ (by simp <;> omega) _)) hn
  replace zb_aA : w.heap.size < w1.heap.size := by omega
  replace zb_aB : w.heap.size + 1 < w1.heap.size := by omega
  have hN := hn
  go_wp2_with fail
  refine (szMachine_any _ a1 _ _ (h1.new (New.trans hN (by repeat (first | with_reducible exact New.refl _ | with_reducible assumption | with_reducible refine New.alloc ?_ _ | with_reducible refine New.drew ?_ | with_reducible refine New.drewN ?_ _ | with_reducible refine New.setCell ?_ (by simp <;> omega) _)))) (by omega) (by omega)).mono ?_
  rintro e w2 ⟨rfl, hn⟩
  have hz2 := hn.size; try simp only [size_alloc] at hz2
  replace hn : New w1 w2 := New.trans (by repeat (first | with_reducible exact New.refl _ | with_reducible assumption | with_reducible refine New.alloc ?_ _ | with_reducible refine New.drew ?_ | with_reducible refine New.drewN ?_ _ | with_reducible refine New.setCell ?_ (by simp <;> omega) _)) hn
  replace cb_aA_0 := hn.cell cb_aA_0
  replace cb_aA_1 := hn.cell cb_aA_1
  replace cb_aA_2 := hn.cell cb_aA_2
  replace cb_aA_3 := hn.cell cb_aA_3
  replace cb_aB_0 := hn.cell cb_aB_0
  replace cb_aB_1 := hn.cell cb_aB_1
  replace cb_aB_2 := hn.cell cb_aB_2
  replace cb_aB_3 := hn.cell cb_aB_3
  replace zb_aA : w.heap.size < w2.heap.size := by omega
  replace zb_aB : w.heap.size + 1 < w2.heap.size := by omega
  replace hN := hN.trans hn
  go_wp2_with fail
  go_region_held3 (fun w' => w'.cell? ⟨w.heap.size, 0, none⟩ = some (.int .i64 a0.n) ∧ w'.cell? ⟨w.heap.size, 1, none⟩ = some (.int .i64 a0.o) ∧ w'.cell? ⟨w.heap.size, 2, none⟩ = some (.slice AaAn a0.nx.length caAn) ∧ w'.cell? ⟨w.heap.size, 3, none⟩ = some (.slice AaAo a0.out.length caAo) ∧ w'.cell? ⟨w.heap.size + 1, 0, none⟩ = some (.int .i64 a1.n) ∧ w'.cell? ⟨w.heap.size + 1, 1, none⟩ = some (.int .i64 a1.o) ∧ w'.cell? ⟨w.heap.size + 1, 2, none⟩ = some (.slice AaBn a1.nx.length caBn) ∧ w'.cell? ⟨w.heap.size + 1, 3, none⟩ = some (.slice AaBo a1.out.length caBo))
    (first | go_keep | exact ⟨New.cell hq3 cb_aA_0, New.cell hq3 cb_aA_1, New.cell hq3 cb_aA_2, New.cell hq3 cb_aA_3, New.cell hq3 cb_aB_0, New.cell hq3 cb_aB_1, New.cell hq3 cb_aB_2, New.cell hq3 cb_aB_3⟩ | exact ⟨New.cell hq4 cb_aA_0, New.cell hq4 cb_aA_1, New.cell hq4 cb_aA_2, New.cell hq4 cb_aA_3, New.cell hq4 cb_aB_0, New.cell hq4 cb_aB_1, New.cell hq4 cb_aB_2, New.cell hq4 cb_aB_3⟩ | exact ⟨New.cell hq5 cb_aA_0, New.cell hq5 cb_aA_1, New.cell hq5 cb_aA_2, New.cell hq5 cb_aA_3, New.cell hq5 cb_aB_0, New.cell hq5 cb_aB_1, New.cell hq5 cb_aB_2, New.cell hq5 cb_aB_3⟩)
    (first
      | (go_at_call_of 17 AaAn; refine (toMachine_any _ a0 _ (h0.new (hN.trans (New.refl _).drew)) HB_aA.out).mono ?_; rintro e w3 ⟨v_d3, rfl, hr3, ho_d3⟩; have hq3 : New w2 w3 := New.trans (New.refl _).drew hr3; obtain ⟨rd3n, rd3o, rfl, hrd3n, hrd3o⟩ := ho_d3.at; obtain ⟨Ad3n, cd3n, rfl⟩ := hrd3n.form; obtain ⟨Ad3o, cd3o, rfl⟩ := hrd3o.form; clear hrd3n hrd3o)
      | (go_at_call_of 17 AaBn; refine (toMachine_any _ a1 _ (h1.new (hN.trans hq3)) HB_aB.out).mono ?_; rintro e w4 ⟨v_d4, rfl, hr4, ho_d4⟩; have hq4 : New w2 w4 := New.trans hq3 hr4; obtain ⟨rd4n, rd4o, rfl, hrd4n, hrd4o⟩ := ho_d4.at; obtain ⟨Ad4n, cd4n, rfl⟩ := hrd4n.form; obtain ⟨Ad4o, cd4o, rfl⟩ := hrd4o.form; clear hrd4n hrd4o)
      | (go_at_call 16; refine (HS.out _ _ _ (ho_d3.new hr4).at ho_d4.at).mono ?_; rintro e w5 ⟨u_w0, rfl, hr5, ho_w0⟩; have hq5 : New w2 w5 := New.trans hq4 hr5))
  have hn := hq5
  replace ho_w0 := ho_w0.widen (B' := w2.heap.size) hq4.size (Nat.le_refl _)
  have hz5 := hn.size; try simp only [size_alloc] at hz5
  replace hn : New w2 w5 := New.trans (by repeat (first | with_reducible exact New.refl _ | with_reducible assumption | with_reducible refine New.alloc ?_ _ | with_reducible refine New.drew ?_ | with_reducible refine New.drewN ?_ _ | with_reducible refine New.setCell ?_ (by simp <;> omega) _)) hn
  replace cb_aA_0 := hn.cell cb_aA_0
  replace cb_aA_1 := hn.cell cb_aA_1
  replace cb_aA_2 := hn.cell cb_aA_2
  replace cb_aA_3 := hn.cell cb_aA_3
  replace cb_aB_0 := hn.cell cb_aB_0
  replace cb_aB_1 := hn.cell cb_aB_1
  replace cb_aB_2 := hn.cell cb_aB_2
  replace cb_aB_3 := hn.cell cb_aB_3
  replace zb_aA : w.heap.size < w5.heap.size := by omega
  replace zb_aB : w.heap.size + 1 < w5.heap.size := by omega
  replace hN := hN.trans hn
  replace ho_w0 := ho_w0.at
  have hE := New.refl w5
  obtain ⟨Aw0, cw0, rfl⟩ := ho_w0.form
  clear ho_d3
  clear ho_d4
  go_wp2_with fail
  refine (toMachine_any _ a0 _ (h0.new (New.trans hN (by repeat (first | with_reducible exact New.refl _ | with_reducible assumption | with_reducible refine New.alloc ?_ _ | with_reducible refine New.drew ?_ | with_reducible refine New.drewN ?_ _ | with_reducible refine New.setCell ?_ (by simp <;> omega) _)))) HB_aA.out).mono ?_
  rintro e w6 ⟨v_x0, rfl, hn, ho_x0⟩
  replace ho_x0 := ho_x0.widen (B' := w5.heap.size) (by (try simp only [sizes]) <;> omega) (Nat.le_refl _)
  have hz6 := hn.size; try simp only [size_alloc] at hz6
  replace hn : New w5 w6 := New.trans (by repeat (first | with_reducible exact New.refl _ | with_reducible assumption | with_reducible refine New.alloc ?_ _ | with_reducible refine New.drew ?_ | with_reducible refine New.drewN ?_ _ | with_reducible refine New.setCell ?_ (by simp <;> omega) _)) hn
  replace cb_aA_0 := hn.cell cb_aA_0
  replace cb_aA_1 := hn.cell cb_aA_1
  replace cb_aA_2 := hn.cell cb_aA_2
  replace cb_aA_3 := hn.cell cb_aA_3
  replace cb_aB_0 := hn.cell cb_aB_0
  replace cb_aB_1 := hn.cell cb_aB_1
  replace cb_aB_2 := hn.cell cb_aB_2
  replace cb_aB_3 := hn.cell cb_aB_3
  replace zb_aA : w.heap.size < w6.heap.size := by omega
  replace zb_aB : w.heap.size + 1 < w6.heap.size := by omega
  replace hN := hN.trans hn
  replace hE := hE.trans hn
  obtain ⟨rx0n, rx0o, rfl, hrx0n, hrx0o⟩ := ho_x0.at; obtain ⟨Ax0n, cx0n, rfl⟩ := hrx0n.form; obtain ⟨Ax0o, cx0o, rfl⟩ := hrx0o.form; clear hrx0n hrx0o
  go_wp2_with fail
  refine (toMachine_any _ a1 _ (h1.new (New.trans hN (by repeat (first | with_reducible exact New.refl _ | with_reducible assumption | with_reducible refine New.alloc ?_ _ | with_reducible refine New.drew ?_ | with_reducible refine New.drewN ?_ _ | with_reducible refine New.setCell ?_ (by simp <;> omega) _)))) HB_aB.out).mono ?_
  rintro e w7 ⟨v_x1, rfl, hn, ho_x1⟩
  replace ho_x1 := ho_x1.widen (B' := w6.heap.size + 1) (by (try simp only [sizes]) <;> omega) (Nat.le_refl _)
  have hz7 := hn.size; try simp only [size_alloc] at hz7
  have cb_x0_0 : w7.cell? ⟨w6.heap.size, 0, none⟩ = some (.int .i64 a0.n) := hn.cell (by go_simp)
  have cb_x0_1 : w7.cell? ⟨w6.heap.size, 1, none⟩ = some (.int .i64 a0.o) := hn.cell (by go_simp)
  have cb_x0_2 : w7.cell? ⟨w6.heap.size, 2, none⟩ = some (.slice Ax0n a0.nx.length cx0n) := hn.cell (by go_simp)
  have cb_x0_3 : w7.cell? ⟨w6.heap.size, 3, none⟩ = some (.slice Ax0o a0.out.length cx0o) := hn.cell (by go_simp)
  replace hn : New w6 w7 := New.trans (by repeat (first | with_reducible exact New.refl _ | with_reducible assumption | with_reducible refine New.alloc ?_ _ | with_reducible refine New.drew ?_ | with_reducible refine New.drewN ?_ _ | with_reducible refine New.setCell ?_ (by simp <;> omega) _)) hn
  replace cb_aA_0 := hn.cell cb_aA_0
  replace cb_aA_1 := hn.cell cb_aA_1
  replace cb_aA_2 := hn.cell cb_aA_2
  replace cb_aA_3 := hn.cell cb_aA_3
  replace cb_aB_0 := hn.cell cb_aB_0
  replace cb_aB_1 := hn.cell cb_aB_1
  replace cb_aB_2 := hn.cell cb_aB_2
  replace cb_aB_3 := hn.cell cb_aB_3
  replace zb_aA : w.heap.size < w7.heap.size := by omega
  replace zb_aB : w.heap.size + 1 < w7.heap.size := by omega
  replace zb_x0 : w6.heap.size < w7.heap.size := by omega
  replace hN := hN.trans hn
  replace hE := hE.trans hn
  replace ho_x0 := ho_x0.new hn
  obtain ⟨rx1n, rx1o, rfl, hrx1n, hrx1o⟩ := ho_x1.at; obtain ⟨Ax1n, cx1n, rfl⟩ := hrx1n.form; obtain ⟨Ax1o, cx1o, rfl⟩ := hrx1o.form; clear hrx1n hrx1o
  go_wp2_with fail
  refine (HI.out _ _ _ (ho_x0.new (by repeat (first | with_reducible exact New.refl _ | with_reducible assumption | with_reducible refine New.alloc ?_ _ | with_reducible refine New.drew ?_ | with_reducible refine New.drewN ?_ _ | with_reducible refine New.setCell ?_ (by simp <;> omega) _))).at (ho_x1.new (by repeat (first | with_reducible exact New.refl _ | with_reducible assumption | with_reducible refine New.alloc ?_ _ | with_reducible refine New.drew ?_ | with_reducible refine New.drewN ?_ _ | with_reducible refine New.setCell ?_ (by simp <;> omega) _))).at).mono ?_
  rintro e w8 ⟨u_g0, rfl, hn, ho_g0⟩
  replace ho_g0 := ho_g0.widen (B' := w7.heap.size + 1) (by (try simp only [sizes]) <;> omega) (Nat.le_refl _)
  have hz8 := hn.size; try simp only [size_alloc] at hz8
  have cb_x1_0 : w8.cell? ⟨w7.heap.size, 0, none⟩ = some (.int .i64 a1.n) := hn.cell (by go_simp)
  have cb_x1_1 : w8.cell? ⟨w7.heap.size, 1, none⟩ = some (.int .i64 a1.o) := hn.cell (by go_simp)
  have cb_x1_2 : w8.cell? ⟨w7.heap.size, 2, none⟩ = some (.slice Ax1n a1.nx.length cx1n) := hn.cell (by go_simp)
  have cb_x1_3 : w8.cell? ⟨w7.heap.size, 3, none⟩ = some (.slice Ax1o a1.out.length cx1o) := hn.cell (by go_simp)
  replace hn : New w7 w8 := New.trans (by repeat (first | with_reducible exact New.refl _ | with_reducible assumption | with_reducible refine New.alloc ?_ _ | with_reducible refine New.drew ?_ | with_reducible refine New.drewN ?_ _ | with_reducible refine New.setCell ?_ (by simp <;> omega) _)) hn
  replace cb_aA_0 := hn.cell cb_aA_0
  replace cb_aA_1 := hn.cell cb_aA_1
  replace cb_aA_2 := hn.cell cb_aA_2
  replace cb_aA_3 := hn.cell cb_aA_3
  replace cb_aB_0 := hn.cell cb_aB_0
  replace cb_aB_1 := hn.cell cb_aB_1
  replace cb_aB_2 := hn.cell cb_aB_2
  replace cb_aB_3 := hn.cell cb_aB_3
  replace cb_x0_0 := hn.cell cb_x0_0
  replace cb_x0_1 := hn.cell cb_x0_1
  replace cb_x0_2 := hn.cell cb_x0_2
  replace cb_x0_3 := hn.cell cb_x0_3
  replace zb_aA : w.heap.size < w8.heap.size := by omega
  replace zb_aB : w.heap.size + 1 < w8.heap.size := by omega
  replace zb_x0 : w6.heap.size < w8.heap.size := by omega
  replace zb_x1 : w7.heap.size < w8.heap.size := by omega
  replace hN := hN.trans hn
  replace hE := hE.trans hn
  replace ho_x0 := ho_x0.new hn
  replace ho_x1 := ho_x1.new hn
  obtain ⟨Ag0, cg0, rfl⟩ := ho_g0.form
  go_wp2_with fail
  refine (eqInt64S_any _ _ _ _ _ (ho_g0.new (by repeat (first | with_reducible exact New.refl _ | with_reducible assumption | with_reducible refine New.alloc ?_ _ | with_reducible refine New.drew ?_ | with_reducible refine New.drewN ?_ _ | with_reducible refine New.setCell ?_ (by simp <;> omega) _))).at ((ho_w0.new hE).new (by repeat (first | with_reducible exact New.refl _ | with_reducible assumption | with_reducible refine New.alloc ?_ _ | with_reducible refine New.drew ?_ | with_reducible refine New.drewN ?_ _ | with_reducible refine New.setCell ?_ (by simp <;> omega) _)))).mono ?_
  rintro e w9 ⟨rfl, hn⟩
  have hz9 := hn.size; try simp only [size_alloc] at hz9
  replace hn : New w8 w9 := New.trans (by repeat (first | with_reducible exact New.refl _ | with_reducible assumption | with_reducible refine New.alloc ?_ _ | with_reducible refine New.drew ?_ | with_reducible refine New.drewN ?_ _ | with_reducible refine New.setCell ?_ (by simp <;> omega) _)) hn
  replace cb_aA_0 := hn.cell cb_aA_0
  replace cb_aA_1 := hn.cell cb_aA_1
  replace cb_aA_2 := hn.cell cb_aA_2
  replace cb_aA_3 := hn.cell cb_aA_3
  replace cb_aB_0 := hn.cell cb_aB_0
  replace cb_aB_1 := hn.cell cb_aB_1
  replace cb_aB_2 := hn.cell cb_aB_2
  replace cb_aB_3 := hn.cell cb_aB_3
  replace cb_x0_0 := hn.cell cb_x0_0
  replace cb_x0_1 := hn.cell cb_x0_1
  replace cb_x0_2 := hn.cell cb_x0_2
  replace cb_x0_3 := hn.cell cb_x0_3
  replace cb_x1_0 := hn.cell cb_x1_0
  replace cb_x1_1 := hn.cell cb_x1_1
  replace cb_x1_2 := hn.cell cb_x1_2
  replace cb_x1_3 := hn.cell cb_x1_3
  replace zb_aA : w.heap.size < w9.heap.size := by omega
  replace zb_aB : w.heap.size + 1 < w9.heap.size := by omega
  replace zb_x0 : w6.heap.size < w9.heap.size := by omega
  replace zb_x1 : w7.heap.size < w9.heap.size := by omega
  replace hN := hN.trans hn
  replace hE := hE.trans hn
  replace ho_x0 := ho_x0.new hn
  replace ho_x1 := ho_x1.new hn
  replace ho_g0 := ho_g0.new hn
  go_wp2_with fail
  go_region_held3 (fun w' => w'.cell? ⟨w6.heap.size, 0, none⟩ = some (.int .i64 a0.n) ∧ w'.cell? ⟨w6.heap.size, 1, none⟩ = some (.int .i64 a0.o) ∧ w'.cell? ⟨w6.heap.size, 2, none⟩ = some (.slice Ax0n a0.nx.length cx0n) ∧ w'.cell? ⟨w6.heap.size, 3, none⟩ = some (.slice Ax0o a0.out.length cx0o) ∧ w'.cell? ⟨w.heap.size, 0, none⟩ = some (.int .i64 a0.n) ∧ w'.cell? ⟨w.heap.size, 1, none⟩ = some (.int .i64 a0.o) ∧ w'.cell? ⟨w.heap.size, 2, none⟩ = some (.slice AaAn a0.nx.length caAn) ∧ w'.cell? ⟨w.heap.size, 3, none⟩ = some (.slice AaAo a0.out.length caAo))
    (first | go_keep | exact ⟨New.cell hq1 cb_x0_0, New.cell hq1 cb_x0_1, New.cell hq1 cb_x0_2, New.cell hq1 cb_x0_3, New.cell hq1 cb_aA_0, New.cell hq1 cb_aA_1, New.cell hq1 cb_aA_2, New.cell hq1 cb_aA_3⟩ | exact ⟨New.cell hq2 cb_x0_0, New.cell hq2 cb_x0_1, New.cell hq2 cb_x0_2, New.cell hq2 cb_x0_3, New.cell hq2 cb_aA_0, New.cell hq2 cb_aA_1, New.cell hq2 cb_aA_2, New.cell hq2 cb_aA_3⟩)
    (first
      | (go_at_call 17; refine (toMachine_any _ a0 _ (h0.new (hN.trans (New.refl _).drew)) HB_aA.out).mono ?_; rintro e w10 ⟨r3, rfl, hq1, ho3⟩; replace hq1 : New w9 w10 := New.trans (New.refl _).drew hq1; obtain ⟨rq11n, rq11o, rfl, hrq11n, hrq11o⟩ := ho3.at; obtain ⟨Aq11n, cq11n, rfl⟩ := hrq11n.form; obtain ⟨Aq11o, cq11o, rfl⟩ := hrq11o.form; clear hrq11n hrq11o)
      | (go_at_call 20; refine (eqMachine_any _ _ _ _ _ (ho_x0.new hq1).at ho3.at).mono ?_; rintro e w11 ⟨rfl, hq2⟩; replace hq2 : New w9 w11 := New.trans hq1 hq2))
  have hn := hq2
  have hz11 := hn.size; try simp only [size_alloc] at hz11
  replace hn : New w9 w11 := New.trans (by repeat (first | with_reducible exact New.refl _ | with_reducible assumption | with_reducible refine New.alloc ?_ _ | with_reducible refine New.drew ?_ | with_reducible refine New.drewN ?_ _ | with_reducible refine New.setCell ?_ (by simp <;> omega) _)) hn
  replace cb_aA_0 := hn.cell cb_aA_0
  replace cb_aA_1 := hn.cell cb_aA_1
  replace cb_aA_2 := hn.cell cb_aA_2
  replace cb_aA_3 := hn.cell cb_aA_3
  replace cb_aB_0 := hn.cell cb_aB_0
  replace cb_aB_1 := hn.cell cb_aB_1
  replace cb_aB_2 := hn.cell cb_aB_2
  replace cb_aB_3 := hn.cell cb_aB_3
  replace cb_x0_0 := hn.cell cb_x0_0
  replace cb_x0_1 := hn.cell cb_x0_1
  replace cb_x0_2 := hn.cell cb_x0_2
  replace cb_x0_3 := hn.cell cb_x0_3
  replace cb_x1_0 := hn.cell cb_x1_0
  replace cb_x1_1 := hn.cell cb_x1_1
  replace cb_x1_2 := hn.cell cb_x1_2
  replace cb_x1_3 := hn.cell cb_x1_3
  replace zb_aA : w.heap.size < w11.heap.size := by omega
  replace zb_aB : w.heap.size + 1 < w11.heap.size := by omega
  replace zb_x0 : w6.heap.size < w11.heap.size := by omega
  replace zb_x1 : w7.heap.size < w11.heap.size := by omega
  replace hN := hN.trans hn
  replace hE := hE.trans hn
  replace ho_x0 := ho_x0.new hn
  replace ho_x1 := ho_x1.new hn
  replace ho_g0 := ho_g0.new hn
  clear hq1 hq2 ho3
  go_wp2_with fail
  go_region_held3 (fun w' => w'.cell? ⟨w7.heap.size, 0, none⟩ = some (.int .i64 a1.n) ∧ w'.cell? ⟨w7.heap.size, 1, none⟩ = some (.int .i64 a1.o) ∧ w'.cell? ⟨w7.heap.size, 2, none⟩ = some (.slice Ax1n a1.nx.length cx1n) ∧ w'.cell? ⟨w7.heap.size, 3, none⟩ = some (.slice Ax1o a1.out.length cx1o) ∧ w'.cell? ⟨w.heap.size + 1, 0, none⟩ = some (.int .i64 a1.n) ∧ w'.cell? ⟨w.heap.size + 1, 1, none⟩ = some (.int .i64 a1.o) ∧ w'.cell? ⟨w.heap.size + 1, 2, none⟩ = some (.slice AaBn a1.nx.length caBn) ∧ w'.cell? ⟨w.heap.size + 1, 3, none⟩ = some (.slice AaBo a1.out.length caBo))
    (first | go_keep | exact ⟨New.cell hq1 cb_x1_0, New.cell hq1 cb_x1_1, New.cell hq1 cb_x1_2, New.cell hq1 cb_x1_3, New.cell hq1 cb_aB_0, New.cell hq1 cb_aB_1, New.cell hq1 cb_aB_2, New.cell hq1 cb_aB_3⟩ | exact ⟨New.cell hq2 cb_x1_0, New.cell hq2 cb_x1_1, New.cell hq2 cb_x1_2, New.cell hq2 cb_x1_3, New.cell hq2 cb_aB_0, New.cell hq2 cb_aB_1, New.cell hq2 cb_aB_2, New.cell hq2 cb_aB_3⟩)
    (first
      | (go_at_call 17; refine (toMachine_any _ a1 _ (h1.new (hN.trans (New.refl _).drew)) HB_aB.out).mono ?_; rintro e w12 ⟨r3, rfl, hq1, ho3⟩; replace hq1 : New w11 w12 := New.trans (New.refl _).drew hq1; obtain ⟨rq13n, rq13o, rfl, hrq13n, hrq13o⟩ := ho3.at; obtain ⟨Aq13n, cq13n, rfl⟩ := hrq13n.form; obtain ⟨Aq13o, cq13o, rfl⟩ := hrq13o.form; clear hrq13n hrq13o)
      | (go_at_call 20; refine (eqMachine_any _ _ _ _ _ (ho_x1.new hq1).at ho3.at).mono ?_; rintro e w13 ⟨rfl, hq2⟩; replace hq2 : New w11 w13 := New.trans hq1 hq2))
  have hn := hq2
  have hz13 := hn.size; try simp only [size_alloc] at hz13
  replace hn : New w11 w13 := New.trans (by repeat (first | with_reducible exact New.refl _ | with_reducible assumption | with_reducible refine New.alloc ?_ _ | with_reducible refine New.drew ?_ | with_reducible refine New.drewN ?_ _ | with_reducible refine New.setCell ?_ (by simp <;> omega) _)) hn
  replace cb_aA_0 := hn.cell cb_aA_0
  replace cb_aA_1 := hn.cell cb_aA_1
  replace cb_aA_2 := hn.cell cb_aA_2
  replace cb_aA_3 := hn.cell cb_aA_3
  replace cb_aB_0 := hn.cell cb_aB_0
  replace cb_aB_1 := hn.cell cb_aB_1
  replace cb_aB_2 := hn.cell cb_aB_2
  replace cb_aB_3 := hn.cell cb_aB_3
  replace cb_x0_0 := hn.cell cb_x0_0
  replace cb_x0_1 := hn.cell cb_x0_1
  replace cb_x0_2 := hn.cell cb_x0_2
  replace cb_x0_3 := hn.cell cb_x0_3
  replace cb_x1_0 := hn.cell cb_x1_0
  replace cb_x1_1 := hn.cell cb_x1_1
  replace cb_x1_2 := hn.cell cb_x1_2
  replace cb_x1_3 := hn.cell cb_x1_3
  replace zb_aA : w.heap.size < w13.heap.size := by omega
  replace zb_aB : w.heap.size + 1 < w13.heap.size := by omega
  replace zb_x0 : w6.heap.size < w13.heap.size := by omega
  replace zb_x1 : w7.heap.size < w13.heap.size := by omega
  replace hN := hN.trans hn
  replace hE := hE.trans hn
  replace ho_x0 := ho_x0.new hn
  replace ho_x1 := ho_x1.new hn
  replace ho_g0 := ho_g0.new hn
  clear hq1 hq2 ho3
  go_wp2_with fail
  refine (markMachine_any _ _ _ _ (ho_x0.new (by repeat (first | with_reducible exact New.refl _ | with_reducible assumption | with_reducible refine New.alloc ?_ _ | with_reducible refine New.drew ?_ | with_reducible refine New.drewN ?_ _ | with_reducible refine New.setCell ?_ (by simp <;> omega) _))) (by omega) (by omega) (by (try simp only [sizes]) <;> omega)).mono ?_
  rintro e w14 ⟨rfl, hm_x0, hW⟩
  have hz14 := hW.2.2.2.1; try simp only [size_alloc] at hz14
  replace hW : Within (w5.heap.size) (w6.heap.size) w13 w14 := Within.trans (Within.of_new (by repeat (first | with_reducible exact New.refl _ | with_reducible assumption | with_reducible refine New.alloc ?_ _ | with_reducible refine New.drew ?_ | with_reducible refine New.drewN ?_ _ | with_reducible refine New.setCell ?_ (by simp <;> omega) _)) _ _) hW
  replace cb_aA_0 := hW.cell cb_aA_0 (by simp <;> omega)
  replace cb_aA_1 := hW.cell cb_aA_1 (by simp <;> omega)
  replace cb_aA_2 := hW.cell cb_aA_2 (by simp <;> omega)
  replace cb_aA_3 := hW.cell cb_aA_3 (by simp <;> omega)
  replace cb_aB_0 := hW.cell cb_aB_0 (by simp <;> omega)
  replace cb_aB_1 := hW.cell cb_aB_1 (by simp <;> omega)
  replace cb_aB_2 := hW.cell cb_aB_2 (by simp <;> omega)
  replace cb_aB_3 := hW.cell cb_aB_3 (by simp <;> omega)
  replace cb_x0_0 := hW.cell cb_x0_0 (by simp <;> omega)
  replace cb_x0_1 := hW.cell cb_x0_1 (by simp <;> omega)
  replace cb_x0_2 := hW.cell cb_x0_2 (by simp <;> omega)
  replace cb_x0_3 := hW.cell cb_x0_3 (by simp <;> omega)
  replace cb_x1_0 := hW.cell cb_x1_0 (by simp <;> omega)
  replace cb_x1_1 := hW.cell cb_x1_1 (by simp <;> omega)
  replace cb_x1_2 := hW.cell cb_x1_2 (by simp <;> omega)
  replace cb_x1_3 := hW.cell cb_x1_3 (by simp <;> omega)
  replace zb_aA : w.heap.size < w14.heap.size := by omega
  replace zb_aB : w.heap.size + 1 < w14.heap.size := by omega
  replace zb_x0 : w6.heap.size < w14.heap.size := by omega
  replace zb_x1 : w7.heap.size < w14.heap.size := by omega
  replace hN := hN.within hW (by omega)
  replace hE := hE.within hW (by omega)
  replace ho_x1 := ho_x1.within hW (by omega)
  replace ho_g0 := ho_g0.within hW (by omega)
  clear hW
  clear ho_x0 hm_x0
  go_wp2_with fail
  refine (markMachine_any _ _ _ _ (ho_x1.new (by repeat (first | with_reducible exact New.refl _ | with_reducible assumption | with_reducible refine New.alloc ?_ _ | with_reducible refine New.drew ?_ | with_reducible refine New.drewN ?_ _ | with_reducible refine New.setCell ?_ (by simp <;> omega) _))) (by omega) (by omega) (by (try simp only [sizes]) <;> omega)).mono ?_
  rintro e w15 ⟨rfl, hm_x1, hW⟩
  have hz15 := hW.2.2.2.1; try simp only [size_alloc] at hz15
  replace hW : Within (w6.heap.size + 1) (w7.heap.size) w14 w15 := Within.trans (Within.of_new (by repeat (first | with_reducible exact New.refl _ | with_reducible assumption | with_reducible refine New.alloc ?_ _ | with_reducible refine New.drew ?_ | with_reducible refine New.drewN ?_ _ | with_reducible refine New.setCell ?_ (by simp <;> omega) _)) _ _) hW
  replace cb_aA_0 := hW.cell cb_aA_0 (by simp <;> omega)
  replace cb_aA_1 := hW.cell cb_aA_1 (by simp <;> omega)
  replace cb_aA_2 := hW.cell cb_aA_2 (by simp <;> omega)
  replace cb_aA_3 := hW.cell cb_aA_3 (by simp <;> omega)
  replace cb_aB_0 := hW.cell cb_aB_0 (by simp <;> omega)
  replace cb_aB_1 := hW.cell cb_aB_1 (by simp <;> omega)
  replace cb_aB_2 := hW.cell cb_aB_2 (by simp <;> omega)
  replace cb_aB_3 := hW.cell cb_aB_3 (by simp <;> omega)
  replace cb_x0_0 := hW.cell cb_x0_0 (by simp <;> omega)
  replace cb_x0_1 := hW.cell cb_x0_1 (by simp <;> omega)
  replace cb_x0_2 := hW.cell cb_x0_2 (by simp <;> omega)
  replace cb_x0_3 := hW.cell cb_x0_3 (by simp <;> omega)
  replace cb_x1_0 := hW.cell cb_x1_0 (by simp <;> omega)
  replace cb_x1_1 := hW.cell cb_x1_1 (by simp <;> omega)
  replace cb_x1_2 := hW.cell cb_x1_2 (by simp <;> omega)
  replace cb_x1_3 := hW.cell cb_x1_3 (by simp <;> omega)
  replace zb_aA : w.heap.size < w15.heap.size := by omega
  replace zb_aB : w.heap.size + 1 < w15.heap.size := by omega
  replace zb_x0 : w6.heap.size < w15.heap.size := by omega
  replace zb_x1 : w7.heap.size < w15.heap.size := by omega
  replace hN := hN.within hW (by omega)
  replace hE := hE.within hW (by omega)
  replace ho_g0 := ho_g0.within hW (by omega)
  clear hW
  clear ho_x1 hm_x1
  go_wp2_with fail
  refine (eqInt64S_any _ _ _ _ _ (ho_g0.new (by repeat (first | with_reducible exact New.refl _ | with_reducible assumption | with_reducible refine New.alloc ?_ _ | with_reducible refine New.drew ?_ | with_reducible refine New.drewN ?_ _ | with_reducible refine New.setCell ?_ (by simp <;> omega) _))).at ((ho_w0.new hE).new (by repeat (first | with_reducible exact New.refl _ | with_reducible assumption | with_reducible refine New.alloc ?_ _ | with_reducible refine New.drew ?_ | with_reducible refine New.drewN ?_ _ | with_reducible refine New.setCell ?_ (by simp <;> omega) _)))).mono ?_
  rintro e w16 ⟨rfl, hn⟩
  have hz16 := hn.size; try simp only [size_alloc] at hz16
  replace hn : New w15 w16 := New.trans (by repeat (first | with_reducible exact New.refl _ | with_reducible assumption | with_reducible refine New.alloc ?_ _ | with_reducible refine New.drew ?_ | with_reducible refine New.drewN ?_ _ | with_reducible refine New.setCell ?_ (by simp <;> omega) _)) hn
  replace cb_aA_0 := hn.cell cb_aA_0
  replace cb_aA_1 := hn.cell cb_aA_1
  replace cb_aA_2 := hn.cell cb_aA_2
  replace cb_aA_3 := hn.cell cb_aA_3
  replace cb_aB_0 := hn.cell cb_aB_0
  replace cb_aB_1 := hn.cell cb_aB_1
  replace cb_aB_2 := hn.cell cb_aB_2
  replace cb_aB_3 := hn.cell cb_aB_3
  replace cb_x0_0 := hn.cell cb_x0_0
  replace cb_x0_1 := hn.cell cb_x0_1
  replace cb_x0_2 := hn.cell cb_x0_2
  replace cb_x0_3 := hn.cell cb_x0_3
  replace cb_x1_0 := hn.cell cb_x1_0
  replace cb_x1_1 := hn.cell cb_x1_1
  replace cb_x1_2 := hn.cell cb_x1_2
  replace cb_x1_3 := hn.cell cb_x1_3
  replace zb_aA : w.heap.size < w16.heap.size := by omega
  replace zb_aB : w.heap.size + 1 < w16.heap.size := by omega
  replace zb_x0 : w6.heap.size < w16.heap.size := by omega
  replace zb_x1 : w7.heap.size < w16.heap.size := by omega
  replace hN := hN.trans hn
  replace hE := hE.trans hn
  replace ho_g0 := ho_g0.new hn
  go_wp2_with fail
  refine (markInt64S_any _ _ _ _ (ho_g0.new (by repeat (first | with_reducible exact New.refl _ | with_reducible assumption | with_reducible refine New.alloc ?_ _ | with_reducible refine New.drew ?_ | with_reducible refine New.drewN ?_ _ | with_reducible refine New.setCell ?_ (by simp <;> omega) _))) (by omega) (by omega)).mono ?_
  rintro e w17 ⟨rfl, hm_g0, hW⟩
  replace hW := Within.of_grown hW (fun b hb => ho_g0.block b hb)
  have hz17 := hW.2.2.2.1; try simp only [size_alloc] at hz17
  replace hW : Within (w7.heap.size + 1) (w8.heap.size) w16 w17 := Within.trans (Within.of_new (by repeat (first | with_reducible exact New.refl _ | with_reducible assumption | with_reducible refine New.alloc ?_ _ | with_reducible refine New.drew ?_ | with_reducible refine New.drewN ?_ _ | with_reducible refine New.setCell ?_ (by simp <;> omega) _)) _ _) hW
  replace cb_aA_0 := hW.cell cb_aA_0 (by simp <;> omega)
  replace cb_aA_1 := hW.cell cb_aA_1 (by simp <;> omega)
  replace cb_aA_2 := hW.cell cb_aA_2 (by simp <;> omega)
  replace cb_aA_3 := hW.cell cb_aA_3 (by simp <;> omega)
  replace cb_aB_0 := hW.cell cb_aB_0 (by simp <;> omega)
  replace cb_aB_1 := hW.cell cb_aB_1 (by simp <;> omega)
  replace cb_aB_2 := hW.cell cb_aB_2 (by simp <;> omega)
  replace cb_aB_3 := hW.cell cb_aB_3 (by simp <;> omega)
  replace cb_x0_0 := hW.cell cb_x0_0 (by simp <;> omega)
  replace cb_x0_1 := hW.cell cb_x0_1 (by simp <;> omega)
  replace cb_x0_2 := hW.cell cb_x0_2 (by simp <;> omega)
  replace cb_x0_3 := hW.cell cb_x0_3 (by simp <;> omega)
  replace cb_x1_0 := hW.cell cb_x1_0 (by simp <;> omega)
  replace cb_x1_1 := hW.cell cb_x1_1 (by simp <;> omega)
  replace cb_x1_2 := hW.cell cb_x1_2 (by simp <;> omega)
  replace cb_x1_3 := hW.cell cb_x1_3 (by simp <;> omega)
  replace zb_aA : w.heap.size < w17.heap.size := by omega
  replace zb_aB : w.heap.size + 1 < w17.heap.size := by omega
  replace zb_x0 : w6.heap.size < w17.heap.size := by omega
  replace zb_x1 : w7.heap.size < w17.heap.size := by omega
  replace hN := hN.within hW (by omega)
  replace hE := hE.within hW (by omega)
  clear hW
  clear ho_g0
  go_wp2_with fail
  refine (heldInt64S_any _ r0.length _ _ (hm_g0.new (by repeat (first | with_reducible exact New.refl _ | with_reducible assumption | with_reducible refine New.alloc ?_ _ | with_reducible refine New.drew ?_ | with_reducible refine New.drewN ?_ _ | with_reducible refine New.setCell ?_ (by simp <;> omega) _))).at (by omega) (by omega) (by omega)).mono ?_
  rintro e w18 ⟨rfl, hn⟩
  replace hn := New.of_eq hn
  have hz18 := hn.size; try simp only [size_alloc] at hz18
  replace hn : New w17 w18 := New.trans (by repeat (first | with_reducible exact New.refl _ | with_reducible assumption | with_reducible refine New.alloc ?_ _ | with_reducible refine New.drew ?_ | with_reducible refine New.drewN ?_ _ | with_reducible refine New.setCell ?_ (by simp <;> omega) _)) hn
  replace cb_aA_0 := hn.cell cb_aA_0
  replace cb_aA_1 := hn.cell cb_aA_1
  replace cb_aA_2 := hn.cell cb_aA_2
  replace cb_aA_3 := hn.cell cb_aA_3
  replace cb_aB_0 := hn.cell cb_aB_0
  replace cb_aB_1 := hn.cell cb_aB_1
  replace cb_aB_2 := hn.cell cb_aB_2
  replace cb_aB_3 := hn.cell cb_aB_3
  replace cb_x0_0 := hn.cell cb_x0_0
  replace cb_x0_1 := hn.cell cb_x0_1
  replace cb_x0_2 := hn.cell cb_x0_2
  replace cb_x0_3 := hn.cell cb_x0_3
  replace cb_x1_0 := hn.cell cb_x1_0
  replace cb_x1_1 := hn.cell cb_x1_1
  replace cb_x1_2 := hn.cell cb_x1_2
  replace cb_x1_3 := hn.cell cb_x1_3
  replace zb_aA : w.heap.size < w18.heap.size := by omega
  replace zb_aB : w.heap.size + 1 < w18.heap.size := by omega
  replace zb_x0 : w6.heap.size < w18.heap.size := by omega
  replace zb_x1 : w7.heap.size < w18.heap.size := by omega
  replace hN := hN.trans hn
  replace hE := hE.trans hn
  replace hm_g0 := hm_g0.new hn
  go_wp2_with fail
  go_region_held3 (fun w' => w'.cell? ⟨w.heap.size, 0, none⟩ = some (.int .i64 a0.n) ∧ w'.cell? ⟨w.heap.size, 1, none⟩ = some (.int .i64 a0.o) ∧ w'.cell? ⟨w.heap.size, 2, none⟩ = some (.slice AaAn a0.nx.length caAn) ∧ w'.cell? ⟨w.heap.size, 3, none⟩ = some (.slice AaAo a0.out.length caAo) ∧ w'.cell? ⟨w.heap.size + 1, 0, none⟩ = some (.int .i64 a1.n) ∧ w'.cell? ⟨w.heap.size + 1, 1, none⟩ = some (.int .i64 a1.o) ∧ w'.cell? ⟨w.heap.size + 1, 2, none⟩ = some (.slice AaBn a1.nx.length caBn) ∧ w'.cell? ⟨w.heap.size + 1, 3, none⟩ = some (.slice AaBo a1.out.length caBo))
    (first | go_keep | exact ⟨New.cell hq19 cb_aA_0, New.cell hq19 cb_aA_1, New.cell hq19 cb_aA_2, New.cell hq19 cb_aA_3, New.cell hq19 cb_aB_0, New.cell hq19 cb_aB_1, New.cell hq19 cb_aB_2, New.cell hq19 cb_aB_3⟩ | exact ⟨New.cell hq20 cb_aA_0, New.cell hq20 cb_aA_1, New.cell hq20 cb_aA_2, New.cell hq20 cb_aA_3, New.cell hq20 cb_aB_0, New.cell hq20 cb_aB_1, New.cell hq20 cb_aB_2, New.cell hq20 cb_aB_3⟩ | exact ⟨New.cell hq21 cb_aA_0, New.cell hq21 cb_aA_1, New.cell hq21 cb_aA_2, New.cell hq21 cb_aA_3, New.cell hq21 cb_aB_0, New.cell hq21 cb_aB_1, New.cell hq21 cb_aB_2, New.cell hq21 cb_aB_3⟩)
    (first
      | (go_at_call_of 17 AaAn; refine (toMachine_any _ a0 _ (h0.new (hN.trans (New.refl _).drew)) HB_aA.out).mono ?_; rintro e w19 ⟨v_d19, rfl, hr19, ho_d19⟩; have hq19 : New w18 w19 := New.trans (New.refl _).drew hr19; obtain ⟨rd19n, rd19o, rfl, hrd19n, hrd19o⟩ := ho_d19.at; obtain ⟨Ad19n, cd19n, rfl⟩ := hrd19n.form; obtain ⟨Ad19o, cd19o, rfl⟩ := hrd19o.form; clear hrd19n hrd19o)
      | (go_at_call_of 17 AaBn; refine (toMachine_any _ a1 _ (h1.new (hN.trans hq19)) HB_aB.out).mono ?_; rintro e w20 ⟨v_d20, rfl, hr20, ho_d20⟩; have hq20 : New w18 w20 := New.trans hq19 hr20; obtain ⟨rd20n, rd20o, rfl, hrd20n, hrd20o⟩ := ho_d20.at; obtain ⟨Ad20n, cd20n, rfl⟩ := hrd20n.form; obtain ⟨Ad20o, cd20o, rfl⟩ := hrd20o.form; clear hrd20n hrd20o)
      | (go_at_call 18; refine (HI.out _ _ _ (ho_d19.new hr20).at ho_d20.at).mono ?_; rintro e w21 ⟨u_h0, rfl, hr21, ho_h0⟩; have hq21 : New w18 w21 := New.trans hq20 hr21))
  have hn := hq21
  replace ho_h0 := ho_h0.widen (B' := w18.heap.size) hq20.size (Nat.le_refl _)
  have hz21 := hn.size; try simp only [size_alloc] at hz21
  replace hn : New w18 w21 := New.trans (by repeat (first | with_reducible exact New.refl _ | with_reducible assumption | with_reducible refine New.alloc ?_ _ | with_reducible refine New.drew ?_ | with_reducible refine New.drewN ?_ _ | with_reducible refine New.setCell ?_ (by simp <;> omega) _)) hn
  replace cb_aA_0 := hn.cell cb_aA_0
  replace cb_aA_1 := hn.cell cb_aA_1
  replace cb_aA_2 := hn.cell cb_aA_2
  replace cb_aA_3 := hn.cell cb_aA_3
  replace cb_aB_0 := hn.cell cb_aB_0
  replace cb_aB_1 := hn.cell cb_aB_1
  replace cb_aB_2 := hn.cell cb_aB_2
  replace cb_aB_3 := hn.cell cb_aB_3
  replace cb_x0_0 := hn.cell cb_x0_0
  replace cb_x0_1 := hn.cell cb_x0_1
  replace cb_x0_2 := hn.cell cb_x0_2
  replace cb_x0_3 := hn.cell cb_x0_3
  replace cb_x1_0 := hn.cell cb_x1_0
  replace cb_x1_1 := hn.cell cb_x1_1
  replace cb_x1_2 := hn.cell cb_x1_2
  replace cb_x1_3 := hn.cell cb_x1_3
  replace zb_aA : w.heap.size < w21.heap.size := by omega
  replace zb_aB : w.heap.size + 1 < w21.heap.size := by omega
  replace zb_x0 : w6.heap.size < w21.heap.size := by omega
  replace zb_x1 : w7.heap.size < w21.heap.size := by omega
  replace hN := hN.trans hn
  replace hE := hE.trans hn
  replace hm_g0 := hm_g0.new hn
  obtain ⟨Ah0, ch0, rfl⟩ := ho_h0.form
  clear ho_d19
  clear ho_d20
  go_wp2_with fail
  refine (eqInt64S_any _ _ _ _ _ (ho_h0.new (by repeat (first | with_reducible exact New.refl _ | with_reducible assumption | with_reducible refine New.alloc ?_ _ | with_reducible refine New.drew ?_ | with_reducible refine New.drewN ?_ _ | with_reducible refine New.setCell ?_ (by simp <;> omega) _))).at ((ho_w0.new hE).new (by repeat (first | with_reducible exact New.refl _ | with_reducible assumption | with_reducible refine New.alloc ?_ _ | with_reducible refine New.drew ?_ | with_reducible refine New.drewN ?_ _ | with_reducible refine New.setCell ?_ (by simp <;> omega) _)))).mono ?_
  rintro e w22 ⟨rfl, hn⟩
  have hz22 := hn.size; try simp only [size_alloc] at hz22
  replace hn : New w21 w22 := New.trans (by repeat (first | with_reducible exact New.refl _ | with_reducible assumption | with_reducible refine New.alloc ?_ _ | with_reducible refine New.drew ?_ | with_reducible refine New.drewN ?_ _ | with_reducible refine New.setCell ?_ (by simp <;> omega) _)) hn
  replace cb_aA_0 := hn.cell cb_aA_0
  replace cb_aA_1 := hn.cell cb_aA_1
  replace cb_aA_2 := hn.cell cb_aA_2
  replace cb_aA_3 := hn.cell cb_aA_3
  replace cb_aB_0 := hn.cell cb_aB_0
  replace cb_aB_1 := hn.cell cb_aB_1
  replace cb_aB_2 := hn.cell cb_aB_2
  replace cb_aB_3 := hn.cell cb_aB_3
  replace cb_x0_0 := hn.cell cb_x0_0
  replace cb_x0_1 := hn.cell cb_x0_1
  replace cb_x0_2 := hn.cell cb_x0_2
  replace cb_x0_3 := hn.cell cb_x0_3
  replace cb_x1_0 := hn.cell cb_x1_0
  replace cb_x1_1 := hn.cell cb_x1_1
  replace cb_x1_2 := hn.cell cb_x1_2
  replace cb_x1_3 := hn.cell cb_x1_3
  replace zb_aA : w.heap.size < w22.heap.size := by omega
  replace zb_aB : w.heap.size + 1 < w22.heap.size := by omega
  replace zb_x0 : w6.heap.size < w22.heap.size := by omega
  replace zb_x1 : w7.heap.size < w22.heap.size := by omega
  replace hN := hN.trans hn
  replace hE := hE.trans hn
  replace hm_g0 := hm_g0.new hn
  replace ho_h0 := ho_h0.new hn
  go_wp2_with fail
  refine (heldInt64S_any _ r0.length _ _ (hm_g0.new (by repeat (first | with_reducible exact New.refl _ | with_reducible assumption | with_reducible refine New.alloc ?_ _ | with_reducible refine New.drew ?_ | with_reducible refine New.drewN ?_ _ | with_reducible refine New.setCell ?_ (by simp <;> omega) _))).at (by omega) (by omega) (by omega)).mono ?_
  rintro e w23 ⟨rfl, hn⟩
  replace hn := New.of_eq hn
  have hz23 := hn.size; try simp only [size_alloc] at hz23
  replace hn : New w22 w23 := New.trans (by repeat (first | with_reducible exact New.refl _ | with_reducible assumption | with_reducible refine New.alloc ?_ _ | with_reducible refine New.drew ?_ | with_reducible refine New.drewN ?_ _ | with_reducible refine New.setCell ?_ (by simp <;> omega) _)) hn
  replace cb_aA_0 := hn.cell cb_aA_0
  replace cb_aA_1 := hn.cell cb_aA_1
  replace cb_aA_2 := hn.cell cb_aA_2
  replace cb_aA_3 := hn.cell cb_aA_3
  replace cb_aB_0 := hn.cell cb_aB_0
  replace cb_aB_1 := hn.cell cb_aB_1
  replace cb_aB_2 := hn.cell cb_aB_2
  replace cb_aB_3 := hn.cell cb_aB_3
  replace cb_x0_0 := hn.cell cb_x0_0
  replace cb_x0_1 := hn.cell cb_x0_1
  replace cb_x0_2 := hn.cell cb_x0_2
  replace cb_x0_3 := hn.cell cb_x0_3
  replace cb_x1_0 := hn.cell cb_x1_0
  replace cb_x1_1 := hn.cell cb_x1_1
  replace cb_x1_2 := hn.cell cb_x1_2
  replace cb_x1_3 := hn.cell cb_x1_3
  replace zb_aA : w.heap.size < w23.heap.size := by omega
  replace zb_aB : w.heap.size + 1 < w23.heap.size := by omega
  replace zb_x0 : w6.heap.size < w23.heap.size := by omega
  replace zb_x1 : w7.heap.size < w23.heap.size := by omega
  replace hN := hN.trans hn
  replace hE := hE.trans hn
  replace hm_g0 := hm_g0.new hn
  replace ho_h0 := ho_h0.new hn
  go_wp2_with fail
  go_ret
  exact ⟨rfl, hN⟩

end Go.Proofs.Ytcjmcpfdpnakkaa
