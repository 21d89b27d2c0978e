/- The reference's machine of the states that can be reached. -/
import Derived.Test.YtcjmcpfdpnakkaaRows
import Derived.Test.YtcjmcpfdpnakkaaCore
import Derived.Test.YtcjmcpfdpnakkaaInfo
import Derived.Test.YtcjmcpfdpnakkaaPlains
import Derived.Test.YtcjmcpfdpnakkaaPlainMon
import Derived.Test.YtcjmcpfdpnakkaaPlainApart
import Derived.Test.YtcjmcpfdpnakkaaPlainTrim
import Derived.Test.YtcjmcpfdpnakkaaMaps
import Derived.Test.YtcjmcpfdpnakkaaGrow2P
import Derived.Test.YtcjmcpfdpnakkaaGrowIR
import Derived.Test.YtcjmcpfdpnakkaaBox4
import Derived.Test.YtcjmcpfdpnakkaaSCover
import Derived.Test.YtcjmcpfdpnakkaaSPick
import Derived.Test.YtcjmcpfdpnakkaaS06b
import Derived.WalkKit
import Derived.WalkSpells
import Derived.WalkLawsBesides
import Derived.Deep.QuietTactic
import Derived.Deep.OwnRows
import Derived.BigQuiet
import Derived.KernelRfl
import Derived.Deep.RegionHeld3
namespace Go.Proofs.Ytcjmcpfdpnakkaa
open Go.RowKit

theorem pickT_order {m : Mach} (hm : machOk m = true) : pickT m (orderOf m) (toTo m.n.toNat (orderOf m) (orderOf m).length) = pickOf m (orderOf m) := by
  have hb : ∀ x, x ∈ orderOf m → 0 ≤ x ∧ x < (m.n.toNat : Int) := fun x hx => by have := order_ok hm x hx; omega
  have e : (m.nx.map fun row => (orderOf m).map fun s => nth (toTo m.n.toNat (orderOf m) (orderOf m).length) (nth row s.toNat).toNat) = m.nx.map fun row => (orderOf m).map fun s => placeOf (orderOf m) (nth row s.toNat) := by
    apply List.map_congr_left
    intro row hrow
    apply List.map_congr_left
    intro s hs
    obtain ⟨i, hi, rfl⟩ := List.mem_iff_getElem.1 hrow
    have e : m.nx[i] = nth m.nx i := (nth_eq _ _ hi).symm
    rw [e]
    exact toTo_place _ _ (order_nodup hm) hb _ (order_closed hm i hi s hs)
  unfold pickT pickOf
  rw [e]
set_option maxRecDepth 20000 in
set_option maxHeartbeats 4000000 in
theorem l06Trim_any (p : Value) (m : Mach) (w : World) (hp : PMach w p m) (hm : machOk m = true) :
    Calls Try.prog 93 #[p] w fun e w' => ∃ r, e = .returned r ∧ New w w' ∧ OwnMach w.heap.size w'.heap.size w' r (pickOf m (orderOf m)) := by
  have hmn := mach_n hm
  obtain ⟨N, hN⟩ : ∃ N : Nat, m.n = (N : Int) := ⟨m.n.toNat, by omega⟩
  have hN10 : N ≤ 10 := by omega
  have hb : ∀ x, x ∈ orderOf m → 0 ≤ x ∧ x < (N : Int) := fun x hx => by have := order_ok hm x hx; omega
  have HPK := hid (show pickT m (orderOf m) (toTo N (orderOf m) (orderOf m).length) = pickOf m (orderOf m) by have := pickT_order hm; rw [hN, Int.toNat_natCast] at this; exact this)
  have hol := (order_len hm).2
  have C1 := hid (fun w1 (hn : New w w1) => l06Cover_any p m w1 (hp.new hn) hm)
  have C2 := hid (fun (w1 : World) ov tv T (hn : New w w1) ho ht hT => l06Pick_any p ov tv m (orderOf m) T w1 (hp.new hn) ho ht hm (order_ok hm) hT hol)
  have HB := hid hb
  obtain ⟨pb, rv1, rv2, rfl, hp0, hp1, hp2, hp3, _, _⟩ := hp
  have HNN := hid hN
  rw [hN] at hp0
  clear hm hb hmn hN
  have hmk := fun w => run_make_row' (P := Try.prog) 26 2 (.int .i64 0) 8 Try.underlying26 info_i64 rfl .i64 .i64 N (by omega) (by omega) w
  obtain ⟨W0, hW0⟩ : ∃ W0, W0 = w.alloc (.cells #[.int .i64 0, .int .i64 0, .slice none 0 0, .slice none 0 0] 29) := ⟨_, rfl⟩
  have hN0 : New w W0 := by rw [hW0]; exact (by repeat (first | with_reducible exact New.refl _ | with_reducible assumption | with_reducible refine New.alloc ?_ _ | with_reducible refine New.drew ?_ | with_reducible refine New.drewN ?_ _ | with_reducible refine New.setCell ?_ (by simp <;> omega) _))
  have hRB : Box4 W0 w.heap.size (.int .i64 0) (.int .i64 0) (.slice none 0 0) (.slice none 0 0) := by rw [hW0]; exact ⟨⟨by go_simp, by go_simp, by go_simp, by go_simp⟩, by go_simp, by go_simp, by go_simp, by go_simp⟩
  have hZ0 : w.heap.size + 1 ≤ W0.heap.size := by rw [hW0]; simp only [size_alloc]; omega
  obtain ⟨OS, hOS⟩ : ∃ z, z = orderOf m := ⟨_, rfl⟩
  rw [← hOS] at HPK hol C1 C2 HB ⊢
  clear hOS
  go_enter Try.func93, Try.ntmps93
  go_wp2_with fail
  rw [← hW0]
  clear hW0
  refine (C1.out W0 hN0).mono ?_
  rintro e w1 ⟨r1, r2, he, hn1, hG⟩
  obtain ⟨⟨A1, c1, rfl⟩, A2, c2, rfl⟩ := hG.form
  subst he
  have hO := hG.1.own (by omega)
  have hB1 := hRB.new hn1
  have hnw := hN0.trans hn1
  have y0 := hnw.cell hp0
  have hz1 := hn1.size
  have hrow0 := OwnInts.made w1 N 2 (by omega)
  have hnm : New w1 (w1.alloc (.cells (madeCells #[.int .i64 0] N) 2)) := (by repeat (first | with_reducible exact New.refl _ | with_reducible assumption | with_reducible refine New.alloc ?_ _ | with_reducible refine New.drew ?_ | with_reducible refine New.drewN ?_ _ | with_reducible refine New.setCell ?_ (by simp <;> omega) _))
  obtain ⟨_, _, eO, _, _, hcO⟩ := id hO
  cases eO
  have HCO := hid hcO
  have HO := hid hO
  clear hcO hG hO
  go_wp2_with fail
  go_loopw [6] (fun i wr => ∃ j : Nat, i = .int .i64 j ∧ j ≤ OS.length ∧ New w1 wr ∧ OwnInts w1.heap.size (w1.heap.size + 1) wr (.slice (some ⟨w1.heap.size, 0, none⟩) N N) (toTo N OS j)) (fun i _ => OS.length - (intOf i).toNat)
  case atStart => exact ⟨0, rfl, Nat.zero_le _, hnm, by rw [toTo_zero]; exact hrow0⟩
  case round =>
    obtain ⟨j, rfl, hj, hNj, ho⟩ := hrel
    clear hrow0 hnm
    obtain ⟨wj, rfl⟩ : ∃ wj : World, wj = wr := ⟨_, rfl⟩
    by_cases hlt : j < OS.length
    · have b1 : (j : Int) < (OS.length : Int) := by omega
      obtain ⟨ob, oo, rfl, hox, _⟩ := HCO.out j hlt
      replace hox := hNj.cell hox
      obtain ⟨X, hX⟩ : ∃ z, z = nth OS j := ⟨_, rfl⟩
      obtain ⟨x0, x1⟩ := HB.out X (by rw [hX]; exact nth_mem _ _ hlt)
      rw [← hX] at hox
      have HL := toTo_len N OS j
      obtain ⟨hc, hf⟩ := ho.cell_at X.toNat (by rw [HL]; omega)
      rw [Nat.zero_add] at hc hf
      have hset := ho.set X.toNat (by rw [HL]; omega) (j : Int)
      rw [Nat.zero_add] at hset
      rw [show (toTo N OS j).set X.toNat (j : Int) = toTo N OS (j + 1) by rw [toTo_succ, ← hX]] at hset
      have HSET := hid hset
      clear hset hX HL ho
      go_wp2_with fail
      go_roundw
      case rel => exact ⟨j + 1, by go_num, by omega, hNj.setCell (Nat.le_refl _) _, HSET.out⟩
      case measure => simp [intOf]; omega
    · have e : j = OS.length := by omega
      subst e
      have b1 : ¬ ((OS.length : Nat) : Int) < (OS.length : Int) := by omega
      have hN2 := hN0.trans (hn1.trans hNj)
      have C3 := hid (C2.out wj _ _ _ hN2 (HO.out.new hNj).at ho.at (by rw [toTo_len]; exact HNN.out.symm))
      rw [HPK.out] at C3
      have hBj := hB1.new hNj
      have hzj := hNj.size
      go_wp2_with (go_at_call 158; refine C3.out.mono ?_; rintro e w3 ⟨r3, he, hn3, ho3⟩; obtain ⟨q1, q2, rfl, hq1, hq2, _⟩ := id ho3; obtain ⟨A3, c3, rfl⟩ := hq1.form; obtain ⟨A4, c4, rfl⟩ := hq2.form; subst he; have hB3 := hBj.new hn3; have hz3 := hn3.size; obtain ⟨⟨e0, e1, e2, e3⟩, f0, f1, f2, f3⟩ := id hB3)
      obtain ⟨⟨g0, g1, g2, g3⟩, _⟩ := hB3.fill (.int .i64 (pickOf m OS).n) (.int .i64 (pickOf m OS).o) (.slice A3 (pickOf m OS).nx.length c3) (.slice A4 (pickOf m OS).out.length c4)
      refine bodyPost_ret (v := .agg #[.int .i64 (pickOf m OS).n, .int .i64 (pickOf m OS).o, .slice A3 (pickOf m OS).nx.length c3, .slice A4 (pickOf m OS).out.length c4]) (by simp [results, Try.results93, go_sem, g0, g1, g2, g3]) rfl ?_
      have HW := Within.fill4 w3 w.heap.size (.int .i64 (pickOf m OS).n) (.int .i64 (pickOf m OS).o) (.slice A3 (pickOf m OS).nx.length c3) (.slice A4 (pickOf m OS).out.length c4)
      exact ⟨_, rfl, (hN2.trans hn3).within HW (Nat.le_refl _), (ho3.within HW (Or.inr (by omega))).widen (by omega) HW.2.2.2.1⟩
set_option maxRecDepth 20000 in
set_option maxHeartbeats 1000000 in
theorem specTrimMachine_any (v1 : Value) (m : Mach) (w : World) (h1 : MachAt w v1 m) :
    Calls Try.prog 35 #[v1] w fun e w' => ∃ r, e = .returned (.tuple #[r, .int .i64 (TrimMachine m).2]) ∧ New w w' ∧ OwnMach w.heap.size w'.heap.size w' r (TrimMachine m).1 := by
  obtain ⟨r1, r2, rfl, hr1, hr2⟩ := h1
  obtain ⟨A1, c1, rfl⟩ := hr1.form
  obtain ⟨A2, c2, rfl⟩ := hr2.form
  obtain ⟨wb, hwb⟩ : ∃ wb, wb = (w.alloc (.cells #[.int .i64 m.n, .int .i64 m.o, .slice A1 m.nx.length c1, .slice A2 m.out.length c2] 29)).alloc (.cells #[.int .i64 0, .int .i64 0, .slice none 0 0, .slice none 0 0] 29) := ⟨_, rfl⟩
  have hp : PMach wb (.pointer (some ⟨w.heap.size, 0, none⟩)) m := by rw [hwb]; exact (PMach.box hr1 hr2 _).new ((New.refl _).alloc _)
  have hnb : New w wb := by rw [hwb]; exact (by repeat (first | with_reducible exact New.refl _ | with_reducible assumption | with_reducible refine New.alloc ?_ _ | with_reducible refine New.drew ?_ | with_reducible refine New.drewN ?_ _ | with_reducible refine New.setCell ?_ (by simp <;> omega) _))
  have hzb : w.heap.size + 2 = wb.heap.size := by rw [hwb]; simp only [size_alloc]
  have hr : Box4 wb (w.heap.size + 1) (.int .i64 0) (.int .i64 0) (.slice none 0 0) (.slice none 0 0) := by rw [hwb]; exact ⟨⟨by go_simp, by go_simp, by go_simp, by go_simp⟩, by go_simp, by go_simp, by go_simp, by go_simp⟩
  obtain ⟨R, hR⟩ : ∃ R, R = TrimMachine m := ⟨_, rfl⟩
  rw [← hR]
  unfold TrimMachine at hR
  have HR := hid hR
  clear hR
  have C1 := l06Ok_any _ m _ hp
  cases hm : machOk m with
  | false =>
    rw [hm] at C1
    go_enter Try.func35, Try.ntmps35
    go_wp2_with fail
    rw [← hwb]
    refine C1.mono ?_
    rintro e w1 ⟨rfl, hn1⟩
    have hr' := hr.new hn1
    obtain ⟨⟨e0, e1, e2, e3⟩, f0, f1, f2, f3⟩ := id hr'
    have hz1 := hn1.size
    obtain ⟨⟨g0, g1, g2, g3⟩, _⟩ := hr'.fill (.int .i64 0) (.int .i64 0) (.slice none 0 0) (.slice none 0 0)
    go_wp2_with fail
    refine bodyPost_ret (v := .tuple #[.agg #[.int .i64 0, .int .i64 0, .slice none 0 0, .slice none 0 0], .int .i64 1]) (by simp [results, Try.results35, go_sem, g0, g1, g2, g3]) rfl ?_
    have e : R = (⟨0, 0, [], []⟩, 1) := by rw [HR.out, hm]; rfl
    rw [e]
    have HW := Within.fill4 w1 (w.heap.size + 1) (.int .i64 0) (.int .i64 0) (.slice none 0 0) (.slice none 0 0)
    have hnil := (Grow2P.nil w.heap.size 26 26 w1).mach (m := ⟨0, 0, [], []⟩) (by simp) (by simp)
    exact ⟨_, rfl, (hnb.trans hn1).within HW (by omega), OwnMach.parts ⟨_, _, _, rfl, Nat.le_refl _, Nat.le_trans (by omega) HW.2.2.2.1, ⟨none, 0, fun _ => default, rfl, by simp, by simp, by simp, by simp⟩, ⟨none, 0, fun _ => default, rfl, by simp, by simp, by simp, by simp⟩⟩⟩
  | true =>
    rw [hm] at C1
    have HC := hid (fun w1 (hn : New wb w1) => l06Trim_any _ m w1 (hp.new hn) hm)
    have HRE := hid (show R = (pickOf m (orderOf m), 0) by rw [HR.out, hm]; rfl)
    obtain ⟨PK, hPK⟩ : ∃ z, z = pickOf m (orderOf m) := ⟨_, rfl⟩
    rw [← hPK] at HC HRE
    clear hPK
    go_enter Try.func35, Try.ntmps35
    go_wp2_with fail
    rw [← hwb]
    refine C1.mono ?_
    rintro e w1 ⟨rfl, hn1⟩
    go_wp2_with (go_at_call 93; refine (HC.out _ hn1).mono ?_; rintro e w2 ⟨r, he, hn2, ho⟩; obtain ⟨q1, q2, rfl, hq1, hq2, _⟩ := id ho; obtain ⟨A3, c3, rfl⟩ := hq1.form; obtain ⟨A4, c4, rfl⟩ := hq2.form; subst he; have hr' := (hr.new hn1).new hn2; obtain ⟨⟨e0, e1, e2, e3⟩, f0, f1, f2, f3⟩ := id hr'; have hz1 := hn1.size; have hz2 := hn2.size)
    obtain ⟨⟨g0, g1, g2, g3⟩, _⟩ := hr'.fill (.int .i64 PK.n) (.int .i64 PK.o) (.slice A3 PK.nx.length c3) (.slice A4 PK.out.length c4)
    refine bodyPost_ret (v := .tuple #[.agg #[.int .i64 PK.n, .int .i64 PK.o, .slice A3 PK.nx.length c3, .slice A4 PK.out.length c4], .int .i64 0]) (by simp [results, Try.results35, go_sem, g0, g1, g2, g3]) rfl ?_
    rw [HRE.out]
    have HW := Within.fill4 w2 (w.heap.size + 1) (.int .i64 PK.n) (.int .i64 PK.o) (.slice A3 PK.nx.length c3) (.slice A4 PK.out.length c4)
    exact ⟨_, rfl, ((hnb.trans hn1).trans hn2).within HW (by omega), (ho.within HW (Or.inr (by omega))).widen (by omega) HW.2.2.2.1⟩

end Go.Proofs.Ytcjmcpfdpnakkaa
