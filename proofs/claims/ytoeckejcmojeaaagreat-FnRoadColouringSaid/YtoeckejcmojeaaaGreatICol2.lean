/- How many colourings right roads have, and the one with a number. -/
import Derived.Test.YtoeckejcmojeaaaGreatRows
import Derived.Test.YtoeckejcmojeaaaGreatCore
import Derived.Test.YtoeckejcmojeaaaGreatInfos
import Derived.Test.YtoeckejcmojeaaaGreatPlains
import Derived.Test.YtoeckejcmojeaaaGreatJoins
import Derived.Test.YtoeckejcmojeaaaGreatQuicks
import Derived.Test.YtoeckejcmojeaaaGreatPlainReset
import Derived.Test.YtoeckejcmojeaaaGreatMaps
import Derived.Test.YtoeckejcmojeaaaGreatArrs
import Derived.Test.YtoeckejcmojeaaaGreatIBase
import Derived.Test.YtoeckejcmojeaaaGreatIArrs
import Derived.Test.YtoeckejcmojeaaaGreatIAt
import Derived.Test.YtoeckejcmojeaaaGreatIRdss
import Derived.Test.YtoeckejcmojeaaaGreatICol
import Derived.WalkKit
import Derived.WalkSpells
import Derived.WalkLawsBesides
import Derived.Deep.QuietTactic
import Derived.Deep.OwnRows
import Derived.BigQuiet
import Derived.KernelRfl
import Derived.Carry
import Derived.Deep.RegionHeld3
namespace Go.Proofs.YtoeckejcmojeaaaGreat
open Go.RowKit

set_option maxRecDepth 20000 in
set_option maxHeartbeats 2000000 in
theorem ColouringAt_any (v : Value) (r : Aut) (N : Nat) (w : World) (h : AutAt w v r) (hm : roadsOk r = true) (hN : N ≤ 4611686018427387904) :
    Calls Tryz.prog 25 #[v, .int .i64 (N : Nat)] w fun e w' => ∃ q, e = .returned (.tuple #[q, .int .i64 (if N < colCount r then 0 else 2)]) ∧ New w w' ∧ (N < colCount r → OwnAut w.heap.size w'.heap.size w' q (colN r N)) ∧ (¬ N < colCount r → q = .agg #[.int .i64 0, .slice none 0 0]) := by
  obtain ⟨rv, rfl, hr⟩ := h
  obtain ⟨A, c, rfl⟩ := hr.form
  obtain ⟨wb, hwb⟩ : ∃ wb, wb = (w.alloc (.cells #[.int .i64 r.n, .slice A r.nx.length c] 47)).alloc (.cells #[.int .i64 0, .slice none 0 0] 31) := ⟨_, rfl⟩
  have hnb : New w wb := by rw [hwb]; exact (by repeat (first | with_reducible exact New.refl _ | with_reducible assumption | with_reducible refine New.alloc ?_ _ | with_reducible refine New.drewN ?_ _ | with_reducible refine New.drew ?_ | with_reducible refine New.trans ?_ (by with_reducible assumption)))
  have hb0 : wb.cell? ⟨w.heap.size, 0, none⟩ = some (.int .i64 r.n) := by rw [hwb]; go_simp
  have hb1 : wb.cell? ⟨w.heap.size, 1, none⟩ = some (.slice A r.nx.length c) := by rw [hwb]; go_simp
  have hB0 : Box2 wb (w.heap.size + 1) (.int .i64 0) (.slice none 0 0) := by rw [hwb]; exact ⟨by go_simp, by go_simp, by go_simp, by go_simp⟩
  have h1 : AutAt w (.agg #[.int .i64 r.n, .slice A r.nx.length c]) r := ⟨_, rfl, hr⟩
  have C1 := ValidRoads_any _ r wb (h1.new hnb)
  rw [hm] at C1
  have hf := roads_facts hm
  have hcl := choices_len r
  have hbig := colCount_big hf
  have HNP := hid (fun w1 (hn : New wb w1) => newPaintS_any _ r w1 (h1.new (hnb.trans hn)) hf.n7 (fun i hi => by rw [hf.row i hi]; exact hf.l3))
  have HCNT := hid (fun (w1 : World) (A1 : Option Addr) (c1 m1 : Nat) (n1 : Int) cv (hc : ListAt RowsAt w1 cv (choicesOf r)) => (show Calls Tryz.prog 73 #[.agg #[.int .i64 n1, .slice A1 m1 c1, cv]] w1 fun e w' => e = .returned (.int .i64 (colCount r : Nat)) ∧ New w1 w' by
    have := paintCount_any A1 c1 m1 n1 cv (choicesOf r) w1 hc (fun p hp => choices_six hf p hp) (by rw [hcl]; exact hf.n7)
    rw [hcl] at this; exact this))
  have HAT := hid (fun (w1 : World) rv2 cv (hr : RowsAt w1 rv2 r.nx) (hc : ListAt RowsAt w1 cv (choicesOf r)) => paintAt_any rv2 cv r.nx (choicesOf r) (nth r.nx 0).length N w1 hr hc (choices_len r) hf.n1 hf.n7 rfl ⟨hf.l1, hf.l3⟩ (fun p hp => choices_pos p hp) (fun p hp i hi => choices_row hf p hp i hi) hN)
  have HRN := hid hf.n
  rw [hf.n] at HAT
  obtain ⟨CC, hCC⟩ : ∃ z, z = colCount r := ⟨_, rfl⟩
  rw [← hCC] at HCNT hbig ⊢
  have hwr : Go.RowKit.wrap64 ((CC : Int) - 1) = (CC : Int) - 1 := IntWalk.wrap64_in _ ⟨by omega, by omega⟩
  have hwr2 : IntKind.i64.wrap ((CC : Int) - 1) = (CC : Int) - 1 := IntWalk.i64_in _ (by omega)
  obtain ⟨CV, hCV⟩ : ∃ z : Int, z = if N < CC then 0 else 2 := ⟨_, rfl⟩
  rw [← hCV]
  have HCV := hid hCV
  clear hf hcl hm hCC hCV
  go_enter Tryz.func25, Tryz.ntmps25
  go_wp2_with fail
  rw [← hwb]
  clear hwb
  obtain ⟨b0, b1, bf0, bf1⟩ := id hB0
  go_wp2_with fail
  refine C1.mono ?_
  rintro e w1 ⟨rfl, hn1⟩
  have z0 := hn1.cell hb0
  have z1 := hn1.cell hb1
  have hB1 := hB0.new hn1
  obtain ⟨y0, y1, _, _⟩ := id hB1
  go_wp2_with fail
  refine (HNP.out _ hn1).mono ?_
  rintro e w2 ⟨rv2, rc, rfl, ev, hn2, hrv2, hL2⟩
  obtain rfl : Value.slice A r.nx.length c = rv2 := by injection ev with ev; simpa using ev
  clear ev
  have hLn := hL2.now
  obtain ⟨AC, cC, hcf, _⟩ := id hLn
  subst hcf
  have hnp := hn1.trans hn2
  have hB2 := hB1.new hn2
  have hL3 := fun w1 (hn : New w2 w1) => (hL2.new hn).now
  have hz2 : w.heap.size + 1 < w2.heap.size := hB2.lt
  have HWI := hid (fun (w1 : World) => within_any (N : Int) 0 ((CC : Int) - 1) w1)
  by_cases hlt : N < CC
  · have hib : inB (N : Int) 0 ((CC : Int) - 1) = true := (inB_iff _ _ _).2 ⟨by omega, by omega⟩
    rw [hib] at HWI
    have HE := hid (show CV = 0 by rw [HCV.out, if_pos hlt])
    clear hib
    go_wp2_with (first
      | (go_at_call 73; refine (HCNT.out _ _ _ _ _ _ (hL3 _ (by repeat (first | with_reducible exact New.refl _ | with_reducible assumption | with_reducible refine New.alloc ?_ _ | with_reducible refine New.drewN ?_ _ | with_reducible refine New.drew ?_ | with_reducible refine New.trans ?_ (by with_reducible assumption))))).mono ?_; rintro e w3 ⟨rfl, hn3⟩; have y0 : w3.cell? ⟨w2.heap.size, 0, none⟩ = some (.int .i64 r.n) := hn3.cell (by first | assumption | go_simp); have y1 : w3.cell? ⟨w2.heap.size, 1, none⟩ = some (.slice A r.nx.length c) := hn3.cell (by first | assumption | go_simp); have y2 : w3.cell? ⟨w2.heap.size, 2, none⟩ = some (.slice AC (choicesOf r).length cC) := hn3.cell (by first | assumption | go_simp); have hn24 : New w2 w3 := (by repeat (first | with_reducible exact New.refl _ | with_reducible assumption | with_reducible refine New.alloc ?_ _ | with_reducible refine New.drewN ?_ _ | with_reducible refine New.drew ?_ | with_reducible refine New.trans ?_ (by with_reducible assumption))); have hB3 := hB2.new hn24)
      | (go_at_call 72; refine (HWI.out _).mono ?_; rintro e w' ⟨rfl, hww⟩; rw [hww]; clear hww w')
      | (go_at_call 61; refine (HAT.out _ _ _ (hrv2.new (by repeat (first | with_reducible exact New.refl _ | with_reducible assumption | with_reducible refine New.alloc ?_ _ | with_reducible refine New.drewN ?_ _ | with_reducible refine New.drew ?_ | with_reducible refine New.trans ?_ (by with_reducible assumption)))) (hL3 _ (by repeat (first | with_reducible exact New.refl _ | with_reducible assumption | with_reducible refine New.alloc ?_ _ | with_reducible refine New.drewN ?_ _ | with_reducible refine New.drew ?_ | with_reducible refine New.trans ?_ (by with_reducible assumption))))).mono ?_; rintro e w5 ⟨r5, rfl, hn5, ho5⟩; obtain ⟨rv5, rfl, ho6⟩ := ho5; obtain ⟨A5, c5, rfl⟩ := ho6.form; have hB5 := hB3.new hn5; obtain ⟨s0, s1, sf0, sf1⟩ := id hB5))
    obtain ⟨g0, g1, _⟩ := hB5.fill (.int .i64 r.n) (.slice A5 (atRows (choicesOf r) N (nth r.nx 0).length).length c5)
    have HW := hid (Within.fill w5 (w.heap.size + 1) (.int .i64 r.n) (.slice A5 (atRows (choicesOf r) N (nth r.nx 0).length).length c5))
    refine bodyPost_ret (v := .tuple #[.agg #[.int .i64 r.n, .slice A5 (atRows (choicesOf r) N (nth r.nx 0).length).length c5], .int .i64 0]) (by simp [results, Tryz.results25, go_sem, g0, g1]) rfl ?_
    rw [HE.out]
    have hn35 : New w w5 := (hnb.trans hnp).trans (New.trans hn24 hn5)
    have hz35 : w.heap.size + 2 ≤ w3.heap.size := by have := hn24.size; omega
    refine ⟨_, rfl, hn35.within HW.out (by omega), fun _ => ?_, fun h => absurd hlt h⟩
    unfold colN
    rw [HRN.out]
    exact ⟨_, rfl, (ho6.within HW.out (Or.inr (by omega))).widen (by omega) HW.out.2.2.2.1⟩
  · have hib : inB (N : Int) 0 ((CC : Int) - 1) = false := by
      cases hq : inB (N : Int) 0 ((CC : Int) - 1) with
      | false => rfl
      | true => have := (inB_iff _ _ _).1 hq; omega
    rw [hib] at HWI
    have HE := hid (show CV = 2 by rw [HCV.out, if_neg hlt])
    clear hib
    go_wp2_with (first
      | (go_at_call 73; refine (HCNT.out _ _ _ _ _ _ (hL3 _ (by repeat (first | with_reducible exact New.refl _ | with_reducible assumption | with_reducible refine New.alloc ?_ _ | with_reducible refine New.drewN ?_ _ | with_reducible refine New.drew ?_ | with_reducible refine New.trans ?_ (by with_reducible assumption))))).mono ?_; rintro e w3 ⟨rfl, hn3⟩; have y0 : w3.cell? ⟨w2.heap.size, 0, none⟩ = some (.int .i64 r.n) := hn3.cell (by first | assumption | go_simp); have y1 : w3.cell? ⟨w2.heap.size, 1, none⟩ = some (.slice A r.nx.length c) := hn3.cell (by first | assumption | go_simp); have y2 : w3.cell? ⟨w2.heap.size, 2, none⟩ = some (.slice AC (choicesOf r).length cC) := hn3.cell (by first | assumption | go_simp); have hn24 : New w2 w3 := (by repeat (first | with_reducible exact New.refl _ | with_reducible assumption | with_reducible refine New.alloc ?_ _ | with_reducible refine New.drewN ?_ _ | with_reducible refine New.drew ?_ | with_reducible refine New.trans ?_ (by with_reducible assumption))); have hB3 := hB2.new hn24; obtain ⟨s0, s1, sf0, sf1⟩ := id hB3)
      | (go_at_call 72; refine (HWI.out _).mono ?_; rintro e w' ⟨rfl, hww⟩; rw [hww]; clear hww w'))
    obtain ⟨g0, g1, _⟩ := hB3.fill (.int .i64 0) (.slice none 0 0)
    have HW := hid (Within.fill w3 (w.heap.size + 1) (.int .i64 0) (.slice none 0 0))
    refine bodyPost_ret (v := .tuple #[.agg #[.int .i64 0, .slice none 0 0], .int .i64 2]) (by simp [results, Tryz.results25, go_sem, g0, g1]) rfl ?_
    rw [HE.out]
    have hn35 : New w w3 := (hnb.trans hnp).trans hn24
    exact ⟨_, rfl, hn35.within HW.out (by omega), fun h => absurd h hlt, fun _ => rfl⟩

end Go.Proofs.YtoeckejcmojeaaaGreat
