/- The program's calls of a function for all colourings. -/
import Derived.Test.YtoeckejcmojeaaaGreatRows
import Derived.Test.YtoeckejcmojeaaaGreatCore
import Derived.Test.YtoeckejcmojeaaaGreatInfos
import Derived.Test.YtoeckejcmojeaaaGreatPlains
import Derived.Test.YtoeckejcmojeaaaGreatJoins
import Derived.Test.YtoeckejcmojeaaaGreatQuicks
import Derived.Test.YtoeckejcmojeaaaGreatMaps
import Derived.Test.YtoeckejcmojeaaaGreatArrs
import Derived.Test.YtoeckejcmojeaaaGreatIBase
import Derived.Test.YtoeckejcmojeaaaGreatIArrs
import Derived.Test.YtoeckejcmojeaaaGreatIAt
import Derived.Test.YtoeckejcmojeaaaGreatIRdss
import Derived.Test.YtoeckejcmojeaaaGreatISurvey
import Derived.WalkKit
import Derived.WalkSpells
import Derived.WalkLawsBesides
import Derived.Deep.QuietTactic
import Derived.Deep.OwnRows
import Derived.BigQuiet
import Derived.KernelRfl
import Derived.Laws.EntriesVeiled
namespace Go.Proofs.YtoeckejcmojeaaaGreat
open Go.RowKit

set_option maxRecDepth 20000 in
set_option maxHeartbeats 1000000 in
theorem paintCount_any (A : Option Addr) (c m : Nat) (n : Int) (cv : Value) (cs : List (List (List Int))) (w : World) (hc : ListAt RowsAt w cv cs) (h6 : ∀ s, s < cs.length → (nth cs s).length ≤ 6) (h7 : cs.length ≤ 7) :
    Calls Tryz.prog 73 #[.agg #[.int .i64 n, .slice A m c, cv]] w fun e w' => e = .returned (.int .i64 (cntTo cs cs.length : Nat)) ∧ New w w' := by
  obtain ⟨AC, cC, rfl, hlC, hC⟩ := hc
  have HC := hid hC
  have HB := hid (fun s hs => cntTo_big h6 h7 s hs)
  have H6 := hid h6
  clear hC h6
  obtain ⟨wb, hwb⟩ : ∃ wb, wb = w.alloc (.cells #[.int .i64 n, .slice A m c, .slice AC cs.length cC] 95) := ⟨_, rfl⟩
  have hnb : New w wb := by rw [hwb]; exact (by repeat (first | with_reducible exact New.refl _ | with_reducible assumption | with_reducible refine New.alloc ?_ _ | with_reducible refine New.drewN ?_ _ | with_reducible refine New.drew ?_ | with_reducible refine New.trans ?_ (by with_reducible assumption)))
  have z2 : wb.cell? ⟨w.heap.size, 2, none⟩ = some (.slice AC cs.length cC) := by rw [hwb]; go_simp
  go_enter Tryz.func73, Tryz.ntmps73
  go_wp2_with fail
  rw [← hwb]
  clear hwb
  go_wp2_with fail
  go_loopw [3, 9] (fun o i wr => ∃ s : Nat, s ≤ cs.length ∧ i = .int .i64 s ∧ o = .int .i64 (cntTo cs s : Nat) ∧ wr = wb) (fun _ i _ => cs.length - (intOf i).toNat)
  case atStart => exact ⟨0, Nat.zero_le _, rfl, rfl, rfl⟩
  case round =>
    obtain ⟨s, hs, rfl, rfl, rfl⟩ := hrel
    have hbig := HB.out s hs
    have HSU := hid (show cntTo cs (s + 1) = cntTo cs s * (nth cs s).length from rfl)
    obtain ⟨Z, hZ⟩ : ∃ Z, Z = cntTo cs s := ⟨_, rfl⟩
    rw [← hZ] at hbig HSU ⊢
    have HZ := hid hZ
    clear hZ
    by_cases hlt : s < cs.length
    · have b1 : (s : Int) < (cs.length : Int) := by omega
      obtain ⟨cb, co, tv, rfl, hx, hxt⟩ := HC.out s hlt
      obtain ⟨At, ct, rfl⟩ := hxt.form
      have htl := hxt.len
      have h6 := H6.out s hlt
      obtain ⟨L, hL⟩ : ∃ L, L = (nth cs s).length := ⟨_, rfl⟩
      rw [← hL] at hx htl HSU h6
      replace hx := hnb.cell hx
      have key : Z * L ≤ 279936 * 6 := Nat.mul_le_mul hbig h6
      have hmul : (Z : Int) * (L : Int) = ((Z * L : Nat) : Int) := by simp
      have HM := hid hmul
      obtain ⟨ZL, hZL⟩ : ∃ z, z = Z * L := ⟨_, rfl⟩
      rw [← hZL] at key HSU HM
      clear hL hxt hmul hZL
      have hw1 : Go.RowKit.wrap64 ((Z : Int) * (L : Int)) = (ZL : Int) := by rw [HM.out]; exact IntWalk.wrap64_in _ ⟨by omega, by omega⟩
      go_wp2_with (go_at_call 110; refine (sizeRows_any _ _ _ _ htl).mono ?_; rintro e w' ⟨rfl, rfl⟩)
      go_roundw
      case rel => exact ⟨s + 1, by omega, by go_num, by rw [HSU.out, hw1], by trivial⟩
      case measure => simp [intOf]; omega
    · have e : s = cs.length := by omega
      subst e
      go_wp2_with fail
      go_ret
      rw [← HZ.out]
      exact ⟨rfl, hnb⟩
def colCode (r : Aut) : Int := if roadsOk r = true then (if 50000 < colCount r then 3 else 0) else 1
theorem RowsAt.solidOld {w0 w : World} {S : Nat → Prop} {v : Value} {xss : List (List Int)} (h : RowsAt w0 v xss) (hn : New w0 w) (hS : ∀ q, S q → w0.heap.size ≤ q) : Solid S w (fun w => RowsAt w v xss) := fun _ hb => h.new (But.new hn hb hS)
set_option maxRecDepth 20000 in
set_option maxHeartbeats 2000000 in
theorem colourings_any (v : Value) (r : Aut) (w0 w : World) (k : Nat) (cap : Array Value) (h : AutAt w0 v r) (hn0 : New w0 w) (hent : ∀ args w, Sem.run Tryz.prog (callFunc k args) w = .ok (.enter k args) w)
    (S : Nat → Prop) (hS : ∀ q, S q → w0.heap.size ≤ q ∧ q < w.heap.size) (I : Nat → World → Prop) (go : Nat → Bool) (hI : ∀ n w1 w2, I n w1 → New w1 w2 → I n w2)
    (hstep : ∀ n w1, n < colCount r → RoadsFacts r → (∀ m, m < n → go m = true) → I n w1 → Calls Tryz.prog k (#[.int .i64 (n : Nat), .int .i64 (surveyOf (colN r n)).1, .int .i64 (surveyOf (colN r n)).2] ++ cap) w1 fun e w2 => e = .returned (.bool (go n)) ∧ But S w1 w2 ∧ I (n + 1) w2)
    (h0 : I 0 w) :
    Calls Tryz.prog 63 #[v, .func (.func k) #[] cap] w fun e w' => e = .returned (.int .i64 (colCode r)) ∧ But S w w' ∧ (colCode r ≠ 0 → I 0 w') ∧ (colCode r = 0 → ∃ N, N ≤ colCount r ∧ I N w' ∧ (∀ m, m + 1 < N → go m = true) ∧ (N < colCount r → 0 < N ∧ go (N - 1) = false)) := by
  obtain ⟨rv, rfl, hr⟩ := h
  obtain ⟨A, c, rfl⟩ := hr.form
  obtain ⟨wb, hwb⟩ : ∃ wb, wb = w.alloc (.cells #[.int .i64 r.n, .slice A r.nx.length c] 47) := ⟨_, rfl⟩
  have hnb : New w wb := by rw [hwb]; exact (by repeat (first | with_reducible exact New.refl _ | with_reducible assumption | with_reducible refine New.alloc ?_ _ | with_reducible refine New.drewN ?_ _ | with_reducible refine New.drew ?_ | with_reducible refine New.trans ?_ (by with_reducible assumption)))
  have hb0 : wb.cell? ⟨w.heap.size, 0, none⟩ = some (.int .i64 r.n) := by rw [hwb]; go_simp
  have hb1 : wb.cell? ⟨w.heap.size, 1, none⟩ = some (.slice A r.nx.length c) := by rw [hwb]; go_simp
  have h1 : AutAt w0 (.agg #[.int .i64 r.n, .slice A r.nx.length c]) r := ⟨_, rfl, hr⟩
  have hn0b := hn0.trans hnb
  have C1 := ValidRoads_any _ r wb (h1.new hn0b)
  obtain ⟨R, hR⟩ : ∃ R, R = colCode r := ⟨_, rfl⟩
  rw [← hR]
  unfold colCode at hR
  have HR := hid hR
  have HI := hid hI
  have HST := hid hstep
  clear hR hI hstep
  cases hm : roadsOk r with
  | false =>
    rw [hm] at C1
    have HE := hid (show R = 1 by rw [HR.out, hm]; rfl)
    go_enter Tryz.func63, Tryz.ntmps63
    go_wp2_with fail
    rw [← hwb]
    go_wp2_with fail
    refine C1.mono ?_
    rintro e w1 ⟨rfl, hn1⟩
    go_wp2_with fail
    go_ret
    rw [HE.out]
    exact ⟨rfl, But.of_new (hnb.trans hn1), fun _ => HI.out 0 _ _ h0 (hnb.trans hn1), fun h => absurd h (by decide)⟩
  | true =>
    rw [hm] at C1
    have hf := roads_facts hm
    have HF := hid hf
    have hcl := choices_len r
    have HE0 := hid (show R = if 50000 < colCount r then 3 else 0 by rw [HR.out, hm]; rfl)
    have HNP := hid (fun w1 (hn : New wb w1) => newPaintS_any _ r w1 (h1.new (hn0b.trans hn)) hf.n7 (fun i hi => by rw [hf.row i hi]; exact hf.l3))
    have HCNT := hid (fun (w1 : World) (A1 : Option Addr) (c1 m1 : Nat) (n1 : Int) cv (hc : ListAt RowsAt w1 cv (choicesOf r)) => (show Calls Tryz.prog 73 #[.agg #[.int .i64 n1, .slice A1 m1 c1, cv]] w1 fun e w' => e = .returned (.int .i64 (colCount r : Nat)) ∧ New w1 w' by
      have := paintCount_any A1 c1 m1 n1 cv (choicesOf r) w1 hc (fun p hp => choices_six hf p hp) (by rw [hcl]; exact hf.n7)
      rw [hcl] at this; exact this))
    have HAT := hid (fun (w1 : World) rv2 cv (N : Nat) (hr : RowsAt w1 rv2 r.nx) (hc : ListAt RowsAt w1 cv (choicesOf r)) (hN : N ≤ 4611686018427387904) => paintAt_any rv2 cv r.nx (choicesOf r) (nth r.nx 0).length N w1 hr hc (choices_len r) hf.n1 hf.n7 rfl ⟨hf.l1, hf.l3⟩ (fun p hp => choices_pos p hp) (fun p hp i hi => choices_row hf p hp i hi) hN)
    have HSV := hid (fun (w1 : World) v3 (N : Nat) (h3 : AutAt w1 v3 (colN r N)) => survey_any v3 (colN r N) w1 h3 (colN_ok hf N) (colN_n hf N))
    have hbig := colCount_big hf
    have hrn := hf.n
    have HRN := hid hrn
    obtain ⟨CC, hCC⟩ : ∃ z, z = colCount r := ⟨_, rfl⟩
    rw [← hCC] at HE0 HCNT HST hbig ⊢
    clear hf hcl hm HR hrn hCC
    by_cases h5 : 50000 < CC
    · have HE := hid (show R = 3 by rw [HE0.out, if_pos h5])
      have h5i : (50000 : Int) < (CC : Int) := by omega
      go_enter Tryz.func63, Tryz.ntmps63
      go_wp2_with fail
      rw [← hwb]
      go_wp2_with fail
      refine C1.mono ?_
      rintro e w1 ⟨rfl, hn1⟩
      have z0 := hn1.cell hb0
      have z1 := hn1.cell hb1
      go_wp2_with fail
      refine (HNP.out _ hn1).mono ?_
      rintro e w2 ⟨rv2, rc, rfl, ev, hn2, hrv2, hL2⟩
      obtain rfl : Value.slice A r.nx.length c = rv2 := by injection ev with ev; simpa using ev
      clear ev
      have hLn := hL2.now
      obtain ⟨AC, cC, hcf, _⟩ := id hLn
      subst hcf
      have hnp := hn1.trans hn2
      have hL3 := fun w1 (hn : New w2 w1) => (hL2.new hn).now
      go_wp2_with (go_at_call 73; refine (HCNT.out _ _ _ _ _ _ (hL3 _ (by repeat (first | with_reducible exact New.refl _ | with_reducible assumption | with_reducible refine New.alloc ?_ _ | with_reducible refine New.drewN ?_ _ | with_reducible refine New.drew ?_ | with_reducible refine New.trans ?_ (by with_reducible assumption))))).mono ?_; rintro e w3 ⟨rfl, hn3⟩)
      go_ret
      rw [HE.out]
      have hfin : New w w3 := (hnb.trans hnp).trans (New.trans (by repeat (first | with_reducible exact New.refl _ | with_reducible assumption | with_reducible refine New.alloc ?_ _ | with_reducible refine New.drewN ?_ _ | with_reducible refine New.drew ?_ | with_reducible refine New.trans ?_ (by with_reducible assumption))) hn3)
      exact ⟨rfl, But.of_new hfin, fun _ => HI.out 0 _ _ h0 hfin, fun h => absurd h (by decide)⟩
    · have HE := hid (show R = 0 by rw [HE0.out, if_neg h5])
      have h5i : ¬ (50000 : Int) < (CC : Int) := by omega
      go_enter Tryz.func63, Tryz.ntmps63
      go_wp2_with fail
      rw [← hwb]
      go_wp2_with fail
      refine C1.mono ?_
      rintro e w1 ⟨rfl, hn1⟩
      have z0 := hn1.cell hb0
      have z1 := hn1.cell hb1
      go_wp2_with fail
      refine (HNP.out _ hn1).mono ?_
      rintro e w2 ⟨rv2, rc, rfl, ev, hn2, hrv2, hL2⟩
      obtain rfl : Value.slice A r.nx.length c = rv2 := by injection ev with ev; simpa using ev
      clear ev
      have hLn := hL2.now
      obtain ⟨AC, cC, hcf, _⟩ := id hLn
      subst hcf
      have hnp := hn1.trans hn2
      have hL3 := fun w1 (hn : New w2 w1) => (hL2.new hn).now
      have hz2 := hnp.size
      go_wp2_with (go_at_call 73; refine (HCNT.out _ _ _ _ _ _ (hL3 _ (by repeat (first | with_reducible exact New.refl _ | with_reducible assumption | with_reducible refine New.alloc ?_ _ | with_reducible refine New.drewN ?_ _ | with_reducible refine New.drew ?_ | with_reducible refine New.trans ?_ (by with_reducible assumption))))).mono ?_; rintro e w3 ⟨rfl, hn3⟩; have y0 : w3.cell? ⟨w2.heap.size, 0, none⟩ = some (.int .i64 r.n) := hn3.cell (by first | assumption | go_simp); have y1 : w3.cell? ⟨w2.heap.size, 1, none⟩ = some (.slice A r.nx.length c) := hn3.cell (by first | assumption | go_simp); have y2 : w3.cell? ⟨w2.heap.size, 2, none⟩ = some (.slice AC (choicesOf r).length cC) := hn3.cell (by first | assumption | go_simp))
      rename_i w3' hn3' y0' y1' y2'
      have hn24 : New w2 w3 := (by repeat (first | with_reducible exact New.refl _ | with_reducible assumption | with_reducible refine New.alloc ?_ _ | with_reducible refine New.drewN ?_ _ | with_reducible refine New.drew ?_ | with_reducible refine New.trans ?_ (by with_reducible assumption)))
      have hnw4 : New w w3 := (hnb.trans hnp).trans hn24
      have hS2 : ∀ q, S q → q < w.heap.size := fun q hq => (hS q hq).2
      have hzw := hnw4.size
      have hzb := hnb.size
      have HRV := hid (show ∀ w1, But S w3 w1 → RowsAt w1 (.slice A r.nx.length c) r.nx from fun w1 hb => by
        exact hr.solidOld (hn0.trans hnw4) (fun q hq => (hS q hq).1) w1 hb)
      have HLC := hid (show ∀ w1, But S w3 w1 → ListAt RowsAt w1 (.slice AC (choicesOf r).length cC) (choicesOf r) from fun w1 hb => ((hL2.new hn24).mono (fun q hq => by have := hS2 q hq; have := hn1.size; omega)) w1 hb)
      have h00 := HI.out 0 _ _ h0 hnw4
      have HY := hid (show ∀ w1, But S w3 w1 → w1.cell? ⟨w2.heap.size, 0, none⟩ = some (.int .i64 r.n) ∧ w1.cell? ⟨w2.heap.size, 1, none⟩ = some (.slice A r.nx.length c) ∧ w1.cell? ⟨w2.heap.size, 2, none⟩ = some (.slice AC (choicesOf r).length cC) from fun w1 hb => by
        have hno : ¬ S w2.heap.size := fun hq => by have := hS2 _ hq; omega
        exact ⟨hb.cell y0 hno, hb.cell y1 hno, hb.cell y2 hno⟩)
      go_loopw [19] (fun i wr => ∃ n : Nat, n ≤ CC ∧ i = .int .i64 n ∧ But S w3 wr ∧ I n wr ∧ Hid (∀ m, m < n → go m = true)) (fun i _ => CC - (intOf i).toNat)
      case atStart => exact ⟨0, Nat.zero_le _, rfl, But.refl, h00, hid (fun m hm => by omega)⟩
      case round =>
        obtain ⟨n, hnC, rfl, hb, hIn, hgo⟩ := hrel
        obtain ⟨wo, rfl⟩ : ∃ wo : World, wo = wr := ⟨_, rfl⟩
        obtain ⟨q0, q1, q2⟩ := HY.out _ hb
        by_cases hlt : n < CC
        · have b1 : (n : Int) < (CC : Int) := by omega
          have HA := hid (fun (w1 : World) (hn : New wo w1) => HAT.out w1 (.slice A r.nx.length c) (.slice AC (choicesOf r).length cC) n ((HRV.out _ hb).new hn) (HLC.out _ (hb.trans (But.of_new (S := S) hn) (fun q hq => Or.inl hq))) (by omega))
          rw [HRN.out] at HA
          cases hg : go n with
          | true =>
            have HG := hid hg
            have HSTn := hid (fun w1 (hi : I n w1) => HST.out n w1 hlt HF.out hgo.out hi)
            rw [hg] at HSTn
            clear hg
            go_wp2_with (first
              | (go_at_call 61; refine (HA.out _ (by repeat (first | with_reducible exact New.refl _ | with_reducible assumption | with_reducible refine New.alloc ?_ _ | with_reducible refine New.drewN ?_ _ | with_reducible refine New.drew ?_ | with_reducible refine New.trans ?_ (by with_reducible assumption)))).mono ?_; rintro e w5 ⟨r5, rfl, hn5, ho5⟩; have hn5w : New wo w5 := (by repeat (first | with_reducible exact New.refl _ | with_reducible assumption | with_reducible refine New.alloc ?_ _ | with_reducible refine New.drewN ?_ _ | with_reducible refine New.drew ?_ | with_reducible refine New.trans ?_ (by with_reducible assumption))))
              | (go_at_call 116; refine (HSV.out _ _ n (by unfold colN; rw [HRN.out]; exact ho5.at)).mono ?_; rintro e w6 ⟨rfl, hn6⟩; have hn6w : New wo w6 := hn5w.trans hn6)
              | (refine (HSTn.out _ (HI.out n _ _ hIn hn6w)).mono ?_; rintro e w7 ⟨rfl, hb7, hI7⟩))
            refine ⟨⟨n + 1, by omega, by go_num, ((hb.trans (But.of_new (S := S) hn6w) (fun q hq => Or.inl hq)).trans hb7 (fun q hq => Or.inl hq)), hI7, hid (fun m hm => by
              rcases Nat.lt_succ_iff_lt_or_eq.1 hm with q | q
              · exact hgo.out m q
              · subst q; exact HG.out)⟩, ?_⟩
            simp [intOf]; omega
          | false =>
            have HG := hid hg
            have HSTn := hid (fun w1 (hi : I n w1) => HST.out n w1 hlt HF.out hgo.out hi)
            rw [hg] at HSTn
            clear hg
            go_wp2_with (first
              | (go_at_call 61; refine (HA.out _ (by repeat (first | with_reducible exact New.refl _ | with_reducible assumption | with_reducible refine New.alloc ?_ _ | with_reducible refine New.drewN ?_ _ | with_reducible refine New.drew ?_ | with_reducible refine New.trans ?_ (by with_reducible assumption)))).mono ?_; rintro e w5 ⟨r5, rfl, hn5, ho5⟩; have hn5w : New wo w5 := (by repeat (first | with_reducible exact New.refl _ | with_reducible assumption | with_reducible refine New.alloc ?_ _ | with_reducible refine New.drewN ?_ _ | with_reducible refine New.drew ?_ | with_reducible refine New.trans ?_ (by with_reducible assumption))))
              | (go_at_call 116; refine (HSV.out _ _ n (by unfold colN; rw [HRN.out]; exact ho5.at)).mono ?_; rintro e w6 ⟨rfl, hn6⟩; have hn6w : New wo w6 := hn5w.trans hn6)
              | (refine (HSTn.out _ (HI.out n _ _ hIn hn6w)).mono ?_; rintro e w7 ⟨rfl, hb7, hI7⟩))
            go_ret
            rw [HE.out]
            have hbf : But S w w7 := (But.of_new hnw4).trans ((hb.trans (But.of_new (S := S) hn6w) (fun q hq => Or.inl hq)).trans hb7 (fun q hq => Or.inl hq)) (fun q hq => Or.inl hq)
            exact ⟨rfl, hbf, fun h => absurd rfl h, fun _ => ⟨n + 1, by omega, hI7, fun m hm => hgo.out m (by omega), fun _ => ⟨by omega, by rw [Nat.add_sub_cancel]; exact HG.out⟩⟩⟩
        · have e : n = CC := by omega
          have b1 : ¬ (n : Int) < (CC : Int) := by omega
          subst e
          go_wp2_with fail
          go_ret
          rw [HE.out]
          exact ⟨rfl, (But.of_new hnw4).trans hb (fun q hq => Or.inl hq), fun h => absurd rfl h, fun _ => ⟨n, Nat.le_refl _, hIn, fun m hm => hgo.out m (by omega), fun h => absurd h (by omega)⟩⟩

end Go.Proofs.YtoeckejcmojeaaaGreat
