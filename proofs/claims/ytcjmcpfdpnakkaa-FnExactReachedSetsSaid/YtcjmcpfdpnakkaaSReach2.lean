/- The reference's reached sets. -/
import Derived.Test.YtcjmcpfdpnakkaaRows
import Derived.Test.YtcjmcpfdpnakkaaCore
import Derived.Test.YtcjmcpfdpnakkaaInfo
import Derived.Test.YtcjmcpfdpnakkaaInfo2
import Derived.Test.YtcjmcpfdpnakkaaPlains
import Derived.Test.YtcjmcpfdpnakkaaPlainOrd
import Derived.Test.YtcjmcpfdpnakkaaMaps
import Derived.Test.YtcjmcpfdpnakkaaWalkV
import Derived.Test.YtcjmcpfdpnakkaaRowsSwap
import Derived.Test.YtcjmcpfdpnakkaaS01a
import Derived.Test.YtcjmcpfdpnakkaaSFlk
import Derived.Test.YtcjmcpfdpnakkaaSWalk
import Derived.Test.YtcjmcpfdpnakkaaSLeast
import Derived.Test.YtcjmcpfdpnakkaaSReach
import Derived.WalkKit
import Derived.WalkSpells
import Derived.WalkLawsBesides
import Derived.Deep.QuietTactic
import Derived.Deep.OwnRows
import Derived.BigQuiet
import Derived.KernelRfl
namespace Go.Proofs.Ytcjmcpfdpnakkaa
open Go.RowKit

def ReachedSets (a : Aut) : List (List Int) × Int := if autOk a = true then (buildR longLt ((tourOf a.nx (full a.n)).sets.map setOf), 0) else ([], 1)
theorem setOf_len (f : Nat) : (setOf f).length ≤ 10 := bitsTo_len f 10
set_option maxRecDepth 20000 in
set_option maxHeartbeats 2000000 in
theorem specReachedSets_any (v1 : Value) (a : Aut) (w : World) (h1 : AutAt w v1 a) :
    Calls Try.prog 53 #[v1] w fun e w' => ∃ r, e = .returned (.tuple #[r, .int .i64 (ReachedSets a).2]) ∧ New w w' ∧ OwnRows w.heap.size w'.heap.size w' r (ReachedSets a).1 := by
  obtain ⟨rv, rfl, hr⟩ := h1
  obtain ⟨A, c, rfl⟩ := hr.form
  obtain ⟨wb, hwb⟩ : ∃ wb, wb = w.alloc (.cells #[.int .i64 a.n, .slice A a.nx.length c] 42) := ⟨_, rfl⟩
  have hp : PAut wb (.pointer (some ⟨w.heap.size, 0, none⟩)) a := by rw [hwb]; exact PAut.box hr _
  have hnb : New w wb := by rw [hwb]; exact (by repeat (first | with_reducible exact New.refl _ | with_reducible assumption | with_reducible refine New.alloc ?_ _ | with_reducible refine New.drew ?_ | with_reducible refine New.drewN ?_ _ | with_reducible refine New.setCell ?_ (by simp <;> omega) _))
  obtain ⟨R, hR⟩ : ∃ R, R = ReachedSets a := ⟨_, rfl⟩
  rw [← hR]
  unfold ReachedSets at hR
  have HR := hid hR
  clear hR
  have C1 := l01Ok_any _ a _ hp
  cases ha : autOk a with
  | false =>
    rw [ha] at C1
    have HE := hid (show R = ([], 1) by rw [HR.out, ha]; rfl)
    go_enter Try.func53, Try.ntmps53
    go_wp2_with fail
    rw [← hwb]
    refine C1.mono ?_
    rintro e w1 ⟨rfl, hn1⟩
    have hz1 := (hnb.trans hn1).size
    go_wp2
    go_ret2
    rw [HE.out]
    exact ⟨_, rfl, (hnb.trans hn1).alloc _, (GrowRows.empty w.heap.size 26 w1 hz1).own (by simp)⟩
  | true =>
    rw [ha] at C1
    have han := autOk_n ha
    have C2 := hid (fun w1 (hn : New wb w1) => l02Full_any _ a w1 (hp.new hn) (by omega) han.2)
    have C3 := hid (fun w1 (hn : New wb w1) => l02From_any _ a (full a.n) w1 (hp.new hn) ha (full_lt a.n))
    have HE := hid (show R = (buildR longLt ((tourOf a.nx (full a.n)).sets.map setOf), 0) by rw [HR.out, ha]; rfl)
    have HOK := hid (tourOk ha (full a.n) (full_lt a.n))
    have hlen := HOK.out.len han.2
    obtain ⟨T, hT⟩ : ∃ T, T = tourOf a.nx (full a.n) := ⟨_, rfl⟩
    rw [← hT] at C3 HE HOK hlen
    clear hT ha
    have HLT := hid (fun k (hk : k < T.sets.length) => (show nth T.sets k < 1024 from lt_10 (HOK.out.lt _ (nth_mem _ _ hk)) (by omega)))
    go_enter Try.func53, Try.ntmps53
    go_wp2_with fail
    rw [← hwb]
    refine C1.mono ?_
    rintro e w1 ⟨rfl, hn1⟩
    go_wp2_with (first
      | (go_at_call 115; refine (C2.out _ hn1).mono ?_; rintro e w2 ⟨rfl, rfl⟩)
      | (go_at_call 120; refine (C3.out _ hn1).mono ?_; rintro e w3 ⟨pv, he, hn3, hP⟩; subst he; obtain ⟨pb, s1, s2, s3, rfl, p0, _, _, hS, _, _⟩ := hP; obtain ⟨As, cs, rfl, _, hcs⟩ := hS))
    have hn := (hnb.trans hn1).trans hn3
    have hz3 := hn.size
    have HCS := hid hcs
    have hG0 := GrowRows.empty w3.heap.size 26 w3 (Nat.le_refl _)
    have hN0 : New w3 (w3.alloc (.cells #[] 26)) := (by repeat (first | with_reducible exact New.refl _ | with_reducible assumption | with_reducible refine New.alloc ?_ _ | with_reducible refine New.drew ?_ | with_reducible refine New.drewN ?_ _ | with_reducible refine New.setCell ?_ (by simp <;> omega) _))
    clear hcs
    go_loopw [5, 6] (fun o i wr => ∃ k : Nat, i = .int .i64 k ∧ k ≤ T.sets.length ∧ New w3 wr ∧ GrowRows w3.heap.size 26 wr o (buildR longLt ((T.sets.take k).map setOf))) (fun _ i _ => T.sets.length - (intOf i).toNat)
    case atStart => exact ⟨0, rfl, Nat.zero_le _, hN0, hG0⟩
    case round =>
      obtain ⟨k, rfl, hk, hnr, hg⟩ := hrel
      clear hG0 hN0
      obtain ⟨wo, rfl⟩ : ∃ wo : World, wo = wr := ⟨_, rfl⟩
      have hbl : (buildR longLt ((T.sets.take k).map setOf)).length = k := by rw [buildR_len]; simp; omega
      obtain ⟨Ao, co, rfl⟩ := hg.form
      rw [hbl] at hg ⊢
      obtain ⟨O, hO⟩ : ∃ O, O = buildR longLt ((T.sets.take k).map setOf) := ⟨_, rfl⟩
      rw [← hO] at hg hbl
      have HOD := hid hO
      clear hO
      have HBL := hid hbl
      have y0 := hnr.cell p0
      by_cases hlt : k < T.sets.length
      · have b1 : (k : Int) < (T.sets.length : Int) := by omega
        obtain ⟨bs, os, rfl, hx⟩ := HCS.out k hlt
        replace hx := hnr.cell hx
        have hF := HLT.out k hlt
        have hsl := setOf_len (nth T.sets k)
        have hzr := hnr.size
        have HSTEP := hid (show buildR longLt ((T.sets.take (k + 1)).map setOf) = putR longLt O (setOf (nth T.sets k)) by rw [take_succ_nth T.sets k hlt, List.map_append, List.map_cons, List.map_nil, buildR_snoc, ← HOD.out])
        clear hbl
        go_wp2_with (first
          | (go_at_call 121; refine (l02Set_any _ _ hF).mono ?_; rintro e w4 ⟨r4, he, hn4, ho4⟩; obtain ⟨A4, c4, rfl⟩ := ho4.form; subst he)
          | (at_builtin; refine wpList_appRows rfl _ _ _ rfl Try.underlying22 info_ints _ O (setOf (nth T.sets k)) rfl hg hn4 ho4 rfl (by rw [HBL.out]; omega) hzr ?_; intro g5 cap5 w5 ho5 hg5))
        have hn5 : New w3 w5 := (hnr.trans hn4).appRows hg5 hg (Nat.le_refl _)
        clear hg hg5 hn4 ho4 hnr hx y0
        obtain ⟨O1, hO1⟩ : ∃ O1, O1 = O ++ [setOf (nth T.sets k)] := ⟨_, rfl⟩
        have HO1 := hid (show putR longLt O (setOf (nth T.sets k)) = downR longLt k O1 by rw [hO1]; unfold putR; rw [HBL.out])
        have hl1 : O1.length = k + 1 := by rw [hO1]; simp [HBL.out]
        have HL1 := hid hl1
        rw [← hO1] at ho5
        rw [HBL.out] at ho5 ⊢
        clear hO1 hl1
        go_loopw [8] (fun i wr => ∃ (m : Nat) (X : List (List Int)), i = .int .i64 m ∧ m ≤ k ∧ New w3 wr ∧ GrowRows w3.heap.size 26 wr (.slice (some ⟨g5, 0, none⟩) (k + 1) cap5) X ∧ Hid (X.length = k + 1) ∧ Hid (downR longLt m X = downR longLt k O1)) (fun i _ => (intOf i).toNat)
        case atStart => exact ⟨k, O1, by rw [show Go.RowKit.wrap64 (k : Int) = k from IntWalk.wrap64_in _ (by omega)], Nat.le_refl _, hn5, ho5, HL1, hid rfl⟩
        case round =>
          obtain ⟨m, X, rfl, hm, hnm, hgm, hXl, hdn⟩ := hrel
          clear hn5 ho5
          obtain ⟨wi, rfl⟩ : ∃ wi : World, wi = wr := ⟨_, rfl⟩
          have hgb := hgm.block g5 rfl
          cases m with
          | zero =>
            have b2 : ¬ (0 : Int) < ((0 : Nat) : Int) := by decide
            go_wp2_with fail
            refine wp_region_quiet_new (by kernel_rfl) (by kernel_rfl) ?_; (repeat (go_big_quiet_step ((fail)))); refine wpQuiet_nil ?_; intro wq hq; have hnq := new_of_ext hq; clear hq
            go_wp2_with fail
            go_roundw
            case rel => exact ⟨k + 1, by go_num, by omega, hnm.trans hnq, by rw [HSTEP.out, HO1.out, ← hdn.out]; exact hgm.new hnq⟩
            case measure => simp [intOf]; omega
          | succ j =>
            obtain ⟨g6, cap6, A1, n1, e1, hc1, hf1, hr1⟩ := hgm.rowAt (j + 1) (by rw [hXl.out]; omega)
            have q1 : g5 = g6 := by injection e1 with h1; injection h1 with h1; injection h1
            subst q1
            clear e1
            obtain ⟨g7, cap7, A0, n0, e0, hc0, hf0, hr0⟩ := hgm.rowAt j (by rw [hXl.out]; omega)
            have q0 : g5 = g7 := by injection e0 with h1; injection h1 with h1; injection h1
            subst q0
            clear e0
            have b2 : (0 : Int) < ((j + 1 : Nat) : Int) := by omega
            have b3 : ((j + 1 : Nat) : Int) < ((k + 1 : Nat) : Int) := by omega
            have e3 : ((j + 1 : Nat) : Int) - 1 = (j : Nat) := by omega
            have CE := hid (fun w1 (hn : New wi w1) => l03Earlier_any _ _ _ _ w1 (hr1.at.new hn) (hr0.at.new hn))
            have hx1 := ext_cell hc1
            have hx0 := ext_cell hc0
            have hm' : j < k := by omega
            have b4 : (j : Int) < ((k + 1 : Nat) : Int) := by omega
            cases hq : longLt (nth X (j + 1)) (nth X j) with
            | false =>
              have HQ := hid (show downR longLt (j + 1) X = X from downR_stay _ _ _ hq)
              rw [hq] at CE
              clear hq
              go_wp2_with fail
              refine wp_region_quiet_new (by kernel_rfl) (by kernel_rfl) ?_; (repeat (go_big_quiet_step ((first | (go_at_call 122; exact quiet_new (CE.out _ (ext_new _ _))))))); refine wpQuiet_nil ?_; intro wq hq; have hnq := new_of_ext hq; clear hq
              go_wp2_with fail
              go_roundw
              case rel => exact ⟨k + 1, by go_num, by omega, hnm.trans hnq, by rw [HSTEP.out, HO1.out, ← hdn.out, HQ.out]; exact hgm.new hnq⟩
              case measure => simp [intOf]; omega
            | true =>
              have HQ := hid (show downR longLt (j + 1) X = downR longLt j (swapR X j) from downR_go _ _ _ hq)
              rw [hq] at CE
              clear hq
              go_wp2_with fail
              refine wp_region_quiet_new (by kernel_rfl) (by kernel_rfl) ?_; (repeat (go_big_quiet_step ((first | (go_at_call 122; exact quiet_new (CE.out _ (ext_new _ _))))))); refine wpQuiet_nil ?_; intro wq hq; have hnq := new_of_ext hq; clear hq
              have hgq := hgm.new hnq
              have hcq1 := hnq.cell hc1
              have hcq0 := hnq.cell hc0
              have hfq1 : wq.frozen? ⟨g5, j + 1, none⟩ = false := by rw [hnq.frozen hc1]; exact hf1
              have hfq0 : wq.frozen? ⟨g5, j, none⟩ = false := by rw [hnq.frozen hc0]; exact hf0
              have hNq := hnm.trans hnq
              have hsw := hgq.swap j (by rw [hXl.out]; omega) _ _ hcq0 hcq1
              clear hgm hgq hc1 hc0 hf1 hf0 hx1 hx0 hr1 hr0 hnm hnq CE
              go_wp2_with fail
              go_roundw
              case rel => exact ⟨j, swapR X j, by go_num, by omega, (hNq.setCell hgb.1 _).setCell hgb.1 _, hsw, hid (by rw [swapR_len]; exact hXl.out), hid (by rw [← HQ.out]; exact hdn.out)⟩
              case measure => simp [intOf] <;> omega
      · have e : k = T.sets.length := by omega
        subst e
        rw [List.take_length] at HOD
        go_wp2_with fail
        go_ret2
        rw [HE.out, ← HOD.out]
        exact ⟨_, rfl, hn.trans hnr, (hg.own (by rw [HBL.out]; omega)).widen hz3 (Nat.le_refl _)⟩

end Go.Proofs.Ytcjmcpfdpnakkaa
