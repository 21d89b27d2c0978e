/- The reference's quickest colouring. -/
import Derived.Test.YtiflokfinkachaaRows
import Derived.Test.YtiflokfinkachaaCore
import Derived.Test.YtiflokfinkachaaInfos
import Derived.Test.YtiflokfinkachaaPlains
import Derived.Test.YtiflokfinkachaaJoins
import Derived.Test.YtiflokfinkachaaQuicks
import Derived.Test.YtiflokfinkachaaMaps
import Derived.Test.YtiflokfinkachaaWalkV
import Derived.Test.YtiflokfinkachaaArrs
import Derived.Test.YtiflokfinkachaaSBase
import Derived.Test.YtiflokfinkachaaS05a
import Derived.Test.YtiflokfinkachaaSArr
import Derived.Test.YtiflokfinkachaaSChoices
import Derived.Test.YtiflokfinkachaaSAt
import Derived.Test.YtiflokfinkachaaSRef
import Derived.Test.YtiflokfinkachaaSFlk
import Derived.Test.YtiflokfinkachaaSWalk
import Derived.Test.YtiflokfinkachaaSLeast
import Derived.Test.YtiflokfinkachaaSFirst
import Derived.WalkKit
import Derived.WalkSpells
import Derived.WalkLawsBesides
import Derived.Deep.QuietTactic
import Derived.Deep.OwnRows
import Derived.BigQuiet
import Derived.KernelRfl
import Derived.Deep.RegionHeld3
namespace Go.Proofs.Ytiflokfinkachaa
open Go.RowKit

set_option maxRecDepth 20000 in
set_option maxHeartbeats 1000000 in
theorem l05Count_any (cv : Value) (cs : List (List (List Int))) (w : World) (hc : ListAt RowsAt w cv cs) (h6 : ∀ s, s < cs.length → (nth cs s).length ≤ 6) (h7 : cs.length ≤ 7) :
    Calls Try.prog 102 #[cv] w fun e w' => e = .returned (.int .i64 (cntTo cs cs.length : Nat)) ∧ w' = w := by
  obtain ⟨AC, cC, rfl, hlC, hC⟩ := hc
  have HC := hid hC
  have HB := hid (fun s hs => cntTo_big h6 h7 s hs)
  have H6 := hid h6
  clear hC h6
  go_enter Try.func102, Try.ntmps102
  go_wp2_with fail
  go_loopw [3, 4] (fun o i wr => ∃ s : Nat, s ≤ cs.length ∧ i = .int .i64 s ∧ o = .int .i64 (cntTo cs s : Nat) ∧ wr = w) (fun _ i _ => cs.length - (intOf i).toNat)
  case atStart => exact ⟨0, Nat.zero_le _, rfl, rfl, rfl⟩
  case round =>
    obtain ⟨s, hs, rfl, rfl, rfl⟩ := hrel
    have hbig := HB.out s hs
    have HSU := hid (show cntTo cs (s + 1) = cntTo cs s * (nth cs s).length from rfl)
    obtain ⟨Z, hZ⟩ : ∃ Z, Z = cntTo cs s := ⟨_, rfl⟩
    rw [← hZ] at hbig HSU ⊢
    have HZ := hid hZ
    clear hZ
    by_cases hlt : s < cs.length
    · have b1 : (s : Int) < (cs.length : Int) := by omega
      obtain ⟨cb, co, tv, rfl, hx, hxt⟩ := HC.out s hlt
      obtain ⟨At, ct, rfl⟩ := hxt.form
      have h6 := H6.out s hlt
      obtain ⟨L, hL⟩ : ∃ L, L = (nth cs s).length := ⟨_, rfl⟩
      rw [← hL] at hx HSU h6
      have key : Z * L ≤ 279936 * 6 := Nat.mul_le_mul hbig h6
      have hmul : (Z : Int) * (L : Int) = ((Z * L : Nat) : Int) := by simp
      have HM := hid hmul
      obtain ⟨ZL, hZL⟩ : ∃ z, z = Z * L := ⟨_, rfl⟩
      rw [← hZL] at key HSU HM
      clear hL hxt hmul hZL
      have hw1 : Go.RowKit.wrap64 ((Z : Int) * (L : Int)) = (ZL : Int) := by rw [HM.out]; exact IntWalk.wrap64_in _ ⟨by omega, by omega⟩
      go_wp2_with fail
      go_roundw
      case rel => exact ⟨s + 1, by omega, by go_num, by rw [HSU.out, hw1], by trivial⟩
      case measure => simp [intOf]; omega
    · have e : s = cs.length := by omega
      subst e
      go_wp2_with fail
      go_ret
      rw [← HZ.out]
      exact ⟨rfl, rfl⟩
set_option maxRecDepth 20000 in
set_option maxHeartbeats 1000000 in
theorem l05Many_any (pb : Nat) (A : Option Addr) (c : Nat) (r : Aut) (w : World) (h0 : w.cell? ⟨pb, 0, none⟩ = some (.int .i64 r.n)) (h1 : w.cell? ⟨pb, 1, none⟩ = some (.slice A r.nx.length c)) (hcr : CapRows w (.slice A r.nx.length c) r.nx) :
    Calls Try.prog 101 #[.pointer (some ⟨pb, 0, none⟩)] w fun e w' => ∃ rc, e = .returned (.tuple #[rc, .int .i64 (if roadsOk r = true then (if 50000 < colCount r then 3 else 0) else 1)]) ∧ New w w' ∧ (roadsOk r = true → ¬ 50000 < colCount r → ListAt RowsAt w' rc (choicesOf r)) := by
  have hp : PAut w (.pointer (some ⟨pb, 0, none⟩)) r := ⟨pb, _, rfl, h0, h1, hcr.rows⟩
  have C1 := l05Ok_any _ r w hp
  cases hm : roadsOk r with
  | false =>
    rw [hm] at C1
    go_enter Try.func101, Try.ntmps101
    go_wp2_with fail
    refine C1.mono ?_
    rintro e w1 ⟨rfl, hn1⟩
    go_wp2_with fail
    go_ret2
    exact ⟨⟨_, rfl⟩, hn1.trans (by repeat (first | with_reducible exact New.refl _ | with_reducible assumption | with_reducible refine New.alloc ?_ _ | with_reducible refine New.drewN ?_ _ | with_reducible refine New.drew ?_ | with_reducible refine New.trans ?_ (by with_reducible assumption)))⟩
  | true =>
    rw [hm] at C1
    have hf := roads_facts hm
    have hcl := choices_len r
    have HC := hid (fun w1 (hn : New w w1) => l05Choices_any pb (.slice A r.nx.length c) r.nx w1 (hn.cell h1) (hcr.new hn) hf.n7 (fun i hi => by rw [hf.row i hi]; exact hf.l3))
    rw [show r.nx.map arrOf = choicesOf r from rfl] at HC
    have HCNT := hid (fun (w1 : World) cv (hc : ListAt RowsAt w1 cv (choicesOf r)) => (show Calls Try.prog 102 #[cv] w1 fun e w' => e = .returned (.int .i64 (colCount r : Nat)) ∧ w' = w1 by
      have := l05Count_any cv (choicesOf r) w1 hc (fun p hp => choices_six hf p hp) (by rw [hcl]; exact hf.n7)
      rw [hcl] at this; exact this))
    obtain ⟨CC, hCC⟩ : ∃ z, z = colCount r := ⟨_, rfl⟩
    rw [← hCC] at HCNT ⊢
    clear hf hcl hCC hm
    by_cases h5 : 50000 < CC
    · have h5i : (50000 : Int) < (CC : Int) := by omega
      rw [if_pos rfl, if_pos h5]
      go_enter Try.func101, Try.ntmps101
      go_wp2_with fail
      refine C1.mono ?_
      rintro e w1 ⟨rfl, hn1⟩
      go_wp2_with fail
      refine (HC.out _ hn1).mono ?_
      rintro e w2 ⟨rc, rfl, hn2, hL2⟩
      go_wp2_with (go_at_call 102; refine (HCNT.out _ _ hL2).mono ?_; rintro e w' ⟨rfl, rfl⟩)
      go_ret2
      exact ⟨_, rfl, (hn1.trans hn2).trans (by repeat (first | with_reducible exact New.refl _ | with_reducible assumption | with_reducible refine New.alloc ?_ _ | with_reducible refine New.drewN ?_ _ | with_reducible refine New.drew ?_ | with_reducible refine New.trans ?_ (by with_reducible assumption))), fun _ h => absurd h5 h⟩
    · have h5i : ¬ (50000 : Int) < (CC : Int) := by omega
      rw [if_pos rfl, if_neg h5]
      go_enter Try.func101, Try.ntmps101
      go_wp2_with fail
      refine C1.mono ?_
      rintro e w1 ⟨rfl, hn1⟩
      go_wp2_with fail
      refine (HC.out _ hn1).mono ?_
      rintro e w2 ⟨rc, rfl, hn2, hL2⟩
      go_wp2_with (go_at_call 102; refine (HCNT.out _ _ hL2).mono ?_; rintro e w' ⟨rfl, rfl⟩)
      go_ret2
      exact ⟨_, rfl, hn1.trans hn2, fun _ _ => hL2⟩
set_option maxRecDepth 20000 in
set_option maxHeartbeats 2000000 in
theorem specQuickestColouring_any (v : Value) (r : Aut) (w : World) (h : CapAut w v r) :
    Calls Try.prog 38 #[v] w fun e w' => ∃ q, e = .returned (.tuple #[.int .i64 (QuickestColouring r).1, q, .int .i64 (QuickestColouring r).2.2]) ∧ New w w' ∧ OwnInts w.heap.size w'.heap.size w' q (QuickestColouring r).2.1 := by
  obtain ⟨rv, rfl, hcr⟩ := h
  have hr := hcr.rows
  obtain ⟨A, c, rfl⟩ := hr.form
  obtain ⟨wb, hwb⟩ : ∃ wb, wb = w.alloc (.cells #[.int .i64 r.n, .slice A r.nx.length c] 59) := ⟨_, rfl⟩
  have hnb : New w wb := by rw [hwb]; exact (by repeat (first | with_reducible exact New.refl _ | with_reducible assumption | with_reducible refine New.alloc ?_ _ | with_reducible refine New.drewN ?_ _ | with_reducible refine New.drew ?_ | with_reducible refine New.trans ?_ (by with_reducible assumption)))
  have hb0 : wb.cell? ⟨w.heap.size, 0, none⟩ = some (.int .i64 r.n) := by rw [hwb]; go_simp
  have hb1 : wb.cell? ⟨w.heap.size, 1, none⟩ = some (.slice A r.nx.length c) := by rw [hwb]; go_simp
  have C1 := l05Many_any w.heap.size A c r wb hb0 hb1 (hcr.new hnb)
  obtain ⟨R, hR⟩ : ∃ R, R = QuickestColouring r := ⟨_, rfl⟩
  rw [← hR]
  unfold QuickestColouring at hR
  have HR := hid hR
  clear hR
  obtain ⟨F, hFF⟩ : ∃ z, z = colW r := ⟨_, rfl⟩
  rw [← hFF] at HR
  by_cases hok : roadsOk r = true
  · rw [if_pos hok] at C1
    by_cases h5 : 50000 < colCount r
    · rw [if_pos h5] at C1
      have HE := hid (show R = (0, [], 3) by rw [HR.out, if_pos hok, if_pos h5])
      clear hok h5
      go_enter Try.func38, Try.ntmps38
      go_wp2_with fail
      rw [← hwb]
      clear hwb
      refine C1.mono ?_
      rintro e w1 ⟨rc, rfl, hn1, _⟩
      go_wp2_with fail
      refine bodyPost_ret (v := .tuple #[.int .i64 0, .slice (some ⟨w1.heap.size, 0, none⟩) 0 0, .int .i64 3]) (by simp [results, Try.results38, go_sem]) rfl ?_
      rw [HE.out]
      exact ⟨_, rfl, (hnb.trans hn1).trans (by repeat (first | with_reducible exact New.refl _ | with_reducible assumption | with_reducible refine New.alloc ?_ _ | with_reducible refine New.drewN ?_ _ | with_reducible refine New.drew ?_ | with_reducible refine New.trans ?_ (by with_reducible assumption))), OwnInts.none' _ (hnb.trans hn1).size (by (try simp only [sizes]) <;> omega)⟩
    · rw [if_neg h5] at C1
      have hf := roads_facts hok
      have hcl := choices_len r
      have HE0 := hid (show R = (if quickAt F (colCount r) < 0 then (0, [], 6) else (quickAt F (colCount r), quickWord F (colCount r), 0)) by rw [HR.out, if_pos hok, if_neg h5])
      have HCNT := hid (fun (w1 : World) cv (hc : ListAt RowsAt w1 cv (choicesOf r)) => (show Calls Try.prog 102 #[cv] w1 fun e w' => e = .returned (.int .i64 (colCount r : Nat)) ∧ w' = w1 by
        have := l05Count_any cv (choicesOf r) w1 hc (fun p hp => choices_six hf p hp) (by rw [hcl]; exact hf.n7)
        rw [hcl] at this; exact this))
      have HAT := hid (fun (w1 : World) cv (N : Nat) (hc : ListAt RowsAt w1 cv (choicesOf r)) (hN : N ≤ 4611686018427387904) => refAt_any cv r N w1 hc hf hN)
      have HFU := hid (fun (w1 : World) p (N : Nat) (hp : PAut w1 p (colN r N)) => l02Full_any p (colN r N) w1 hp (by have := autOk_n (colN_ok hf N); omega) (autOk_n (colN_ok hf N)).2)
      have HSH := hid (show ∀ (w1 : World) (p : Value) (N : Nat), PAut w1 p (colN r N) → Calls Try.prog 104 #[p, .int .i64 (full (colN r N).n : Nat)] w1 fun e w' => ∃ q, e = .returned (.tuple #[q, .bool (F N).2]) ∧ New w1 w' ∧ OwnInts w1.heap.size w'.heap.size w' q (F N).1 from fun w1 p N hp => by
        rw [hFF]
        exact l02Shrink_any p (colN r N) (full (colN r N).n) w1 hp (colN_ok hf N) (full_lt _))
      have HWL := hid (show ∀ N, (F N).1.length ≤ 1024 from fun N => by rw [hFF]; exact colW_len hf N)
      have hbig := colCount_big hf
      have HOK := hid hok
      have H5 := hid h5
      have HRG := hid (quickAt_range F)
      obtain ⟨CC, hCC⟩ : ∃ z, z = colCount r := ⟨_, rfl⟩
      rw [← hCC] at HE0 HCNT hbig
      clear hok h5 hf hcl hFF hCC
      go_enter Try.func38, Try.ntmps38
      go_wp2_with fail
      rw [← hwb]
      clear hwb
      refine C1.mono ?_
      rintro e w1 ⟨rc, rfl, hn1, hL⟩
      have hL1 := hL HOK.out H5.out
      obtain ⟨AC, cC, hcf, _⟩ := id hL1
      subst hcf
      have hw1 := hnb.trans hn1
      have hz1 := hw1.size
      clear hL
      go_wp2_with fail
      go_loopw [7, 8, 9] (fun av bv i wr => ∃ n : Nat, n ≤ CC ∧ i = .int .i64 n ∧ av = .int .i64 (quickAt F n) ∧ New w1 wr ∧ OwnInts w.heap.size wr.heap.size wr bv (quickWord F n)) (fun _ _ i _ => CC - (intOf i).toNat)
      case atStart => exact ⟨0, Nat.zero_le _, rfl, rfl, (by repeat (first | with_reducible exact New.refl _ | with_reducible assumption | with_reducible refine New.alloc ?_ _ | with_reducible refine New.drewN ?_ _ | with_reducible refine New.drew ?_ | with_reducible refine New.trans ?_ (by with_reducible assumption))), OwnInts.none' _ hz1 (by (try simp only [sizes]) <;> omega)⟩
      case round =>
        obtain ⟨n, hnC, rfl, rfl, hnn, hob⟩ := hrel
        obtain ⟨wo, rfl⟩ : ∃ wo : World, wo = wr := ⟨_, rfl⟩
        have hL2 := ListAt.new (R := RowsAt) (fun h hn => h.new hn) hL1 hnn
        have hrg := HRG.out n
        have hwo := hw1.trans hnn
        have hzo := hwo.size
        obtain ⟨Q, hQ⟩ : ∃ Q, Q = quickAt F n := ⟨_, rfl⟩
        have HQW := hid (show quickWord F n = if Q < 0 then [] else (F Q.toNat).1 by rw [hQ]; rfl)
        have HYES := hid (fun (h : (F n).2 = true ∧ (Q < 0 ∨ (F n).1.length < (F Q.toNat).1.length)) => quickAt_yes (f := F) (n := n) (by rw [← hQ]; exact h))
        have HNO := hid (fun (h : ¬ ((F n).2 = true ∧ (Q < 0 ∨ (F n).1.length < (F Q.toNat).1.length))) => (quickAt_no (f := F) (n := n) (by rw [← hQ]; exact h)).trans hQ.symm)
        have HQ := hid hQ
        rw [← hQ] at hrg ⊢
        clear hQ
        by_cases hlt : n < CC
        · have b1 : (n : Int) < (CC : Int) := by omega
          have HW1 := HWL.out n
          have HWQ := HWL.out Q.toNat
          have HAn := hid (fun (w2 : World) (hn : New wo w2) => HAT.out w2 (.slice AC (choicesOf r).length cC) n (ListAt.new (R := RowsAt) (fun h hn => h.new hn) hL2 hn) (by omega))
          have HSn := hid (fun w2 p (hp : PAut w2 p (colN r n)) => HSH.out w2 p n hp)
          obtain ⟨WN, hWN⟩ : ∃ z, z = (F n).1 := ⟨_, rfl⟩
          rw [← hWN] at HSn HW1
          cases hb : (F n).2 with
          | false =>
            have HN := hid (HNO.out (by rw [hb]; simp))
            rw [hb] at HSn
            have HQ2 := hid (show quickWord F (n + 1) = quickWord F n by unfold quickWord; rw [HN.out, ← HQ.out])
            clear hb hWN
            go_wp2_with (first
              | (go_at_call 102; refine (HCNT.out _ _ hL2).mono ?_; rintro e w' ⟨rfl, hww⟩; rw [hww]; clear hww w')
              | (go_at_call 103; refine (HAn.out _ (by repeat (first | with_reducible exact New.refl _ | with_reducible assumption | with_reducible refine New.alloc ?_ _ | with_reducible refine New.drewN ?_ _ | with_reducible refine New.drew ?_ | with_reducible refine New.trans ?_ (by with_reducible assumption)))).mono ?_; rintro e w3 ⟨r3, he, hn3, ho3⟩; obtain ⟨rv3, rfl, ho4⟩ := ho3; obtain ⟨A3, c3, rfl⟩ := ho4.form; subst he; have hp3 : PAut _ _ (colN r n) := PAut.box (a := colN r n) ho4.at 40)
              | (go_at_call 105; refine (HFU.out _ _ n hp3).mono ?_; rintro e w' ⟨rfl, hww⟩; rw [hww]; clear hww w')
              | (go_at_call 104; refine (HSn.out _ _ hp3).mono ?_; rintro e w5 ⟨q5, he, hn5, ho5⟩; obtain ⟨A5, c5, rfl⟩ := ho5.form; subst he))
            have hn5w : New wo w5 := (by repeat (first | with_reducible exact New.refl _ | with_reducible assumption | with_reducible refine New.alloc ?_ _ | with_reducible refine New.drewN ?_ _ | with_reducible refine New.drew ?_ | with_reducible refine New.trans ?_ (by with_reducible assumption)))
            refine ⟨⟨n + 1, by omega, by go_num, by rw [HN.out], hnn.trans hn5w, by rw [HQ2.out]; exact (hob.new hn5w).widen (Nat.le_refl _) hn5w.size⟩, ?_⟩
            simp [intOf]; omega
          | true =>
            rw [hb] at HSn
            by_cases hneg : Q < 0
            · have HY := hid (HYES.out ⟨hb, Or.inl hneg⟩)
              have HQ2 := hid (show quickWord F (n + 1) = WN by unfold quickWord; rw [HY.out, if_neg (by omega), Int.toNat_natCast, hWN])
              clear hb hWN
              go_wp2_with (first
              | (go_at_call 102; refine (HCNT.out _ _ hL2).mono ?_; rintro e w' ⟨rfl, hww⟩; rw [hww]; clear hww w')
              | (go_at_call 103; refine (HAn.out _ (by repeat (first | with_reducible exact New.refl _ | with_reducible assumption | with_reducible refine New.alloc ?_ _ | with_reducible refine New.drewN ?_ _ | with_reducible refine New.drew ?_ | with_reducible refine New.trans ?_ (by with_reducible assumption)))).mono ?_; rintro e w3 ⟨r3, he, hn3, ho3⟩; obtain ⟨rv3, rfl, ho4⟩ := ho3; obtain ⟨A3, c3, rfl⟩ := ho4.form; subst he; have hp3 : PAut _ _ (colN r n) := PAut.box (a := colN r n) ho4.at 40)
              | (go_at_call 105; refine (HFU.out _ _ n hp3).mono ?_; rintro e w' ⟨rfl, hww⟩; rw [hww]; clear hww w')
              | (go_at_call 104; refine (HSn.out _ _ hp3).mono ?_; rintro e w5 ⟨q5, he, hn5, ho5⟩; obtain ⟨A5, c5, rfl⟩ := ho5.form; subst he))
              have hn5w : New wo w5 := (by repeat (first | with_reducible exact New.refl _ | with_reducible assumption | with_reducible refine New.alloc ?_ _ | with_reducible refine New.drewN ?_ _ | with_reducible refine New.drew ?_ | with_reducible refine New.trans ?_ (by with_reducible assumption)))
              have hz5 : w.heap.size ≤ (w3.alloc (.cells #[.int .i64 (colN r n).n, .slice A3 (colN r n).nx.length c3] 40)).heap.size := by have := hn3.size; simp only [size_alloc]; omega
              refine ⟨⟨n + 1, by omega, by go_num, by rw [HY.out], hnn.trans hn5w, by rw [HQ2.out]; exact ho5.widen hz5 (Nat.le_refl _)⟩, ?_⟩
              simp [intOf]; omega
            · obtain ⟨A6, c6, hbv⟩ := hob.form
              subst hbv
              rw [if_neg hneg] at HQW
              have hWn := hWN
              obtain ⟨WQ, hWQ⟩ : ∃ z, z = quickWord F n := ⟨_, rfl⟩
              have HWQE := hid hWQ
              rw [← hWQ] at hob ⊢
              have hlq : (F Q.toNat).1.length = WQ.length := by rw [hWQ, HQW.out]
              rw [hlq] at HYES HNO HWQ
              by_cases hlt2 : WN.length < WQ.length
              · have HY := hid (HYES.out ⟨hb, Or.inr (by rw [← hWn]; exact hlt2)⟩)
                have HQ2 := hid (show quickWord F (n + 1) = WN by unfold quickWord; rw [HY.out, if_neg (by omega), Int.toNat_natCast, hWN])
                have hlti : (WN.length : Int) < (WQ.length : Int) := by omega
                clear hb hWN hWn hWQ hlq hlt2
                go_wp2_with (first
              | (go_at_call 102; refine (HCNT.out _ _ hL2).mono ?_; rintro e w' ⟨rfl, hww⟩; rw [hww]; clear hww w')
              | (go_at_call 103; refine (HAn.out _ (by repeat (first | with_reducible exact New.refl _ | with_reducible assumption | with_reducible refine New.alloc ?_ _ | with_reducible refine New.drewN ?_ _ | with_reducible refine New.drew ?_ | with_reducible refine New.trans ?_ (by with_reducible assumption)))).mono ?_; rintro e w3 ⟨r3, he, hn3, ho3⟩; obtain ⟨rv3, rfl, ho4⟩ := ho3; obtain ⟨A3, c3, rfl⟩ := ho4.form; subst he; have hp3 : PAut _ _ (colN r n) := PAut.box (a := colN r n) ho4.at 40)
              | (go_at_call 105; refine (HFU.out _ _ n hp3).mono ?_; rintro e w' ⟨rfl, hww⟩; rw [hww]; clear hww w')
              | (go_at_call 104; refine (HSn.out _ _ hp3).mono ?_; rintro e w5 ⟨q5, he, hn5, ho5⟩; obtain ⟨A5, c5, rfl⟩ := ho5.form; subst he))
                have hn5w : New wo w5 := (by repeat (first | with_reducible exact New.refl _ | with_reducible assumption | with_reducible refine New.alloc ?_ _ | with_reducible refine New.drewN ?_ _ | with_reducible refine New.drew ?_ | with_reducible refine New.trans ?_ (by with_reducible assumption)))
                have hz5 : w.heap.size ≤ (w3.alloc (.cells #[.int .i64 (colN r n).n, .slice A3 (colN r n).nx.length c3] 40)).heap.size := by have := hn3.size; simp only [size_alloc]; omega
                refine ⟨⟨n + 1, by omega, by go_num, by rw [HY.out], hnn.trans hn5w, by rw [HQ2.out]; exact ho5.widen hz5 (Nat.le_refl _)⟩, ?_⟩
                simp [intOf]; omega
              · have HN := hid (HNO.out (fun q => q.2.elim (fun h => hneg h) (fun h => hlt2 (by rw [hWn]; exact h))))
                have HQ2 := hid (show quickWord F (n + 1) = WQ by rw [HWQE.out]; unfold quickWord; rw [HN.out, ← HQ.out])
                have hlti : ¬ (WN.length : Int) < (WQ.length : Int) := by omega
                clear hb hWN hWn hWQ hlq hlt2
                go_wp2_with (first
              | (go_at_call 102; refine (HCNT.out _ _ hL2).mono ?_; rintro e w' ⟨rfl, hww⟩; rw [hww]; clear hww w')
              | (go_at_call 103; refine (HAn.out _ (by repeat (first | with_reducible exact New.refl _ | with_reducible assumption | with_reducible refine New.alloc ?_ _ | with_reducible refine New.drewN ?_ _ | with_reducible refine New.drew ?_ | with_reducible refine New.trans ?_ (by with_reducible assumption)))).mono ?_; rintro e w3 ⟨r3, he, hn3, ho3⟩; obtain ⟨rv3, rfl, ho4⟩ := ho3; obtain ⟨A3, c3, rfl⟩ := ho4.form; subst he; have hp3 : PAut _ _ (colN r n) := PAut.box (a := colN r n) ho4.at 40)
              | (go_at_call 105; refine (HFU.out _ _ n hp3).mono ?_; rintro e w' ⟨rfl, hww⟩; rw [hww]; clear hww w')
              | (go_at_call 104; refine (HSn.out _ _ hp3).mono ?_; rintro e w5 ⟨q5, he, hn5, ho5⟩; obtain ⟨A5, c5, rfl⟩ := ho5.form; subst he))
                have hn5w : New wo w5 := (by repeat (first | with_reducible exact New.refl _ | with_reducible assumption | with_reducible refine New.alloc ?_ _ | with_reducible refine New.drewN ?_ _ | with_reducible refine New.drew ?_ | with_reducible refine New.trans ?_ (by with_reducible assumption)))
                refine ⟨⟨n + 1, by omega, by go_num, by rw [HN.out], hnn.trans hn5w, by rw [HQ2.out]; exact (hob.new hn5w).widen (Nat.le_refl _) hn5w.size⟩, ?_⟩
                simp [intOf]; omega
        · have e : n = CC := by omega
          have b1 : ¬ (n : Int) < (CC : Int) := by omega
          subst e
          rw [← HQ.out] at HE0
          by_cases hneg : Q < 0
          · have HE := hid (show R = (0, [], 6) by rw [HE0.out, if_pos hneg])
            go_wp2_with (go_at_call 102; refine (HCNT.out _ _ hL2).mono ?_; rintro e w' ⟨rfl, hww⟩; rw [hww]; clear hww w')
            refine bodyPost_ret (v := .tuple #[.int .i64 0, .slice (some ⟨wo.heap.size, 0, none⟩) 0 0, .int .i64 6]) (by simp [results, Try.results38, go_sem]) rfl ?_
            rw [HE.out]
            exact ⟨_, rfl, hwo.trans (by repeat (first | with_reducible exact New.refl _ | with_reducible assumption | with_reducible refine New.alloc ?_ _ | with_reducible refine New.drewN ?_ _ | with_reducible refine New.drew ?_ | with_reducible refine New.trans ?_ (by with_reducible assumption))), OwnInts.none' _ hzo (by (try simp only [sizes]) <;> omega)⟩
          · have HE := hid (show R = (Q, quickWord F n, 0) by rw [HE0.out, if_neg hneg])
            obtain ⟨A6, c6, hbv⟩ := hob.form
            subst hbv
            obtain ⟨WQ, hWQ⟩ : ∃ z, z = quickWord F n := ⟨_, rfl⟩
            rw [← hWQ] at hob HE ⊢
            clear hWQ
            go_wp2_with (go_at_call 102; refine (HCNT.out _ _ hL2).mono ?_; rintro e w' ⟨rfl, hww⟩; rw [hww]; clear hww w')
            refine bodyPost_ret (v := .tuple #[.int .i64 Q, .slice A6 WQ.length c6, .int .i64 0]) (by simp [results, Try.results38, go_sem]) rfl ?_
            rw [HE.out]
            exact ⟨_, rfl, hwo, hob⟩
  · rw [if_neg hok] at C1
    have HE := hid (show R = (0, [], 1) by rw [HR.out, if_neg hok])
    clear hok
    go_enter Try.func38, Try.ntmps38
    go_wp2_with fail
    rw [← hwb]
    clear hwb
    refine C1.mono ?_
    rintro e w1 ⟨rc, rfl, hn1, _⟩
    go_wp2_with fail
    refine bodyPost_ret (v := .tuple #[.int .i64 0, .slice (some ⟨w1.heap.size, 0, none⟩) 0 0, .int .i64 1]) (by simp [results, Try.results38, go_sem]) rfl ?_
    rw [HE.out]
    exact ⟨_, rfl, (hnb.trans hn1).trans (by repeat (first | with_reducible exact New.refl _ | with_reducible assumption | with_reducible refine New.alloc ?_ _ | with_reducible refine New.drewN ?_ _ | with_reducible refine New.drew ?_ | with_reducible refine New.trans ?_ (by with_reducible assumption))), OwnInts.none' _ (hnb.trans hn1).size (by (try simp only [sizes]) <;> omega)⟩

end Go.Proofs.Ytiflokfinkachaa
