/- The reference's division of the stable pairs. -/
import Derived.Test.YtieonifckmokkaaRows
import Derived.Test.YtieonifckmokkaaCore
import Derived.Test.YtieonifckmokkaaInfos
import Derived.Test.YtieonifckmokkaaPlains
import Derived.Test.YtieonifckmokkaaPlainDiv
import Derived.Test.YtieonifckmokkaaPers
import Derived.Test.YtieonifckmokkaaPlainCong
import Derived.Test.YtieonifckmokkaaPlainCnt
import Derived.Test.YtieonifckmokkaaMaps
import Derived.Test.YtieonifckmokkaaArrs
import Derived.Test.YtieonifckmokkaaPlainMerges
import Derived.Test.YtieonifckmokkaaPlainStab
import Derived.Test.YtieonifckmokkaaSBase
import Derived.Test.YtieonifckmokkaaS01g
import Derived.Test.YtieonifckmokkaaSTidy
import Derived.Test.YtieonifckmokkaaSCong
import Derived.Test.YtieonifckmokkaaSStable
import Derived.Test.YtieonifckmokkaaRowsC
import Derived.WalkKit
import Derived.WalkSpells
import Derived.WalkLawsBesides
import Derived.Deep.QuietTactic
import Derived.Deep.OwnRows
import Derived.BigQuiet
import Derived.KernelRfl
import Derived.Carry
import Derived.Deep.RegionHeld3
import Derived.Deep.RegionLaw
namespace Go.Proofs.Ytieonifckmokkaa
open Go.RowKit

set_option maxRecDepth 20000 in
set_option maxHeartbeats 400000 in
theorem l02Classes_any (v : Value) (a : Aut) (w : World) (h : PAut w v a) (ha : autOk a = true) :
    Calls Try.prog 131 #[v] w fun e w' => ∃ r, e = .returned r ∧ New w w' ∧ OwnInts w.heap.size w'.heap.size w' r (tidyOf (mrgTo a.n.toNat (stOf a) (stOf a).length)) := by
  have han := autOk_n ha
  obtain ⟨n, hn⟩ : ∃ n : Nat, a.n = (n : Int) := ⟨a.n.toNat, by omega⟩
  have hn10 : n ≤ 10 := by omega
  have hnt : a.n.toNat = n := by omega
  have C1 := l01All_any (n : Int) w (by omega) (by omega)
  rw [Int.toNat_natCast] at C1
  have HS := hid (fun w1 (hw : New w w1) => l02Stable_any v a w1 (h.new hw) ha)
  have HML := hid (fun k hk => mrgTo_len a.n.toNat (stOf a) k hk)
  have HSU := hid (fun k hk => mrgTo_succ a.n.toNat (stOf a) k hk)
  have HNP := hid (fun k hk => nth_stOf ha k hk)
  have hlen : (stOf a).length ≤ 100 := by
    have := stTo_len a.nx n n
    have : n * n ≤ 10 * 10 := Nat.mul_le_mul hn10 hn10
    unfold stOf; rw [hnt]; omega
  have H0 := hid (show mrgTo a.n.toNat (stOf a) 0 = iota 0 n by unfold mrgTo; rw [hnt]; rfl)
  obtain ⟨pb, rv, rfl, hp0, hp1, hr⟩ := h
  rw [hn] at hp0
  rw [hnt] at HML HSU HNP H0 ⊢
  obtain ⟨ST, hST⟩ : ∃ z, z = stOf a := ⟨_, rfl⟩
  rw [← hST] at HS HML HSU HNP H0 hlen ⊢
  clear ha han hn hnt hr hp1 hST
  go_enter Try.func131, Try.ntmps131
  go_wp2_with fail
  refine C1.mono ?_
  rintro e w1 ⟨mv, rfl, hn1, hm⟩
  have hml : (iota 0 n).length = n := iota_length _ _
  obtain ⟨AM, cM, rfl⟩ := hm.form
  rw [hml] at hm ⊢
  have HM := hid hm
  clear C1 hm hml
  go_wp2_with fail
  refine (HS.out _ hn1).mono ?_
  rintro e w2 ⟨sv, rfl, hn2, hos⟩
  obtain ⟨AP, cP, rfl⟩ := hos.form
  have hM2 := HM.out.new hn2
  rw [← H0.out] at hM2
  have HP := hid hos
  have hz1 := hn1.size
  have hz2 := hn2.size
  clear hos
  go_wp2_with fail
  go_loopw [5] (fun i wr => ∃ k : Nat, k ≤ ST.length ∧ i = .int .i64 k ∧ Within w.heap.size w1.heap.size w2 wr ∧ OwnInts w.heap.size w1.heap.size wr (.slice AM n cM) (mrgTo n ST k)) (fun i _ => ST.length - (intOf i).toNat)
  case atStart => exact ⟨0, Nat.zero_le _, rfl, Within.refl _ _ _, hM2⟩
  case round =>
    obtain ⟨k, hk, rfl, hW, hMk⟩ := hrel
    clear hM2
    obtain ⟨wo, rfl⟩ : ∃ wo : World, wo = wr := ⟨_, rfl⟩
    by_cases hlt : k < ST.length
    · have b1 : (k : Int) < (ST.length : Int) := by omega
      obtain ⟨s, t, h1, h2, _, e⟩ := HNP.out k hlt
      have hml := HML.out k hk
      have HE := hid (show mrgTo n ST (k + 1) = mergeC (mrgTo n ST k) (nth (mrgTo n ST k) t) (nth (mrgTo n ST k) s) by
        rw [HSU.out k hlt]; unfold mrgStep; rw [e]; rfl)
      obtain ⟨M, hM⟩ : ∃ M, M = mrgTo n ST k := ⟨_, rfl⟩
      rw [← hM] at hMk hml HE
      clear hM
      have hP2 := HP.out.within hW (Or.inr (by omega))
      obtain ⟨_, _, e9, _, hcr⟩ := id hP2.at
      cases e9
      obtain ⟨b, off, rv9, hA, hx, hxr⟩ := hcr k hlt
      cases hA
      rw [e] at hxr
      obtain ⟨A2, c2, rfl, _, hrr⟩ := hxr
      obtain ⟨b2, o2, hA2, k5⟩ := hrr 0 (by simp)
      cases hA2
      obtain ⟨_, _, hA3, k6⟩ := hrr 1 (by simp)
      cases hA3
      replace k5 : wo.cell? ⟨b2, o2, none⟩ = some (.int .i64 s) := k5
      replace k6 : wo.cell? ⟨b2, o2 + 1, none⟩ = some (.int .i64 t) := k6
      obtain ⟨_, _, e9, _, _, hmc⟩ := id hMk
      injection e9 with e1 e2 e3
      obtain ⟨mb, mo, hA4, k7, _⟩ := hmc s (by omega)
      obtain ⟨_, _, hA5, k8, _⟩ := hmc t (by omega)
      rw [hA4] at hA5
      cases hA5
      rw [hA4] at e1
      subst e1
      have hsn : (s : Int) < (n : Int) := by omega
      have htn : (t : Int) < (n : Int) := by omega
      have HMK := hid hMk
      have HC := hid (fun (w3 : World) p q (hh : OwnInts w.heap.size w1.heap.size w3 (.slice (some ⟨mb, mo, none⟩) n cM) M) => l01Merge_any mb mo n cM M p q w3 hh (by omega))
      obtain ⟨MS, hMS⟩ : ∃ z, z = nth M s := ⟨_, rfl⟩
      obtain ⟨MT, hMT⟩ : ∃ z, z = nth M t := ⟨_, rfl⟩
      rw [← hMS] at k7 HE
      rw [← hMT] at k8 HE
      clear hmc hcr hrr hMk hP2 e hMS hMT e2 e3 hA4
      go_wp2_with fail
      go_region_law (first | (go_simp; go_at_call 202; refine (HC.out _ MT MS (HMK.out.new (by repeat (first | with_reducible exact New.refl _ | with_reducible assumption | with_reducible refine New.alloc ?_ _ | with_reducible refine New.drewN ?_ _ | with_reducible refine New.drew ?_ | with_reducible refine New.trans ?_ (by with_reducible assumption))))).mono ?_; rintro e w3 ⟨rfl, ho3, hg3⟩))
      all_goals go_wp2
      all_goals (
        have hmb : w.heap.size ≤ mb ∧ mb < w1.heap.size := HMK.out.block mb rfl
        have hWn : Within w.heap.size w1.heap.size w2 w3 := (hW.trans (Within.of_new (show New wo _ from (by repeat (first | with_reducible exact New.refl _ | with_reducible assumption | with_reducible refine New.alloc ?_ _ | with_reducible refine New.drewN ?_ _ | with_reducible refine New.drew ?_ | with_reducible refine New.trans ?_ (by with_reducible assumption)))) _ _)).trans (Within.of_grown hg3 (fun q hq => by cases hq; exact hmb))
        exact ⟨⟨k + 1, by omega, by go_num, hWn, by rw [HE.out]; exact ho3⟩, by simp [intOf]; omega⟩)
    · have e : k = ST.length := by omega
      subst e
      have hml := HML.out _ hk
      have HT := hid (fun (w3 : World) (h3 : IntsAt w3 (.slice AM n cM) (mrgTo n ST ST.length)) => l01Tidied_any _ _ w3 h3 (by omega))
      have HMK := hid hMk
      clear hMk hml
      go_wp2_with fail
      refine (HT.out _ HMK.out.at).mono ?_
      rintro e w5 ⟨r5, rfl, hn5, ho5⟩
      go_wp2_with fail
      go_ret
      have hN := (hn1.trans hn2).within hW (Nat.le_refl _)
      exact ⟨_, rfl, hN.trans hn5, ho5.widen hN.size (Nat.le_refl _)⟩
set_option maxRecDepth 20000 in
set_option maxHeartbeats 400000 in
theorem specStableDivision_any (v1 : Value) (a : Aut) (w : World) (h1 : AutAt w v1 a) :
    Calls Try.prog 58 #[v1] w fun e w' => ∃ r, e = .returned (.tuple #[r, .int .i64 (StableDivision a).2]) ∧ New w w' ∧ OwnInts w.heap.size w'.heap.size w' r (StableDivision a).1 := by
  obtain ⟨rv, rfl, hr⟩ := h1
  obtain ⟨A, c, rfl⟩ := hr.form
  obtain ⟨wb, hwb⟩ : ∃ wb, wb = w.alloc (.cells #[.int .i64 a.n, .slice A a.nx.length c] 34) := ⟨_, rfl⟩
  have hp : PAut wb (.pointer (some ⟨w.heap.size, 0, none⟩)) a := by rw [hwb]; exact PAut.box hr _
  have hnb : New w wb := by rw [hwb]; exact (by repeat (first | with_reducible exact New.refl _ | with_reducible assumption | with_reducible refine New.alloc ?_ _ | with_reducible refine New.drew ?_ | with_reducible refine New.drewN ?_ _ | with_reducible refine New.setCell ?_ (by simp <;> omega) _))
  have hzb : wb.heap.size = w.heap.size + 1 := by rw [hwb]; simp only [size_alloc]
  have C1 := l01Ok_any _ a _ hp
  obtain ⟨R, hR⟩ : ∃ R, R = StableDivision a := ⟨_, rfl⟩
  rw [← hR]
  unfold StableDivision at hR
  have HR := hid hR
  clear hR
  cases ha : autOk a with
  | false =>
    rw [ha] at C1
    have HE := hid (show R = ([], 1) by rw [HR.out, ha]; rfl)
    go_enter Try.func58, Try.ntmps58
    go_wp2_with fail
    rw [← hwb]
    refine C1.mono ?_
    rintro e w1 ⟨rfl, hn1⟩
    have hz1 := hn1.size
    go_wp2
    go_ret2
    rw [HE.out]
    exact ⟨_, rfl, (by repeat (first | with_reducible exact New.refl _ | with_reducible assumption | with_reducible refine New.alloc ?_ _ | with_reducible refine New.drewN ?_ _ | with_reducible refine New.drew ?_ | with_reducible refine New.trans ?_ (by with_reducible assumption))), OwnInts.none' _ (by omega) (by (try simp only [sizes]) <;> omega)⟩
  | true =>
    rw [ha] at C1
    have HE := hid (show R = (tidyOf (mrgTo a.n.toNat (stOf a) (stOf a).length), 0) by rw [HR.out, ha]; rfl)
    have HC := hid (fun w1 (hn : New wb w1) => l02Classes_any _ a w1 (hp.new hn) ha)
    obtain ⟨TD, hTD⟩ : ∃ z, z = tidyOf (mrgTo a.n.toNat (stOf a) (stOf a).length) := ⟨_, rfl⟩
    rw [← hTD] at HC HE
    clear ha hTD
    go_enter Try.func58, Try.ntmps58
    go_wp2_with fail
    rw [← hwb]
    refine C1.mono ?_
    rintro e w1 ⟨rfl, hn1⟩
    have hz1 := hn1.size
    go_wp2_with fail
    refine (HC.out _ hn1).mono ?_
    rintro e w2 ⟨r, rfl, hn2, ho⟩
    go_wp2
    go_ret2
    rw [HE.out]
    exact ⟨_, rfl, (hnb.trans hn1).trans hn2, ho.widen (by omega) (Nat.le_refl _)⟩

end Go.Proofs.Ytieonifckmokkaa
