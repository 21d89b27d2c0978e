/- The program's division of the stable pairs. -/
import Derived.Test.YtieonifckmokkaaRows
import Derived.Test.YtieonifckmokkaaCore
import Derived.Test.YtieonifckmokkaaInfos
import Derived.Test.YtieonifckmokkaaPlains
import Derived.Test.YtieonifckmokkaaPlainDiv
import Derived.Test.YtieonifckmokkaaPers
import Derived.Test.YtieonifckmokkaaPlainCong
import Derived.Test.YtieonifckmokkaaPlainCnt
import Derived.Test.YtieonifckmokkaaMaps
import Derived.Test.YtieonifckmokkaaArrs
import Derived.Test.YtieonifckmokkaaPlainMerges
import Derived.Test.YtieonifckmokkaaPlainStab
import Derived.Test.YtieonifckmokkaaIFlk
import Derived.Test.YtieonifckmokkaaITour
import Derived.Test.YtieonifckmokkaaIFirst
import Derived.Test.YtieonifckmokkaaIRen
import Derived.Test.YtieonifckmokkaaIMerge
import Derived.Test.YtieonifckmokkaaIMerges
import Derived.Test.YtieonifckmokkaaSStable
import Derived.Test.YtieonifckmokkaaIStable
import Derived.Test.YtieonifckmokkaaINum
import Derived.Test.YtieonifckmokkaaRowsC
import Derived.WalkKit
import Derived.WalkSpells
import Derived.WalkLawsBesides
import Derived.Deep.QuietTactic
import Derived.Deep.OwnRows
import Derived.BigQuiet
import Derived.KernelRfl
import Derived.Carry
import Derived.Deep.RegionHeld3
import Derived.Deep.RegionLaw
import Derived.Laws.EntriesVeiled
namespace Go.Proofs.Ytieonifckmokkaa
open Go.RowKit

set_option maxRecDepth 20000 in
set_option maxHeartbeats 400000 in
theorem pairs_any (v : Value) (a : Aut) (n k : Nat) (cap : Array Value) (w : World) (h : AutAt w v a) (hn : a.n = (n : Int)) (hn10 : n ≤ 10) (hent : ∀ args w, Sem.run Try.prog (callFunc k args) w = .ok (.enter k args) w)
    (hf : ∀ w' (s t : Nat), New w w' → s < n → t < n → Calls Try.prog k (#[.int .i64 s, .int .i64 t] ++ cap) w' fun e w'' => e = .returned (.bool (steadyB a.nx s t)) ∧ New w' w'') :
    Calls Try.prog 203 #[v, .func (.func k) #[] cap] w fun e w' => ∃ r, e = .returned r ∧ New w w' ∧ OwnRows w.heap.size w'.heap.size w' r (stTo a.nx n n) := by
  obtain ⟨rv, rfl, hr⟩ := h
  obtain ⟨A, c, rfl⟩ := hr.form
  have HS := hid hf
  have HLEN := hid (fun k => stTo_len a.nx n k)
  obtain ⟨wb, hwb⟩ : ∃ wb, wb = w.alloc (.cells #[.int .i64 n, .slice A a.nx.length c] 34) := ⟨_, rfl⟩
  have hnb : New w wb := by rw [hwb]; exact (by repeat (first | with_reducible exact New.refl _ | with_reducible assumption | with_reducible refine New.alloc ?_ _ | with_reducible refine New.drewN ?_ _ | with_reducible refine New.drew ?_ | with_reducible refine New.trans ?_ (by with_reducible assumption)))
  have hb0 : wb.cell? ⟨w.heap.size, 0, none⟩ = some (.int .i64 n) := by rw [hwb]; go_simp
  have hzb : wb.heap.size = w.heap.size + 1 := by rw [hwb]; simp only [size_alloc]
  have hG0 : GrowRows wb.heap.size 30 (wb.alloc (.cells #[] 30)) (.slice (some ⟨wb.heap.size, 0, none⟩) 0 0) [] := GrowRows.empty _ _ _ (Nat.le_refl _)
  rw [hzb] at hG0
  have hn0 : New wb (wb.alloc (.cells #[] 30)) := (by repeat (first | with_reducible exact New.refl _ | with_reducible assumption | with_reducible refine New.alloc ?_ _ | with_reducible refine New.drewN ?_ _ | with_reducible refine New.drew ?_ | with_reducible refine New.trans ?_ (by with_reducible assumption)))
  rw [hn]
  clear hf hn hzb
  go_enter Try.func203, Try.ntmps203
  go_wp2_with fail
  rw [← hwb]
  clear hwb
  go_wp2_with fail
  generalize (wb.alloc (.cells #[] 30)) = w0 at hG0 hn0 ⊢
  have z0 := hn0.cell hb0
  have hN0 := hnb.trans hn0
  clear hn0 hnb hb0
  go_wp2_with fail
  go_loopw [5, 11] (fun ov i wr => ∃ k : Nat, k ≤ n ∧ i = .int .i64 k ∧ New w wr ∧ wr.cell? ⟨w.heap.size, 0, none⟩ = some (.int .i64 n) ∧ GrowRows (w.heap.size + 1) 30 wr ov (stTo a.nx n k)) (fun _ i _ => n - (intOf i).toNat)
  case atStart => exact ⟨0, Nat.zero_le _, rfl, hN0, z0, by simpa [stTo] using hG0⟩
  case round =>
    obtain ⟨k, hk, rfl, hnw, x0, hGw⟩ := hrel
    clear hG0
    obtain ⟨wo, rfl⟩ : ∃ wo : World, wo = wr := ⟨_, rfl⟩
    have hzo : w.heap.size < wo.heap.size := World.block_lt_of_cell? _ _ x0
    by_cases hlt : k < n
    · have b1 : (k : Int) < (n : Int) := by omega
      have HSU := hid (stTo_succ a.nx n k)
      have HRS := hid (stRow_start a.nx k)
      have hl1 := HLEN.out k
      have hYs : (stTo a.nx n k).length ≤ 100 := by
        have : k * n ≤ 10 * 10 := Nat.mul_le_mul (by omega) hn10
        omega
      obtain ⟨YS, hYS⟩ : ∃ z, z = stTo a.nx n k := ⟨_, rfl⟩
      rw [← hYS] at HSU hGw hYs
      clear hYS hl1
      go_wp2_with fail
      go_loopw [5, 7] (fun ov i wr => ∃ t : Nat, k + 1 ≤ t ∧ t ≤ n ∧ i = .int .i64 t ∧ New w wr ∧ wr.cell? ⟨w.heap.size, 0, none⟩ = some (.int .i64 n) ∧ GrowRows (w.heap.size + 1) 30 wr ov (YS ++ stRow a.nx k t)) (fun _ i _ => n - (intOf i).toNat)
      case atStart => exact ⟨k + 1, Nat.le_refl _, hlt, by go_num, hnw, x0, by rw [HRS.out]; simpa using hGw⟩
      case round =>
        obtain ⟨t, hkt, ht, rfl, hni, y0, hGi⟩ := hrel
        clear hGw x0
        obtain ⟨wi, rfl⟩ : ∃ wi : World, wi = wr := ⟨_, rfl⟩
        have hzi : w.heap.size < wi.heap.size := World.block_lt_of_cell? _ _ y0
        have hrl := stRow_len a.nx k t
        obtain ⟨ZS, hZS⟩ : ∃ z, z = YS ++ stRow a.nx k t := ⟨_, rfl⟩
        have hZl : ZS.length ≤ 110 := by rw [hZS, List.length_append]; omega
        have HZS := hid hZS
        rw [← hZS] at hGi
        clear hZS hrl
        obtain ⟨AO, cO, rfl⟩ := hGi.form
        by_cases hlt2 : t < n
        · have b2 : (t : Int) < (n : Int) := by omega
          have C := HS.out wi k t hni hlt hlt2
          cases hb : steadyB a.nx k t with
          | true =>
            have HE := hid (stRow_yes (nx := a.nx) (s := k) (k := t) (by omega) hb)
            rw [hb] at C
            clear hb
            have HGI := hid hGi
            have hXl : ZS.length < 1099511627776 := by omega
            clear hGi
            go_wp2_with (first
              | (refine C.mono ?_; rintro e w2 ⟨rfl, hn2⟩; have hz2 := hn2.size)
              | (at_builtin; refine wpList_appRows (w0 := w2) (w1 := w2.alloc (.cells #[.int .i64 k, .int .i64 t] 2)) rfl _ _ _ rfl Try.underlying24 info_ints (.slice AO ZS.length cO) ZS [(k : Int), (t : Int)] rfl (HGI.out.new hn2) (by repeat (first | with_reducible exact New.refl _ | with_reducible assumption | with_reducible refine New.alloc ?_ _ | with_reducible refine New.drewN ?_ _ | with_reducible refine New.drew ?_ | with_reducible refine New.trans ?_ (by with_reducible assumption))) (OwnInts.two2 w2 k t 2) (by simp only [size_alloc]; rfl) hXl (by omega) ?_; intro g9 cap9 w9 ho9 hg9))
            have hn29 : New w2 (w2.alloc (.cells #[.int .i64 k, .int .i64 t] 2)) := (by repeat (first | with_reducible exact New.refl _ | with_reducible assumption | with_reducible refine New.alloc ?_ _ | with_reducible refine New.drewN ?_ _ | with_reducible refine New.drew ?_ | with_reducible refine New.trans ?_ (by with_reducible assumption)))
            have hbq : ∀ q, (Value.slice AO ZS.length cO).ownBlock = some q → w.heap.size + 1 ≤ q := fun q hq => (HGI.out.block q hq).1
            have hn9 : New w w9 := ((hni.trans hn2).trans hn29).grown hg9 (fun q hq => by have := hbq q hq; omega)
            have k9 : w9.cell? ⟨w.heap.size, 0, none⟩ = some (.int .i64 n) := hg9.cell (hn29.cell (hn2.cell y0)) (fun e => by have : w.heap.size + 1 ≤ w.heap.size := hbq _ e.symm; omega)
            exact ⟨⟨t + 1, by omega, by omega, by go_num, hn9, k9, by rw [HE.out, ← List.append_assoc, ← HZS.out]; exact ho9⟩, by simp [intOf]; omega⟩
          | false =>
            have HE := hid (stRow_no (nx := a.nx) (s := k) (k := t) hb)
            rw [hb] at C
            clear hb
            go_wp2_with (refine C.mono ?_; rintro e w2 ⟨rfl, hn2⟩)
            exact ⟨⟨t + 1, by omega, by omega, by go_num, hni.trans hn2, hn2.cell y0, by rw [HE.out, ← HZS.out]; exact hGi.new hn2⟩, by simp [intOf]; omega⟩
        · have e : t = n := by omega
          subst e
          go_wp2_with fail
          exact ⟨⟨k + 1, by omega, by go_num, hni, y0, by rw [HSU.out, ← HZS.out]; exact hGi⟩, by simp [intOf]; omega⟩
    · have e : k = n := by omega
      subst e
      have hO := hGw.own (by have := HLEN.out k; have : k * k ≤ 10 * 10 := Nat.mul_le_mul hn10 hn10; omega)
      go_wp2_with fail
      go_ret
      exact ⟨_, rfl, hnw, hO.widen (by omega) (Nat.le_refl _)⟩
set_option maxRecDepth 20000 in
set_option maxHeartbeats 400000 in
theorem stable_any (v : Value) (a : Aut) (w : World) (h : AutAt w v a) (ha : autOk a = true) :
    Calls Try.prog 132 #[v] w fun e w' => ∃ r, e = .returned r ∧ New w w' ∧ OwnRows w.heap.size w'.heap.size w' r (stOf a) := by
  obtain ⟨rv, rfl, hr⟩ := h
  obtain ⟨A, c, rfl⟩ := hr.form
  have h1 : AutAt w (.agg #[.int .i64 a.n, .slice A a.nx.length c]) a := ⟨_, rfl, hr⟩
  have han := autOk_n ha
  obtain ⟨n, hn⟩ : ∃ n : Nat, a.n = (n : Int) := ⟨a.n.toNat, by omega⟩
  have hnt : a.n.toNat = n := by omega
  obtain ⟨wb, hwb⟩ : ∃ wb, wb = w.alloc (.cells #[.int .i64 a.n, .slice A a.nx.length c] 34) := ⟨_, rfl⟩
  have hnb : New w wb := by rw [hwb]; exact (by repeat (first | with_reducible exact New.refl _ | with_reducible assumption | with_reducible refine New.alloc ?_ _ | with_reducible refine New.drewN ?_ _ | with_reducible refine New.drew ?_ | with_reducible refine New.trans ?_ (by with_reducible assumption)))
  have hb0 : wb.cell? ⟨w.heap.size, 0, none⟩ = some (.int .i64 a.n) := by rw [hwb]; go_simp
  have hb1 : wb.cell? ⟨w.heap.size, 1, none⟩ = some (.slice A a.nx.length c) := by rw [hwb]; go_simp
  have C1 := merges_any _ a wb (h1.new hnb) ha
  have HP := hid (fun (w1 : World) (mb : Nat) (tv : Value) (hw : New wb w1) (hm : w1.cell? ⟨mb, 0, none⟩ = some tv) (hT : ∀ w2, New w1 w2 → ListAt (ListAt WordAt) w2 tv (mwTab a)) =>
    pairs_any (.agg #[.int .i64 a.n, .slice A a.nx.length c]) a n 204 #[.pointer (some ⟨w.heap.size, 0, none⟩), .pointer (some ⟨mb, 0, none⟩)] w1 (h1.new (hnb.trans hw)) hn (by omega) (enters Try.func204 (by decide) (by simp [Try.f204]))
      (fun w2 s t hw2 hs ht => stable1_any a s t w.heap.size mb A c tv w2 ha (by omega) (by omega) ((hw.trans hw2).cell hb0) ((hw.trans hw2).cell hb1) (hr.new ((hnb.trans hw).trans hw2)) (hw2.cell hm) (fun w3 hw3 => hT w3 (hw2.trans hw3))))
  rw [show stOf a = stTo a.nx n n by unfold stOf; rw [hnt]]
  obtain ⟨MT, hMT⟩ : ∃ z, z = mwTab a := ⟨_, rfl⟩
  rw [← hMT] at C1 HP
  clear hMT han hn hnt h1 ha
  go_enter Try.func132, Try.ntmps132
  go_wp2_with fail
  rw [← hwb]
  clear hwb
  go_wp2_with fail
  refine C1.mono ?_
  rintro e w1 ⟨tv, rfl, hn1, hL⟩
  have hLn := hL.now
  obtain ⟨AT, cT, hcf, _⟩ := id hLn
  subst hcf
  have z0 := hn1.cell hb0
  have z1 := hn1.cell hb1
  obtain ⟨w2, hw2⟩ : ∃ w2, w2 = w1.alloc (.cells #[.slice AT MT.length cT] 41) := ⟨_, rfl⟩
  have hn2 : New w1 w2 := by rw [hw2]; exact (by repeat (first | with_reducible exact New.refl _ | with_reducible assumption | with_reducible refine New.alloc ?_ _ | with_reducible refine New.drewN ?_ _ | with_reducible refine New.drew ?_ | with_reducible refine New.trans ?_ (by with_reducible assumption)))
  have hm : w2.cell? ⟨w1.heap.size, 0, none⟩ = some (.slice AT MT.length cT) := by rw [hw2]; go_simp
  have y0 := hn2.cell z0
  have y1 := hn2.cell z1
  have C2 := HP.out w2 w1.heap.size _ (hn1.trans hn2) hm (fun w3 hw3 => ((hL.new hn2).new hw3).now)
  have lz : w.heap.size < w1.heap.size := World.block_lt_of_cell? _ _ z0
  clear HP hLn
  go_wp2_with fail
  rw [← hw2]
  clear hw2
  refine C2.mono ?_
  rintro e w3 ⟨r3, rfl, hn3, ho3⟩
  go_wp2_with fail
  go_ret
  have hN := (hnb.trans hn1).trans hn2
  exact ⟨_, rfl, hN.trans hn3, ho3.widen hN.size (Nat.le_refl _)⟩
set_option maxRecDepth 20000 in
set_option maxHeartbeats 1000000 in
theorem implStableDivision_any (v1 : Value) (a : Aut) (w : World) (h1 : AutAt w v1 a) :
    Calls Try.prog 59 #[v1] w fun e w' => ∃ r, e = .returned (.tuple #[r, .int .i64 (StableDivision a).2]) ∧ New w w' ∧ OwnInts w.heap.size w'.heap.size w' r (StableDivision a).1 := by
  obtain ⟨rv, rfl, hr⟩ := h1
  obtain ⟨A, c, rfl⟩ := hr.form
  have h1 : AutAt w (.agg #[.int .i64 a.n, .slice A a.nx.length c]) a := ⟨_, rfl, hr⟩
  obtain ⟨wb, hwb⟩ : ∃ wb, wb = w.alloc (.cells #[.int .i64 a.n, .slice A a.nx.length c] 34) := ⟨_, rfl⟩
  have hnb : New w wb := by rw [hwb]; exact (by repeat (first | with_reducible exact New.refl _ | with_reducible assumption | with_reducible refine New.alloc ?_ _ | with_reducible refine New.drewN ?_ _ | with_reducible refine New.drew ?_ | with_reducible refine New.trans ?_ (by with_reducible assumption)))
  have hzb : wb.heap.size = w.heap.size + 1 := by rw [hwb]; simp only [size_alloc]
  have hb0 : wb.cell? ⟨w.heap.size, 0, none⟩ = some (.int .i64 a.n) := by rw [hwb]; go_simp
  have hb1 : wb.cell? ⟨w.heap.size, 1, none⟩ = some (.slice A a.nx.length c) := by rw [hwb]; go_simp
  have C1 := ValidAutomaton_any _ a wb (h1.new hnb)
  obtain ⟨R, hR⟩ : ∃ R, R = StableDivision a := ⟨_, rfl⟩
  rw [← hR]
  unfold StableDivision at hR
  have HR := hid hR
  clear hR
  cases ha : autOk a with
  | false =>
    rw [ha] at C1
    have HE := hid (show R = ([], 1) by rw [HR.out, ha]; rfl)
    go_enter Try.func59, Try.ntmps59
    go_wp2_with fail
    rw [← hwb]
    go_wp2_with fail
    refine C1.mono ?_
    rintro e w1 ⟨rfl, hn1⟩
    go_wp2
    go_ret2
    rw [HE.out]
    exact ⟨_, rfl, hnb.trans hn1, OwnInts.nil _ _ _⟩
  | true =>
    rw [ha] at C1
    have HE := hid (show R = (tidyOf (minTo a.n.toNat (stOf a) (stOf a).length), 0) by rw [HR.out, ha, stab_same ha]; rfl)
    have han := autOk_n ha
    obtain ⟨n, hn⟩ : ∃ n : Nat, a.n = (n : Int) := ⟨a.n.toNat, by omega⟩
    have hn10 : n ≤ 10 := by omega
    have hnt : a.n.toNat = n := by omega
    have HA := hid (fun w1 (hw : New w w1) => all_any _ a w1 (h1.new hw) ha)
    have HS := hid (fun w1 (hw : New w w1) => stable_any _ a w1 (h1.new hw) ha)
    have HML := hid (fun k hk => minTo_len a.n.toNat (stOf a) k hk)
    have HSU := hid (fun k hk => minTo_succ a.n.toNat (stOf a) k hk)
    have HNP := hid (fun k hk => nth_stOf ha k hk)
    have HINV := hid (fun k hk => (min_inv ha k hk).1)
    have hlen : (stOf a).length ≤ 100 := by
      have := stTo_len a.nx n n
      have : n * n ≤ 10 * 10 := Nat.mul_le_mul hn10 hn10
      unfold stOf; rw [hnt]; omega
    have H0 := hid (show minTo a.n.toNat (stOf a) 0 = iota 0 n by unfold minTo; rw [hnt]; rfl)
    rw [hnt] at HML HSU HNP H0 HA HE HINV
    obtain ⟨ST, hST⟩ : ∃ z, z = stOf a := ⟨_, rfl⟩
    rw [← hST] at HS HML HSU HNP H0 hlen HE HINV
    clear ha han hn hnt hST
    go_enter Try.func59, Try.ntmps59
    go_wp2_with fail
    rw [← hwb]
    clear hwb
    go_wp2_with fail
    refine C1.mono ?_
    rintro e w1 ⟨rfl, hn1⟩
    have z0 := hn1.cell hb0
    have z1 := hn1.cell hb1
    have hN1 := hnb.trans hn1
    go_wp2_with fail
    refine (HA.out _ hN1).mono ?_
    rintro e w2 ⟨mv, rfl, hn2, hm⟩
    have hml : (iota 0 n).length = n := iota_length _ _
    obtain ⟨AM, cM, rfl⟩ := hm.form
    rw [hml] at hm ⊢
    have HM := hid hm
    have x0 := hn2.cell z0
    have x1 := hn2.cell z1
    have hN2 := hN1.trans hn2
    have hz1 := hN1.size
    have hz2 := hn2.size
    clear C1 hm hml
    go_wp2_with fail
    refine (HS.out _ hN2).mono ?_
    rintro e w3 ⟨sv, rfl, hn3, hos⟩
    obtain ⟨AP, cP, rfl⟩ := hos.form
    have hM3 := HM.out.new hn3
    rw [← H0.out] at hM3
    have HP := hid hos
    have hN3 := hN2.trans hn3
    clear hos
    go_wp2_with fail
    go_loopw [15] (fun i wr => ∃ k : Nat, k ≤ ST.length ∧ i = .int .i64 k ∧ Within w1.heap.size w2.heap.size w3 wr ∧ OwnInts w1.heap.size w2.heap.size wr (.slice AM n cM) (minTo n ST k)) (fun i _ => ST.length - (intOf i).toNat)
    case atStart => exact ⟨0, Nat.zero_le _, rfl, Within.refl _ _ _, hM3⟩
    case round =>
      obtain ⟨k, hk, rfl, hW, hMk⟩ := hrel
      clear hM3
      obtain ⟨wo, rfl⟩ : ∃ wo : World, wo = wr := ⟨_, rfl⟩
      by_cases hlt : k < ST.length
      · have b1 : (k : Int) < (ST.length : Int) := by omega
        obtain ⟨s, t, h1, h2, _, e⟩ := HNP.out k hlt
        have hml := HML.out k hk
        have HE2 := hid (show minTo n ST (k + 1) = (minTo n ST k).set t (min (nth (minTo n ST k) t) (nth (minTo n ST k) s)) by
          rw [HSU.out k hlt]; unfold minStep; rw [e]; rfl)
        obtain ⟨M, hM⟩ : ∃ M, M = minTo n ST k := ⟨_, rfl⟩
        rw [← hM] at hMk hml HE2
        clear hM
        have hP2 := HP.out.within hW (Or.inr (by omega))
        obtain ⟨_, _, e9, _, hcr⟩ := id hP2.at
        cases e9
        obtain ⟨b, off, rv9, hA, hx, hxr⟩ := hcr k hlt
        cases hA
        rw [e] at hxr
        obtain ⟨A2, c2, rfl, _, hrr⟩ := hxr
        obtain ⟨b2, o2, hA2, k5⟩ := hrr 0 (by simp)
        cases hA2
        obtain ⟨_, _, hA3, k6⟩ := hrr 1 (by simp)
        cases hA3
        replace k5 : wo.cell? ⟨b2, o2, none⟩ = some (.int .i64 s) := k5
        replace k6 : wo.cell? ⟨b2, o2 + 1, none⟩ = some (.int .i64 t) := k6
        obtain ⟨_, _, e9, _, hmb, hmc⟩ := id hMk
        injection e9 with e1 e2 e3
        obtain ⟨mb, mo, hA4, k7, _⟩ := hmc s (by omega)
        obtain ⟨_, _, hA5, k8, k9⟩ := hmc t (by omega)
        rw [hA4] at hA5
        cases hA5
        rw [hA4] at e1
        subst e1
        have hbb := hMk.block mb rfl
        have hset := hMk.set t (by omega) (min (nth M t) (nth M s))
        have hsn : (s : Int) < (n : Int) := by omega
        have htn : (t : Int) < (n : Int) := by omega
        have HSET := hid hset
        obtain ⟨MS, hMS⟩ : ∃ z, z = nth M s := ⟨_, rfl⟩
        obtain ⟨MT, hMT⟩ : ∃ z, z = nth M t := ⟨_, rfl⟩
        rw [← hMS] at k7 HE2 HSET
        rw [← hMT] at k8 HE2 HSET
        clear hmc hcr hrr hMk hP2 e hMS hMT e2 e3 hA4 hset hmb
        go_wp2_with fail
        go_region_law (fail)
        all_goals go_wp2
        all_goals (
          have hmin : (if MS < MT then MS else MT) = min MT MS := by split <;> omega
          rw [hmin]
          have hWn := (hW.trans ((Within.setCell (Within.refl _ _ wo) (p := ⟨mb, mo + t, none⟩) hbb.1 hbb.2 (.int .i64 (min MT MS))))).trans (Within.of_new (show New (wo.setCell ⟨mb, mo + t, none⟩ (.int .i64 (min MT MS))) (wo.setCell ⟨mb, mo + t, none⟩ (.int .i64 (min MT MS))).drew from (by repeat (first | with_reducible exact New.refl _ | with_reducible assumption | with_reducible refine New.alloc ?_ _ | with_reducible refine New.drewN ?_ _ | with_reducible refine New.drew ?_ | with_reducible refine New.trans ?_ (by with_reducible assumption)))) _ _)
          exact ⟨⟨k + 1, by omega, by go_num, hWn, by rw [HE2.out]; exact HSET.out.new (by repeat (first | with_reducible exact New.refl _ | with_reducible assumption | with_reducible refine New.alloc ?_ _ | with_reducible refine New.drewN ?_ _ | with_reducible refine New.drew ?_ | with_reducible refine New.trans ?_ (by with_reducible assumption)))⟩, by simp [intOf]; omega⟩)
      · have e : k = ST.length := by omega
        subst e
        have hml := HML.out _ hk
        have hinv := HINV.out _ hk
        have HT := hid (fun (w3 : World) (h3 : IntsAt w3 (.slice AM n cM) (minTo n ST ST.length)) => numbered_any _ _ w3 h3 (by omega) (fun i hi => by
          obtain ⟨r, q1, q2, _⟩ := hinv i (by omega)
          rw [q1]; omega))
        have HMK := hid hMk
        clear hMk hml hinv
        go_wp2_with fail
        refine (HT.out _ HMK.out.at).mono ?_
        rintro e w5 ⟨r5, rfl, hn5, ho5⟩
        go_wp2_with fail
        go_ret2
        rw [HE.out]
        have hN := hN3.within hW (by omega)
        exact ⟨_, rfl, hN.trans hn5, ho5.widen hN.size (Nat.le_refl _)⟩

end Go.Proofs.Ytieonifckmokkaa
