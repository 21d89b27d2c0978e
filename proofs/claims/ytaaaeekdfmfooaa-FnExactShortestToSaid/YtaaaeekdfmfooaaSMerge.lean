/- The reference's merging words and shortest words to a state. -/
import Derived.Test.YtaaaeekdfmfooaaRows
import Derived.Test.YtaaaeekdfmfooaaBase
import Derived.Test.YtaaaeekdfmfooaaAut
import Derived.Test.YtaaaeekdfmfooaaApp
import Derived.Test.YtaaaeekdfmfooaaAppRows
import Derived.Test.YtaaaeekdfmfooaaInfo
import Derived.Test.YtaaaeekdfmfooaaPlain1
import Derived.Test.YtaaaeekdfmfooaaPlainRun
import Derived.Test.YtaaaeekdfmfooaaPlainSet
import Derived.Test.YtaaaeekdfmfooaaPlainBits
import Derived.Test.YtaaaeekdfmfooaaPlainTour
import Derived.Test.YtaaaeekdfmfooaaMapV
import Derived.Test.YtaaaeekdfmfooaaTourV
import Derived.Test.YtaaaeekdfmfooaaWalkV
import Derived.Test.YtaaaeekdfmfooaaPlainFirst
import Derived.Test.YtaaaeekdfmfooaaS00b
import Derived.Test.YtaaaeekdfmfooaaS01a
import Derived.Test.YtaaaeekdfmfooaaSFlk
import Derived.Test.YtaaaeekdfmfooaaSWalk
import Derived.Test.YtaaaeekdfmfooaaSLeast
import Derived.Test.YtaaaeekdfmfooaaSFirst
import Derived.WalkKit
import Derived.WalkSpells
import Derived.WalkLawsBesides
import Derived.Deep.QuietTactic
import Derived.Deep.OwnRows
import Derived.BigQuiet
import Derived.KernelRfl
namespace Go.Proofs.Ytaaaeekdfmfooaa
open Go.RowKit

theorem pair_lt (s t n : Int) (h1 : 0 ≤ s ∧ s < n) (h2 : 0 ≤ t ∧ t < n) : pairOf s t < 2 ^ n.toNat :=
  Nat.or_lt_two_pow (Nat.pow_lt_pow_right (by decide) (by omega)) (Nat.pow_lt_pow_right (by decide) (by omega))
theorem pair_w64 (s t : Nat) (hs : s < 10) (ht : t < 10) : bits .or .i64 (Go.RowKit.wrap64 ((2 : Int) ^ s)) (Go.RowKit.wrap64 ((2 : Int) ^ t)) = ((2 ^ s ||| 2 ^ t : Nat) : Int) := by
  rw [two_pow_wrap s (by omega), or_w64 _ _ (pow10 s hs) ht]
set_option maxRecDepth 20000 in
set_option maxHeartbeats 400000 in
theorem specMergingWord_any (v1 : Value) (a : Aut) (s t : Int) (w : World) (h1 : AutAt w v1 a) :
    Calls Try.prog 32 #[v1, .int .i64 s, .int .i64 t] w fun e w' => ∃ r, e = .returned (.tuple #[r, .int .i64 (MergingWord a s t).2]) ∧ New w w' ∧ OwnInts w.heap.size w'.heap.size w' r (MergingWord a s t).1 := by
  obtain ⟨rv, rfl, hr⟩ := h1
  obtain ⟨A, c, rfl⟩ := hr.form
  obtain ⟨wb, hwb⟩ : ∃ wb, wb = w.alloc (.cells #[.int .i64 a.n, .slice A a.nx.length c] 27) := ⟨_, rfl⟩
  have hp : PAut wb (.pointer (some ⟨w.heap.size, 0, none⟩)) a := by rw [hwb]; exact PAut.box hr _
  have hnb : New w wb := by rw [hwb]; exact (by repeat (first | with_reducible exact New.refl _ | with_reducible assumption | with_reducible refine New.alloc ?_ _ | with_reducible refine New.drew ?_ | with_reducible refine New.drewN ?_ _ | with_reducible refine New.setCell ?_ (by simp <;> omega) _))
  have hzb : wb.heap.size = w.heap.size + 1 := by rw [hwb]; simp only [size_alloc]
  have hb0 : wb.cell? ⟨w.heap.size, 0, none⟩ = some (.int .i64 a.n) := by rw [hwb]; go_simp
  obtain ⟨R, hR⟩ : ∃ R, R = MergingWord a s t := ⟨_, rfl⟩
  rw [← hR]
  unfold MergingWord at hR
  have HR := hid hR
  have C1 := l01Ok_any _ a _ hp
  clear hR
  cases ha : autOk a with
  | false =>
    rw [ha] at C1
    go_enter Try.func32, Try.ntmps32
    go_wp2_with fail
    rw [← hwb]
    refine C1.mono ?_
    rintro e w1 ⟨rfl, hn1⟩
    have hz1 := hn1.size
    go_wp2
    go_ret2
    have e : R = ([], 1) := by rw [HR.out, ha]; rfl
    rw [e]
    exact ⟨_, rfl, (by repeat (first | with_reducible exact New.refl _ | with_reducible assumption | with_reducible refine New.alloc ?_ _ | with_reducible refine New.drewN ?_ _ | with_reducible refine New.drew ?_ | with_reducible refine New.trans ?_ (by with_reducible assumption))), OwnInts.none' _ (by (try simp only [size_alloc, size_drew, size_drewN, size_setCell] at *) <;> omega) (by (try simp only [size_alloc, size_drew, size_drewN, size_setCell] at *) <;> omega)⟩
  | true =>
    rw [ha] at C1
    have han := autOk_n ha
    obtain ⟨n1, n2⟩ := han
    have HA := hid ha
    clear ha
    cases hs : inB s 0 (a.n - 1) with
    | false =>
      have C2 := l00In_any s 0 (a.n - 1)
      rw [hs] at C2
      go_enter Try.func32, Try.ntmps32
      go_wp2_with fail
      rw [← hwb]
      refine C1.mono ?_
      rintro e w1 ⟨rfl, hn1⟩
      have hz1 := hn1.size
      replace hb0 := hn1.cell hb0
      go_wp2_with (go_at_call 85; refine (C2 _).mono ?_; rintro e w' ⟨rfl, rfl⟩)
      go_ret2
      have e : R = ([], 2) := by rw [HR.out, HA.out, hs]; rfl
      rw [e]
      exact ⟨_, rfl, (by repeat (first | with_reducible exact New.refl _ | with_reducible assumption | with_reducible refine New.alloc ?_ _ | with_reducible refine New.drewN ?_ _ | with_reducible refine New.drew ?_ | with_reducible refine New.trans ?_ (by with_reducible assumption))), OwnInts.none' _ (by (try simp only [size_alloc, size_drew, size_drewN, size_setCell] at *) <;> omega) (by (try simp only [size_alloc, size_drew, size_drewN, size_setCell] at *) <;> omega)⟩
    | true =>
      have C2 := l00In_any s 0 (a.n - 1)
      rw [hs] at C2
      have C3 := l00In_any t 0 (a.n - 1)
      cases ht : inB t 0 (a.n - 1) with
      | false =>
        rw [ht] at C3
        go_enter Try.func32, Try.ntmps32
        go_wp2_with fail
        rw [← hwb]
        refine C1.mono ?_
        rintro e w1 ⟨rfl, hn1⟩
        have hz1 := hn1.size
        replace hb0 := hn1.cell hb0
        go_wp2_with fail
        refine (C2 _).mono ?_
        rintro e w' ⟨rfl, rfl⟩
        go_wp2_with fail
        refine (C3 _).mono ?_
        rintro e w' ⟨rfl, rfl⟩
        go_wp2
        go_ret2
        have e : R = ([], 2) := by rw [HR.out, HA.out, hs, ht]; rfl
        rw [e]
        exact ⟨_, rfl, (by repeat (first | with_reducible exact New.refl _ | with_reducible assumption | with_reducible refine New.alloc ?_ _ | with_reducible refine New.drewN ?_ _ | with_reducible refine New.drew ?_ | with_reducible refine New.trans ?_ (by with_reducible assumption))), OwnInts.none' _ (by (try simp only [size_alloc, size_drew, size_drewN, size_setCell] at *) <;> omega) (by (try simp only [size_alloc, size_drew, size_drewN, size_setCell] at *) <;> omega)⟩
      | true =>
        rw [ht] at C3
        have hs' := (inB_iff _ _ _).1 hs
        have ht' := (inB_iff _ _ _).1 ht
        have HC4 := hid (fun w1 (hm : New wb w1) => l02Shrink_any _ a (pairOf s t) w1 (hp.new hm) HA.out (pair_lt s t a.n (by omega) (by omega)))
        obtain ⟨P, hP⟩ : ∃ P, P = firstWord smallB (tourOf a.nx (pairOf s t)) := ⟨_, rfl⟩
        rw [← hP] at HC4
        have e : R = told P := by rw [HR.out, if_pos HA.out, if_pos (by rw [hs, ht]; rfl), hP]
        have HE := hid e
        have hbits := pair_w64 s.toNat t.toNat (by omega) (by omega)
        have s0 : 0 ≤ s := by omega
        have s1 : s < 10 := by omega
        have t0 : 0 ≤ t := by omega
        have t1 : t < 10 := by omega
        have hpo : pairOf s t = (2 ^ s.toNat ||| 2 ^ t.toNat) := rfl
        rw [← hpo] at hbits
        clear hs' ht' hP e hpo
        go_enter Try.func32, Try.ntmps32
        go_wp2_with fail
        rw [← hwb]
        refine C1.mono ?_
        rintro e w1 ⟨rfl, hn1⟩
        have hz1 := hn1.size
        replace hb0 := hn1.cell hb0
        go_wp2_with fail
        refine (C2 _).mono ?_
        rintro e w' ⟨rfl, rfl⟩
        go_wp2_with fail
        refine (C3 _).mono ?_
        rintro e w' ⟨rfl, rfl⟩
        go_wp2_with fail
        refine (HC4.out _ hn1).mono ?_
        rintro e w2 ⟨r, rfl, hn2, ho⟩
        have hz2 := hn2.size
        go_wp2_with fail
        refine (l02Told_any _ P _ _ _ ho (Nat.le_refl _)).mono ?_
        rintro e w3 ⟨r3, rfl, hn3, ho3⟩
        have hz3 := hn3.size
        go_wp2
        go_ret2
        rw [HE.out]
        exact ⟨_, rfl, (by repeat (first | with_reducible exact New.refl _ | with_reducible assumption | with_reducible refine New.alloc ?_ _ | with_reducible refine New.drewN ?_ _ | with_reducible refine New.drew ?_ | with_reducible refine New.trans ?_ (by with_reducible assumption))), ho3.widen (by omega) (Nat.le_refl _)⟩
set_option maxRecDepth 20000 in
set_option maxHeartbeats 400000 in
theorem specShortestTo_any (v1 : Value) (a : Aut) (s : Int) (w : World) (h1 : AutAt w v1 a) :
    Calls Try.prog 42 #[v1, .int .i64 s] w fun e w' => ∃ r, e = .returned (.tuple #[r, .int .i64 (ShortestTo a s).2]) ∧ New w w' ∧ OwnInts w.heap.size w'.heap.size w' r (ShortestTo a s).1 := by
  obtain ⟨rv, rfl, hr⟩ := h1
  obtain ⟨A, c, rfl⟩ := hr.form
  obtain ⟨wb, hwb⟩ : ∃ wb, wb = w.alloc (.cells #[.int .i64 a.n, .slice A a.nx.length c] 27) := ⟨_, rfl⟩
  have hp : PAut wb (.pointer (some ⟨w.heap.size, 0, none⟩)) a := by rw [hwb]; exact PAut.box hr _
  have hnb : New w wb := by rw [hwb]; exact (by repeat (first | with_reducible exact New.refl _ | with_reducible assumption | with_reducible refine New.alloc ?_ _ | with_reducible refine New.drew ?_ | with_reducible refine New.drewN ?_ _ | with_reducible refine New.setCell ?_ (by simp <;> omega) _))
  have hzb : wb.heap.size = w.heap.size + 1 := by rw [hwb]; simp only [size_alloc]
  have hb0 : wb.cell? ⟨w.heap.size, 0, none⟩ = some (.int .i64 a.n) := by rw [hwb]; go_simp
  obtain ⟨R, hR⟩ : ∃ R, R = ShortestTo a s := ⟨_, rfl⟩
  rw [← hR]
  unfold ShortestTo at hR
  have HR := hid hR
  have C1 := l01Ok_any _ a _ hp
  clear hR
  cases ha : autOk a with
  | false =>
    rw [ha] at C1
    go_enter Try.func42, Try.ntmps42
    go_wp2_with fail
    rw [← hwb]
    refine C1.mono ?_
    rintro e w1 ⟨rfl, hn1⟩
    have hz1 := hn1.size
    go_wp2
    go_ret2
    have e : R = ([], 1) := by rw [HR.out, ha]; rfl
    rw [e]
    exact ⟨_, rfl, (by repeat (first | with_reducible exact New.refl _ | with_reducible assumption | with_reducible refine New.alloc ?_ _ | with_reducible refine New.drewN ?_ _ | with_reducible refine New.drew ?_ | with_reducible refine New.trans ?_ (by with_reducible assumption))), OwnInts.none' _ (by (try simp only [size_alloc, size_drew, size_drewN, size_setCell] at *) <;> omega) (by (try simp only [size_alloc, size_drew, size_drewN, size_setCell] at *) <;> omega)⟩
  | true =>
    rw [ha] at C1
    have han := autOk_n ha
    obtain ⟨n1, n2⟩ := han
    have HA := hid ha
    clear ha
    cases hs : inB s 0 (a.n - 1) with
    | false =>
      have C2 := l00In_any s 0 (a.n - 1)
      rw [hs] at C2
      go_enter Try.func42, Try.ntmps42
      go_wp2_with fail
      rw [← hwb]
      refine C1.mono ?_
      rintro e w1 ⟨rfl, hn1⟩
      have hz1 := hn1.size
      replace hb0 := hn1.cell hb0
      go_wp2_with (go_at_call 85; refine (C2 _).mono ?_; rintro e w' ⟨rfl, rfl⟩)
      go_ret2
      have e : R = ([], 2) := by rw [HR.out, HA.out, hs]; rfl
      rw [e]
      exact ⟨_, rfl, (by repeat (first | with_reducible exact New.refl _ | with_reducible assumption | with_reducible refine New.alloc ?_ _ | with_reducible refine New.drewN ?_ _ | with_reducible refine New.drew ?_ | with_reducible refine New.trans ?_ (by with_reducible assumption))), OwnInts.none' _ (by (try simp only [size_alloc, size_drew, size_drewN, size_setCell] at *) <;> omega) (by (try simp only [size_alloc, size_drew, size_drewN, size_setCell] at *) <;> omega)⟩
    | true =>
      have C2 := l00In_any s 0 (a.n - 1)
      rw [hs] at C2
      have hs' := (inB_iff _ _ _).1 hs
      have e : R = told (firstWord (fun f => f == 2 ^ s.toNat) (tourOf a.nx (full a.n))) := by rw [HR.out, if_pos HA.out, if_pos hs]
      have HE := hid e
      have hok := tourOk HA.out (full a.n) (full_lt a.n)
      have hlen := hok.len n2
      have HOK := hid hok
      have HC3 := hid (fun w1 (hm : New wb w1) => l02Full_any _ a w1 (hp.new hm) (by omega) n2)
      have HC4 := hid (fun w1 (hm : New wb w1) => l02From_any _ a (full a.n) w1 (hp.new hm) HA.out (full_lt a.n))
      obtain ⟨T, hT⟩ : ∃ T, T = tourOf a.nx (full a.n) := ⟨_, rfl⟩
      rw [← hT] at hlen HOK HC4 HE
      have s0 : 0 ≤ s := by omega
      have s1 : s < 10 := by omega
      have hpw := two_pow_wrap s.toNat (by omega)
      clear hs' hT e hok
      go_enter Try.func42, Try.ntmps42
      go_wp2_with fail
      rw [← hwb]
      refine C1.mono ?_
      rintro e w1 ⟨rfl, hn1⟩
      have hz1 := hn1.size
      replace hb0 := hn1.cell hb0
      go_wp2_with fail
      refine (C2 _).mono ?_
      rintro e w' ⟨rfl, rfl⟩
      go_wp2_with fail
      refine (HC3.out _ hn1).mono ?_
      rintro e w' ⟨rfl, rfl⟩
      go_wp2_with fail
      refine (HC4.out _ hn1).mono ?_
      rintro e w2 ⟨v, he, hn2, hv⟩
      obtain ⟨b, q1, q2, q3, rfl, h0, h1, h2, h4, h5, h6⟩ := id hv
      obtain ⟨A5, c5, rfl, _, hc⟩ := h4
      subst he
      have HCX := hid hc
      have HV := hid hv
      clear hc h1 h2 h5 h6 hv
      go_wp2
      have hnn : New w w2 := (by repeat (first | with_reducible exact New.refl _ | with_reducible assumption | with_reducible refine New.alloc ?_ _ | with_reducible refine New.drewN ?_ _ | with_reducible refine New.drew ?_ | with_reducible refine New.trans ?_ (by with_reducible assumption)))
      go_loopw [7] (fun i wr => ∃ k : Nat, k ≤ T.sets.length ∧ i = .int .i64 k ∧ Hid (∀ j, j < k → (nth T.sets j == 2 ^ s.toNat) = false) ∧ New w2 wr) (fun i _ => T.sets.length - (intOf i).toNat)
      case atStart => exact ⟨0, Nat.zero_le _, rfl, fun j hj => absurd hj (by omega), New.refl _⟩
      case round =>
        obtain ⟨k, hk, rfl, he, hn⟩ := hrel
        replace h0 := hn.cell h0
        by_cases hlt : k < T.sets.length
        · obtain ⟨b', off', rfl, hx⟩ := HCX.out k hlt
          have b1 : (k : Int) < (T.sets.length : Int) := by omega
          replace hx := hn.cell hx
          obtain ⟨F, hF⟩ : ∃ F, F = nth T.sets k := ⟨_, rfl⟩
          rw [← hF] at hx
          cases hq : (F == 2 ^ s.toNat) with
          | true =>
            have hq' : F = 2 ^ s.toNat := by simpa using hq
            have hq2 : ((F : Int) == Go.RowKit.wrap64 ((2 : Int) ^ s.toNat)) = true := by rw [hpw, hq']; simp
            have HQ := hid (show (nth T.sets k == 2 ^ s.toNat) = true by rw [← hF]; exact hq)
            have HC5 := hid (fun w2 (hm : New _ w2) => word_any _ a T k w2 (HV.out.new hm) HOK.out n2 hlt)
            clear hq hq' hF hpw
            go_wp2_with (go_at_call 103; refine (HC5.out _ hn).mono ?_; rintro e w3 ⟨r, rfl, hn3, ho⟩)
            go_ret2
            have hs := (hnn.trans hn).size
            rw [HE.out, firstWord_hit _ T k hlt HQ.out he.out]
            exact ⟨_, rfl, (hnn.trans hn).trans hn3, ho.widen hs (Nat.le_refl _)⟩
          | false =>
            have hq' : F ≠ 2 ^ s.toNat := by simpa using hq
            have hq2 : ((F : Int) == Go.RowKit.wrap64 ((2 : Int) ^ s.toNat)) = false := by
              rw [hpw]
              cases e : ((F : Int) == ((2 ^ s.toNat : Nat) : Int)) with
              | false => rfl
              | true => rw [beq_iff_eq] at e; exact absurd (by exact_mod_cast e) hq'
            have HQ := hid (show (nth T.sets k == 2 ^ s.toNat) = false by rw [← hF]; exact hq)
            clear hq hq' hF hpw
            go_wp2
            go_roundw
            case rel => exact ⟨k + 1, by omega, by go_num, fun i hi => by
                rcases Nat.lt_succ_iff_lt_or_eq.1 hi with h | h
                · exact he.out i h
                · subst h; exact HQ.out, hn⟩
            case measure => simp [intOf]; omega
        · have e : k = T.sets.length := by omega
          have HF := hid (firstWord_none (fun f => f == 2 ^ s.toNat) T (fun j hj => he.out j (by omega)))
          subst e
          go_wp2
          go_ret2
          rw [HE.out, HF.out]
          have hs := (hnn.trans hn).size
          exact ⟨_, rfl, (by repeat (first | with_reducible exact New.refl _ | with_reducible assumption | with_reducible refine New.alloc ?_ _ | with_reducible refine New.drewN ?_ _ | with_reducible refine New.drew ?_ | with_reducible refine New.trans ?_ (by with_reducible assumption))), OwnInts.none' _ (by (try simp only [size_alloc, size_drew, size_drewN, size_setCell]) <;> omega) (by (try simp only [size_alloc, size_drew, size_drewN, size_setCell]) <;> omega)⟩

end Go.Proofs.Ytaaaeekdfmfooaa
