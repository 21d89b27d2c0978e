/- The reference's shortest words for a set and words to a set. -/
import Derived.Test.YtoioebhalpcipaaRows
import Derived.Test.YtoioebhalpcipaaBase
import Derived.Test.YtoioebhalpcipaaAut
import Derived.Test.YtoioebhalpcipaaApp
import Derived.Test.YtoioebhalpcipaaAppRows
import Derived.Test.YtoioebhalpcipaaInfo
import Derived.Test.YtoioebhalpcipaaPlain1
import Derived.Test.YtoioebhalpcipaaPlainRun
import Derived.Test.YtoioebhalpcipaaPlainSet
import Derived.Test.YtoioebhalpcipaaPlainBits
import Derived.Test.YtoioebhalpcipaaPlainTour
import Derived.Test.YtoioebhalpcipaaMapV
import Derived.Test.YtoioebhalpcipaaTourV
import Derived.Test.YtoioebhalpcipaaWalkV
import Derived.Test.YtoioebhalpcipaaPlainFirst
import Derived.Test.YtoioebhalpcipaaS00b
import Derived.Test.YtoioebhalpcipaaS01a
import Derived.Test.YtoioebhalpcipaaSFlk
import Derived.Test.YtoioebhalpcipaaSWalk
import Derived.Test.YtoioebhalpcipaaSLeast
import Derived.Test.YtoioebhalpcipaaSFirst
import Derived.WalkKit
import Derived.WalkSpells
import Derived.WalkLawsBesides
import Derived.Deep.QuietTactic
import Derived.Deep.OwnRows
import Derived.BigQuiet
import Derived.KernelRfl
namespace Go.Proofs.Ytoioebhalpcipaa
open Go.RowKit

theorem orB_set {set : List Int} {n : Int} (h : setB set n = true) : orB set < 2 ^ n.toNat := orB_lt _ _ fun x hx => by
  obtain ⟨i, hi, rfl⟩ := mem_nth _ x hx
  have := setB_in h i hi; omega
set_option maxRecDepth 20000 in
set_option maxHeartbeats 400000 in
theorem specShortestFor_any (v1 v2 : Value) (a : Aut) (set : List Int) (w : World) (h1 : AutAt w v1 a) (h2 : IntsAt w v2 set) :
    Calls Try.prog 16 #[v1, v2] w fun e w' => ∃ r, e = .returned (.tuple #[r, .int .i64 (ShortestFor a set).2]) ∧ New w w' ∧ OwnInts w.heap.size w'.heap.size w' r (ShortestFor a set).1 := by
  obtain ⟨rv, rfl, hr⟩ := h1
  obtain ⟨A, c, rfl⟩ := hr.form
  obtain ⟨wb, hwb⟩ : ∃ wb, wb = w.alloc (.cells #[.int .i64 a.n, .slice A a.nx.length c] 29) := ⟨_, rfl⟩
  have hp : PAut wb (.pointer (some ⟨w.heap.size, 0, none⟩)) a := by rw [hwb]; exact PAut.box hr _
  have hnb : New w wb := by rw [hwb]; exact (by repeat (first | with_reducible exact New.refl _ | with_reducible assumption | with_reducible refine New.alloc ?_ _ | with_reducible refine New.drew ?_ | with_reducible refine New.drewN ?_ _ | with_reducible refine New.setCell ?_ (by simp <;> omega) _))
  have hzb : wb.heap.size = w.heap.size + 1 := by rw [hwb]; simp only [size_alloc]
  obtain ⟨R, hR⟩ : ∃ R, R = ShortestFor a set := ⟨_, rfl⟩
  rw [← hR]
  unfold ShortestFor at hR
  have HR := hid hR
  have C1 := l01Ok_any _ a _ hp
  clear hR
  cases ha : autOk a with
  | false =>
    rw [ha] at C1
    go_enter Try.func16, Try.ntmps16
    go_wp2_with fail
    rw [← hwb]
    refine C1.mono ?_
    rintro e w1 ⟨rfl, hn1⟩
    have hz1 := hn1.size
    go_wp2
    go_ret2
    have e : R = ([], 1) := by rw [HR.out, ha]; rfl
    rw [e]
    exact ⟨_, rfl, (by repeat (first | with_reducible exact New.refl _ | with_reducible assumption | with_reducible refine New.alloc ?_ _ | with_reducible refine New.drewN ?_ _ | with_reducible refine New.drew ?_ | with_reducible refine New.trans ?_ (by with_reducible assumption))), OwnInts.none' _ (by (try simp only [size_alloc, size_drew, size_drewN, size_setCell] at *) <;> omega) (by (try simp only [size_alloc, size_drew, size_drewN, size_setCell] at *) <;> omega)⟩
  | true =>
    rw [ha] at C1
    have han := autOk_n ha
    obtain ⟨n1, n2⟩ := han
    have HA := hid ha
    clear ha
    have C2 := fun w1 (hm : New wb w1) => l01Set_any _ v2 a set w1 (hp.new hm) (h2.new (hnb.trans hm)) (by omega) (by omega)
    cases hs : setB set a.n with
    | false =>
      rw [hs] at C2
      go_enter Try.func16, Try.ntmps16
      go_wp2_with fail
      rw [← hwb]
      refine C1.mono ?_
      rintro e w1 ⟨rfl, hn1⟩
      have hz1 := hn1.size
      go_wp2_with fail
      refine (C2 _ hn1).mono ?_
      rintro e w2 ⟨rfl, hn2⟩
      have hz2 := hn2.size
      go_wp2
      go_ret2
      have e : R = ([], 2) := by rw [HR.out, HA.out, hs]; rfl
      rw [e]
      exact ⟨_, rfl, (by repeat (first | with_reducible exact New.refl _ | with_reducible assumption | with_reducible refine New.alloc ?_ _ | with_reducible refine New.drewN ?_ _ | with_reducible refine New.drew ?_ | with_reducible refine New.trans ?_ (by with_reducible assumption))), OwnInts.none' _ (by (try simp only [size_alloc, size_drew, size_drewN, size_setCell] at *) <;> omega) (by (try simp only [size_alloc, size_drew, size_drewN, size_setCell] at *) <;> omega)⟩
    | true =>
      rw [hs] at C2
      have hfl := orB_set hs
      have HB := hid (fun w1 (hm : New w w1) => l02Bits_any v2 set w1 (h2.new hm) (fun i hi => by have := setB_in hs i hi; omega))
      have HC4 := hid (fun w1 (hm : New wb w1) => l02Shrink_any _ a (orB set) w1 (hp.new hm) HA.out hfl)
      obtain ⟨P, hP⟩ : ∃ P, P = firstWord smallB (tourOf a.nx (orB set)) := ⟨_, rfl⟩
      rw [← hP] at HC4
      have HE := hid (show R = told P by rw [HR.out, if_pos HA.out, if_pos hs, hP])
      clear hP hfl hs
      go_enter Try.func16, Try.ntmps16
      go_wp2_with fail
      rw [← hwb]
      refine C1.mono ?_
      rintro e w1 ⟨rfl, hn1⟩
      have hz1 := hn1.size
      go_wp2_with fail
      refine (C2 _ hn1).mono ?_
      rintro e w2 ⟨rfl, hn2⟩
      have hz2 := hn2.size
      go_wp2_with fail
      refine (HB.out _ (by repeat (first | with_reducible exact New.refl _ | with_reducible assumption | with_reducible refine New.alloc ?_ _ | with_reducible refine New.drewN ?_ _ | with_reducible refine New.drew ?_ | with_reducible refine New.trans ?_ (by with_reducible assumption)))).mono ?_
      rintro e w' ⟨rfl, rfl⟩
      go_wp2_with fail
      refine (HC4.out _ (by repeat (first | with_reducible exact New.refl _ | with_reducible assumption | with_reducible refine New.alloc ?_ _ | with_reducible refine New.drewN ?_ _ | with_reducible refine New.drew ?_ | with_reducible refine New.trans ?_ (by with_reducible assumption)))).mono ?_
      rintro e w3 ⟨r, rfl, hn3, ho⟩
      have hz3 := hn3.size
      go_wp2_with fail
      refine (l02Told_any _ P _ _ _ ho (Nat.le_refl _)).mono ?_
      rintro e w4 ⟨r4, rfl, hn4, ho4⟩
      have hz4 := hn4.size
      go_wp2
      go_ret2
      rw [HE.out]
      exact ⟨_, rfl, (by repeat (first | with_reducible exact New.refl _ | with_reducible assumption | with_reducible refine New.alloc ?_ _ | with_reducible refine New.drewN ?_ _ | with_reducible refine New.drew ?_ | with_reducible refine New.trans ?_ (by with_reducible assumption))), ho4.widen (by omega) (Nat.le_refl _)⟩
set_option maxRecDepth 20000 in
set_option maxHeartbeats 400000 in
theorem specSetWord_any (v1 v2 : Value) (a : Aut) (set : List Int) (w : World) (h1 : AutAt w v1 a) (h2 : IntsAt w v2 set) :
    Calls Try.prog 32 #[v1, v2] w fun e w' => ∃ r, e = .returned (.tuple #[r, .int .i64 (SetWord a set).2]) ∧ New w w' ∧ OwnInts w.heap.size w'.heap.size w' r (SetWord a set).1 := by
  obtain ⟨rv, rfl, hr⟩ := h1
  obtain ⟨A, c, rfl⟩ := hr.form
  obtain ⟨wb, hwb⟩ : ∃ wb, wb = w.alloc (.cells #[.int .i64 a.n, .slice A a.nx.length c] 29) := ⟨_, rfl⟩
  have hp : PAut wb (.pointer (some ⟨w.heap.size, 0, none⟩)) a := by rw [hwb]; exact PAut.box hr _
  have hnb : New w wb := by rw [hwb]; exact (by repeat (first | with_reducible exact New.refl _ | with_reducible assumption | with_reducible refine New.alloc ?_ _ | with_reducible refine New.drew ?_ | with_reducible refine New.drewN ?_ _ | with_reducible refine New.setCell ?_ (by simp <;> omega) _))
  have hzb : wb.heap.size = w.heap.size + 1 := by rw [hwb]; simp only [size_alloc]
  obtain ⟨R, hR⟩ : ∃ R, R = SetWord a set := ⟨_, rfl⟩
  rw [← hR]
  unfold SetWord at hR
  have HR := hid hR
  have C1 := l01Ok_any _ a _ hp
  clear hR
  cases ha : autOk a with
  | false =>
    rw [ha] at C1
    go_enter Try.func32, Try.ntmps32
    go_wp2_with fail
    rw [← hwb]
    refine C1.mono ?_
    rintro e w1 ⟨rfl, hn1⟩
    have hz1 := hn1.size
    go_wp2
    go_ret2
    have e : R = ([], 1) := by rw [HR.out, ha]; rfl
    rw [e]
    exact ⟨_, rfl, (by repeat (first | with_reducible exact New.refl _ | with_reducible assumption | with_reducible refine New.alloc ?_ _ | with_reducible refine New.drewN ?_ _ | with_reducible refine New.drew ?_ | with_reducible refine New.trans ?_ (by with_reducible assumption))), OwnInts.none' _ (by (try simp only [size_alloc, size_drew, size_drewN, size_setCell] at *) <;> omega) (by (try simp only [size_alloc, size_drew, size_drewN, size_setCell] at *) <;> omega)⟩
  | true =>
    rw [ha] at C1
    have han := autOk_n ha
    obtain ⟨n1, n2⟩ := han
    have HA := hid ha
    clear ha
    have C2 := fun w1 (hm : New wb w1) => l01Set_any _ v2 a set w1 (hp.new hm) (h2.new (hnb.trans hm)) (by omega) (by omega)
    cases hs : setB set a.n with
    | false =>
      rw [hs] at C2
      go_enter Try.func32, Try.ntmps32
      go_wp2_with fail
      rw [← hwb]
      refine C1.mono ?_
      rintro e w1 ⟨rfl, hn1⟩
      have hz1 := hn1.size
      go_wp2_with fail
      refine (C2 _ hn1).mono ?_
      rintro e w2 ⟨rfl, hn2⟩
      have hz2 := hn2.size
      go_wp2
      go_ret2
      have e : R = ([], 2) := by rw [HR.out, HA.out, hs]; rfl
      rw [e]
      exact ⟨_, rfl, (by repeat (first | with_reducible exact New.refl _ | with_reducible assumption | with_reducible refine New.alloc ?_ _ | with_reducible refine New.drewN ?_ _ | with_reducible refine New.drew ?_ | with_reducible refine New.trans ?_ (by with_reducible assumption))), OwnInts.none' _ (by (try simp only [size_alloc, size_drew, size_drewN, size_setCell] at *) <;> omega) (by (try simp only [size_alloc, size_drew, size_drewN, size_setCell] at *) <;> omega)⟩
    | true =>
      rw [hs] at C2
      have hfl := orB_set hs
      have HB := hid (fun w1 (hm : New w w1) => l02Bits_any v2 set w1 (h2.new hm) (fun i hi => by have := setB_in hs i hi; omega))
      have HE := hid (show R = told (firstWord (fun f => f == orB set) (tourOf a.nx (full a.n))) by rw [HR.out, if_pos HA.out, if_pos hs])
      have hok := tourOk HA.out (full a.n) (full_lt a.n)
      have hlen := hok.len n2
      have HOK := hid hok
      have HC3 := hid (fun w1 (hm : New wb w1) => l02Full_any _ a w1 (hp.new hm) (by omega) n2)
      have HC4 := hid (fun w1 (hm : New wb w1) => l02From_any _ a (full a.n) w1 (hp.new hm) HA.out (full_lt a.n))
      obtain ⟨T, hT⟩ : ∃ T, T = tourOf a.nx (full a.n) := ⟨_, rfl⟩
      rw [← hT] at hlen HOK HC4 HE
      obtain ⟨G, hG⟩ : ∃ G, G = orB set := ⟨_, rfl⟩
      rw [← hG] at HB HE
      clear hT hok hs hfl hG
      go_enter Try.func32, Try.ntmps32
      go_wp2_with fail
      rw [← hwb]
      refine C1.mono ?_
      rintro e w1 ⟨rfl, hn1⟩
      have hz1 := hn1.size
      go_wp2_with fail
      refine (C2 _ hn1).mono ?_
      rintro e w2 ⟨rfl, hn2⟩
      have hz2 := hn2.size
      go_wp2_with fail
      refine (HC3.out _ (by repeat (first | with_reducible exact New.refl _ | with_reducible assumption | with_reducible refine New.alloc ?_ _ | with_reducible refine New.drewN ?_ _ | with_reducible refine New.drew ?_ | with_reducible refine New.trans ?_ (by with_reducible assumption)))).mono ?_
      rintro e w' ⟨rfl, rfl⟩
      go_wp2_with fail
      refine (HC4.out _ (by repeat (first | with_reducible exact New.refl _ | with_reducible assumption | with_reducible refine New.alloc ?_ _ | with_reducible refine New.drewN ?_ _ | with_reducible refine New.drew ?_ | with_reducible refine New.trans ?_ (by with_reducible assumption)))).mono ?_
      rintro e w3 ⟨v, he, hn3, hv⟩
      obtain ⟨b, q1, q2, q3, rfl, h0, h1, h3, h4, h5, h6⟩ := id hv
      obtain ⟨A5, c5, rfl, _, hc⟩ := h4
      subst he
      have HCX := hid hc
      have HV := hid hv
      have hnn : New w w3 := (by repeat (first | with_reducible exact New.refl _ | with_reducible assumption | with_reducible refine New.alloc ?_ _ | with_reducible refine New.drewN ?_ _ | with_reducible refine New.drew ?_ | with_reducible refine New.trans ?_ (by with_reducible assumption)))
      clear hc h1 h3 h5 h6 hv
      go_wp2
      go_loopw [7] (fun i wr => ∃ k : Nat, k ≤ T.sets.length ∧ i = .int .i64 k ∧ Hid (∀ j, j < k → (nth T.sets j == G) = false) ∧ New w3 wr) (fun i _ => T.sets.length - (intOf i).toNat)
      case atStart => exact ⟨0, Nat.zero_le _, rfl, fun j hj => absurd hj (by omega), New.refl _⟩
      case round =>
        obtain ⟨k, hk, rfl, he, hn⟩ := hrel
        replace h0 := hn.cell h0
        have hnw := hnn.trans hn
        by_cases hlt : k < T.sets.length
        · obtain ⟨b', off', rfl, hx⟩ := HCX.out k hlt
          have b1 : (k : Int) < (T.sets.length : Int) := by omega
          replace hx := hn.cell hx
          obtain ⟨F, hF⟩ : ∃ F, F = nth T.sets k := ⟨_, rfl⟩
          rw [← hF] at hx
          cases hq : (F == G) with
          | true =>
            have hq' : F = G := by simpa using hq
            have hq2 : ((F : Int) == (G : Int)) = true := by rw [hq']; simp
            have HQ := hid (show (nth T.sets k == G) = true by rw [← hF]; exact hq)
            have HC5 := hid (fun w2 (hm : New _ w2) => word_any _ a T k w2 (HV.out.new hm) HOK.out n2 hlt)
            clear hq hq' hF
            go_wp2_with fail
            go_quiet ((go_at_call 77; exact Calls.quiet_of_same (HB.out _ (hnw.drewN _))))
            go_wp2_with (go_at_call 95; refine (HC5.out _ (hn.drewN nq)).mono ?_; rintro e w4 ⟨r, rfl, hn4, ho⟩)
            go_ret2
            have hs := (hnw.drewN nq).size
            rw [HE.out, firstWord_hit _ T k hlt HQ.out he.out]
            exact ⟨_, rfl, (hnw.drewN nq).trans hn4, ho.widen hs (Nat.le_refl _)⟩
          | false =>
            have hq' : F ≠ G := by simpa using hq
            have hq2 : ((F : Int) == (G : Int)) = false := by
              cases e : ((F : Int) == (G : Int)) with
              | false => rfl
              | true => rw [beq_iff_eq] at e; exact absurd (by exact_mod_cast e) hq'
            have HQ := hid (show (nth T.sets k == G) = false by rw [← hF]; exact hq)
            clear hq hq' hF
            go_wp2_with fail
            go_quiet ((go_at_call 77; exact Calls.quiet_of_same (HB.out _ (hnw.drewN _))))
            go_wp2
            go_roundw
            case rel => exact ⟨k + 1, by omega, by go_num, fun i hi => by
                rcases Nat.lt_succ_iff_lt_or_eq.1 hi with h | h
                · exact he.out i h
                · subst h; exact HQ.out, hn.drewN nq⟩
            case measure => simp [intOf]; omega
        · have e : k = T.sets.length := by omega
          have HF := hid (firstWord_none (fun f => f == G) T (fun j hj => he.out j (by omega)))
          subst e
          go_wp2
          go_ret2
          rw [HE.out, HF.out]
          have hs := hnw.size
          exact ⟨_, rfl, (by repeat (first | with_reducible exact New.refl _ | with_reducible assumption | with_reducible refine New.alloc ?_ _ | with_reducible refine New.drewN ?_ _ | with_reducible refine New.drew ?_ | with_reducible refine New.trans ?_ (by with_reducible assumption))), OwnInts.none' _ (by (try simp only [size_alloc, size_drew, size_drewN, size_setCell]) <;> omega) (by (try simp only [size_alloc, size_drew, size_drewN, size_setCell]) <;> omega)⟩

end Go.Proofs.Ytoioebhalpcipaa
