/- The program's shortest words for a set and words to a set. -/
import Derived.Test.YtoioebhalpcipaaRows
import Derived.Test.YtoioebhalpcipaaBase
import Derived.Test.YtoioebhalpcipaaAut
import Derived.Test.YtoioebhalpcipaaApp
import Derived.Test.YtoioebhalpcipaaAppRows
import Derived.Test.YtoioebhalpcipaaInfo
import Derived.Test.YtoioebhalpcipaaPlain1
import Derived.Test.YtoioebhalpcipaaPlainRun
import Derived.Test.YtoioebhalpcipaaPlainSet
import Derived.Test.YtoioebhalpcipaaPlainBits
import Derived.Test.YtoioebhalpcipaaPlainTour
import Derived.Test.YtoioebhalpcipaaPlainFirst
import Derived.Test.YtoioebhalpcipaaPlainRen
import Derived.Test.YtoioebhalpcipaaMapV
import Derived.Test.YtoioebhalpcipaaTourV
import Derived.Test.YtoioebhalpcipaaI01a
import Derived.Test.YtoioebhalpcipaaI01b
import Derived.Test.YtoioebhalpcipaaI01c
import Derived.Test.YtoioebhalpcipaaIIdx
import Derived.Test.YtoioebhalpcipaaIFlk
import Derived.Test.YtoioebhalpcipaaITour
import Derived.Test.YtoioebhalpcipaaIRen
import Derived.Test.YtoioebhalpcipaaIFirst
import Derived.WalkKit
import Derived.WalkSpells
import Derived.WalkLawsBesides
import Derived.Deep.QuietTactic
import Derived.Deep.OwnRows
import Derived.BigQuiet
import Derived.KernelRfl
import Derived.Carry
import Derived.Deep.RegionHeld3
namespace Go.Proofs.Ytoioebhalpcipaa
open Go.RowKit

set_option maxHeartbeats 400000 in
theorem ShortestFor1_any (b1 b2 : Nat) (v2 : Value) (n : Int) (set : List Int) (w : World) (h0 : w.cell? ⟨b1, 0, none⟩ = some (.int .i64 n))
    (h2 : w.cell? ⟨b2, 0, none⟩ = some v2) (hv : IntsAt w v2 set) (n0 : 0 ≤ n) (n1 : n ≤ 1048576) :
    Calls Try.prog 80 #[.pointer (some ⟨b2, 0, none⟩), .pointer (some ⟨b1, 0, none⟩)] w fun e w' => e = .returned (.bool (setB set n)) ∧ New w w' := by
  go_enter Try.func80, Try.ntmps80
  go_wp2_with (go_at_call 81; refine (isSet_any _ set n _ hv n0 n1).mono ?_; rintro e w2 ⟨rfl, rfl⟩)
  go_ret
  exact ⟨rfl, (by repeat (first | with_reducible exact New.refl _ | with_reducible assumption | with_reducible refine New.alloc ?_ _ | with_reducible refine New.drewN ?_ _ | with_reducible refine New.drew ?_ | with_reducible refine New.trans ?_ (by with_reducible assumption)))⟩
set_option maxRecDepth 20000 in
set_option maxHeartbeats 400000 in
theorem implShortestFor_any (v1 v2 : Value) (a : Aut) (set : List Int) (w : World) (h1 : AutAt w v1 a) (h2 : IntsAt w v2 set) :
    Calls Try.prog 19 #[v1, v2] w fun e w' => ∃ r, e = .returned (.tuple #[r, .int .i64 (ShortestFor a set).2]) ∧ New w w' ∧ OwnInts w.heap.size w'.heap.size w' r (ShortestFor a set).1 := by
  obtain ⟨rv, rfl, hr⟩ := h1
  obtain ⟨A, c, rfl⟩ := hr.form
  obtain ⟨A2, c2, rfl⟩ := h2.form
  have h1 : AutAt w (.agg #[.int .i64 a.n, .slice A a.nx.length c]) a := ⟨_, rfl, hr⟩
  obtain ⟨wb, hwb⟩ : ∃ wb, wb = (w.alloc (.cells #[.int .i64 a.n, .slice A a.nx.length c] 29)).alloc (.cells #[.slice A2 set.length c2] 25) := ⟨_, rfl⟩
  have hnb : New w wb := by rw [hwb]; exact (by repeat (first | with_reducible exact New.refl _ | with_reducible assumption | with_reducible refine New.alloc ?_ _ | with_reducible refine New.drew ?_ | with_reducible refine New.drewN ?_ _ | with_reducible refine New.setCell ?_ (by simp <;> omega) _))
  have hzb : wb.heap.size = w.heap.size + 2 := by rw [hwb]; simp only [size_alloc]
  have hb0 : wb.cell? ⟨w.heap.size, 0, none⟩ = some (.int .i64 a.n) := by rw [hwb]; go_simp
  have hb1 : wb.cell? ⟨w.heap.size, 1, none⟩ = some (.slice A a.nx.length c) := by rw [hwb]; go_simp
  have hb2 : wb.cell? ⟨w.heap.size + 1, 0, none⟩ = some (.slice A2 set.length c2) := by rw [hwb]; go_simp
  have HC : Calls Try.prog 79 #[.agg #[.int .i64 a.n, .slice A a.nx.length c], .func (.func 80) #[] #[.pointer (some ⟨w.heap.size + 1, 0, none⟩), .pointer (some ⟨w.heap.size, 0, none⟩)]] wb
      fun e w' => e = .returned (.int .i64 (codeOf (autOk a) (setB set a.n))) ∧ New wb w' := by
    refine code_any _ a _ _ _ _ (h1.new hnb) (enters Try.func80 (by decide) (by simp [Try.f80])) fun ha w' hw => ?_
    have han := autOk_n ha
    exact ShortestFor1_any _ _ _ _ set _ (hw.cell hb0) (hw.cell hb2) (h2.new (hnb.trans hw)) (by omega) (by omega)
  obtain ⟨R, hR⟩ : ∃ R, R = ShortestFor a set := ⟨_, rfl⟩
  rw [← hR]
  unfold ShortestFor at hR
  have HR := hid hR
  clear hR
  cases ha : autOk a with
  | false =>
    rw [ha] at HC
    have e : codeOf false (setB set a.n) = 1 := rfl
    rw [e] at HC
    go_enter Try.func19, Try.ntmps19
    go_wp2_with fail
    rw [← hwb]
    refine HC.mono ?_
    rintro e w1 ⟨rfl, hn1⟩
    go_wp2
    go_ret2
    have e : R = ([], 1) := by rw [HR.out, ha]; rfl
    rw [e]
    exact ⟨_, rfl, (by repeat (first | with_reducible exact New.refl _ | with_reducible assumption | with_reducible refine New.alloc ?_ _ | with_reducible refine New.drewN ?_ _ | with_reducible refine New.drew ?_ | with_reducible refine New.trans ?_ (by with_reducible assumption))), OwnInts.nil _ _ _⟩
  | true =>
    rw [ha] at HC
    have han := autOk_n ha
    have HA := hid ha
    cases hs : setB set a.n with
    | false =>
      rw [hs] at HC
      have e : codeOf true false = 2 := rfl
      rw [e] at HC
      go_enter Try.func19, Try.ntmps19
      go_wp2_with fail
      rw [← hwb]
      refine HC.mono ?_
      rintro e w1 ⟨rfl, hn1⟩
      go_wp2
      go_ret2
      have e : R = ([], 2) := by rw [HR.out, HA.out, hs]; rfl
      rw [e]
      exact ⟨_, rfl, (by repeat (first | with_reducible exact New.refl _ | with_reducible assumption | with_reducible refine New.alloc ?_ _ | with_reducible refine New.drewN ?_ _ | with_reducible refine New.drew ?_ | with_reducible refine New.trans ?_ (by with_reducible assumption))), OwnInts.nil _ _ _⟩
    | true =>
      rw [hs] at HC
      have e : codeOf true true = 0 := rfl
      rw [e] at HC
      have hfl : orB set < 2 ^ a.n.toNat := orB_lt _ _ fun x hx => by
        obtain ⟨i, hi, rfl⟩ := mem_nth _ x hx
        have := setB_in hs i hi; omega
      have hs10 : ∀ i, i < set.length → 0 ≤ nth set i ∧ nth set i < 10 := fun i hi => by have := setB_in hs i hi; omega
      have HB := hid (fun w1 (hm : New w w1) => flockOf_any _ set w1 (h2.new hm) hs10)
      have HC3 := hid (fun w1 (hm : New w w1) => tourAt_any _ a (orB set) w1 (h1.new hm) HA.out hfl)
      have HOK := hid (tourOk HA.out (orB set) hfl)
      have HC4 := hid (fun B v w1 (hT : TourAt B w1 v (tourOf a.nx (orB set))) => first_any v a _ B 85 #[] smallB w1 hT HOK.out han.2 (enters Try.func85 (by decide) (by simp [Try.f85]))
        (fun w' _ F hF => (isSmall_any F w' (lt_10 hF (by omega))).mono fun e w'' ⟨h1, h2⟩ => ⟨h1, New.of_eq h2⟩))
      have e : R = told (firstWord smallB (tourOf a.nx (orB set))) := by rw [HR.out, if_pos HA.out, if_pos hs]
      rw [← e] at HC4
      clear e hs han hfl hs10
      go_enter Try.func19, Try.ntmps19
      go_wp2_with fail
      rw [← hwb]
      refine HC.mono ?_
      rintro e w1 ⟨rfl, hn1⟩
      replace hb0 := hn1.cell hb0
      replace hb1 := hn1.cell hb1
      replace hb2 := hn1.cell hb2
      have hs1 := hn1.size
      go_wp2_with fail
      go_region_held3 (fun w' => w'.cell? ⟨w.heap.size, 0, none⟩ = some (.int .i64 a.n) ∧ w'.cell? ⟨w.heap.size, 1, none⟩ = some (.slice A a.nx.length c) ∧ w'.cell? ⟨w.heap.size + 1, 0, none⟩ = some (.slice A2 set.length c2))
        (first | go_keep | exact ⟨hq3.cell hb0, hq3.cell hb1, hq3.cell hb2⟩ | exact ⟨hq4.cell hb0, hq4.cell hb1, hq4.cell hb2⟩)
        (first
          | (go_at_call 83; refine (HB.out _ ((hnb.trans hn1).trans (New.refl _).drew)).mono ?_; rintro e w' ⟨rfl, rfl⟩)
          | (go_at_call 82; refine (HC3.out _ ((hnb.trans hn1).trans (New.refl _).drew)).mono ?_; rintro e w3 ⟨lv, mb, rfl, hr3, hT⟩; have hq3 : New w1 w3 := New.trans (New.refl _).drew hr3; have hz3 := hr3.size)
          | (go_at_call 84; refine (HC4.out _ _ _ hT).mono ?_; rintro e w4 ⟨r, rfl, hr4, ho⟩; have hq4 : New w1 w4 := hq3.trans hr4; have hz4 := hr4.size))
      all_goals go_wp2
      all_goals go_ret2
      all_goals exact ⟨_, rfl, (hnb.trans hn1).trans hq4, ho.widen (by simp only [size_drew] at *; omega) (Nat.le_refl _)⟩
set_option maxHeartbeats 400000 in
theorem SetWord1_any (b1 b2 : Nat) (v2 : Value) (n : Int) (set : List Int) (w : World) (h0 : w.cell? ⟨b1, 0, none⟩ = some (.int .i64 n))
    (h2 : w.cell? ⟨b2, 0, none⟩ = some v2) (hv : IntsAt w v2 set) (n0 : 0 ≤ n) (n1 : n ≤ 1048576) :
    Calls Try.prog 96 #[.pointer (some ⟨b2, 0, none⟩), .pointer (some ⟨b1, 0, none⟩)] w fun e w' => e = .returned (.bool (setB set n)) ∧ New w w' := by
  go_enter Try.func96, Try.ntmps96
  go_wp2_with (go_at_call 81; refine (isSet_any _ set n _ hv n0 n1).mono ?_; rintro e w2 ⟨rfl, rfl⟩)
  go_ret
  exact ⟨rfl, (by repeat (first | with_reducible exact New.refl _ | with_reducible assumption | with_reducible refine New.alloc ?_ _ | with_reducible refine New.drewN ?_ _ | with_reducible refine New.drew ?_ | with_reducible refine New.trans ?_ (by with_reducible assumption)))⟩
set_option maxHeartbeats 400000 in
theorem SetWord2_any (b2 F : Nat) (v2 : Value) (set : List Int) (w : World) (h2 : w.cell? ⟨b2, 0, none⟩ = some v2) (hv : IntsAt w v2 set) (hs10 : ∀ i, i < set.length → 0 ≤ nth set i ∧ nth set i < 10) :
    Calls Try.prog 98 #[.int .u64 (F : Nat), .pointer (some ⟨b2, 0, none⟩)] w fun e w' => e = .returned (.bool (F == orB set)) ∧ New w w' := by
  have C := hid (flockOf_any v2 set w hv hs10)
  obtain ⟨G, hG⟩ : ∃ G, G = orB set := ⟨_, rfl⟩
  rw [← hG] at C ⊢
  clear hG
  go_enter Try.func98, Try.ntmps98
  go_wp2_with (go_at_call 83; refine C.out.mono ?_; rintro e w' ⟨rfl, rfl⟩)
  go_ret
  refine ⟨ret_bool ?_, New.refl _⟩
  rw [Bool.eq_iff_iff, beq_iff_eq, beq_iff_eq]
  exact ⟨fun h => by exact_mod_cast h, fun h => by rw [h]⟩
set_option maxRecDepth 20000 in
set_option maxHeartbeats 400000 in
theorem implSetWord_any (v1 v2 : Value) (a : Aut) (set : List Int) (w : World) (h1 : AutAt w v1 a) (h2 : IntsAt w v2 set) :
    Calls Try.prog 33 #[v1, v2] w fun e w' => ∃ r, e = .returned (.tuple #[r, .int .i64 (SetWord a set).2]) ∧ New w w' ∧ OwnInts w.heap.size w'.heap.size w' r (SetWord a set).1 := by
  obtain ⟨rv, rfl, hr⟩ := h1
  obtain ⟨A, c, rfl⟩ := hr.form
  obtain ⟨A2, c2, rfl⟩ := h2.form
  have h1 : AutAt w (.agg #[.int .i64 a.n, .slice A a.nx.length c]) a := ⟨_, rfl, hr⟩
  obtain ⟨wb, hwb⟩ : ∃ wb, wb = (w.alloc (.cells #[.int .i64 a.n, .slice A a.nx.length c] 29)).alloc (.cells #[.slice A2 set.length c2] 25) := ⟨_, rfl⟩
  have hnb : New w wb := by rw [hwb]; exact (by repeat (first | with_reducible exact New.refl _ | with_reducible assumption | with_reducible refine New.alloc ?_ _ | with_reducible refine New.drew ?_ | with_reducible refine New.drewN ?_ _ | with_reducible refine New.setCell ?_ (by simp <;> omega) _))
  have hzb : wb.heap.size = w.heap.size + 2 := by rw [hwb]; simp only [size_alloc]
  have hb0 : wb.cell? ⟨w.heap.size, 0, none⟩ = some (.int .i64 a.n) := by rw [hwb]; go_simp
  have hb1 : wb.cell? ⟨w.heap.size, 1, none⟩ = some (.slice A a.nx.length c) := by rw [hwb]; go_simp
  have hb2 : wb.cell? ⟨w.heap.size + 1, 0, none⟩ = some (.slice A2 set.length c2) := by rw [hwb]; go_simp
  have HC : Calls Try.prog 79 #[.agg #[.int .i64 a.n, .slice A a.nx.length c], .func (.func 96) #[] #[.pointer (some ⟨w.heap.size + 1, 0, none⟩), .pointer (some ⟨w.heap.size, 0, none⟩)]] wb
      fun e w' => e = .returned (.int .i64 (codeOf (autOk a) (setB set a.n))) ∧ New wb w' := by
    refine code_any _ a _ _ _ _ (h1.new hnb) (enters Try.func96 (by decide) (by simp [Try.f96])) fun ha w' hw => ?_
    have han := autOk_n ha
    exact SetWord1_any _ _ _ _ set _ (hw.cell hb0) (hw.cell hb2) (h2.new (hnb.trans hw)) (by omega) (by omega)
  obtain ⟨R, hR⟩ : ∃ R, R = SetWord a set := ⟨_, rfl⟩
  rw [← hR]
  unfold SetWord at hR
  have HR := hid hR
  clear hR
  cases ha : autOk a with
  | false =>
    rw [ha] at HC
    have e : codeOf false (setB set a.n) = 1 := rfl
    rw [e] at HC
    go_enter Try.func33, Try.ntmps33
    go_wp2_with fail
    rw [← hwb]
    refine HC.mono ?_
    rintro e w1 ⟨rfl, hn1⟩
    go_wp2
    go_ret2
    have e : R = ([], 1) := by rw [HR.out, ha]; rfl
    rw [e]
    exact ⟨_, rfl, (by repeat (first | with_reducible exact New.refl _ | with_reducible assumption | with_reducible refine New.alloc ?_ _ | with_reducible refine New.drewN ?_ _ | with_reducible refine New.drew ?_ | with_reducible refine New.trans ?_ (by with_reducible assumption))), OwnInts.nil _ _ _⟩
  | true =>
    rw [ha] at HC
    have han := autOk_n ha
    have HA := hid ha
    cases hs : setB set a.n with
    | false =>
      rw [hs] at HC
      have e : codeOf true false = 2 := rfl
      rw [e] at HC
      go_enter Try.func33, Try.ntmps33
      go_wp2_with fail
      rw [← hwb]
      refine HC.mono ?_
      rintro e w1 ⟨rfl, hn1⟩
      go_wp2
      go_ret2
      have e : R = ([], 2) := by rw [HR.out, HA.out, hs]; rfl
      rw [e]
      exact ⟨_, rfl, (by repeat (first | with_reducible exact New.refl _ | with_reducible assumption | with_reducible refine New.alloc ?_ _ | with_reducible refine New.drewN ?_ _ | with_reducible refine New.drew ?_ | with_reducible refine New.trans ?_ (by with_reducible assumption))), OwnInts.nil _ _ _⟩
    | true =>
      rw [hs] at HC
      have e : codeOf true true = 0 := rfl
      rw [e] at HC
      have hfl : orB set < 2 ^ a.n.toNat := orB_lt _ _ fun x hx => by
        obtain ⟨i, hi, rfl⟩ := mem_nth _ x hx
        have := setB_in hs i hi; omega
      have hs10 : ∀ i, i < set.length → 0 ≤ nth set i ∧ nth set i < 10 := fun i hi => by have := setB_in hs i hi; omega
      have HB := hid (fun w1 (hm : New w w1) => flockOf_any _ set w1 (h2.new hm) hs10)
      have HOK := hid (tourOk HA.out (full a.n) (full_lt a.n))
      have HC1 := hid (fun w1 (hm : New w w1) => all_any _ a w1 (h1.new hm) HA.out)
      have HC2 := hid (fun v w1 (h : IntsAt w1 v (iota 0 a.n.toNat)) => flockOf_any v _ w1 h (sIota a HA.out))
      rw [full_iota a.n (by omega)] at HC2
      have HC3 := hid (fun w1 (hm : New w w1) => tourAt_any _ a (full a.n) w1 (h1.new hm) HA.out (full_lt a.n))
      have HC4 := hid (fun B v w1 (hm : New wb w1) (hT : TourAt B w1 v (tourOf a.nx (full a.n))) => first_any v a _ B 98 #[.pointer (some ⟨w.heap.size + 1, 0, none⟩)] (fun F => F == orB set) w1 hT HOK.out han.2 (enters Try.func98 (by decide) (by simp [Try.f98]))
        (fun w' hw F hF => SetWord2_any _ F _ set w' ((hm.trans hw).cell hb2) (h2.new (hnb.trans (hm.trans hw))) hs10))
      have e : R = told (firstWord (fun f => f == orB set) (tourOf a.nx (full a.n))) := by rw [HR.out, if_pos HA.out, if_pos hs]
      rw [← e] at HC4
      clear e hs han HB hfl hs10
      go_enter Try.func33, Try.ntmps33
      go_wp2_with fail
      rw [← hwb]
      refine HC.mono ?_
      rintro e w1 ⟨rfl, hn1⟩
      replace hb0 := hn1.cell hb0
      replace hb1 := hn1.cell hb1
      have hs1 := hn1.size
      go_wp2_with fail
      go_region_held3 (fun w' => w'.cell? ⟨w.heap.size, 0, none⟩ = some (.int .i64 a.n) ∧ w'.cell? ⟨w.heap.size, 1, none⟩ = some (.slice A a.nx.length c))
        (first | go_keep | exact ⟨hq2.cell hb0, hq2.cell hb1⟩ | exact ⟨hq3.cell hb0, hq3.cell hb1⟩ | exact ⟨hq4.cell hb0, hq4.cell hb1⟩)
        (first
          | (go_at_call 97; refine (HC1.out _ ((hnb.trans hn1).trans (New.refl _).drew)).mono ?_; rintro e w2 ⟨r2, he, hr2, ho2⟩; obtain ⟨A2, c2, rfl⟩ := ho2.form; subst he; have hq2 : New w1 w2 := New.trans (New.refl _).drew hr2; have hz2 := hr2.size)
          | (go_at_call 83; refine (HC2.out _ _ ho2.at).mono ?_; rintro e w' ⟨rfl, rfl⟩)
          | (go_at_call 82; refine (HC3.out _ ((hnb.trans hn1).trans hq2)).mono ?_; rintro e w3 ⟨lv, mb, rfl, hr3, hT⟩; have hq3 : New w1 w3 := hq2.trans hr3; have hz3 := hr3.size)
          | (go_at_call 84; refine (HC4.out _ _ _ (hn1.trans hq3) hT).mono ?_; rintro e w4 ⟨r, rfl, hr4, ho⟩; have hq4 : New w1 w4 := hq3.trans hr4; have hz4 := hr4.size))
      all_goals go_wp2
      all_goals go_ret2
      all_goals exact ⟨_, rfl, (hnb.trans hn1).trans hq4, ho.widen (by simp only [size_drew] at *; omega) (Nat.le_refl _)⟩

end Go.Proofs.Ytoioebhalpcipaa
