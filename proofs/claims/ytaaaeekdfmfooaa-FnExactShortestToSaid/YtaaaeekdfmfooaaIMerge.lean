/- The program's merging words and shortest words to a state. -/
import Derived.Test.YtaaaeekdfmfooaaRows
import Derived.Test.YtaaaeekdfmfooaaBase
import Derived.Test.YtaaaeekdfmfooaaAut
import Derived.Test.YtaaaeekdfmfooaaApp
import Derived.Test.YtaaaeekdfmfooaaAppRows
import Derived.Test.YtaaaeekdfmfooaaInfo
import Derived.Test.YtaaaeekdfmfooaaPlain1
import Derived.Test.YtaaaeekdfmfooaaPlainRun
import Derived.Test.YtaaaeekdfmfooaaPlainSet
import Derived.Test.YtaaaeekdfmfooaaPlainBits
import Derived.Test.YtaaaeekdfmfooaaPlainTour
import Derived.Test.YtaaaeekdfmfooaaPlainFirst
import Derived.Test.YtaaaeekdfmfooaaPlainRen
import Derived.Test.YtaaaeekdfmfooaaMapV
import Derived.Test.YtaaaeekdfmfooaaTourV
import Derived.Test.YtaaaeekdfmfooaaI01a
import Derived.Test.YtaaaeekdfmfooaaI01b
import Derived.Test.YtaaaeekdfmfooaaI01c
import Derived.Test.YtaaaeekdfmfooaaIIdx
import Derived.Test.YtaaaeekdfmfooaaIFlk
import Derived.Test.YtaaaeekdfmfooaaITour
import Derived.Test.YtaaaeekdfmfooaaIRen
import Derived.Test.YtaaaeekdfmfooaaIFirst
import Derived.WalkKit
import Derived.WalkSpells
import Derived.WalkLawsBesides
import Derived.Deep.QuietTactic
import Derived.Deep.OwnRows
import Derived.BigQuiet
import Derived.KernelRfl
import Derived.Carry
import Derived.Deep.RegionHeld3
namespace Go.Proofs.Ytaaaeekdfmfooaa
open Go.RowKit

set_option maxHeartbeats 400000 in
theorem isState_any (v : Value) (a : Aut) (s : Int) (w : World) (h : AutAt w v a) (h0 : 0 ≤ a.n) (h1 : a.n ≤ 1048576) :
    Calls Try.prog 89 #[v, .int .i64 s] w fun e w' => e = .returned (.bool (inB s 0 (a.n - 1))) ∧ New w w' := by
  obtain ⟨rv, rfl, hr⟩ := h
  obtain ⟨A, c, rfl⟩ := hr.form
  go_enter Try.func89, Try.ntmps89
  go_wp2_with (go_at_call 95; refine (within_any _ _ _ _).mono ?_; rintro e w' ⟨rfl, rfl⟩)
  go_ret
  exact ⟨rfl, (by repeat (first | with_reducible exact New.refl _ | with_reducible assumption | with_reducible refine New.alloc ?_ _ | with_reducible refine New.drewN ?_ _ | with_reducible refine New.drew ?_ | with_reducible refine New.trans ?_ (by with_reducible assumption)))⟩
theorem pair_u64 (s t : Nat) (hs : s < 10) (ht : t < 10) : bits .or .u64 (IntKind.u64.wrap ((2 : Int) ^ s)) (IntKind.u64.wrap ((2 : Int) ^ t)) = ((2 ^ s ||| 2 ^ t : Nat) : Int) := by
  have := pow10 s hs
  rw [show IntKind.u64.wrap ((2 : Int) ^ s) = ((2 ^ s : Nat) : Int) by rw [cast_pow, wrap_u64_nat _ (by omega)], or_u64 _ _ (pow10 s hs) ht]
theorem pair_lt' (s t n : Int) (h1 : 0 ≤ s ∧ s < n) (h2 : 0 ≤ t ∧ t < n) : pairOf s t < 2 ^ n.toNat :=
  Nat.or_lt_two_pow (Nat.pow_lt_pow_right (by decide) (by omega)) (Nat.pow_lt_pow_right (by decide) (by omega))
set_option maxRecDepth 20000 in
set_option maxHeartbeats 400000 in
theorem merging_any (v1 : Value) (a : Aut) (s t : Int) (w : World) (h1 : AutAt w v1 a) (ha : autOk a = true) (hs : 0 ≤ s ∧ s < a.n) (ht : 0 ≤ t ∧ t < a.n) :
    Calls Try.prog 90 #[v1, .int .i64 s, .int .i64 t] w fun e w' => ∃ r, e = .returned (.tuple #[r, .int .i64 (told (firstWord smallB (tourOf a.nx (pairOf s t)))).2]) ∧ New w w' ∧ OwnInts w.heap.size w'.heap.size w' r (told (firstWord smallB (tourOf a.nx (pairOf s t)))).1 := by
  obtain ⟨rv, rfl, hr⟩ := h1
  obtain ⟨A, c, rfl⟩ := hr.form
  have h1 : AutAt w (.agg #[.int .i64 a.n, .slice A a.nx.length c]) a := ⟨_, rfl, hr⟩
  have han := autOk_n ha
  obtain ⟨n1, n2⟩ := han
  have hb0 : (w.alloc (.cells #[.int .i64 a.n, .slice A a.nx.length c] 27)).cell? ⟨w.heap.size, 0, none⟩ = some (.int .i64 a.n) := by go_simp
  have hb1 : (w.alloc (.cells #[.int .i64 a.n, .slice A a.nx.length c] 27)).cell? ⟨w.heap.size, 1, none⟩ = some (.slice A a.nx.length c) := by go_simp
  have hz0 := size_alloc w (.cells #[.int .i64 a.n, .slice A a.nx.length c] 27)
  have hlt := pair_lt' s t a.n hs ht
  have HT := hid (fun w1 (hm : New w w1) => tourAt_any _ a (pairOf s t) w1 (h1.new hm) ha hlt)
  have HOK := hid (tourOk ha (pairOf s t) hlt)
  have HF := hid (fun B v w1 (hT : TourAt B w1 v (tourOf a.nx (pairOf s t))) => first_any v a _ B 161 #[] smallB w1 hT HOK.out n2 (enters Try.func161 (by decide) (by simp [Try.f161]))
    (fun w' _ F hF => (isSmall_any F w' (lt_10 hF (by omega))).mono fun e w'' ⟨h1, h2⟩ => ⟨h1, New.of_eq h2⟩))
  obtain ⟨P, hP⟩ : ∃ P, P = told (firstWord smallB (tourOf a.nx (pairOf s t))) := ⟨_, rfl⟩
  rw [← hP] at HF ⊢
  have hbits := pair_u64 s.toNat t.toNat (by omega) (by omega)
  rw [show (2 ^ s.toNat ||| 2 ^ t.toNat) = pairOf s t from rfl] at hbits
  obtain ⟨s0, s1⟩ := hs
  obtain ⟨t0, t1⟩ := ht
  clear hP hlt ha
  go_enter Try.func90, Try.ntmps90
  go_wp2_with fail
  go_region_held3 (fun w' => w'.cell? ⟨w.heap.size, 0, none⟩ = some (.int .i64 a.n) ∧ w'.cell? ⟨w.heap.size, 1, none⟩ = some (.slice A a.nx.length c))
    (first | go_keep | exact ⟨hq1.cell hb0, hq1.cell hb1⟩ | exact ⟨hq2.cell hb0, hq2.cell hb1⟩)
    (first
      | (go_at_call 105; refine (HT.out _ (by repeat (first | with_reducible exact New.refl _ | with_reducible assumption | with_reducible refine New.alloc ?_ _ | with_reducible refine New.drew ?_ | with_reducible refine New.drewN ?_ _ | with_reducible refine New.setCell ?_ (by simp <;> omega) _))).mono ?_; rintro e w1 ⟨lv, mb, rfl, hr1, hT⟩; have hq1 : New (w.alloc (.cells #[.int .i64 a.n, .slice A a.nx.length c] 27)) w1 := New.trans (New.refl _).drew hr1; have hz1 := hr1.size)
      | (go_at_call 107; refine (HF.out _ _ _ hT).mono ?_; rintro e w2 ⟨r, rfl, hr2, ho⟩; have hq2 : New (w.alloc (.cells #[.int .i64 a.n, .slice A a.nx.length c] 27)) w2 := hq1.trans hr2; have hz2 := hr2.size))
  all_goals go_wp2
  all_goals go_ret2
  all_goals exact ⟨_, rfl, New.trans (by repeat (first | with_reducible exact New.refl _ | with_reducible assumption | with_reducible refine New.alloc ?_ _ | with_reducible refine New.drew ?_ | with_reducible refine New.drewN ?_ _ | with_reducible refine New.setCell ?_ (by simp <;> omega) _)) hq2, ho.widen (by simp only [size_drew] at *; omega) (Nat.le_refl _)⟩
set_option maxHeartbeats 400000 in
theorem MergingWord1_any (b1 b2 b3 : Nat) (rv : Value) (a : Aut) (s t : Int) (w : World) (h0 : w.cell? ⟨b1, 0, none⟩ = some (.int .i64 a.n)) (h1 : w.cell? ⟨b1, 1, none⟩ = some rv) (hr : RowsAt w rv a.nx)
    (h2 : w.cell? ⟨b2, 0, none⟩ = some (.int .i64 s)) (h3 : w.cell? ⟨b3, 0, none⟩ = some (.int .i64 t)) (n0 : 0 ≤ a.n) (n1 : a.n ≤ 1048576) :
    Calls Try.prog 88 #[.pointer (some ⟨b1, 0, none⟩), .pointer (some ⟨b2, 0, none⟩), .pointer (some ⟨b3, 0, none⟩)] w fun e w' => e = .returned (.bool (inB s 0 (a.n - 1) && inB t 0 (a.n - 1))) ∧ New w w' := by
  have hM : AutAt w (.agg #[.int .i64 a.n, rv]) a := ⟨_, rfl, hr⟩
  have HM := hid hM
  have C1 := hid (fun w1 (hm : New w w1) => isState_any _ a s w1 (hM.new hm) n0 n1)
  have C2 := hid (fun w1 (hm : New w w1) => isState_any _ a t w1 (hM.new hm) n0 n1)
  clear hM
  cases hs : inB s 0 (a.n - 1) with
  | false =>
    rw [hs] at C1
    go_enter Try.func88, Try.ntmps88
    go_wp2_with fail
    refine (C1.out _ (New.refl _)).mono ?_
    rintro e w1 ⟨rfl, hn1⟩
    go_wp2
    go_ret
    exact ⟨rfl, hn1⟩
  | true =>
    rw [hs] at C1
    go_enter Try.func88, Try.ntmps88
    go_wp2_with fail
    refine (C1.out _ (New.refl _)).mono ?_
    rintro e w1 ⟨rfl, hn1⟩
    replace h0 := hn1.cell h0
    replace h1 := hn1.cell h1
    replace h3 := hn1.cell h3
    go_wp2_with fail
    refine (C2.out _ hn1).mono ?_
    rintro e w2 ⟨rfl, hn2⟩
    go_wp2
    go_ret
    exact ⟨rfl, hn1.trans hn2⟩
set_option maxHeartbeats 400000 in
theorem implMergingWord_any (v1 : Value) (a : Aut) (s t : Int) (w : World) (h1 : AutAt w v1 a) :
    Calls Try.prog 33 #[v1, .int .i64 s, .int .i64 t] w fun e w' => ∃ r, e = .returned (.tuple #[r, .int .i64 (MergingWord a s t).2]) ∧ New w w' ∧ OwnInts w.heap.size w'.heap.size w' r (MergingWord a s t).1 := by
  obtain ⟨rv, rfl, hr⟩ := h1
  obtain ⟨A, c, rfl⟩ := hr.form
  have h1 : AutAt w (.agg #[.int .i64 a.n, .slice A a.nx.length c]) a := ⟨_, rfl, hr⟩
  obtain ⟨wb, hwb⟩ : ∃ wb, wb = ((w.alloc (.cells #[.int .i64 a.n, .slice A a.nx.length c] 27)).alloc (.cells #[.int .i64 s] 2)).alloc (.cells #[.int .i64 t] 2) := ⟨_, rfl⟩
  have hnb : New w wb := by rw [hwb]; exact (by repeat (first | with_reducible exact New.refl _ | with_reducible assumption | with_reducible refine New.alloc ?_ _ | with_reducible refine New.drew ?_ | with_reducible refine New.drewN ?_ _ | with_reducible refine New.setCell ?_ (by simp <;> omega) _))
  have hzb : wb.heap.size = w.heap.size + 3 := by rw [hwb]; simp only [size_alloc]
  have hb0 : wb.cell? ⟨w.heap.size, 0, none⟩ = some (.int .i64 a.n) := by rw [hwb]; go_simp
  have hb1 : wb.cell? ⟨w.heap.size, 1, none⟩ = some (.slice A a.nx.length c) := by rw [hwb]; go_simp
  have hb2 : wb.cell? ⟨w.heap.size + 1, 0, none⟩ = some (.int .i64 s) := by rw [hwb]; go_simp
  have hb3 : wb.cell? ⟨w.heap.size + 1 + 1, 0, none⟩ = some (.int .i64 t) := by rw [hwb]; go_simp
  have HC : Calls Try.prog 66 #[.agg #[.int .i64 a.n, .slice A a.nx.length c], .func (.func 88) #[] #[.pointer (some ⟨w.heap.size, 0, none⟩), .pointer (some ⟨w.heap.size + 1, 0, none⟩), .pointer (some ⟨w.heap.size + 1 + 1, 0, none⟩)]] wb
      fun e w' => e = .returned (.int .i64 (codeOf (autOk a) (inB s 0 (a.n - 1) && inB t 0 (a.n - 1)))) ∧ New wb w' := by
    refine code_any _ a _ _ _ _ (h1.new hnb) (enters Try.func88 (by decide) (by simp [Try.f88])) fun ha w' hw => ?_
    have han := autOk_n ha
    exact MergingWord1_any _ _ _ _ a s t _ (hw.cell hb0) (hw.cell hb1) (hr.new (hnb.trans hw)) (hw.cell hb2) (hw.cell hb3) (by omega) (by omega)
  obtain ⟨R, hR⟩ : ∃ R, R = MergingWord a s t := ⟨_, rfl⟩
  rw [← hR]
  unfold MergingWord at hR
  have HR := hid hR
  clear hR
  cases ha : autOk a with
  | false =>
    rw [ha] at HC
    have e : codeOf false (inB s 0 (a.n - 1) && inB t 0 (a.n - 1)) = 1 := rfl
    rw [e] at HC
    go_enter Try.func33, Try.ntmps33
    go_wp2_with fail
    rw [← hwb]
    refine HC.mono ?_
    rintro e w1 ⟨rfl, hn1⟩
    go_wp2
    go_ret2
    have e : R = ([], 1) := by rw [HR.out, ha]; rfl
    rw [e]
    exact ⟨_, rfl, (by repeat (first | with_reducible exact New.refl _ | with_reducible assumption | with_reducible refine New.alloc ?_ _ | with_reducible refine New.drewN ?_ _ | with_reducible refine New.drew ?_ | with_reducible refine New.trans ?_ (by with_reducible assumption))), OwnInts.nil _ _ _⟩
  | true =>
    rw [ha] at HC
    have HA := hid ha
    cases hs : (inB s 0 (a.n - 1) && inB t 0 (a.n - 1)) with
    | false =>
      rw [hs] at HC
      have e : codeOf true false = 2 := rfl
      rw [e] at HC
      go_enter Try.func33, Try.ntmps33
      go_wp2_with fail
      rw [← hwb]
      refine HC.mono ?_
      rintro e w1 ⟨rfl, hn1⟩
      go_wp2
      go_ret2
      have e : R = ([], 2) := by rw [HR.out, HA.out, hs]; rfl
      rw [e]
      exact ⟨_, rfl, (by repeat (first | with_reducible exact New.refl _ | with_reducible assumption | with_reducible refine New.alloc ?_ _ | with_reducible refine New.drewN ?_ _ | with_reducible refine New.drew ?_ | with_reducible refine New.trans ?_ (by with_reducible assumption))), OwnInts.nil _ _ _⟩
    | true =>
      rw [hs] at HC
      have e : codeOf true true = 0 := rfl
      rw [e] at HC
      have hs' := hs
      rw [Bool.and_eq_true, inB_iff, inB_iff] at hs'
      have HM := hid (fun w1 (hm : New w w1) => merging_any _ a s t w1 (h1.new hm) HA.out (by omega) (by omega))
      have e : R = told (firstWord smallB (tourOf a.nx (pairOf s t))) := by rw [HR.out, if_pos HA.out, if_pos hs]
      rw [← e] at HM
      clear e hs hs'
      go_enter Try.func33, Try.ntmps33
      go_wp2_with fail
      rw [← hwb]
      refine HC.mono ?_
      rintro e w1 ⟨rfl, hn1⟩
      replace hb0 := hn1.cell hb0
      replace hb1 := hn1.cell hb1
      replace hb2 := hn1.cell hb2
      replace hb3 := hn1.cell hb3
      have hs1 := hn1.size
      go_wp2_with fail
      refine (HM.out _ (hnb.trans hn1)).mono ?_
      rintro e w2 ⟨r, rfl, hn2, ho⟩
      go_wp2
      go_ret2
      exact ⟨_, rfl, (by repeat (first | with_reducible exact New.refl _ | with_reducible assumption | with_reducible refine New.alloc ?_ _ | with_reducible refine New.drewN ?_ _ | with_reducible refine New.drew ?_ | with_reducible refine New.trans ?_ (by with_reducible assumption))), ho.widen (by omega) (Nat.le_refl _)⟩
set_option maxHeartbeats 400000 in
theorem ShortestTo1_any (b1 b2 : Nat) (rv : Value) (a : Aut) (s : Int) (w : World) (h0 : w.cell? ⟨b1, 0, none⟩ = some (.int .i64 a.n)) (h1 : w.cell? ⟨b1, 1, none⟩ = some rv) (hr : RowsAt w rv a.nx)
    (h2 : w.cell? ⟨b2, 0, none⟩ = some (.int .i64 s)) (n0 : 0 ≤ a.n) (n1 : a.n ≤ 1048576) :
    Calls Try.prog 104 #[.pointer (some ⟨b1, 0, none⟩), .pointer (some ⟨b2, 0, none⟩)] w fun e w' => e = .returned (.bool (inB s 0 (a.n - 1))) ∧ New w w' := by
  have C1 := hid (isState_any _ a s w ⟨_, rfl, hr⟩ n0 n1)
  go_enter Try.func104, Try.ntmps104
  go_wp2_with fail
  refine C1.out.mono ?_
  rintro e w1 ⟨rfl, hn1⟩
  go_wp2
  go_ret
  exact ⟨rfl, hn1⟩
set_option maxHeartbeats 400000 in
theorem ShortestTo2_any (b2 F : Nat) (s : Int) (w : World) (h2 : w.cell? ⟨b2, 0, none⟩ = some (.int .i64 s)) (s0 : 0 ≤ s) (s1 : s < 10) :
    Calls Try.prog 108 #[.int .u64 (F : Nat), .pointer (some ⟨b2, 0, none⟩)] w fun e w' => e = .returned (.bool (F == 2 ^ s.toNat)) ∧ New w w' := by
  have hp := pow10 s.toNat (by omega)
  have hw : IntKind.u64.wrap ((2 : Int) ^ s.toNat) = ((2 ^ s.toNat : Nat) : Int) := by rw [cast_pow, wrap_u64_nat _ (by omega)]
  go_enter Try.func108, Try.ntmps108
  go_wp2
  go_ret
  refine ⟨ret_bool ?_, New.refl _⟩
  rw [cast_pow, Bool.eq_iff_iff, beq_iff_eq, beq_iff_eq]
  exact ⟨fun h => by exact_mod_cast h, fun h => by rw [h]⟩
set_option maxRecDepth 20000 in
set_option maxHeartbeats 400000 in
theorem implShortestTo_any (v1 : Value) (a : Aut) (s : Int) (w : World) (h1 : AutAt w v1 a) :
    Calls Try.prog 43 #[v1, .int .i64 s] w fun e w' => ∃ r, e = .returned (.tuple #[r, .int .i64 (ShortestTo a s).2]) ∧ New w w' ∧ OwnInts w.heap.size w'.heap.size w' r (ShortestTo a s).1 := by
  obtain ⟨rv, rfl, hr⟩ := h1
  obtain ⟨A, c, rfl⟩ := hr.form
  have h1 : AutAt w (.agg #[.int .i64 a.n, .slice A a.nx.length c]) a := ⟨_, rfl, hr⟩
  obtain ⟨wb, hwb⟩ : ∃ wb, wb = (w.alloc (.cells #[.int .i64 a.n, .slice A a.nx.length c] 27)).alloc (.cells #[.int .i64 s] 2) := ⟨_, rfl⟩
  have hnb : New w wb := by rw [hwb]; exact (by repeat (first | with_reducible exact New.refl _ | with_reducible assumption | with_reducible refine New.alloc ?_ _ | with_reducible refine New.drew ?_ | with_reducible refine New.drewN ?_ _ | with_reducible refine New.setCell ?_ (by simp <;> omega) _))
  have hzb : wb.heap.size = w.heap.size + 2 := by rw [hwb]; simp only [size_alloc]
  have hb0 : wb.cell? ⟨w.heap.size, 0, none⟩ = some (.int .i64 a.n) := by rw [hwb]; go_simp
  have hb1 : wb.cell? ⟨w.heap.size, 1, none⟩ = some (.slice A a.nx.length c) := by rw [hwb]; go_simp
  have hb2 : wb.cell? ⟨w.heap.size + 1, 0, none⟩ = some (.int .i64 s) := by rw [hwb]; go_simp
  have HC : Calls Try.prog 66 #[.agg #[.int .i64 a.n, .slice A a.nx.length c], .func (.func 104) #[] #[.pointer (some ⟨w.heap.size, 0, none⟩), .pointer (some ⟨w.heap.size + 1, 0, none⟩)]] wb
      fun e w' => e = .returned (.int .i64 (codeOf (autOk a) (inB s 0 (a.n - 1)))) ∧ New wb w' := by
    refine code_any _ a _ _ _ _ (h1.new hnb) (enters Try.func104 (by decide) (by simp [Try.f104])) fun ha w' hw => ?_
    have han := autOk_n ha
    exact ShortestTo1_any _ _ _ a s _ (hw.cell hb0) (hw.cell hb1) (hr.new (hnb.trans hw)) (hw.cell hb2) (by omega) (by omega)
  obtain ⟨R, hR⟩ : ∃ R, R = ShortestTo a s := ⟨_, rfl⟩
  rw [← hR]
  unfold ShortestTo at hR
  have HR := hid hR
  clear hR
  cases ha : autOk a with
  | false =>
    rw [ha] at HC
    have e : codeOf false (inB s 0 (a.n - 1)) = 1 := rfl
    rw [e] at HC
    go_enter Try.func43, Try.ntmps43
    go_wp2_with fail
    rw [← hwb]
    refine HC.mono ?_
    rintro e w1 ⟨rfl, hn1⟩
    go_wp2
    go_ret2
    have e : R = ([], 1) := by rw [HR.out, ha]; rfl
    rw [e]
    exact ⟨_, rfl, (by repeat (first | with_reducible exact New.refl _ | with_reducible assumption | with_reducible refine New.alloc ?_ _ | with_reducible refine New.drewN ?_ _ | with_reducible refine New.drew ?_ | with_reducible refine New.trans ?_ (by with_reducible assumption))), OwnInts.nil _ _ _⟩
  | true =>
    rw [ha] at HC
    have HA := hid ha
    cases hs : inB s 0 (a.n - 1) with
    | false =>
      rw [hs] at HC
      have e : codeOf true false = 2 := rfl
      rw [e] at HC
      go_enter Try.func43, Try.ntmps43
      go_wp2_with fail
      rw [← hwb]
      refine HC.mono ?_
      rintro e w1 ⟨rfl, hn1⟩
      go_wp2
      go_ret2
      have e : R = ([], 2) := by rw [HR.out, HA.out, hs]; rfl
      rw [e]
      exact ⟨_, rfl, (by repeat (first | with_reducible exact New.refl _ | with_reducible assumption | with_reducible refine New.alloc ?_ _ | with_reducible refine New.drewN ?_ _ | with_reducible refine New.drew ?_ | with_reducible refine New.trans ?_ (by with_reducible assumption))), OwnInts.nil _ _ _⟩
    | true =>
      rw [hs] at HC
      have e : codeOf true true = 0 := rfl
      rw [e] at HC
      have hs' := (inB_iff _ _ _).1 hs
      have han := autOk_n HA.out
      have HOK := hid (tourOk HA.out (full a.n) (full_lt a.n))
      have HC1 := hid (fun w1 (hm : New w w1) => all_any _ a w1 (h1.new hm) HA.out)
      have HC2 := hid (fun v w1 (h : IntsAt w1 v (iota 0 a.n.toNat)) => flockOf_any v _ w1 h (sIota a HA.out))
      rw [full_iota a.n (by omega)] at HC2
      have HC3 := hid (fun w1 (hm : New w w1) => tourAt_any _ a (full a.n) w1 (h1.new hm) HA.out (full_lt a.n))
      have HC4 := hid (fun B v w1 (hm : New wb w1) (hT : TourAt B w1 v (tourOf a.nx (full a.n))) => first_any v a _ B 108 #[.pointer (some ⟨w.heap.size + 1, 0, none⟩)] (fun F => F == 2 ^ s.toNat) w1 hT HOK.out han.2 (enters Try.func108 (by decide) (by simp [Try.f108]))
        (fun w' hw F hF => ShortestTo2_any _ F s w' ((hm.trans hw).cell hb2) (by omega) (by omega)))
      have e : R = told (firstWord (fun f => f == 2 ^ s.toNat) (tourOf a.nx (full a.n))) := by rw [HR.out, if_pos HA.out, if_pos hs]
      rw [← e] at HC4
      clear e hs hs' han
      go_enter Try.func43, Try.ntmps43
      go_wp2_with fail
      rw [← hwb]
      refine HC.mono ?_
      rintro e w1 ⟨rfl, hn1⟩
      replace hb0 := hn1.cell hb0
      replace hb1 := hn1.cell hb1
      have hs1 := hn1.size
      go_wp2_with fail
      go_region_held3 (fun w' => w'.cell? ⟨w.heap.size, 0, none⟩ = some (.int .i64 a.n) ∧ w'.cell? ⟨w.heap.size, 1, none⟩ = some (.slice A a.nx.length c))
        (first | go_keep | exact ⟨hq2.cell hb0, hq2.cell hb1⟩ | exact ⟨hq3.cell hb0, hq3.cell hb1⟩ | exact ⟨hq4.cell hb0, hq4.cell hb1⟩)
        (first
          | (go_at_call 106; refine (HC1.out _ ((hnb.trans hn1).trans (New.refl _).drew)).mono ?_; rintro e w2 ⟨r2, he, hr2, ho2⟩; obtain ⟨A2, c2, rfl⟩ := ho2.form; subst he; have hq2 : New w1 w2 := New.trans (New.refl _).drew hr2; have hz2 := hr2.size)
          | (go_at_call 83; refine (HC2.out _ _ ho2.at).mono ?_; rintro e w' ⟨rfl, rfl⟩)
          | (go_at_call 105; refine (HC3.out _ ((hnb.trans hn1).trans hq2)).mono ?_; rintro e w3 ⟨lv, mb, rfl, hr3, hT⟩; have hq3 : New w1 w3 := hq2.trans hr3; have hz3 := hr3.size)
          | (go_at_call 107; refine (HC4.out _ _ _ (hn1.trans hq3) hT).mono ?_; rintro e w4 ⟨r, rfl, hr4, ho⟩; have hq4 : New w1 w4 := hq3.trans hr4; have hz4 := hr4.size))
      all_goals go_wp2
      all_goals go_ret2
      all_goals exact ⟨_, rfl, (hnb.trans hn1).trans hq4, ho.widen (by simp only [size_drew] at *; omega) (Nat.le_refl _)⟩

end Go.Proofs.Ytaaaeekdfmfooaa
