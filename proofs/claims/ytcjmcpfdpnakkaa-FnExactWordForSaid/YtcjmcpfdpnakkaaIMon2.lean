/- The program's first word with an action. -/
import Derived.Test.YtcjmcpfdpnakkaaRows
import Derived.Test.YtcjmcpfdpnakkaaCore
import Derived.Test.YtcjmcpfdpnakkaaInfo
import Derived.Test.YtcjmcpfdpnakkaaPlains
import Derived.Test.YtcjmcpfdpnakkaaPlainMon
import Derived.Test.YtcjmcpfdpnakkaaMaps
import Derived.Test.YtcjmcpfdpnakkaaI01a
import Derived.Test.YtcjmcpfdpnakkaaI01b
import Derived.Test.YtcjmcpfdpnakkaaI01c
import Derived.Test.YtcjmcpfdpnakkaaIEq
import Derived.Test.YtcjmcpfdpnakkaaIMon
import Derived.WalkKit
import Derived.WalkSpells
import Derived.WalkLawsBesides
import Derived.Deep.QuietTactic
import Derived.Deep.OwnRows
import Derived.BigQuiet
import Derived.KernelRfl
namespace Go.Proofs.Ytcjmcpfdpnakkaa
open Go.RowKit

set_option maxHeartbeats 800000 in
theorem WordFor1_any (b1 b2 : Nat) (v2 : Value) (a : Aut) (act : List Int) (w : World) (ha : autOk a = true) (h0 : w.cell? ⟨b1, 0, none⟩ = some (.int .i64 a.n)) (hb : w.cell? ⟨b2, 0, none⟩ = some v2) (h2 : IntsAt w v2 act) :
    Calls Try.prog 84 #[.pointer (some ⟨b2, 0, none⟩), .pointer (some ⟨b1, 0, none⟩)] w fun e w' => e = .returned (.bool (mapOk act a.n)) ∧ New w w' := by
  have han := autOk_n ha
  obtain ⟨A, c, rfl⟩ := h2.form
  have hl := h2.len
  obtain ⟨R, hR⟩ : ∃ R, R = mapOk act a.n := ⟨_, rfl⟩
  rw [← hR]
  unfold mapOk at hR
  have HAW := hid (fun w1 (hn : New w w1) => areWithin_any (.slice A act.length c) act 0 (a.n - 1) w1 (h2.new hn))
  by_cases hq : (act.length : Int) = a.n
  · have e1 : ((act.length : Int) == a.n) = true := by simp [hq]
    have HR := hid (show R = allIn act 0 (a.n - 1) by rw [hR, decide_eq_true hq, Bool.and_true])
    clear hq hR
    have hx0 := ext_cell h0
    have hxb := ext_cell hb
    go_enter Try.func84, Try.ntmps84
    go_wp2_with fail
    refine wp_region_quiet_new (by kernel_rfl) (by kernel_rfl) ?_; (repeat (go_big_quiet_step ((first | (go_at_call 85; exact quiet_same (size64_any _ _ _ _ hl)) | (go_at_call 86; exact quiet_new (HAW.out _ (ext_new _ _))))))); refine wpQuiet_nil ?_; intro wq hq; have hnq := new_of_ext hq; clear hq
    go_wp2
    go_ret
    exact ⟨ret_bool HR.out.symm, hnq⟩
  · have e1 : ((act.length : Int) == a.n) = false := by simp [hq]
    have HR := hid (show R = false by rw [hR, decide_eq_false hq, Bool.and_false])
    clear hq hR
    have hx0 := ext_cell h0
    have hxb := ext_cell hb
    go_enter Try.func84, Try.ntmps84
    go_wp2_with fail
    refine wp_region_quiet_new (by kernel_rfl) (by kernel_rfl) ?_; (repeat (go_big_quiet_step ((first | (go_at_call 85; exact quiet_same (size64_any _ _ _ _ hl)))))); refine wpQuiet_nil ?_; intro wq hq; have hnq := new_of_ext hq; clear hq
    go_wp2
    go_ret
    exact ⟨ret_bool HR.out.symm, hnq⟩
set_option maxHeartbeats 400000 in
theorem WordFor2_any (v1 v2 : Value) (b : Nat) (xs act : List Int) (w : World) (h1 : IntsAt w v1 xs) (hb : w.cell? ⟨b, 0, none⟩ = some v2) (h2 : IntsAt w v2 act) :
    Calls Try.prog 89 #[v1, .pointer (some ⟨b, 0, none⟩)] w fun e w' => e = .returned (.bool (decide (xs = act))) ∧ New w w' := by
  go_enter Try.func89, Try.ntmps89
  go_wp2_with (go_at_call 90; refine (sliceEqual_any _ _ _ _ _ h1 h2).mono ?_; rintro e w' ⟨rfl, hn⟩)
  go_ret
  exact ⟨rfl, hn⟩
theorem idx_findL (xss : List (List Int)) (act : List Int) : idxOf (fun r => decide (r = act)) xss = findL xss act := rfl
set_option maxRecDepth 20000 in
set_option maxHeartbeats 1600000 in
theorem implWordFor_any (v1 v2 : Value) (a : Aut) (act : List Int) (w : World) (h1 : AutAt w v1 a) (h2 : IntsAt w v2 act) :
    Calls Try.prog 30 #[v1, v2] w fun e w' => ∃ r, e = .returned (.tuple #[r, .int .i64 (WordFor a act).2]) ∧ New w w' ∧ OwnInts w.heap.size w'.heap.size w' r (WordFor a act).1 := by
  obtain ⟨rv, rfl, hr⟩ := h1
  obtain ⟨A, c, rfl⟩ := hr.form
  obtain ⟨A2, c2, rfl⟩ := h2.form
  have h1 : AutAt w (.agg #[.int .i64 a.n, .slice A a.nx.length c]) a := ⟨_, rfl, hr⟩
  obtain ⟨wb, hwb⟩ : ∃ wb, wb = (w.alloc (.cells #[.int .i64 a.n, .slice A a.nx.length c] 42)).alloc (.cells #[.slice A2 act.length c2] 26) := ⟨_, rfl⟩
  have hnb : New w wb := by rw [hwb]; exact (by repeat (first | with_reducible exact New.refl _ | with_reducible assumption | with_reducible refine New.alloc ?_ _ | with_reducible refine New.drew ?_ | with_reducible refine New.drewN ?_ _ | with_reducible refine New.setCell ?_ (by simp <;> omega) _))
  have z0 : wb.cell? ⟨w.heap.size, 0, none⟩ = some (.int .i64 a.n) := by rw [hwb]; go_simp
  have z1 : wb.cell? ⟨w.heap.size, 1, none⟩ = some (.slice A a.nx.length c) := by rw [hwb]; go_simp
  have z2 : wb.cell? ⟨w.heap.size + 1, 0, none⟩ = some (.slice A2 act.length c2) := by rw [hwb]; go_simp
  have HC : Calls Try.prog 83 #[.agg #[.int .i64 a.n, .slice A a.nx.length c], .func (.func 84) #[] #[.pointer (some ⟨w.heap.size + 1, 0, none⟩), .pointer (some ⟨w.heap.size, 0, none⟩)]] wb
      fun e w' => e = .returned (.int .i64 (codeOf (autOk a) (mapOk act a.n))) ∧ New wb w' := by
    refine code_any _ a _ _ (mapOk act a.n) _ (h1.new hnb) (enters Try.func84 (by decide) (by simp [Try.f84])) fun ha w' hw => ?_
    exact WordFor1_any _ _ _ a act _ ha (hw.cell z0) (hw.cell z2) (h2.new (hnb.trans hw))
  obtain ⟨R, hR⟩ : ∃ R, R = WordFor a act := ⟨_, rfl⟩
  rw [← hR]
  unfold WordFor at hR
  have HR := hid hR
  clear hR
  cases ha : autOk a with
  | false =>
    rw [ha] at HC
    have e : codeOf false (mapOk act a.n) = 1 := rfl
    rw [e] at HC
    go_enter Try.func30, Try.ntmps30
    go_wp2_with fail
    rw [← hwb]
    refine HC.mono ?_
    rintro e w1 ⟨rfl, hn1⟩
    go_wp2
    go_ret2
    have e : R = ([], 1) := by rw [HR.out, ha]; rfl
    rw [e]
    exact ⟨_, rfl, hnb.trans hn1, OwnInts.nil _ _ _⟩
  | true =>
    rw [ha] at HC
    have HA := hid ha
    cases hm : mapOk act a.n with
    | false =>
      rw [hm] at HC
      have e : codeOf true false = 2 := rfl
      rw [e] at HC
      go_enter Try.func30, Try.ntmps30
      go_wp2_with fail
      rw [← hwb]
      refine HC.mono ?_
      rintro e w1 ⟨rfl, hn1⟩
      go_wp2
      go_ret2
      have e : R = ([], 2) := by rw [HR.out, HA.out, hm]; rfl
      rw [e]
      exact ⟨_, rfl, hnb.trans hn1, OwnInts.nil _ _ _⟩
    | true =>
      rw [hm] at HC
      have e : codeOf true true = 0 := rfl
      rw [e] at HC
      have HM := hid hm
      have C3 := hid (fun w1 (hn : New w w1) => monoid_any _ a w1 (h1.new hn) ha)
      have HBOK := hid (mon_bok ha 401)
      clear e ha hm
      obtain ⟨FEW, hF⟩ : ∃ z, z = monFew a := ⟨_, rfl⟩
      obtain ⟨T, hT⟩ : ∃ z, z = monT a 401 := ⟨_, rfl⟩
      have HFD := hid (show FEW = decide (T.list.length ≤ 400) by rw [hF, hT]; rfl)
      have HE := hid (show R = (if FEW = true then (if findL T.list act < 0 then ([], 6) else (nth T.words (findL T.list act).toNat, 0)) else ([], 3)) by rw [HR.out, if_pos HA.out, if_pos HM.out, hF, hT])
      rw [← hF, ← hT] at C3
      rw [← hT] at HBOK
      clear hF hT
      cases FEW with
      | false =>
        go_enter Try.func30, Try.ntmps30
        go_wp2_with fail
        rw [← hwb]
        refine HC.mono ?_
        rintro e w1 ⟨rfl, hn1⟩
        replace z0 := hn1.cell z0
        replace z1 := hn1.cell z1
        go_wp2_with fail
        refine (C3.out _ (hnb.trans hn1)).mono ?_
        rintro e w3 ⟨r1, r2, rfl, hn3, _⟩
        go_wp2_with fail
        go_ret2
        have e : R = ([], 3) := HE.out
        rw [e]
        exact ⟨_, rfl, (hnb.trans hn1).trans hn3, OwnInts.nil _ _ _⟩
      | true =>
        have h4 := of_decide_eq_true HFD.out.symm
        have HLW := hid HBOK.out.lw
        have HWB := hid (show wb.cell? ⟨w.heap.size + 1, 0, none⟩ = some (.slice A2 act.length c2) from z2)
        have C4 := hid (fun w3 (v1 : Value) (hrows : RowsAt w3 v1 T.list) (hn : New wb w3) => IndexFuncRows_any v1 T.list 89 #[.pointer (some ⟨w.heap.size + 1, 0, none⟩)] (fun r => decide (r = act)) w3 hrows (enters Try.func89 (by decide) (by simp [Try.f89]))
          (fun w' hn' i _ rv hrv => WordFor2_any rv (.slice A2 act.length c2) _ (nth T.list i) act w' hrv ((hn.trans hn').cell HWB.out) (h2.new (hnb.trans (hn.trans hn')))))
        by_cases hf : act ∈ T.list
        · obtain ⟨j, hj, hje, _⟩ := findL_mem hf
          rw [idx_findL, hje] at C4
          have HE2 := hid (show R = (nth T.words j, 0) by rw [HE.out, if_pos rfl, if_neg (by rw [hje]; omega), hje, Int.toNat_natCast])
          have hneg : ¬ ((j : Int) < 0) := by omega
          clear hf hje
          go_enter Try.func30, Try.ntmps30
          go_wp2_with fail
          rw [← hwb]
          refine HC.mono ?_
          rintro e w1 ⟨rfl, hn1⟩
          replace z0 := hn1.cell z0
          replace z1 := hn1.cell z1
          go_wp2_with fail
          refine (C3.out _ (hnb.trans hn1)).mono ?_
          rintro e w3 ⟨r1, r2, rfl, hn3, hG⟩
          have hG3 := hG (by trivial)
          have hn := hnb.trans (hn1.trans hn3)
          have hz2 := (hnb.trans hn1).size
          obtain ⟨hrows1, hrows2⟩ := hG3.rows (by omega) (by rw [HLW.out]; omega)
          have C5 := C4.out _ _ hrows1 (hn1.trans hn3)
          have HF4 := hid (fun w4 (hn4 : New w3 w4) => (hG3.new hn4).row2 j (by rw [HLW.out]; exact hj))
          have k2 : (j : Int) < (T.words.length : Int) := by rw [HLW.out]; omega
          clear hG hrows1 hrows2
          go_wp2_with fail
          refine C5.mono ?_
          rintro e w4 ⟨rfl, hn4⟩
          obtain ⟨bw, cw, Aw, kw, e2, hw2, hoW⟩ := HF4.out _ hn4
          subst e2
          go_wp2_with fail
          go_ret2
          rw [HE2.out]
          exact ⟨_, rfl, hn.trans hn4, hoW.1.widen hz2 (Nat.le_refl _)⟩
        · have hje := findL_not hf
          rw [idx_findL, hje] at C4
          have HE2 := hid (show R = ([], 6) by rw [HE.out, if_pos rfl, if_pos (by rw [hje]; decide)])
          clear hf hje
          go_enter Try.func30, Try.ntmps30
          go_wp2_with fail
          rw [← hwb]
          refine HC.mono ?_
          rintro e w1 ⟨rfl, hn1⟩
          replace z0 := hn1.cell z0
          replace z1 := hn1.cell z1
          go_wp2_with fail
          refine (C3.out _ (hnb.trans hn1)).mono ?_
          rintro e w3 ⟨r1, r2, rfl, hn3, hG⟩
          have hG3 := hG (by trivial)
          have hn := hnb.trans (hn1.trans hn3)
          obtain ⟨hrows1, hrows2⟩ := hG3.rows (by omega) (by rw [HLW.out]; omega)
          have C5 := C4.out _ _ hrows1 (hn1.trans hn3)
          clear hG hrows1 hrows2
          go_wp2_with fail
          refine C5.mono ?_
          rintro e w4 ⟨rfl, hn4⟩
          go_wp2_with fail
          go_ret2
          rw [HE2.out]
          exact ⟨_, rfl, hn.trans hn4, OwnInts.nil _ _ _⟩

end Go.Proofs.Ytcjmcpfdpnakkaa
