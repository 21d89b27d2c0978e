/- The reference's first word with an action. -/
import Derived.Test.YtcjmcpfdpnakkaaRows
import Derived.Test.YtcjmcpfdpnakkaaCore
import Derived.Test.YtcjmcpfdpnakkaaInfo
import Derived.Test.YtcjmcpfdpnakkaaPlains
import Derived.Test.YtcjmcpfdpnakkaaPlainMon
import Derived.Test.YtcjmcpfdpnakkaaMaps
import Derived.Test.YtcjmcpfdpnakkaaS00a
import Derived.Test.YtcjmcpfdpnakkaaS01a
import Derived.Test.YtcjmcpfdpnakkaaS01f
import Derived.Test.YtcjmcpfdpnakkaaSMon
import Derived.WalkKit
import Derived.WalkSpells
import Derived.WalkLawsBesides
import Derived.Deep.QuietTactic
import Derived.Deep.OwnRows
import Derived.BigQuiet
import Derived.KernelRfl
namespace Go.Proofs.Ytcjmcpfdpnakkaa
open Go.RowKit

set_option maxRecDepth 20000 in
set_option maxHeartbeats 1000000 in
theorem specWordFor_any (v1 v2 : Value) (a : Aut) (act : List Int) (w : World) (h1 : AutAt w v1 a) (h2 : IntsAt w v2 act) :
    Calls Try.prog 27 #[v1, v2] w fun e w' => ∃ r, e = .returned (.tuple #[r, .int .i64 (WordFor a act).2]) ∧ New w w' ∧ OwnInts w.heap.size w'.heap.size w' r (WordFor a act).1 := by
  obtain ⟨rv, rfl, hr⟩ := h1
  obtain ⟨A2, c2, rfl⟩ := hr.form
  obtain ⟨A, c, rfl⟩ := h2.form
  obtain ⟨wb, hwb⟩ : ∃ wb, wb = w.alloc (.cells #[.int .i64 a.n, .slice A2 a.nx.length c2] 42) := ⟨_, rfl⟩
  have hp : PAut wb (.pointer (some ⟨w.heap.size, 0, none⟩)) a := by rw [hwb]; exact PAut.box hr _
  have hnb : New w wb := by rw [hwb]; exact (by repeat (first | with_reducible exact New.refl _ | with_reducible assumption | with_reducible refine New.alloc ?_ _ | with_reducible refine New.drew ?_ | with_reducible refine New.drewN ?_ _ | with_reducible refine New.setCell ?_ (by simp <;> omega) _))
  have hb0 : wb.cell? ⟨w.heap.size, 0, none⟩ = some (.int .i64 a.n) := by rw [hwb]; go_simp
  obtain ⟨R, hR⟩ : ∃ R, R = WordFor a act := ⟨_, rfl⟩
  rw [← hR]
  unfold WordFor at hR
  have HR := hid hR
  clear hR
  have C1 := l01Ok_any _ a _ hp
  have key : ∀ (code : Int) (w1 : World) (T : TypeId), New wb w1 → R = ([], code) → ∃ r, (Ending.returned (.tuple #[.slice (some ⟨w1.heap.size, 0, none⟩) 0 0, .int .i64 code]) = .returned (.tuple #[r, .int .i64 R.2])) ∧ New w (w1.alloc (.cells #[] T)) ∧ OwnInts w.heap.size (w1.alloc (.cells #[] T)).heap.size (w1.alloc (.cells #[] T)) r R.1 := fun code w1 T hn1 e => by
    have hs := (hnb.trans hn1).size
    rw [e]
    exact ⟨_, rfl, (hnb.trans hn1).alloc _, OwnInts.none' _ hs (by rw [size_alloc]; exact Nat.lt_succ_self _)⟩
  have KEY := hid key
  clear key
  cases ha : autOk a with
  | false =>
    rw [ha] at C1
    go_enter Try.func27, Try.ntmps27
    go_wp2_with fail
    rw [← hwb]
    refine C1.mono ?_
    rintro e w1 ⟨rfl, hn1⟩
    go_wp2
    go_ret2
    exact KEY.out 1 w1 _ hn1 (by rw [HR.out, ha]; rfl)
  | true =>
    rw [ha] at C1
    have han := autOk_n ha
    have HA := hid ha
    have C2 := hid (fun w1 (hn : New wb w1) => (l01Map_any _ act a.n w1 (h2.new (hnb.trans hn)) (by omega) (by omega)).mono fun _ _ ⟨a, b⟩ => (show _ ∧ New w1 _ from ⟨a, New.of_eq b⟩))
    have C3 := hid (fun w1 (hn : New wb w1) => l01Monoid_any _ a w1 (hp.new hn) ha)
    clear ha
    cases hm : mapOk act a.n with
    | false =>
      rw [hm] at C2
      go_enter Try.func27, Try.ntmps27
      go_wp2_with fail
      rw [← hwb]
      refine C1.mono ?_
      rintro e w1 ⟨rfl, hn1⟩
      replace hb0 := hn1.cell hb0
      go_wp2_with (go_at_call 80; refine (C2.out _ hn1).mono ?_; rintro e w2 ⟨rfl, hn2⟩)
      go_ret2
      exact KEY.out 2 w2 _ (hn1.trans hn2) (by rw [HR.out, HA.out, hm]; rfl)
    | true =>
      rw [hm] at C2
      have HM := hid hm
      clear hm
      have HBOK := hid (mon_bok HA.out 401)
      obtain ⟨FEW, hF⟩ : ∃ z, z = monFew a := ⟨_, rfl⟩
      obtain ⟨T, hT⟩ : ∃ z, z = monT a 401 := ⟨_, rfl⟩
      have HFD := hid (show FEW = decide (T.list.length ≤ 400) by rw [hF, hT]; rfl)
      have HE := hid (show R = (if FEW = true then (if findL T.list act < 0 then ([], 6) else (nth T.words (findL T.list act).toNat, 0)) else ([], 3)) by rw [HR.out, if_pos HA.out, if_pos HM.out, hF, hT])
      rw [← hF, ← hT] at C3
      rw [← hT] at HBOK
      clear hF hT
      cases FEW with
      | false =>
        go_enter Try.func27, Try.ntmps27
        go_wp2_with fail
        rw [← hwb]
        refine C1.mono ?_
        rintro e w1 ⟨rfl, hn1⟩
        replace hb0 := hn1.cell hb0
        go_wp2_with (first
          | (go_at_call 80; refine (C2.out _ hn1).mono ?_; rintro e w2 ⟨rfl, hn2⟩)
          | (go_at_call 81; refine (C3.out _ (hn1.trans hn2)).mono ?_; rintro e w3 ⟨r1, r2, rfl, hn3, _⟩))
        go_ret2
        exact KEY.out 3 w3 _ ((hn1.trans hn2).trans hn3) HE.out
      | true =>
        have h4 := of_decide_eq_true HFD.out.symm
        have HLW := hid HBOK.out.lw
        have C4 := hid (fun w3 (v1 : Value) (hrows : RowsAt w3 v1 T.list) (hn : New w w3) => l01Find_any v1 (.slice A act.length c) T.list act w3 hrows (h2.new hn))
        by_cases hf : act ∈ T.list
        · obtain ⟨j, hj, hje, _⟩ := findL_mem hf
          rw [hje] at C4
          have HE2 := hid (show R = (nth T.words j, 0) by rw [HE.out, if_pos rfl, if_neg (by rw [hje]; omega), hje, Int.toNat_natCast])
          have hneg : ¬ ((j : Int) < 0) := by omega
          clear hf hje
          go_enter Try.func27, Try.ntmps27
          go_wp2_with fail
          rw [← hwb]
          refine C1.mono ?_
          rintro e w1 ⟨rfl, hn1⟩
          replace hb0 := hn1.cell hb0
          go_wp2_with (first
            | (go_at_call 80; refine (C2.out _ hn1).mono ?_; rintro e w2 ⟨rfl, hn2⟩)
            | (go_at_call 81; refine (C3.out _ (hn1.trans hn2)).mono ?_; rintro e w3 ⟨r1, r2, rfl, hn3, hG⟩; have hG3 := hG (by trivial); have hn := hnb.trans ((hn1.trans hn2).trans hn3); have hz2 := (hnb.trans (hn1.trans hn2)).size; obtain ⟨hrows1, hrows2⟩ := hG3.rows (by omega) (by rw [HLW.out]; omega))
            | (go_at_call 82; refine (C4.out _ _ hrows1 hn).mono ?_; rintro e w4 ⟨rfl, hn4⟩; obtain ⟨bw, cw, Aw, kw, e2, hw2, hoW⟩ := (hG3.new hn4).row2 j (by rw [HLW.out]; exact hj); subst e2; have k2 : (j : Int) < (T.words.length : Int) := by rw [HLW.out]; omega))
          go_ret2
          rw [HE2.out]
          exact ⟨_, rfl, hn.trans hn4, hoW.1.widen hz2 (Nat.le_refl _)⟩
        · have hje := findL_not hf
          rw [hje] at C4
          have HE2 := hid (show R = ([], 6) by rw [HE.out, if_pos rfl, if_pos (by rw [hje]; decide)])
          clear hf hje
          go_enter Try.func27, Try.ntmps27
          go_wp2_with fail
          rw [← hwb]
          refine C1.mono ?_
          rintro e w1 ⟨rfl, hn1⟩
          replace hb0 := hn1.cell hb0
          go_wp2_with (first
            | (go_at_call 80; refine (C2.out _ hn1).mono ?_; rintro e w2 ⟨rfl, hn2⟩)
            | (go_at_call 81; refine (C3.out _ (hn1.trans hn2)).mono ?_; rintro e w3 ⟨r1, r2, rfl, hn3, hG⟩; have hG3 := hG (by trivial); have hn := (hn1.trans hn2).trans hn3; obtain ⟨hrows1, hrows2⟩ := hG3.rows (by omega) (by rw [HLW.out]; omega))
            | (go_at_call 82; refine (C4.out _ _ hrows1 (hnb.trans hn)).mono ?_; rintro e w4 ⟨rfl, hn4⟩))
          go_ret2
          exact KEY.out 6 w4 _ (hn.trans hn4) HE2.out

end Go.Proofs.Ytcjmcpfdpnakkaa
