/- The reference's first colouring that can be reset. -/
import Derived.Test.YtieonifckmokkaaRows
import Derived.Test.YtieonifckmokkaaCore
import Derived.Test.YtieonifckmokkaaInfos
import Derived.Test.YtieonifckmokkaaPlains
import Derived.Test.YtieonifckmokkaaJoins
import Derived.Test.YtieonifckmokkaaQuicks
import Derived.Test.YtieonifckmokkaaPlainReset
import Derived.Test.YtieonifckmokkaaMaps
import Derived.Test.YtieonifckmokkaaSWalks
import Derived.Test.YtieonifckmokkaaArrs
import Derived.Test.YtieonifckmokkaaSBase
import Derived.Test.YtieonifckmokkaaS05a
import Derived.Test.YtieonifckmokkaaSArrs
import Derived.Test.YtieonifckmokkaaSQuick
import Derived.WalkKit
import Derived.WalkSpells
import Derived.WalkLawsBesides
import Derived.Deep.QuietTactic
import Derived.Deep.OwnRows
import Derived.BigQuiet
import Derived.KernelRfl
import Derived.Deep.RegionHeld3
namespace Go.Proofs.Ytieonifckmokkaa
open Go.RowKit

set_option maxRecDepth 20000 in
set_option maxHeartbeats 2000000 in
theorem l05First_any (cv : Value) (r : Aut) (w : World) (hf : RoadsFacts r) (hL : ListAt RowsAt w cv (choicesOf r)) :
    Calls Try.prog 65 #[cv] w fun e w' => e = .returned (.int .i64 (hitTo (colW r) (colCount r))) ∧ New w w' := by
  have hcl := choices_len r
  have HCNT := hid (fun (w1 : World) cv (hc : ListAt RowsAt w1 cv (choicesOf r)) => (show Calls Try.prog 143 #[cv] w1 fun e w' => e = .returned (.int .i64 (colCount r : Nat)) ∧ w' = w1 by
    have := l05Count_any cv (choicesOf r) w1 hc (fun p hp => choices_six hf p hp) (by rw [hcl]; exact hf.n7)
    rw [hcl] at this; exact this))
  have HAT := hid (fun (w1 : World) cv (N : Nat) (hc : ListAt RowsAt w1 cv (choicesOf r)) (hN : N ≤ 4611686018427387904) => refAt_any cv r N w1 hc hf hN)
  have HFU := hid (fun (w1 : World) p (N : Nat) (hp : PAut w1 p (colN r N)) => l02Full_any p (colN r N) w1 hp (by have := autOk_n (colN_ok hf N); omega) (autOk_n (colN_ok hf N)).2)
  obtain ⟨F, hFF⟩ : ∃ z, z = colW r := ⟨_, rfl⟩
  have HSH := hid (show ∀ (w1 : World) (p : Value) (N : Nat), PAut w1 p (colN r N) → Calls Try.prog 145 #[p, .int .i64 (full (colN r N).n : Nat)] w1 fun e w' => ∃ q, e = .returned (.tuple #[q, .bool (F N).2]) ∧ New w1 w' ∧ OwnInts w1.heap.size w'.heap.size w' q (F N).1 from fun w1 p N hp => by
    rw [hFF]
    exact l02Shrink_any p (colN r N) (full (colN r N).n) w1 hp (colN_ok hf N) (full_lt _))
  have hbig := colCount_big hf
  obtain ⟨CC, hCC⟩ : ∃ z, z = colCount r := ⟨_, rfl⟩
  rw [← hCC] at HCNT hbig ⊢
  rw [← hFF]
  clear hf hcl hFF hCC
  obtain ⟨AC, cC, hcf, _⟩ := id hL
  subst hcf
  go_enter Try.func65, Try.ntmps65
  go_wp2_with fail
  go_loopw [3] (fun i wr => ∃ n : Nat, n ≤ CC ∧ i = .int .i64 n ∧ New w wr ∧ Hid (hitTo F n < 0)) (fun i _ => CC - (intOf i).toNat)
  case atStart => exact ⟨0, Nat.zero_le _, rfl, New.refl _, hid (by simp [hitTo])⟩
  case round =>
    obtain ⟨n, hnC, rfl, hnn, hneg⟩ := hrel
    obtain ⟨wo, rfl⟩ : ∃ wo : World, wo = wr := ⟨_, rfl⟩
    have hL2 := ListAt.new (R := RowsAt) (fun h hn => h.new hn) hL hnn
    by_cases hlt : n < CC
    · have b1 : (n : Int) < (CC : Int) := by omega
      have HAn := hid (fun (w2 : World) (hn : New wo w2) => HAT.out w2 (.slice AC (choicesOf r).length cC) n (ListAt.new (R := RowsAt) (fun h hn => h.new hn) hL2 hn) (by omega))
      have HSn := hid (fun w2 p (hp : PAut w2 p (colN r n)) => HSH.out w2 p n hp)
      cases hb : (F n).2 with
      | false =>
        rw [hb] at HSn
        have HN := hid (show hitTo F (n + 1) < 0 by rw [hitTo_no hb]; exact hneg.out)
        clear hb
        go_wp2_with (first
          | (go_at_call 143; refine (HCNT.out _ _ hL2).mono ?_; rintro e w' ⟨rfl, hww⟩; rw [hww]; clear hww w')
          | (go_at_call 144; refine (HAn.out _ (by repeat (first | with_reducible exact New.refl _ | with_reducible assumption | with_reducible refine New.alloc ?_ _ | with_reducible refine New.drewN ?_ _ | with_reducible refine New.drew ?_ | with_reducible refine New.trans ?_ (by with_reducible assumption)))).mono ?_; rintro e w3 ⟨r3, he, hn3, ho3⟩; obtain ⟨rv3, rfl, ho4⟩ := ho3; obtain ⟨A3, c3, rfl⟩ := ho4.form; subst he; have hp3 : PAut _ _ (colN r n) := PAut.box (a := colN r n) ho4.at 34)
          | (go_at_call 146; refine (HFU.out _ _ n hp3).mono ?_; rintro e w' ⟨rfl, hww⟩; rw [hww]; clear hww w')
          | (go_at_call 145; refine (HSn.out _ _ hp3).mono ?_; rintro e w5 ⟨q5, he, hn5, ho5⟩; obtain ⟨A5, c5, rfl⟩ := ho5.form; subst he))
        have hn5w : New wo w5 := (by repeat (first | with_reducible exact New.refl _ | with_reducible assumption | with_reducible refine New.alloc ?_ _ | with_reducible refine New.drewN ?_ _ | with_reducible refine New.drew ?_ | with_reducible refine New.trans ?_ (by with_reducible assumption)))
        refine ⟨⟨n + 1, by omega, by go_num, hnn.trans hn5w, HN⟩, ?_⟩
        simp [intOf]; omega
      | true =>
        rw [hb] at HSn
        have HY := hid (show hitTo F CC = n by
          have h1 := hitTo_yes hneg.out hb
          have h2 := hitTo_stay (f := F) (n := n + 1) (by omega) (CC - (n + 1))
          rw [show n + 1 + (CC - (n + 1)) = CC by omega] at h2
          omega)
        clear hb
        go_wp2_with (first
          | (go_at_call 143; refine (HCNT.out _ _ hL2).mono ?_; rintro e w' ⟨rfl, hww⟩; rw [hww]; clear hww w')
          | (go_at_call 144; refine (HAn.out _ (by repeat (first | with_reducible exact New.refl _ | with_reducible assumption | with_reducible refine New.alloc ?_ _ | with_reducible refine New.drewN ?_ _ | with_reducible refine New.drew ?_ | with_reducible refine New.trans ?_ (by with_reducible assumption)))).mono ?_; rintro e w3 ⟨r3, he, hn3, ho3⟩; obtain ⟨rv3, rfl, ho4⟩ := ho3; obtain ⟨A3, c3, rfl⟩ := ho4.form; subst he; have hp3 : PAut _ _ (colN r n) := PAut.box (a := colN r n) ho4.at 34)
          | (go_at_call 146; refine (HFU.out _ _ n hp3).mono ?_; rintro e w' ⟨rfl, hww⟩; rw [hww]; clear hww w')
          | (go_at_call 145; refine (HSn.out _ _ hp3).mono ?_; rintro e w5 ⟨q5, he, hn5, ho5⟩; obtain ⟨A5, c5, rfl⟩ := ho5.form; subst he))
        go_ret
        rw [HY.out]
        have hn5w : New wo w5 := (by repeat (first | with_reducible exact New.refl _ | with_reducible assumption | with_reducible refine New.alloc ?_ _ | with_reducible refine New.drewN ?_ _ | with_reducible refine New.drew ?_ | with_reducible refine New.trans ?_ (by with_reducible assumption)))
        exact ⟨rfl, hnn.trans hn5w⟩
    · have e : n = CC := by omega
      have b1 : ¬ (n : Int) < (CC : Int) := by omega
      subst e
      have HE := hid (show hitTo F n = -1 by have := hitTo_range F n; have := hneg.out; omega)
      go_wp2_with (go_at_call 143; refine (HCNT.out _ _ hL2).mono ?_; rintro e w' ⟨rfl, hww⟩; rw [hww]; clear hww w')
      go_ret
      rw [HE.out]
      exact ⟨rfl, hnn⟩
set_option maxRecDepth 20000 in
set_option maxHeartbeats 2000000 in
theorem specFirstResetColouring_any (v : Value) (r : Aut) (w : World) (h : CapAut w v r) :
    Calls Try.prog 13 #[v] w fun e w' => e = .returned (.tuple #[.int .i64 (FirstReset r).1, .int .i64 (FirstReset r).2]) ∧ New w w' := by
  obtain ⟨rv, rfl, hcr⟩ := h
  have hr := hcr.rows
  obtain ⟨A, c, rfl⟩ := hr.form
  obtain ⟨wb, hwb⟩ : ∃ wb, wb = w.alloc (.cells #[.int .i64 r.n, .slice A r.nx.length c] 26) := ⟨_, rfl⟩
  have hnb : New w wb := by rw [hwb]; exact (by repeat (first | with_reducible exact New.refl _ | with_reducible assumption | with_reducible refine New.alloc ?_ _ | with_reducible refine New.drewN ?_ _ | with_reducible refine New.drew ?_ | with_reducible refine New.trans ?_ (by with_reducible assumption)))
  have hb0 : wb.cell? ⟨w.heap.size, 0, none⟩ = some (.int .i64 r.n) := by rw [hwb]; go_simp
  have hb1 : wb.cell? ⟨w.heap.size, 1, none⟩ = some (.slice A r.nx.length c) := by rw [hwb]; go_simp
  have C1 := l05Many_any w.heap.size A c r wb hb0 hb1 (hcr.new hnb)
  obtain ⟨R, hR⟩ : ∃ R, R = FirstReset r := ⟨_, rfl⟩
  rw [← hR]
  unfold FirstReset at hR
  have HR := hid hR
  clear hR
  by_cases hok : roadsOk r = true
  · rw [if_pos hok] at C1
    by_cases h5 : 50000 < colCount r
    · rw [if_pos h5] at C1
      have HE := hid (show R = (0, 3) by rw [HR.out, if_pos hok, if_pos h5])
      clear hok h5
      go_enter Try.func13, Try.ntmps13
      go_wp2_with fail
      rw [← hwb]
      clear hwb
      refine C1.mono ?_
      rintro e w1 ⟨rc, rfl, hn1, _⟩
      go_wp2_with fail
      go_ret2
      rw [HE.out]
      exact ⟨rfl, hnb.trans hn1⟩
    · rw [if_neg h5] at C1
      have hf := roads_facts hok
      have C2 := hid (fun w1 cv (hL : ListAt RowsAt w1 cv (choicesOf r)) => l05First_any cv r w1 hf hL)
      have HOK := hid hok
      have H5 := hid h5
      have HE0 := hid (show R = (if hitTo (colW r) (colCount r) < 0 then (0, 6) else (hitTo (colW r) (colCount r), 0)) by rw [HR.out, if_pos hok, if_neg h5])
      obtain ⟨Q, hQ⟩ : ∃ z, z = hitTo (colW r) (colCount r) := ⟨_, rfl⟩
      rw [← hQ] at C2 HE0
      clear hok h5 hf hQ
      by_cases hq : Q < 0
      · have HE := hid (show R = (0, 6) by rw [HE0.out, if_pos hq])
        go_enter Try.func13, Try.ntmps13
        go_wp2_with fail
        rw [← hwb]
        clear hwb
        refine C1.mono ?_
        rintro e w1 ⟨rc, rfl, hn1, hL⟩
        have hL1 := hL HOK.out H5.out
        go_wp2_with fail
        refine (C2.out _ _ hL1).mono ?_
        rintro e w2 ⟨rfl, hn2⟩
        go_wp2_with fail
        go_ret2
        rw [HE.out]
        exact ⟨rfl, (hnb.trans hn1).trans hn2⟩
      · have HE := hid (show R = (Q, 0) by rw [HE0.out, if_neg hq])
        go_enter Try.func13, Try.ntmps13
        go_wp2_with fail
        rw [← hwb]
        clear hwb
        refine C1.mono ?_
        rintro e w1 ⟨rc, rfl, hn1, hL⟩
        have hL1 := hL HOK.out H5.out
        go_wp2_with fail
        refine (C2.out _ _ hL1).mono ?_
        rintro e w2 ⟨rfl, hn2⟩
        go_wp2_with fail
        go_ret2
        rw [HE.out]
        exact ⟨rfl, (hnb.trans hn1).trans hn2⟩
  · rw [if_neg hok] at C1
    have HE := hid (show R = (0, 1) by rw [HR.out, if_neg hok])
    clear hok
    go_enter Try.func13, Try.ntmps13
    go_wp2_with fail
    rw [← hwb]
    clear hwb
    refine C1.mono ?_
    rintro e w1 ⟨rc, rfl, hn1, _⟩
    go_wp2_with fail
    go_ret2
    rw [HE.out]
    exact ⟨rfl, hnb.trans hn1⟩

end Go.Proofs.Ytieonifckmokkaa
