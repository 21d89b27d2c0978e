/- The law of ResetColourings answers true. -/
import Derived.Test.YtieonifckmokkaaRows
import Derived.Test.YtieonifckmokkaaCore
import Derived.Test.YtieonifckmokkaaInfos
import Derived.Test.YtieonifckmokkaaPlains
import Derived.Test.YtieonifckmokkaaJoins
import Derived.Test.YtieonifckmokkaaQuicks
import Derived.Test.YtieonifckmokkaaPlainReset
import Derived.Test.YtieonifckmokkaaMaps
import Derived.Test.YtieonifckmokkaaArrs
import Derived.Test.YtieonifckmokkaaSDraw
import Derived.Test.YtieonifckmokkaaSArrs
import Derived.Test.YtieonifckmokkaaSA2
import Derived.Test.YtieonifckmokkaaIReset
import Derived.Test.YtieonifckmokkaaIQuicks
import Derived.Test.YtieonifckmokkaaICol2
import Derived.Test.YtieonifckmokkaaSFirstReset
import Derived.Test.YtieonifckmokkaaLA2
import Derived.WalkKit
import Derived.WalkSpells
import Derived.WalkLawsBesides
import Derived.Deep.QuietTactic
import Derived.Deep.OwnRows
import Derived.BigQuiet
import Derived.KernelRfl
import Derived.Carry
import Derived.Deep.RegionHeld3
namespace Go.Proofs.Ytieonifckmokkaa
open Go.RowKit

theorem reset_colN_no {r : Aut} (hf : RoadsFacts r) (N : Nat) (hw : (colW r N).2 = false) : ShortestReset (colN r N) = ([], 6) := by
  unfold ShortestReset
  rw [if_pos (colN_ok hf N)]
  show told (colW r N) = _
  unfold told
  rw [if_neg (by rw [hw]; simp)]
theorem colCode_none {r : Aut} (hok : roadsOk r = true) (h5 : ¬ 50000 < colCount r) (h : hitTo (colW r) (colCount r) < 0) : FirstReset r = (0, 6) ∧ CountReset r = (0, 0) ∧ QuickestColouring r = (0, [], 6) := by
  have h1 := (quick_neg (colW r) (colCount r)).2 h
  have h2 := (hits_zero (colW r) (colCount r)).2 h
  unfold FirstReset CountReset QuickestColouring
  rw [if_pos hok, if_pos hok, if_pos hok, if_neg h5, if_neg h5, if_neg h5, if_pos h, if_pos h1, h2]
  exact ⟨rfl, rfl, rfl⟩
theorem colCode_some {r : Aut} (hok : roadsOk r = true) (h5 : ¬ 50000 < colCount r) (h : ¬ hitTo (colW r) (colCount r) < 0) : FirstReset r = (hitTo (colW r) (colCount r), 0) ∧ CountReset r = (((hits (colW r) (colCount r) : Nat) : Int), 0) ∧ QuickestColouring r = (quickAt (colW r) (colCount r), (colW r (quickAt (colW r) (colCount r)).toNat).1, 0) := by
  have h1 : ¬ quickAt (colW r) (colCount r) < 0 := fun q => h ((quick_neg (colW r) (colCount r)).1 q)
  unfold FirstReset CountReset QuickestColouring quickWord
  rw [if_pos hok, if_pos hok, if_pos hok, if_neg h5, if_neg h5, if_neg h5, if_neg h, if_neg h1, if_neg h1]
  exact ⟨rfl, rfl, rfl⟩
theorem colCode_big {r : Aut} (hok : roadsOk r = true) (h5 : 50000 < colCount r) : FirstReset r = (0, 3) ∧ CountReset r = (0, 3) ∧ QuickestColouring r = (0, [], 3) := by
  unfold FirstReset CountReset QuickestColouring
  rw [if_pos hok, if_pos hok, if_pos hok, if_pos h5, if_pos h5, if_pos h5]
  exact ⟨rfl, rfl, rfl⟩
theorem colAt_in {v : Value} (r : Aut) (n : Nat) (w : World) (h : AutAt w v r) (hok : roadsOk r = true) (hlt : n < colCount r) :
    Calls Try.prog 18 #[v, .int .i64 n] w fun e w' => ∃ q, e = .returned (.tuple #[q, .int .i64 0]) ∧ New w w' ∧ OwnAut w.heap.size w'.heap.size w' q (colN r n) := by
  have := ColouringAt_any v r n w h hok (by have := colCount_big (roads_facts hok); omega)
  rw [if_pos hlt] at this
  exact this.mono fun e w' ⟨q, he, hn, ho, _⟩ => ⟨q, he, hn, ho hlt⟩
theorem reset_no (v : Value) (r : Aut) (n : Nat) (w : World) (hf : RoadsFacts r) (hb : (colW r n).2 = false) (h : AutAt w v (colN r n)) :
    Calls Try.prog 19 #[v] w fun e w' => ∃ q, e = .returned (.tuple #[q, .int .i64 6]) ∧ New w w' ∧ OwnInts w.heap.size w'.heap.size w' q [] := by
  have := implShortestReset_any v (colN r n) w h
  rw [reset_colN_no hf n hb] at this
  exact this
theorem reset_yes (v : Value) (r : Aut) (n : Nat) (w : World) (hf : RoadsFacts r) (hb : (colW r n).2 = true) (h : AutAt w v (colN r n)) :
    Calls Try.prog 19 #[v] w fun e w' => ∃ q, e = .returned (.tuple #[q, .int .i64 0]) ∧ New w w' ∧ OwnInts w.heap.size w'.heap.size w' q (colW r n).1 := by
  have := implShortestReset_any v (colN r n) w h
  have e := reset_colN hf n hb
  obtain ⟨F, hF⟩ : ∃ F, F = colW r n := ⟨_, rfl⟩
  rw [← hF] at e ⊢
  rw [e] at this
  exact this
set_option maxRecDepth 20000 in
set_option maxHeartbeats 4000000 in
theorem FnResetColourings_any (v1 v2 : Value) (n1 n2 : Nat) (w : World) (h1 : BytesAt w v1 n1) (h2 : BytesAt w v2 n2) :
    Calls Try.prog 3 #[v1, v2] w fun e w' => e = .returned (.bool true) ∧ New w w' := by
  have C0 := a2Long_any v1 v2 n1 n2 w h1 h2
  by_cases hl : 3000 < n1 ∨ 3000 < n2
  · rw [show decide (3000 < n1 ∨ 3000 < n2) = true by simp [hl]] at C0
    clear hl
    go_enter Try.func3, Try.ntmps3
    go_wp2_with (go_at_call 11; refine C0.mono ?_; rintro e w' ⟨rfl, hww⟩; rw [hww]; clear hww w')
    go_ret
    exact ⟨rfl, New.refl _⟩
  · rw [show decide (3000 < n1 ∨ 3000 < n2) = false by simp [hl]] at C0
    have C1 := A2Roads_any v1 n1 w h1
    clear hl
    go_enter Try.func3, Try.ntmps3
    go_wp2_with (go_at_call 11; refine C0.mono ?_; rintro e w' ⟨rfl, hww⟩; rw [hww]; clear hww w')
    refine C1.mono ?_
    rintro e w1 ⟨r1, a, rfl, hn1, ho1, hc1, ha, ha6⟩
    clear C1
    obtain ⟨rv1, rfl, hr1⟩ := ho1
    obtain ⟨A, c, rfl⟩ := hr1.form
    have hok := roadsOf_ok ha (by omega)
    have ho1 : AutAt w1 (.agg #[.int .i64 (roadsOf a).n, .slice A (roadsOf a).nx.length c]) (roadsOf a) := ⟨_, rfl, hr1.at⟩
    clear hr1
    obtain ⟨r, hr⟩ : ∃ r, r = roadsOf a := ⟨_, rfl⟩
    rw [← hr] at hok ho1 hc1 ⊢
    clear ha ha6 hr
    have hf := roads_facts hok
    have hn2 : New w1 (w1.alloc (.cells #[.int .i64 r.n, .slice A r.nx.length c] 26)) := (by repeat (first | with_reducible exact New.refl _ | with_reducible assumption | with_reducible refine New.alloc ?_ _ | with_reducible refine New.drewN ?_ _ | with_reducible refine New.drew ?_ | with_reducible refine New.trans ?_ (by with_reducible assumption)))
    have z0 : (w1.alloc (.cells #[.int .i64 r.n, .slice A r.nx.length c] 26)).cell? ⟨w1.heap.size, 0, none⟩ = some (.int .i64 r.n) := by go_simp
    have z1 : (w1.alloc (.cells #[.int .i64 r.n, .slice A r.nx.length c] 26)).cell? ⟨w1.heap.size, 1, none⟩ = some (.slice A r.nx.length c) := by go_simp
    have HN := hid (show New w (w1.alloc (.cells #[.int .i64 r.n, .slice A r.nx.length c] 26)) from hn1.trans hn2)
    have HC := hid (hc1.new hn2)
    have HA := hid (ho1.new hn2)
    obtain ⟨rb, hrb⟩ : ∃ rb, rb = w1.heap.size := ⟨_, rfl⟩
    obtain ⟨W, hW⟩ : ∃ W, W = w1.alloc (.cells #[.int .i64 r.n, .slice A r.nx.length c] 26) := ⟨_, rfl⟩
    rw [← hW] at z0 z1 HN HC HA
    rw [← hrb] at z0 z1
    have HZ := hid (And.intro z0 z1)
    have HF1 := hid (fun w2 (hn : New W w2) => specFirstResetColouring_any _ r w2 (HC.out.new hn))
    have HF2 := hid (fun w2 (hn : New W w2) => implFirstResetColouring_any _ r w2 (HA.out.new hn))
    have HF3 := hid (fun w2 (hn : New W w2) => implCountResetColourings_any _ r w2 (HA.out.new hn))
    have HF4 := hid (fun w2 (hn : New W w2) => implQuickestColouring_any _ r w2 (HA.out.new hn))
    have HF5 := hid (fun w2 (hn : New W w2) => CountColourings_any _ r w2 (HA.out.new hn) hok)
    have HCA := hid (fun w2 (n : Nat) (hn : New W w2) (hlt : n < colCount r) => colAt_in r n w2 (HA.out.new hn) hok hlt)
    have HSR0 := hid (fun w2 (n : Nat) (v : Value) (hb : (colW r n).2 = false) (h : AutAt w2 v (colN r n)) => reset_no v r n w2 hf hb h)
    have HSR1 := hid (fun w2 (n : Nat) (v : Value) (hb : (colW r n).2 = true) (h : AutAt w2 v (colN r n)) => reset_yes v r n w2 hf hb h)
    clear hn2 ho1 hc1 hn1 HC
    go_wp2_with fail
    rw [← hW, ← hrb]
    clear hW hrb
    by_cases h5 : 50000 < colCount r
    · obtain ⟨e1, e2, e3⟩ := colCode_big hok h5
      rw [e1] at HF1 HF2
      rw [e2] at HF3
      rw [e3] at HF4
      clear e1 e2 e3
      refine (HF1.out _ (New.refl _)).mono ?_
      rintro e w2 ⟨rfl, hn2⟩
      replace z0 := hn2.cell z0
      replace z1 := hn2.cell z1
      go_wp2_with fail
      refine (HF2.out _ hn2).mono ?_
      rintro e w3 ⟨rfl, hn3⟩
      replace z0 := hn3.cell z0
      replace z1 := hn3.cell z1
      replace hn3 := hn2.trans hn3
      go_wp2_with fail
      refine (HF3.out _ hn3).mono ?_
      rintro e w4 ⟨rfl, hn4⟩
      replace z0 := hn4.cell z0
      replace z1 := hn4.cell z1
      replace hn4 := hn3.trans hn4
      go_wp2_with fail
      refine (HF4.out _ hn4).mono ?_
      rintro e w5 ⟨q5, rfl, hn5, ho5⟩
      obtain ⟨A5, c5, rfl⟩ := ho5.form
      replace z0 := hn5.cell z0
      replace z1 := hn5.cell z1
      replace hn5 := hn4.trans hn5
      go_wp2_with fail
      refine (HF5.out _ hn5).mono ?_
      rintro e w6 ⟨rfl, hn6⟩
      replace z0 := hn6.cell z0
      replace z1 := hn6.cell z1
      replace ho5 := ho5.new hn6
      replace hn6 := hn5.trans hn6

      go_wp2_with fail
      go_ret
      exact ⟨rfl, HN.out.trans hn6⟩
    · by_cases hneg : hitTo (colW r) (colCount r) < 0
      · obtain ⟨e1, e2, e3⟩ := colCode_none hok h5 hneg
        rw [e1] at HF1 HF2
        rw [e2] at HF3
        rw [e3] at HF4
        have HM := hid ((hitTo_neg _ _).1 hneg)
        have HOK := hid hok
        have hbig := colCount_big hf
        clear e1 e2 e3
        by_cases h3 : 300 < colCount r
        · have b3 : (300 : Int) < (colCount r : Int) := by omega
          refine (HF1.out _ (New.refl _)).mono ?_
          rintro e w2 ⟨rfl, hn2⟩
          replace z0 := hn2.cell z0
          replace z1 := hn2.cell z1
          go_wp2_with fail
          refine (HF2.out _ hn2).mono ?_
          rintro e w3 ⟨rfl, hn3⟩
          replace z0 := hn3.cell z0
          replace z1 := hn3.cell z1
          replace hn3 := hn2.trans hn3
          go_wp2_with fail
          refine (HF3.out _ hn3).mono ?_
          rintro e w4 ⟨rfl, hn4⟩
          replace z0 := hn4.cell z0
          replace z1 := hn4.cell z1
          replace hn4 := hn3.trans hn4
          go_wp2_with fail
          refine (HF4.out _ hn4).mono ?_
          rintro e w5 ⟨q5, rfl, hn5, ho5⟩
          obtain ⟨A5, c5, rfl⟩ := ho5.form
          replace z0 := hn5.cell z0
          replace z1 := hn5.cell z1
          replace hn5 := hn4.trans hn5
          go_wp2_with fail
          refine (HF5.out _ hn5).mono ?_
          rintro e w6 ⟨rfl, hn6⟩
          replace z0 := hn6.cell z0
          replace z1 := hn6.cell z1
          replace ho5 := ho5.new hn6
          replace hn6 := hn5.trans hn6

          go_wp2_with fail
          go_ret
          exact ⟨rfl, HN.out.trans hn6⟩
        · have b3 : ¬ (300 : Int) < (colCount r : Int) := by omega
          refine (HF1.out _ (New.refl _)).mono ?_
          rintro e w2 ⟨rfl, hn2⟩
          replace z0 := hn2.cell z0
          replace z1 := hn2.cell z1
          go_wp2_with fail
          refine (HF2.out _ hn2).mono ?_
          rintro e w3 ⟨rfl, hn3⟩
          replace z0 := hn3.cell z0
          replace z1 := hn3.cell z1
          replace hn3 := hn2.trans hn3
          go_wp2_with fail
          refine (HF3.out _ hn3).mono ?_
          rintro e w4 ⟨rfl, hn4⟩
          replace z0 := hn4.cell z0
          replace z1 := hn4.cell z1
          replace hn4 := hn3.trans hn4
          go_wp2_with fail
          refine (HF4.out _ hn4).mono ?_
          rintro e w5 ⟨q5, rfl, hn5, ho5⟩
          obtain ⟨A5, c5, rfl⟩ := ho5.form
          replace z0 := hn5.cell z0
          replace z1 := hn5.cell z1
          replace hn5 := hn4.trans hn5
          go_wp2_with fail
          refine (HF5.out _ hn5).mono ?_
          rintro e w6 ⟨rfl, hn6⟩
          replace z0 := hn6.cell z0
          replace z1 := hn6.cell z1
          replace ho5 := ho5.new hn6
          replace hn6 := hn5.trans hn6

          go_wp2_with fail
          obtain ⟨CC, hCC⟩ : ∃ z, z = colCount r := ⟨_, rfl⟩
          rw [← hCC] at HM HCA b3
          rw [← hCC]
          clear HF1 HF2 HF3 HF4 HF5 hCC hneg h5 h3 hbig
          go_loopw [17, 18] (fun fo i wr => ∃ n : Nat, n ≤ CC ∧ fo = .int .i64 0 ∧ i = .int .i64 n ∧ New W wr) (fun _ i _ => CC - (intOf i).toNat)
          case atStart => exact ⟨0, Nat.zero_le _, rfl, rfl, hn6⟩
          case round =>
            obtain ⟨n, hnC, rfl, rfl, hnn⟩ := hrel
            have y0 := hnn.cell HZ.out.1
            have y1 := hnn.cell HZ.out.2
            obtain ⟨wo, rfl⟩ : ∃ wo : World, wo = wr := ⟨_, rfl⟩
            by_cases hlt : n < CC
            · have b1 : (n : Int) < (CC : Int) := by omega
              have hb := HM.out n hlt
              go_wp2_with (first
                | (go_at_call 18; refine (HCA.out _ n hnn hlt).mono ?_; rintro e w7 ⟨q7, he, hn7, ho7⟩; obtain ⟨rv7, rfl, ho8⟩ := ho7; obtain ⟨A7, c7, rfl⟩ := ho8.form; subst he; have ha7 : AutAt _ (.agg #[.int .i64 (colN r n).n, .slice A7 (colN r n).nx.length c7]) (colN r n) := ⟨_, rfl, ho8.at⟩)
                | (go_at_call 19; refine (HSR0.out _ n _ hb (ha7.new (by repeat (first | with_reducible exact New.refl _ | with_reducible assumption | with_reducible refine New.alloc ?_ _ | with_reducible refine New.drewN ?_ _ | with_reducible refine New.drew ?_ | with_reducible refine New.trans ?_ (by with_reducible assumption))))).mono ?_; rintro e w9 ⟨q9, he, hn9, ho9⟩; obtain ⟨A9, c9, rfl⟩ := ho9.form; subst he; have hn79 : New wo w9 := hn7.trans (New.trans (by repeat (first | with_reducible exact New.refl _ | with_reducible assumption | with_reducible refine New.alloc ?_ _ | with_reducible refine New.drewN ?_ _ | with_reducible refine New.drew ?_ | with_reducible refine New.trans ?_ (by with_reducible assumption))) hn9)))
              exact ⟨⟨n + 1, by omega, rfl, by go_num, hnn.trans hn79⟩, by simp [intOf]; omega⟩
            · have e : n = CC := by omega
              have b1 : ¬ (n : Int) < (CC : Int) := by omega
              subst e
              go_wp2_with fail
              go_ret
              exact ⟨rfl, HN.out.trans hnn⟩
      · obtain ⟨e1, e2, e3⟩ := colCode_some hok h5 hneg
        rw [e1] at HF1 HF2
        rw [e2] at HF3
        rw [e3] at HF4
        have HOK := hid hok
        have hbig := colCount_big hf
        clear e1 e2 e3
        by_cases h3 : 300 < colCount r
        · have b3 : (300 : Int) < (colCount r : Int) := by omega
          refine (HF1.out _ (New.refl _)).mono ?_
          rintro e w2 ⟨rfl, hn2⟩
          replace z0 := hn2.cell z0
          replace z1 := hn2.cell z1
          go_wp2_with fail
          refine (HF2.out _ hn2).mono ?_
          rintro e w3 ⟨rfl, hn3⟩
          replace z0 := hn3.cell z0
          replace z1 := hn3.cell z1
          replace hn3 := hn2.trans hn3
          go_wp2_with fail
          refine (HF3.out _ hn3).mono ?_
          rintro e w4 ⟨rfl, hn4⟩
          replace z0 := hn4.cell z0
          replace z1 := hn4.cell z1
          replace hn4 := hn3.trans hn4
          go_wp2_with fail
          refine (HF4.out _ hn4).mono ?_
          rintro e w5 ⟨q5, rfl, hn5, ho5⟩
          obtain ⟨A5, c5, rfl⟩ := ho5.form
          replace z0 := hn5.cell z0
          replace z1 := hn5.cell z1
          replace hn5 := hn4.trans hn5
          go_wp2_with fail
          refine (HF5.out _ hn5).mono ?_
          rintro e w6 ⟨rfl, hn6⟩
          replace z0 := hn6.cell z0
          replace z1 := hn6.cell z1
          replace ho5 := ho5.new hn6
          replace hn6 := hn5.trans hn6

          go_wp2_with fail
          go_ret
          exact ⟨rfl, HN.out.trans hn6⟩
        · have b3 : ¬ (300 : Int) < (colCount r : Int) := by omega
          refine (HF1.out _ (New.refl _)).mono ?_
          rintro e w2 ⟨rfl, hn2⟩
          replace z0 := hn2.cell z0
          replace z1 := hn2.cell z1
          go_wp2_with fail
          refine (HF2.out _ hn2).mono ?_
          rintro e w3 ⟨rfl, hn3⟩
          replace z0 := hn3.cell z0
          replace z1 := hn3.cell z1
          replace hn3 := hn2.trans hn3
          go_wp2_with fail
          refine (HF3.out _ hn3).mono ?_
          rintro e w4 ⟨rfl, hn4⟩
          replace z0 := hn4.cell z0
          replace z1 := hn4.cell z1
          replace hn4 := hn3.trans hn4
          go_wp2_with fail
          refine (HF4.out _ hn4).mono ?_
          rintro e w5 ⟨q5, rfl, hn5, ho5⟩
          obtain ⟨A5, c5, rfl⟩ := ho5.form
          replace z0 := hn5.cell z0
          replace z1 := hn5.cell z1
          replace hn5 := hn4.trans hn5
          go_wp2_with fail
          refine (HF5.out _ hn5).mono ?_
          rintro e w6 ⟨rfl, hn6⟩
          replace z0 := hn6.cell z0
          replace z1 := hn6.cell z1
          replace ho5 := ho5.new hn6
          replace hn6 := hn5.trans hn6

          go_wp2_with fail
          have HP := hid (quickAt_least (colW r) (colCount r))
          have hqr := quickAt_range (colW r) (colCount r)
          have HQ0 := hid (show 0 ≤ quickAt (colW r) (colCount r) by
            rcases Int.lt_or_le (quickAt (colW r) (colCount r)) 0 with q | q
            · exact absurd ((quick_neg (colW r) (colCount r)).1 q) (by omega)
            · exact q)
          have hz0 : 0 < hits (colW r) (colCount r) := by
            rcases Nat.eq_zero_or_pos (hits (colW r) (colCount r)) with q | q
            · exact absurd ((hits_zero (colW r) (colCount r)).1 q) (by omega)
            · exact q
          have HFST := hid (show ∀ n, n < colCount r → (colW r n).2 = true → hits (colW r) n = 0 → hitTo (colW r) (colCount r) = n from fun n hlt hb hz => by
            have h1 := hitTo_yes ((hits_zero (colW r) n).1 hz) hb
            have h2 := hitTo_stay (f := colW r) (n := n + 1) (by omega) (colCount r - (n + 1))
            rw [show n + 1 + (colCount r - (n + 1)) = colCount r by omega] at h2
            omega)
          have HSA := hid (fun (w2 : World) v3 v4 (h3 : IntsAt w2 v3 (colW r (quickAt (colW r) (colCount r)).toNat).1) (h4 : IntsAt w2 v4 (colW r (quickAt (colW r) (colCount r)).toNat).1) => a2Same_any v3 v4 _ _ w2 h3 h4)
          have HLE := hid (hits_le (colW r))
          have HSN := hid (show ∀ n, (colW r n).2 = false → hits (colW r) (n + 1) = hits (colW r) n from fun n h => by show (if _ then _ else _) = _; rw [h]; simp)
          have HSY := hid (show ∀ n, (colW r n).2 = true → hits (colW r) (n + 1) = hits (colW r) n + 1 from fun n h => by show (if _ then _ else _) = _; rw [h]; simp)
          have HWL := hid (show ∀ N, (colW r N).1.length ≤ 1024 from fun N => colW_len hf N)
          obtain ⟨F, hF⟩ : ∃ z, z = colW r := ⟨_, rfl⟩
          rw [← hF] at HP hqr HQ0 hz0 HFST HSA HLE HSN HSY HSR0 HSR1 HWL ho5 hneg
          rw [← hF]
          obtain ⟨CC, hCC⟩ : ∃ z, z = colCount r := ⟨_, rfl⟩
          rw [← hCC] at HP hqr HQ0 hz0 HFST HSA HCA b3 ho5 hneg
          rw [← hCC]
          obtain ⟨FST, hFST⟩ : ∃ z, z = hitTo F CC := ⟨_, rfl⟩
          rw [← hFST] at HFST hneg
          rw [← hFST]
          obtain ⟨QK, hQK⟩ : ∃ z, z = quickAt F CC := ⟨_, rfl⟩
          rw [← hQK] at HP hqr HQ0 HSA ho5
          rw [← hQK]
          obtain ⟨WQ, hWQ⟩ : ∃ z, z = (F QK.toNat).1 := ⟨_, rfl⟩
          have HLQ := HWL.out QK.toNat
          have HWQ := hid hWQ
          rw [← hWQ] at HP HSA ho5 HLQ
          rw [← hWQ]
          rw [show decide (WQ = WQ) = true by simp] at HSA
          clear HF1 HF2 HF3 HF4 HF5 hCC h5 h3 hbig hF hFST hQK hWQ
          have HZ6 := hid (And.intro z0 z1)
          go_loopw [17, 18] (fun fo i wr => ∃ n : Nat, n ≤ CC ∧ fo = .int .i64 (hits F n : Nat) ∧ i = .int .i64 n ∧ New w6 wr) (fun _ i _ => CC - (intOf i).toNat)
          case atStart => exact ⟨0, Nat.zero_le _, rfl, rfl, New.refl _⟩
          case round =>
            obtain ⟨n, hnC, rfl, rfl, hnn⟩ := hrel
            have y0 := hnn.cell HZ6.out.1
            have y1 := hnn.cell HZ6.out.2
            have hzz := hid hz0
            obtain ⟨wo, rfl⟩ : ∃ wo : World, wo = wr := ⟨_, rfl⟩
            by_cases hlt : n < CC
            · have b1 : (n : Int) < (CC : Int) := by omega
              clear hz0
              have hhn := HLE.out n
              have hln := HWL.out n
              cases hb : (F n).2 with
              | false =>
                have HSRn := hid (fun w2 v h => HSR0.out w2 n v hb h)
                have HS := hid (HSN.out n hb)
                obtain ⟨H, hH⟩ : ∃ z, z = hits F n := ⟨_, rfl⟩
                rw [← hH] at HS hhn
                rw [← hH]
                clear hH
                go_wp2_with (first
                  | (go_at_call 18; refine (HCA.out _ n (hn6.trans hnn) hlt).mono ?_; rintro e w7 ⟨q7, he, hn7, ho7⟩; obtain ⟨rv7, rfl, ho8⟩ := ho7; obtain ⟨A7, c7, rfl⟩ := ho8.form; subst he; have ha7 : AutAt _ (.agg #[.int .i64 (colN r n).n, .slice A7 (colN r n).nx.length c7]) (colN r n) := ⟨_, rfl, ho8.at⟩)
                  | (go_at_call 19; refine (HSRn.out _ _ (ha7.new (by repeat (first | with_reducible exact New.refl _ | with_reducible assumption | with_reducible refine New.alloc ?_ _ | with_reducible refine New.drewN ?_ _ | with_reducible refine New.drew ?_ | with_reducible refine New.trans ?_ (by with_reducible assumption))))).mono ?_; rintro e w9 ⟨q9, he, hn9, ho9⟩; obtain ⟨A9, c9, rfl⟩ := ho9.form; subst he; have hn79 : New wo w9 := hn7.trans (New.trans (by repeat (first | with_reducible exact New.refl _ | with_reducible assumption | with_reducible refine New.alloc ?_ _ | with_reducible refine New.drewN ?_ _ | with_reducible refine New.drew ?_ | with_reducible refine New.trans ?_ (by with_reducible assumption))) hn9)))
                exact ⟨⟨n + 1, by omega, by rw [HS.out], by go_num, hnn.trans hn79⟩, by simp [intOf]; omega⟩
              | true =>
                have HSRn := hid (fun w2 v h => HSR1.out w2 n v hb h)
                have HS := hid (HSY.out n hb)
                obtain ⟨_, hp⟩ := HP.out n hlt hb
                have hfst := HFST.out n hlt hb
                have hqe : (n : Int) = QK → (F n).1 = WQ := fun e => by rw [HWQ.out, ← e]; simp
                obtain ⟨WN, hWN⟩ : ∃ z, z = (F n).1 := ⟨_, rfl⟩
                rw [← hWN] at HSRn hp hln hqe
                obtain ⟨H, hH⟩ : ∃ z, z = hits F n := ⟨_, rfl⟩
                rw [← hH] at HS hhn hfst
                rw [← hH]
                have hll : ¬ (WN.length : Int) < (WQ.length : Int) := by omega
                have hle : WN.length = WQ.length → ¬ (n : Int) < QK := by omega
                clear hH hWN hb hp HP HFST
                by_cases hz : H = 0
                · subst hz
                  have hf2 : FST = (n : Int) := hfst rfl
                  subst hf2
                  clear hfst
                  by_cases hq : (n : Int) = QK
                  · have hwe := hqe hq
                    subst hq hwe
                    clear hqe hle
                    go_wp2_with (first
                      | (go_at_call 18; refine (HCA.out _ n (hn6.trans hnn) hlt).mono ?_; rintro e w7 ⟨q7, he, hn7, ho7⟩; obtain ⟨rv7, rfl, ho8⟩ := ho7; obtain ⟨A7, c7, rfl⟩ := ho8.form; subst he; have ha7 : AutAt _ (.agg #[.int .i64 (colN r n).n, .slice A7 (colN r n).nx.length c7]) (colN r n) := ⟨_, rfl, ho8.at⟩)
                      | (go_at_call 19; refine (HSRn.out _ _ (ha7.new (by repeat (first | with_reducible exact New.refl _ | with_reducible assumption | with_reducible refine New.alloc ?_ _ | with_reducible refine New.drewN ?_ _ | with_reducible refine New.drew ?_ | with_reducible refine New.trans ?_ (by with_reducible assumption))))).mono ?_; rintro e w9 ⟨q9, he, hn9, ho9⟩; obtain ⟨A9, c9, rfl⟩ := ho9.form; subst he; have hn79 : New wo w9 := hn7.trans (New.trans (by repeat (first | with_reducible exact New.refl _ | with_reducible assumption | with_reducible refine New.alloc ?_ _ | with_reducible refine New.drewN ?_ _ | with_reducible refine New.drew ?_ | with_reducible refine New.trans ?_ (by with_reducible assumption))) hn9))
                      | (go_at_call 20; refine (HSA.out _ _ _ ho9.at (ho5.at.new (hnn.trans (hn79.trans (by repeat (first | with_reducible exact New.refl _ | with_reducible assumption | with_reducible refine New.alloc ?_ _ | with_reducible refine New.drewN ?_ _ | with_reducible refine New.drew ?_ | with_reducible refine New.trans ?_ (by with_reducible assumption))))))).mono ?_; rintro e w10 ⟨rfl, hn10⟩))
                    exact ⟨⟨n + 1, by omega, by rw [HS.out]; go_num, by go_num, (hnn.trans hn79).trans (New.trans (by repeat (first | with_reducible exact New.refl _ | with_reducible assumption | with_reducible refine New.alloc ?_ _ | with_reducible refine New.drewN ?_ _ | with_reducible refine New.drew ?_ | with_reducible refine New.trans ?_ (by with_reducible assumption))) hn10)⟩, by simp [intOf]; omega⟩
                  · have hqb : ((n : Int) == QK) = false := by simpa using hq
                    by_cases hl2 : WN.length = WQ.length
                    · have hl3 := hle hl2
                      have hl4 : ((WN.length : Int) == (WQ.length : Int)) = true := by simp; omega
                      have hl5 : ((WN.length) == (WQ.length)) = true := by simp; omega
                      clear hqe hle hl2 hq
                      go_wp2_with (first
                        | (go_at_call 18; refine (HCA.out _ n (hn6.trans hnn) hlt).mono ?_; rintro e w7 ⟨q7, he, hn7, ho7⟩; obtain ⟨rv7, rfl, ho8⟩ := ho7; obtain ⟨A7, c7, rfl⟩ := ho8.form; subst he; have ha7 : AutAt _ (.agg #[.int .i64 (colN r n).n, .slice A7 (colN r n).nx.length c7]) (colN r n) := ⟨_, rfl, ho8.at⟩)
                        | (go_at_call 19; refine (HSRn.out _ _ (ha7.new (by repeat (first | with_reducible exact New.refl _ | with_reducible assumption | with_reducible refine New.alloc ?_ _ | with_reducible refine New.drewN ?_ _ | with_reducible refine New.drew ?_ | with_reducible refine New.trans ?_ (by with_reducible assumption))))).mono ?_; rintro e w9 ⟨q9, he, hn9, ho9⟩; obtain ⟨A9, c9, rfl⟩ := ho9.form; subst he; have hn79 : New wo w9 := hn7.trans (New.trans (by repeat (first | with_reducible exact New.refl _ | with_reducible assumption | with_reducible refine New.alloc ?_ _ | with_reducible refine New.drewN ?_ _ | with_reducible refine New.drew ?_ | with_reducible refine New.trans ?_ (by with_reducible assumption))) hn9)))
                      exact ⟨⟨n + 1, by omega, by rw [HS.out]; go_num, by go_num, (hnn.trans hn79)⟩, by simp [intOf]; omega⟩
                    · have hl4 : ((WN.length : Int) == (WQ.length : Int)) = false := by simp; omega
                      have hl5 : ((WN.length) == (WQ.length)) = false := by simp; omega
                      clear hqe hle hl2 hq
                      go_wp2_with (first
                        | (go_at_call 18; refine (HCA.out _ n (hn6.trans hnn) hlt).mono ?_; rintro e w7 ⟨q7, he, hn7, ho7⟩; obtain ⟨rv7, rfl, ho8⟩ := ho7; obtain ⟨A7, c7, rfl⟩ := ho8.form; subst he; have ha7 : AutAt _ (.agg #[.int .i64 (colN r n).n, .slice A7 (colN r n).nx.length c7]) (colN r n) := ⟨_, rfl, ho8.at⟩)
                        | (go_at_call 19; refine (HSRn.out _ _ (ha7.new (by repeat (first | with_reducible exact New.refl _ | with_reducible assumption | with_reducible refine New.alloc ?_ _ | with_reducible refine New.drewN ?_ _ | with_reducible refine New.drew ?_ | with_reducible refine New.trans ?_ (by with_reducible assumption))))).mono ?_; rintro e w9 ⟨q9, he, hn9, ho9⟩; obtain ⟨A9, c9, rfl⟩ := ho9.form; subst he; have hn79 : New wo w9 := hn7.trans (New.trans (by repeat (first | with_reducible exact New.refl _ | with_reducible assumption | with_reducible refine New.alloc ?_ _ | with_reducible refine New.drewN ?_ _ | with_reducible refine New.drew ?_ | with_reducible refine New.trans ?_ (by with_reducible assumption))) hn9)))
                      exact ⟨⟨n + 1, by omega, by rw [HS.out]; go_num, by go_num, (hnn.trans hn79)⟩, by simp [intOf]; omega⟩
                · have hz2 : ((H : Int) + 1 == 1) = false := by simp; omega
                  have hwr : IntKind.i64.wrap ((H : Int) + 1) = (H : Int) + 1 := IntWalk.i64_in _ (by omega)
                  clear hfst hz
                  by_cases hq : (n : Int) = QK
                  · have hwe := hqe hq
                    subst hq hwe
                    clear hqe hle
                    go_wp2_with (first
                      | (go_at_call 18; refine (HCA.out _ n (hn6.trans hnn) hlt).mono ?_; rintro e w7 ⟨q7, he, hn7, ho7⟩; obtain ⟨rv7, rfl, ho8⟩ := ho7; obtain ⟨A7, c7, rfl⟩ := ho8.form; subst he; have ha7 : AutAt _ (.agg #[.int .i64 (colN r n).n, .slice A7 (colN r n).nx.length c7]) (colN r n) := ⟨_, rfl, ho8.at⟩)
                      | (go_at_call 19; refine (HSRn.out _ _ (ha7.new (by repeat (first | with_reducible exact New.refl _ | with_reducible assumption | with_reducible refine New.alloc ?_ _ | with_reducible refine New.drewN ?_ _ | with_reducible refine New.drew ?_ | with_reducible refine New.trans ?_ (by with_reducible assumption))))).mono ?_; rintro e w9 ⟨q9, he, hn9, ho9⟩; obtain ⟨A9, c9, rfl⟩ := ho9.form; subst he; have hn79 : New wo w9 := hn7.trans (New.trans (by repeat (first | with_reducible exact New.refl _ | with_reducible assumption | with_reducible refine New.alloc ?_ _ | with_reducible refine New.drewN ?_ _ | with_reducible refine New.drew ?_ | with_reducible refine New.trans ?_ (by with_reducible assumption))) hn9))
                      | (go_at_call 20; refine (HSA.out _ _ _ ho9.at (ho5.at.new (hnn.trans (hn79.trans (by repeat (first | with_reducible exact New.refl _ | with_reducible assumption | with_reducible refine New.alloc ?_ _ | with_reducible refine New.drewN ?_ _ | with_reducible refine New.drew ?_ | with_reducible refine New.trans ?_ (by with_reducible assumption))))))).mono ?_; rintro e w10 ⟨rfl, hn10⟩))
                    exact ⟨⟨n + 1, by omega, by rw [HS.out]; go_num, by go_num, (hnn.trans hn79).trans (New.trans (by repeat (first | with_reducible exact New.refl _ | with_reducible assumption | with_reducible refine New.alloc ?_ _ | with_reducible refine New.drewN ?_ _ | with_reducible refine New.drew ?_ | with_reducible refine New.trans ?_ (by with_reducible assumption))) hn10)⟩, by simp [intOf]; omega⟩
                  · have hqb : ((n : Int) == QK) = false := by simpa using hq
                    by_cases hl2 : WN.length = WQ.length
                    · have hl3 := hle hl2
                      have hl4 : ((WN.length : Int) == (WQ.length : Int)) = true := by simp; omega
                      have hl5 : ((WN.length) == (WQ.length)) = true := by simp; omega
                      clear hqe hle hl2 hq
                      go_wp2_with (first
                        | (go_at_call 18; refine (HCA.out _ n (hn6.trans hnn) hlt).mono ?_; rintro e w7 ⟨q7, he, hn7, ho7⟩; obtain ⟨rv7, rfl, ho8⟩ := ho7; obtain ⟨A7, c7, rfl⟩ := ho8.form; subst he; have ha7 : AutAt _ (.agg #[.int .i64 (colN r n).n, .slice A7 (colN r n).nx.length c7]) (colN r n) := ⟨_, rfl, ho8.at⟩)
                        | (go_at_call 19; refine (HSRn.out _ _ (ha7.new (by repeat (first | with_reducible exact New.refl _ | with_reducible assumption | with_reducible refine New.alloc ?_ _ | with_reducible refine New.drewN ?_ _ | with_reducible refine New.drew ?_ | with_reducible refine New.trans ?_ (by with_reducible assumption))))).mono ?_; rintro e w9 ⟨q9, he, hn9, ho9⟩; obtain ⟨A9, c9, rfl⟩ := ho9.form; subst he; have hn79 : New wo w9 := hn7.trans (New.trans (by repeat (first | with_reducible exact New.refl _ | with_reducible assumption | with_reducible refine New.alloc ?_ _ | with_reducible refine New.drewN ?_ _ | with_reducible refine New.drew ?_ | with_reducible refine New.trans ?_ (by with_reducible assumption))) hn9)))
                      exact ⟨⟨n + 1, by omega, by rw [HS.out]; go_num, by go_num, (hnn.trans hn79)⟩, by simp [intOf]; omega⟩
                    · have hl4 : ((WN.length : Int) == (WQ.length : Int)) = false := by simp; omega
                      have hl5 : ((WN.length) == (WQ.length)) = false := by simp; omega
                      clear hqe hle hl2 hq
                      go_wp2_with (first
                        | (go_at_call 18; refine (HCA.out _ n (hn6.trans hnn) hlt).mono ?_; rintro e w7 ⟨q7, he, hn7, ho7⟩; obtain ⟨rv7, rfl, ho8⟩ := ho7; obtain ⟨A7, c7, rfl⟩ := ho8.form; subst he; have ha7 : AutAt _ (.agg #[.int .i64 (colN r n).n, .slice A7 (colN r n).nx.length c7]) (colN r n) := ⟨_, rfl, ho8.at⟩)
                        | (go_at_call 19; refine (HSRn.out _ _ (ha7.new (by repeat (first | with_reducible exact New.refl _ | with_reducible assumption | with_reducible refine New.alloc ?_ _ | with_reducible refine New.drewN ?_ _ | with_reducible refine New.drew ?_ | with_reducible refine New.trans ?_ (by with_reducible assumption))))).mono ?_; rintro e w9 ⟨q9, he, hn9, ho9⟩; obtain ⟨A9, c9, rfl⟩ := ho9.form; subst he; have hn79 : New wo w9 := hn7.trans (New.trans (by repeat (first | with_reducible exact New.refl _ | with_reducible assumption | with_reducible refine New.alloc ?_ _ | with_reducible refine New.drewN ?_ _ | with_reducible refine New.drew ?_ | with_reducible refine New.trans ?_ (by with_reducible assumption))) hn9)))
                      exact ⟨⟨n + 1, by omega, by rw [HS.out]; go_num, by go_num, (hnn.trans hn79)⟩, by simp [intOf]; omega⟩
            · have e : n = CC := by omega
              have b1 : ¬ (n : Int) < (CC : Int) := by omega
              subst e
              have b2 : (0 : Int) < (hits F n : Int) := by omega
              go_wp2_with fail
              go_ret
              exact ⟨rfl, HN.out.trans (hn6.trans hnn)⟩

end Go.Proofs.Ytieonifckmokkaa
