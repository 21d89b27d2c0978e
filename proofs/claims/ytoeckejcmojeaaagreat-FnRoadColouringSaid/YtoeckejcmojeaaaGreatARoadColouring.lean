/- The law of RoadColouring answers true: joined roads have a colouring whose rank is their period, and none with a lesser rank. -/
import Derived.Test.YtoeckejcmojeaaaGreatRows
import Derived.Test.YtoeckejcmojeaaaGreatCore
import Derived.Test.YtoeckejcmojeaaaGreatInfos
import Derived.Test.YtoeckejcmojeaaaGreatPlains
import Derived.Test.YtoeckejcmojeaaaGreatJoins
import Derived.Test.YtoeckejcmojeaaaGreatPers
import Derived.Test.YtoeckejcmojeaaaGreatQuicks
import Derived.Test.YtoeckejcmojeaaaGreatPlainReset
import Derived.Test.YtoeckejcmojeaaaGreatPOrds
import Derived.Test.YtoeckejcmojeaaaGreatPMerg
import Derived.Test.YtoeckejcmojeaaaGreatPKerns
import Derived.Test.YtoeckejcmojeaaaGreatPTrah
import Derived.Test.YtoeckejcmojeaaaGreatMaps
import Derived.Test.YtoeckejcmojeaaaGreatArrs
import Derived.Test.YtoeckejcmojeaaaGreatSDraw
import Derived.Test.YtoeckejcmojeaaaGreatSArrs
import Derived.Test.YtoeckejcmojeaaaGreatSA2
import Derived.Test.YtoeckejcmojeaaaGreatITours
import Derived.Test.YtoeckejcmojeaaaGreatIQuicks
import Derived.Test.YtoeckejcmojeaaaGreatICol2
import Derived.Test.YtoeckejcmojeaaaGreatLA2
import Derived.Test.YtoeckejcmojeaaaGreatIPers
import Derived.Test.YtoeckejcmojeaaaGreatILrk
import Derived.Test.YtoeckejcmojeaaaGreatSLrk
import Derived.WalkKit
import Derived.WalkSpells
import Derived.WalkLawsBesides
import Derived.Deep.QuietTactic
import Derived.Deep.OwnRows
import Derived.BigQuiet
import Derived.KernelRfl
import Derived.Carry
import Derived.Deep.RegionHeld3
namespace Go.Proofs.YtoeckejcmojeaaaGreat
open Go.RowKit

theorem colAt_lrk {v : Value} (r : Aut) (n : Nat) (w : World) (h : AutAt w v r) (hok : roadsOk r = true) (hlt : n < colCount r) :
    Calls Tryz.prog 25 #[v, .int .i64 n] w fun e w' => ∃ q, e = .returned (.tuple #[q, .int .i64 0]) ∧ New w w' ∧ OwnAut w.heap.size w'.heap.size w' q (colN r n) := by
  have := ColouringAt_any v r n w h hok (by have := colCount_big (roads_facts hok); omega)
  rw [if_pos hlt] at this
  exact this.mono fun e w' ⟨q, he, hn, ho, _⟩ => ⟨q, he, hn, ho hlt⟩
set_option maxRecDepth 20000 in
set_option maxHeartbeats 4000000 in
theorem FnRoadColouring_any (v1 v2 : Value) (n1 n2 : Nat) (w : World) (h1 : BytesAt w v1 n1) (h2 : BytesAt w v2 n2) :
    Calls Tryz.prog 4 #[v1, v2] w fun e w' => e = .returned (.bool true) ∧ New w w' := by
  have C0 := a2Long_any v1 v2 n1 n2 w h1 h2
  by_cases hl : 3000 < n1 ∨ 3000 < n2
  · rw [show decide (3000 < n1 ∨ 3000 < n2) = true by simp [hl]] at C0
    clear hl
    go_enter Tryz.func4, Tryz.ntmps4
    go_wp2_with (go_at_call 19; refine C0.mono ?_; rintro e w' ⟨rfl, hww⟩; rw [hww]; clear hww w')
    go_ret
    exact ⟨rfl, New.refl _⟩
  · rw [show decide (3000 < n1 ∨ 3000 < n2) = false by simp [hl]] at C0
    have C1 := A2Roads_any v1 n1 w h1
    clear hl
    go_enter Tryz.func4, Tryz.ntmps4
    go_wp2_with (go_at_call 19; refine C0.mono ?_; rintro e w' ⟨rfl, hww⟩; rw [hww]; clear hww w')
    refine C1.mono ?_
    rintro e w1 ⟨r1, a, rfl, hn1, ho1, hc1, ha, ha6⟩
    clear C1
    obtain ⟨rv1, rfl, hr1⟩ := ho1
    obtain ⟨A, c, rfl⟩ := hr1.form
    have hok := roadsOf_ok ha (by omega)
    have ho1 : AutAt w1 (.agg #[.int .i64 (roadsOf a).n, .slice A (roadsOf a).nx.length c]) (roadsOf a) := ⟨_, rfl, hr1.at⟩
    clear hr1
    obtain ⟨r, hr⟩ : ∃ r, r = roadsOf a := ⟨_, rfl⟩
    rw [← hr] at hok ho1 hc1 ⊢
    clear ha ha6 hr
    have hf := roads_facts hok
    have hn2 : New w1 (w1.alloc (.cells #[.int .i64 r.n, .slice A r.nx.length c] 47)) := (by repeat (first | with_reducible exact New.refl _ | with_reducible assumption | with_reducible refine New.alloc ?_ _ | with_reducible refine New.drewN ?_ _ | with_reducible refine New.drew ?_ | with_reducible refine New.trans ?_ (by with_reducible assumption)))
    have z0 : (w1.alloc (.cells #[.int .i64 r.n, .slice A r.nx.length c] 47)).cell? ⟨w1.heap.size, 0, none⟩ = some (.int .i64 r.n) := by go_simp
    have z1 : (w1.alloc (.cells #[.int .i64 r.n, .slice A r.nx.length c] 47)).cell? ⟨w1.heap.size, 1, none⟩ = some (.slice A r.nx.length c) := by go_simp
    have HN := hid (show New w (w1.alloc (.cells #[.int .i64 r.n, .slice A r.nx.length c] 47)) from hn1.trans hn2)
    have HC := hid (hc1.new hn2)
    have HA := hid (ho1.new hn2)
    obtain ⟨rb, hrb⟩ : ∃ rb, rb = w1.heap.size := ⟨_, rfl⟩
    obtain ⟨W, hW⟩ : ∃ W, W = w1.alloc (.cells #[.int .i64 r.n, .slice A r.nx.length c] 47) := ⟨_, rfl⟩
    rw [← hW] at z0 z1 HN HC HA
    rw [← hrb] at z0 z1
    have HF1 := hid (fun w2 (hn : New W w2) => implIsJoined_any _ r w2 (HA.out.new hn))
    have HF2 := hid (fun w2 (hn : New W w2) => implLeastRankColouring_any _ r w2 (HA.out.new hn))
    have HF3 := hid (fun w2 (hn : New W w2) => implHasReset_any _ r w2 (HA.out.new hn))
    have HF4 := hid (fun w2 (hn : New W w2) => specLeastRank_any _ r w2 (HC.out.new hn))
    have HF5 := hid (fun w2 (n : Nat) (hn : New W w2) (hlt : n < colCount r) => colAt_lrk r n w2 (HA.out.new hn) hok hlt)
    have HF6 := hid (fun w2 (v : Value) (n : Nat) (h : AutAt w2 v (colN r n)) => implRankOf_any v (colN r n) w2 h (colN_ok hf n))
    have HF7 := hid (fun w2 (hn : New W w2) => implRoadPeriod_any _ r w2 (HA.out.new hn))
    rw [if_pos hok] at HF4
    obtain ⟨JB, hJB⟩ : ∃ z, z = joinedB (firstOf r) := ⟨_, rfl⟩
    have eJ : IsJoined r = (JB, 0) := by unfold IsJoined; rw [if_pos hok, hJB]
    have eP : RoadPeriod r = if JB = true then (((periodN (firstOf r) : Nat) : Int), 0) else (0, 4) := by unfold RoadPeriod; rw [if_pos hok, hJB]
    have HRR := hid (fun (h : JB = true) => road_rank hok (hJB.symm.trans h))
    rw [eJ] at HF1
    rw [eP] at HF7
    have hfr : FirstReset r = if 50000 < colCount r then (0, 3) else (if hitTo (colW r) (colCount r) < 0 then (0, 6) else (hitTo (colW r) (colCount r), 0)) := by unfold FirstReset; rw [if_pos hok]
    have hlr : LeastRank r = if 50000 < colCount r then (0, 0, 3) else ((((lrTo (rkN r) (colCount r)).1 : Nat) : Int), (((lrTo (rkN r) (colCount r)).2 : Nat) : Int), 0) := by unfold LeastRank; rw [if_pos hok]
    have hhit := hit_rank hf
    obtain ⟨hpk1, hpk2⟩ := lr_pick hf
    have hbig := colCount_big hf
    clear hn2 ho1 hc1 hn1 HC hok hf eJ eP hJB
    go_wp2_with fail
    rw [← hW, ← hrb]
    clear hW hrb
    by_cases h5 : 50000 < colCount r
    · rw [if_pos h5] at hfr hlr HF4
      rw [hlr] at HF2
      rw [hfr] at HF3
      clear hfr hlr hhit hpk1 hpk2 h5 hbig HF5 HF6 HF7 HRR
      refine (HF1.out _ (New.refl _)).mono ?_
      rintro e w2 ⟨rfl, hn2⟩
      replace z0 := hn2.cell z0
      replace z1 := hn2.cell z1
      go_wp2_with fail
      refine (HF2.out _ hn2).mono ?_
      rintro e w3 ⟨rfl, hn3⟩
      replace z0 := hn3.cell z0
      replace z1 := hn3.cell z1
      replace hn3 := hn2.trans hn3
      go_wp2_with fail
      refine (HF3.out _ hn3).mono ?_
      rintro e w4 ⟨rfl, hn4⟩
      replace z0 := hn4.cell z0
      replace z1 := hn4.cell z1
      replace hn4 := hn3.trans hn4
      go_wp2_with fail
      refine (HF4.out _ hn4).mono ?_
      rintro e w5 ⟨⟨x, y, rfl⟩, hn5⟩
      go_wp2_with fail
      go_ret
      exact ⟨rfl, HN.out.trans (hn4.trans hn5)⟩
    · rw [if_neg h5] at hfr hlr HF4
      rw [hlr] at HF2
      obtain ⟨Q, hQ⟩ : ∃ z, z = hitTo (colW r) (colCount r) := ⟨_, rfl⟩
      rw [← hQ] at hfr hhit
      have hHR : decide ((FirstReset r).2 = 0) = decide ((lrTo (rkN r) (colCount r)).1 = 1) ∧ (if (FirstReset r).2 = 6 then 0 else (FirstReset r).2) = 0 := by
        rw [hfr]
        by_cases hq : Q < 0
        · rw [if_pos hq]
          have := hhit.1 hq
          exact ⟨by rw [decide_eq_false this]; rfl, rfl⟩
        · rw [if_neg hq]
          have : (lrTo (rkN r) (colCount r)).1 = 1 := Classical.byContradiction fun h => hq (hhit.2 h)
          exact ⟨by rw [decide_eq_true this]; rfl, rfl⟩
      rw [hHR.1, hHR.2] at HF3
      clear hHR hfr hlr hhit hQ Q h5
      have HF6' := hid (fun w2 (v : Value) (h : AutAt w2 v (colN r (lrTo (rkN r) (colCount r)).2)) => HF6.out w2 v _ h)
      rw [hpk2] at HF6'
      have HF5' := hid (fun w2 (hn : New W w2) => HF5.out w2 _ hn hpk1)
      obtain ⟨L2, hL2⟩ : ∃ z, z = (lrTo (rkN r) (colCount r)).2 := ⟨_, rfl⟩
      obtain ⟨L1, hL1⟩ : ∃ z, z = (lrTo (rkN r) (colCount r)).1 := ⟨_, rfl⟩
      rw [← hL1] at HF2 HF3 HF6' HRR
      rw [← hL2] at HF2 HF5' HF6'
      obtain ⟨CN, hCN⟩ : ∃ z, z = colN r L2 := ⟨_, rfl⟩
      rw [← hCN] at HF5' HF6'
      clear hL1 hL2 hpk1 hpk2 HF5 HF6 hCN hbig
      have hb1 : ((L1 : Int) == 1) = decide (L1 = 1) := by
        by_cases h : L1 = 1
        · subst h; rfl
        · rw [decide_eq_false h]
          have : ¬ (L1 : Int) = 1 := by omega
          simpa using this
      obtain ⟨DB, hDB⟩ : ∃ z, z = decide (L1 = 1) := ⟨_, rfl⟩
      rw [← hDB] at hb1 HF3
      clear hDB
      cases JB with
      | false =>
        clear HRR
        rw [if_neg (by decide)] at HF7
        refine (HF1.out _ (New.refl _)).mono ?_
        rintro e w2 ⟨rfl, hn2⟩
        replace z0 := hn2.cell z0
        replace z1 := hn2.cell z1
        go_wp2_with fail
        refine (HF2.out _ hn2).mono ?_
        rintro e w3 ⟨rfl, hn3⟩
        replace z0 := hn3.cell z0
        replace z1 := hn3.cell z1
        replace hn3 := hn2.trans hn3
        go_wp2_with fail
        refine (HF3.out _ hn3).mono ?_
        rintro e w4 ⟨rfl, hn4⟩
        replace z0 := hn4.cell z0
        replace z1 := hn4.cell z1
        replace hn4 := hn3.trans hn4
        go_wp2_with fail
        refine (HF4.out _ hn4).mono ?_
        rintro e w5 ⟨⟨x, y, rfl⟩, hn5⟩
        replace z0 := hn5.cell z0
        replace z1 := hn5.cell z1
        replace hn5 := hn4.trans hn5
        go_wp2_with fail
        refine (HF5'.out _ hn5).mono ?_
        rintro e w6 ⟨q6, rfl, hn6, ho6⟩
        obtain ⟨rv6, rfl, ho6⟩ := ho6
        obtain ⟨A6, c6, rfl⟩ := ho6.form
        have ha6 : AutAt w6 (.agg #[.int .i64 CN.n, .slice A6 CN.nx.length c6]) CN := ⟨_, rfl, ho6.at⟩
        replace z0 := hn6.cell z0
        replace z1 := hn6.cell z1
        replace hn6 := hn5.trans hn6
        clear ho6
        have HA6 := hid ha6
        clear ha6
        go_wp2_with fail
        refine (HF6'.out _ _ (HA6.out.new (by repeat (first | with_reducible exact New.refl _ | with_reducible assumption | with_reducible refine New.alloc ?_ _ | with_reducible refine New.drewN ?_ _ | with_reducible refine New.drew ?_ | with_reducible refine New.trans ?_ (by with_reducible assumption))))).mono ?_
        rintro e w7 ⟨rfl, hn7⟩
        have hn67 : New w6 w7 := New.trans (by repeat (first | with_reducible exact New.refl _ | with_reducible assumption | with_reducible refine New.alloc ?_ _ | with_reducible refine New.drewN ?_ _ | with_reducible refine New.drew ?_ | with_reducible refine New.trans ?_ (by with_reducible assumption))) hn7
        replace z0 := hn67.cell z0
        replace z1 := hn67.cell z1
        have hn7W := hn6.trans hn67
        clear hn7
        go_wp2_with fail
        refine (HF7.out _ hn7W).mono ?_
        rintro e w8 ⟨rfl, hn8⟩
        go_wp2_with fail
        go_ret
        exact ⟨rfl, HN.out.trans (hn7W.trans hn8)⟩
      | true =>
        have hrr := HRR.out rfl
        rw [if_pos rfl, ← hrr] at HF7
        clear HRR hrr
        refine (HF1.out _ (New.refl _)).mono ?_
        rintro e w2 ⟨rfl, hn2⟩
        replace z0 := hn2.cell z0
        replace z1 := hn2.cell z1
        go_wp2_with fail
        refine (HF2.out _ hn2).mono ?_
        rintro e w3 ⟨rfl, hn3⟩
        replace z0 := hn3.cell z0
        replace z1 := hn3.cell z1
        replace hn3 := hn2.trans hn3
        go_wp2_with fail
        refine (HF3.out _ hn3).mono ?_
        rintro e w4 ⟨rfl, hn4⟩
        replace z0 := hn4.cell z0
        replace z1 := hn4.cell z1
        replace hn4 := hn3.trans hn4
        go_wp2_with fail
        refine (HF4.out _ hn4).mono ?_
        rintro e w5 ⟨⟨x, y, rfl⟩, hn5⟩
        replace z0 := hn5.cell z0
        replace z1 := hn5.cell z1
        replace hn5 := hn4.trans hn5
        go_wp2_with fail
        refine (HF5'.out _ hn5).mono ?_
        rintro e w6 ⟨q6, rfl, hn6, ho6⟩
        obtain ⟨rv6, rfl, ho6⟩ := ho6
        obtain ⟨A6, c6, rfl⟩ := ho6.form
        have ha6 : AutAt w6 (.agg #[.int .i64 CN.n, .slice A6 CN.nx.length c6]) CN := ⟨_, rfl, ho6.at⟩
        replace z0 := hn6.cell z0
        replace z1 := hn6.cell z1
        replace hn6 := hn5.trans hn6
        clear ho6
        have HA6 := hid ha6
        clear ha6
        go_wp2_with fail
        refine (HF6'.out _ _ (HA6.out.new (by repeat (first | with_reducible exact New.refl _ | with_reducible assumption | with_reducible refine New.alloc ?_ _ | with_reducible refine New.drewN ?_ _ | with_reducible refine New.drew ?_ | with_reducible refine New.trans ?_ (by with_reducible assumption))))).mono ?_
        rintro e w7 ⟨rfl, hn7⟩
        have hn67 : New w6 w7 := New.trans (by repeat (first | with_reducible exact New.refl _ | with_reducible assumption | with_reducible refine New.alloc ?_ _ | with_reducible refine New.drewN ?_ _ | with_reducible refine New.drew ?_ | with_reducible refine New.trans ?_ (by with_reducible assumption))) hn7
        replace z0 := hn67.cell z0
        replace z1 := hn67.cell z1
        have hn7W := hn6.trans hn67
        clear hn7
        go_wp2_with fail
        refine (HF7.out _ hn7W).mono ?_
        rintro e w8 ⟨rfl, hn8⟩
        go_wp2_with fail
        go_ret
        exact ⟨rfl, HN.out.trans (hn7W.trans hn8)⟩

end Go.Proofs.YtoeckejcmojeaaaGreat
