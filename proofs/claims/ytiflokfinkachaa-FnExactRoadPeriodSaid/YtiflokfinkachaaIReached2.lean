/- The program's states to which words lead from one. -/
import Derived.Test.YtiflokfinkachaaRows
import Derived.Test.YtiflokfinkachaaCore
import Derived.Test.YtiflokfinkachaaInfo
import Derived.Test.YtiflokfinkachaaPlains
import Derived.Test.YtiflokfinkachaaJoins
import Derived.Test.YtiflokfinkachaaMaps
import Derived.Test.YtiflokfinkachaaIIdx
import Derived.Test.YtiflokfinkachaaIClone
import Derived.Test.YtiflokfinkachaaISort
import Derived.Test.YtiflokfinkachaaArrSt
import Derived.Test.YtiflokfinkachaaI01a
import Derived.Test.YtiflokfinkachaaISorted
import Derived.WalkKit
import Derived.WalkSpells
import Derived.WalkLawsBesides
import Derived.Deep.QuietTactic
import Derived.Deep.OwnRows
import Derived.BigQuiet
import Derived.KernelRfl
import Derived.Carry
import Derived.Deep.RegionHeld3
namespace Go.Proofs.Ytiflokfinkachaa
open Go.RowKit

set_option maxRecDepth 20000 in
set_option maxHeartbeats 4000000 in
theorem reached_any (v : Value) (a : Aut) (s : Int) (w : World) (h : AutAt w v a) (ha : autOk a = true) (hs : rcP a s) :
    Calls Try.prog 207 #[v, .int .i64 s] w fun e w' => ∃ r, e = .returned r ∧ New w w' ∧ OwnInts w.heap.size w'.heap.size w' r (insAll (rcL a s)) := by
  obtain ⟨rv, rfl, hr⟩ := h
  obtain ⟨A, c, rfl, hl, hc⟩ := hr
  have HC := hid hc
  have HB := hid (fun k => rc_bok ha hs k)
  have HBD := hid (fun (t : Bfs Int) (ht : BOk (rcP a) a.nx.length t) => rc_bound ha ht)
  have HE := hid (fun k hk => rc_end ha hs k hk)
  have HR := hid (fun l hl => autOk_row ha l hl)
  have HOK := hid (fun l x y hl hx hy => rcG_ok ha l x y hl hx hy)
  have hn := autOk_n ha
  have hal := autOk_l ha
  have HAPT := hid (fun k => (rc_bok ha hs k).nodup)
  clear hc ha hs
  obtain ⟨wb, hwb⟩ : ∃ wb, wb = w.alloc (.cells #[.int .i64 a.n, .slice A a.nx.length c] 40) := ⟨_, rfl⟩
  have hnb : New w wb := by rw [hwb]; exact (by repeat (first | with_reducible exact New.refl _ | with_reducible assumption | with_reducible refine New.alloc ?_ _ | with_reducible refine New.drewN ?_ _ | with_reducible refine New.drew ?_ | with_reducible refine New.trans ?_ (by with_reducible assumption)))
  have hzb : wb.heap.size = w.heap.size + 1 := by rw [hwb]; simp only [size_alloc]
  have hbx : wb.cell? ⟨w.heap.size, 1, none⟩ = some (.slice A a.nx.length c) := by rw [hwb]; go_simp
  have hG0 : Grow wb.heap.size 2 (wb.alloc (.cells #[.int .i64 s] 2)) (.slice (some ⟨wb.heap.size, 0, none⟩) 1 1) (rcT a s 0).list := ownsRow_one (B := wb.heap.size) (e := 2) (w := wb) (x := .int .i64 s) (Nat.le_refl _)
  have hn0 : New wb (wb.alloc (.cells #[.int .i64 s] 2)) := (by repeat (first | with_reducible exact New.refl _ | with_reducible assumption | with_reducible refine New.alloc ?_ _ | with_reducible refine New.drewN ?_ _ | with_reducible refine New.drew ?_ | with_reducible refine New.trans ?_ (by with_reducible assumption)))
  go_enter Try.func207, Try.ntmps207
  go_wp2_with fail
  rw [← hwb, ← hzb]
  have HZB := hid hzb
  clear hwb hzb
  generalize (wb.alloc (.cells #[.int .i64 s] 2)) = w0 at hG0 hn0 ⊢
  go_loopw [5, 6] (fun ov i wr => ∃ k : Nat, k ≤ (rcT a s k).list.length ∧ i = .int .i64 k ∧ New wb wr ∧ Grow wb.heap.size 2 wr ov (rcT a s k).list) (fun _ i _ => 11 - (intOf i).toNat)
  case atStart => exact ⟨0, Nat.zero_le _, rfl, hn0, hG0⟩
  case round =>
    obtain ⟨k, hk, rfl, hnk, hGk⟩ := hrel
    clear hn0 hG0
    obtain ⟨wo, rfl⟩ : ∃ wo : World, wo = wr := ⟨_, rfl⟩
    have hbd := HBD.out _ (HB.out k)
    obtain ⟨B1, cc1, rfl⟩ := hGk.form
    have y2 := hnk.cell hbx
    by_cases hlt : k < (rcT a s k).list.length
    · have b1 : (k : Int) < ((rcT a s k).list.length : Int) := by omega
      have hzk := hnk.size
      go_wp2_with fail
      go_loopw [5, 21] (fun ov i wr => ∃ l : Nat, l ≤ a.nx.length ∧ i = .int .i64 l ∧ New wb wr ∧ Grow wb.heap.size 2 wr ov (bRow (rcG a.nx) k (rcT a s k) l).list) (fun _ i _ => a.nx.length - (intOf i).toNat)
      case atStart => exact ⟨0, Nat.zero_le _, rfl, hnk, hGk⟩
      case round =>
        obtain ⟨l, hll, rfl, hNi, hGi⟩ := hrel
        clear hGk y2
        obtain ⟨wi, rfl⟩ : ∃ wi : World, wi = wr := ⟨_, rfl⟩
        have hpre := bRow_pre' (g := rcG a.nx) k (rcT a s k) l
        have hokl := BOk.row (fun l x y hl hx hy => HOK.out l x y hl hx hy) (HB.out k) k hlt l hll
        obtain ⟨T', hT'⟩ : ∃ T', T' = bRow (rcG a.nx) k (rcT a s k) l := ⟨_, rfl⟩
        have hbd2 := HBD.out _ hokl
        rw [← hT'] at hGi hpre hokl hbd2
        have HT := hid hT'
        have hk2 : k < T'.list.length := Nat.lt_of_lt_of_le hlt hpre.1
        obtain ⟨X, hX⟩ : ∃ X, X = nth T'.list k := ⟨_, rfl⟩
        have hXok := hokl.ok X (by rw [hX]; exact nth_mem _ _ hk2)
        have HX := hid hX
        have HPRE := hid hpre
        obtain ⟨X1, X2⟩ := hXok
        clear hT' hokl hpre
        by_cases hltl : l < a.nx.length
        · have b2 : (l : Int) < (a.nx.length : Int) := by omega
          obtain ⟨rb, ro, rv, rfl, hx, hrv⟩ := HC.out l hltl
          obtain ⟨A3, c3, rfl, hl3, hc3⟩ := hrv
          obtain ⟨r1, r2⟩ := HR.out l hltl
          obtain ⟨B2, cc2, rfl⟩ := hGi.form
          obtain ⟨gb, _, ⟨c', e'⟩, _, _, hcell, _⟩ := ownsRow_cells hGi k (by simpa using hk2)
          injection e' with e1 e2 e3
          subst e1
          have hx0 : wi.cell? ⟨gb, k, none⟩ = some (.int .i64 X) := by rw [hcell, hX, nth_eq _ _ hk2]; simp
          obtain ⟨tb, to, rfl, ht⟩ := hc3 X.toNat (by omega)
          obtain ⟨Y, hY⟩ : ∃ Y, Y = nth (nth a.nx l) X.toNat := ⟨_, rfl⟩
          rw [← hY] at ht
          have HY := hid hY
          have g1 : X < ((nth a.nx l).length : Int) := by omega
          have b3 : (k : Int) < (T'.list.length : Int) := by omega
          have HG := hid (show rcG a.nx l (nth T'.list k) = some Y by rw [← hX, hY]; rfl)
          have HSUCC := hid (show bRow (rcG a.nx) k (rcT a s k) (l + 1) = bStep (rcG a.nx) k l T' by rw [bRow_succ, ← HT.out])
          have hat := (hGi.own (by omega)).at
          have hgrow := hid hGi
          have y3 := hNi.cell hbx
          replace hx := (hnb.trans hNi).cell hx
          replace ht := (hnb.trans hNi).cell ht
          have hzi := hNi.size
          clear hX hY hc3 r2 hcell e2 e3
          have C := Contains64_any (.slice (some ⟨gb, 0, none⟩) T'.list.length cc2) T'.list Y wi hat
          by_cases hm : Y ∈ T'.list
          · have hb : hasB T'.list Y = true := (hasB_iff _ _).2 hm
            have HS := hid (show bRow (rcG a.nx) k (rcT a s k) (l + 1) = T' by rw [HSUCC.out, bStep_has _ _ _ _ Y HG.out hm])
            simp only [hb] at C
            clear hm hb
            go_wp2_with (go_at_call 254; refine C.mono ?_; rintro e w' ⟨rfl, rfl⟩)
            refine ⟨⟨l + 1, by omega, by go_num, hNi, by rw [HS.out]; exact hgrow.out⟩, ?_⟩
            simp [intOf]; omega
          · have hb : hasB T'.list Y = false := by
              cases hq : hasB T'.list Y with
              | false => rfl
              | true => exact absurd ((hasB_iff _ _).1 hq) hm
            have HS := hid (show bRow (rcG a.nx) k (rcT a s k) (l + 1) = ⟨T'.list ++ [Y], T'.words ++ [nth T'.words k ++ [(l : Int)]]⟩ by rw [HSUCC.out, bStep_new _ _ _ _ Y HG.out hm])
            simp only [hb] at C
            clear hm hb
            have hTl : T'.list.length < 1099511627776 := by omega
            go_wp2_with (first
              | (go_at_call 254; refine C.mono ?_; rintro e w' ⟨rfl, rfl⟩)
              | (at_builtin; refine wpList_app rfl _ _ _ rfl Try.underlying26 info_i64 (.slice (some ⟨gb, 0, none⟩) T'.list.length cc2) T'.list rfl hgrow.out rfl hTl hzi ?_; intro g4 cap4 w12 ho12 hg12))
            refine ⟨⟨l + 1, by omega, by go_num, New.grown hNi hg12 (fun q hq => (hgrow.out.block q hq).1), by rw [HS.out]; simpa [Grow] using ho12⟩, ?_⟩
            simp [intOf]; omega
        · have e : l = a.nx.length := by omega
          subst e
          have b2 : ¬ (a.nx.length : Int) < (a.nx.length : Int) := by omega
          have HS := hid (show rcT a s (k + 1) = T' by unfold rcT at hlt HT ⊢; rw [bTo_succ, if_pos hlt, HT.out])
          obtain ⟨B2, cc2, rfl⟩ := hGi.form
          go_wp2_with fail
          refine ⟨⟨k + 1, by rw [HS.out]; exact hk2, by go_num, hNi, by rw [HS.out]; exact hGi⟩, ?_⟩
          simp [intOf]; omega
    · have e : k = (rcT a s k).list.length := by omega
      have HF := hid (HE.out k e.symm)
      have b1 : ¬ (k : Int) < ((rcT a s k).list.length : Int) := by omega
      have hat := (hGk.own (by omega)).at
      have hapt : Apt (rcT a s k).list := fun i j hi hj q => nodup_nth (HAPT.out k) hi hj q
      have hpos := (HB.out k).pos
      have C := sorted_apt _ _ wo hat (by omega) (by omega) hapt
      clear e hapt
      go_wp2_with (go_at_call 218; refine C.mono ?_; rintro e w1 ⟨r, rfl, hn1, ho1⟩)
      go_ret
      rw [HF.out]
      exact ⟨_, rfl, (hnb.trans hnk).trans hn1, ho1.widen (by have := hnk.size; have := hnb.size; omega) (Nat.le_refl _)⟩
theorem rcL_len {a : Aut} (ha : autOk a = true) {s : Int} (hs : rcP a s) : ((rcL a s).length : Int) ≤ a.n := rc_bound ha (rc_bok ha hs 11)
theorem joined_up {a : Aut} (h : ∀ s, s < a.n.toNat → ((rcL a (s : Int)).length : Int) = a.n) : joinedB a = true := by
  unfold joinedB iota
  rw [List.all_eq_true]
  intro x hx
  obtain ⟨i, hi, rfl⟩ := List.mem_map.1 hx
  rw [Int.zero_add]
  exact decide_eq_true (h i (by simpa using hi))
theorem joined_no {a : Aut} (s : Nat) (hs : s < a.n.toNat) (h : ¬ ((rcL a (s : Int)).length : Int) = a.n) : joinedB a = false := by
  unfold joinedB iota
  rw [List.all_eq_false]
  exact ⟨(0 : Int) + (s : Int), List.mem_map.2 ⟨s, by simpa using hs, rfl⟩, by rw [Int.zero_add]; simpa using h⟩
set_option maxRecDepth 20000 in
set_option maxHeartbeats 2000000 in
theorem isConnected_any (v : Value) (a : Aut) (w : World) (h : AutAt w v a) (ha : autOk a = true) :
    Calls Try.prog 114 #[v] w fun e w' => e = .returned (.bool (joinedB a)) ∧ New w w' := by
  obtain ⟨rv, rfl, hr⟩ := h
  obtain ⟨A, c, rfl⟩ := hr.form
  have hn := autOk_n ha
  have HC := hid (fun w' (hw : New w w') (s : Int) (hs : rcP a s) => reached_any (.agg #[.int .i64 a.n, .slice A a.nx.length c]) a s w' ⟨_, rfl, hr.new hw⟩ ha hs)
  have HL := hid (fun (s : Int) (hs : rcP a s) => rcL_len ha hs)
  obtain ⟨wb, hwb⟩ : ∃ wb, wb = w.alloc (.cells #[.int .i64 a.n, .slice A a.nx.length c] 40) := ⟨_, rfl⟩
  have hnb : New w wb := by rw [hwb]; exact (by repeat (first | with_reducible exact New.refl _ | with_reducible assumption | with_reducible refine New.alloc ?_ _ | with_reducible refine New.drewN ?_ _ | with_reducible refine New.drew ?_ | with_reducible refine New.trans ?_ (by with_reducible assumption)))
  have hb0 : wb.cell? ⟨w.heap.size, 0, none⟩ = some (.int .i64 a.n) := by rw [hwb]; go_simp
  have hb1 : wb.cell? ⟨w.heap.size, 1, none⟩ = some (.slice A a.nx.length c) := by rw [hwb]; go_simp
  go_enter Try.func114, Try.ntmps114
  go_wp2_with fail
  rw [← hwb]
  clear hwb
  go_loopw [6] (fun i wr => ∃ k : Nat, (k : Int) ≤ a.n ∧ i = .int .i64 k ∧ New wb wr ∧ Hid (∀ s, s < k → ((rcL a (s : Int)).length : Int) = a.n)) (fun i _ => a.n.toNat - (intOf i).toNat)
  case atStart => exact ⟨0, by omega, rfl, New.refl _, hid (fun s hs => absurd hs (by omega))⟩
  case round =>
    obtain ⟨k, hk, rfl, hnk, hall⟩ := hrel
    obtain ⟨wo, rfl⟩ : ∃ wo : World, wo = wr := ⟨_, rfl⟩
    by_cases hlt : (k : Int) < a.n
    · have hP : rcP a (k : Int) := ⟨by omega, hlt⟩
      have hle := HL.out _ hP
      have HP := hid hP
      have hn' := hnb.trans hnk
      have y0 := hnk.cell hb0
      have y1 := hnk.cell hb1
      have hil := hid (insAll_len (rcL a (k : Int)))
      by_cases hq : ((rcL a (k : Int)).length : Int) = a.n
      · have b1 : ¬ ((rcL a (k : Int)).length : Int) < a.n := by omega
        have HQ := hid hq
        obtain ⟨M, hM⟩ : ∃ M, M = (rcL a (k : Int)).length := ⟨_, rfl⟩
        have hil2 := hid (show (insAll (rcL a (k : Int))).length = M by rw [hil.out, hM])
        rw [← hM] at b1 hle
        have hM2 : M ≤ 9223372036854775807 := by omega
        have hdec := decide_eq_false b1
        clear hq hM hP
        go_wp2_with fail
        go_region_held3 (fun w' => w'.cell? ⟨w.heap.size, 0, none⟩ = some (.int .i64 a.n) ∧ w'.cell? ⟨w.heap.size, 1, none⟩ = some (.slice A a.nx.length c))
          (first | exact ⟨z0, z1⟩ | go_keep)
          (first
            | (go_at_call 207; refine (HC.out _ (by repeat (first | with_reducible exact New.refl _ | with_reducible assumption | with_reducible refine New.alloc ?_ _ | with_reducible refine New.drewN ?_ _ | with_reducible refine New.drew ?_ | with_reducible refine New.trans ?_ (by with_reducible assumption))) _ HP.out).mono ?_; rintro e w1 ⟨r, he, hq1, ho1⟩; obtain ⟨Ar, cr, hrf⟩ := ho1.form; rw [hil2.out] at hrf; subst hrf; subst he; have hw1 : New wo w1 := (by repeat (first | with_reducible exact New.refl _ | with_reducible assumption | with_reducible refine New.alloc ?_ _ | with_reducible refine New.drewN ?_ _ | with_reducible refine New.drew ?_ | with_reducible refine New.trans ?_ (by with_reducible assumption))); have z0 := hw1.cell y0; have z1 := hw1.cell y1)
            | (go_at_call 183; refine (size64_any _ _ _ _ hM2).mono ?_; rintro e w' ⟨rfl, rfl⟩))
        all_goals go_wp2_with fail
        all_goals
          refine ⟨⟨k + 1, by omega, by go_num, hnk.trans (by repeat (first | with_reducible exact New.refl _ | with_reducible assumption | with_reducible refine New.alloc ?_ _ | with_reducible refine New.drewN ?_ _ | with_reducible refine New.drew ?_ | with_reducible refine New.trans ?_ (by with_reducible assumption))), hid (fun s hs => ?_)⟩, ?_⟩
          · rcases Nat.lt_succ_iff_lt_or_eq.1 hs with q | q
            · exact hall.out s q
            · subst q; exact HQ.out
          · simp [intOf]; omega
      · have b1 : ((rcL a (k : Int)).length : Int) < a.n := by omega
        have HQ := hid hq
        obtain ⟨M, hM⟩ : ∃ M, M = (rcL a (k : Int)).length := ⟨_, rfl⟩
        have hil2 := hid (show (insAll (rcL a (k : Int))).length = M by rw [hil.out, hM])
        rw [← hM] at b1 hle
        have hM2 : M ≤ 9223372036854775807 := by omega
        have hdec := decide_eq_true b1
        clear hq hM hP
        go_wp2_with fail
        go_region_held3 (fun w' => w'.cell? ⟨w.heap.size, 0, none⟩ = some (.int .i64 a.n) ∧ w'.cell? ⟨w.heap.size, 1, none⟩ = some (.slice A a.nx.length c))
          (first | exact ⟨z0, z1⟩ | go_keep)
          (first
            | (go_at_call 207; refine (HC.out _ (by repeat (first | with_reducible exact New.refl _ | with_reducible assumption | with_reducible refine New.alloc ?_ _ | with_reducible refine New.drewN ?_ _ | with_reducible refine New.drew ?_ | with_reducible refine New.trans ?_ (by with_reducible assumption))) _ HP.out).mono ?_; rintro e w1 ⟨r, he, hq1, ho1⟩; obtain ⟨Ar, cr, hrf⟩ := ho1.form; rw [hil2.out] at hrf; subst hrf; subst he; have hw1 : New wo w1 := (by repeat (first | with_reducible exact New.refl _ | with_reducible assumption | with_reducible refine New.alloc ?_ _ | with_reducible refine New.drewN ?_ _ | with_reducible refine New.drew ?_ | with_reducible refine New.trans ?_ (by with_reducible assumption))); have z0 := hw1.cell y0; have z1 := hw1.cell y1)
            | (go_at_call 183; refine (size64_any _ _ _ _ hM2).mono ?_; rintro e w' ⟨rfl, rfl⟩))
        all_goals go_wp2_with fail
        all_goals
          go_ret
          rw [joined_no k (by omega) HQ.out]
          exact ⟨rfl, hn'.trans (by repeat (first | with_reducible exact New.refl _ | with_reducible assumption | with_reducible refine New.alloc ?_ _ | with_reducible refine New.drewN ?_ _ | with_reducible refine New.drew ?_ | with_reducible refine New.trans ?_ (by with_reducible assumption)))⟩
    · have e : k = a.n.toNat := by omega
      have b1 : ¬ (k : Int) < a.n := hlt
      subst e
      go_wp2_with fail
      go_ret
      rw [joined_up hall.out]
      exact ⟨rfl, hnb.trans hnk⟩

end Go.Proofs.Ytiflokfinkachaa
