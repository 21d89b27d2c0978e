/- The reference's period of an automaton. -/
import Derived.Test.YtiflokfinkachaaRows
import Derived.Test.YtiflokfinkachaaCore
import Derived.Test.YtiflokfinkachaaInfo
import Derived.Test.YtiflokfinkachaaPlains
import Derived.Test.YtiflokfinkachaaJoins
import Derived.Test.YtiflokfinkachaaPers
import Derived.Test.YtiflokfinkachaaIGcd
import Derived.Test.YtiflokfinkachaaMaps
import Derived.Test.YtiflokfinkachaaS00a
import Derived.Test.YtiflokfinkachaaS00b
import Derived.WalkKit
import Derived.WalkSpells
import Derived.WalkLawsBesides
import Derived.Deep.QuietTactic
import Derived.Deep.OwnRows
import Derived.BigQuiet
import Derived.KernelRfl
import Derived.Carry
import Derived.Deep.RegionHeld3
namespace Go.Proofs.Ytiflokfinkachaa
open Go.RowKit

set_option maxRecDepth 20000 in
set_option maxHeartbeats 2000000 in
theorem l01Period_any (p : Value) (a : Aut) (w : World) (h : PAut w p a) (ha : autOk a = true) (hj : joinedB a = true) :
    Calls Try.prog 128 #[p] w fun e w' => e = .returned (.int .i64 (periodN a : Nat)) ∧ New w w' := by
  obtain ⟨pb, rv, rfl, hp0, hp1, hr⟩ := h
  obtain ⟨A, c, rfl, hl, hc⟩ := hr
  have hn := autOk_n ha
  have hs : rcP a 0 := ⟨by omega, by omega⟩
  have HC := hid hc
  have HB := hid (fun k => rc_bok ha hs k)
  have HBD := hid (fun (t : Bfs Int) (ht : BOk (rcP a) a.nx.length t) => rc_bound ha ht)
  have HE := hid (fun k hk => rc_end ha hs k hk)
  have HR := hid (fun l hl => autOk_row ha l hl)
  have HOK := hid (fun l x y hl hx hy => rcG_ok ha l x y hl hx hy)
  have HFAR := hid (fun (t : Bfs Int) (ht : BOk (rcP a) a.nx.length t) (x : Int) => rc_far ha ht x)
  have HGL := hid (fun k l => gAll_le _ 0 11 (by omega) (upTo_le (stateGap a) a.nx.length k l 11 (fun i m => stateGap_le ha i m)))
  have HP := hid (period_states ha hj)
  have HET := hid (fun k hk => rc_endT ha hs k hk)
  have HFT := hid (fun (x : Int) => rc_far ha (rc_bok ha hs 11) x)
  have HALL := hid (fun x hx => joined_all ha hj x hx)
  obtain ⟨N, hN⟩ : ∃ N : Nat, a.n = (N : Int) := ⟨a.n.toNat, by omega⟩
  have hN10 : N ≤ 10 := by omega
  have hal := autOk_l ha
  have HNN := hid hN
  rw [show a.n.toNat = N by omega] at HP
  rw [hN] at hp0
  obtain ⟨PN, hPN⟩ : ∃ z, z = periodN a := ⟨_, rfl⟩
  rw [← hPN] at HP ⊢
  clear hc ha hj hN hPN
  have hmk := fun w => run_make_row' (P := Try.prog) 26 2 (.int .i64 0) 8 Try.underlying26 info_i64 rfl .i64 .i64 N (by omega) (by omega) w
  have hrow0 := OwnInts.made w N 2 (by omega)
  obtain ⟨wm, hwm⟩ : ∃ wm, wm = w.alloc (.cells (madeCells #[.int .i64 0] N) 2) := ⟨_, rfl⟩
  rw [← hwm] at hrow0
  have hnm : New w wm := by rw [hwm]; exact (by repeat (first | with_reducible exact New.refl _ | with_reducible assumption | with_reducible refine New.alloc ?_ _ | with_reducible refine New.drewN ?_ _ | with_reducible refine New.drew ?_ | with_reducible refine New.trans ?_ (by with_reducible assumption)))
  have hzm : wm.heap.size = w.heap.size + 1 := by rw [hwm]; simp only [size_alloc]
  have hG0 : Grow (w.heap.size + 1) 2 (wm.alloc (.cells #[.int .i64 0] 2)) (.slice (some ⟨wm.heap.size, 0, none⟩) 1 1) (rcT a 0 0).list := ownsRow_one (B := w.heap.size + 1) (e := 2) (w := wm) (x := .int .i64 0) (by omega)
  have hn0 : New w (wm.alloc (.cells #[.int .i64 0] 2)) := hnm.alloc _
  have hF0 : OwnInts w.heap.size (w.heap.size + 1) (wm.alloc (.cells #[.int .i64 0] 2)) (.slice (some ⟨w.heap.size, 0, none⟩) N N) (farL N (rcT a 0 0)) := by
    rw [show rcT a 0 0 = bStart 0 from rfl, farL_start]
    exact hrow0.new (by repeat (first | with_reducible exact New.refl _ | with_reducible assumption | with_reducible refine New.alloc ?_ _ | with_reducible refine New.drewN ?_ _ | with_reducible refine New.drew ?_ | with_reducible refine New.trans ?_ (by with_reducible assumption)))
  go_enter Try.func128, Try.ntmps128
  go_wp2_with fail
  rw [← hwm]
  rw [hzm] at hG0
  try rw [hzm]
  clear hzm
  generalize (wm.alloc (.cells #[.int .i64 0] 2)) = w0 at hG0 hn0 hF0 ⊢
  clear hwm hrow0 hmk
  go_loopw [4, 5] (fun ov i wr => ∃ k : Nat, k ≤ (rcT a 0 k).list.length ∧ i = .int .i64 k ∧ New w wr ∧ Grow (w.heap.size + 1) 2 wr ov (rcT a 0 k).list ∧ OwnInts w.heap.size (w.heap.size + 1) wr (.slice (some ⟨w.heap.size, 0, none⟩) N N) (farL N (rcT a 0 k))) (fun _ i _ => 11 - (intOf i).toNat)
  case atStart => exact ⟨0, Nat.zero_le _, rfl, hn0, hG0, hF0⟩
  case round =>
    obtain ⟨k, hk, rfl, hnk, hGk, hFk⟩ := hrel
    clear hn0 hG0 hF0
    obtain ⟨wo, rfl⟩ : ∃ wo : World, wo = wr := ⟨_, rfl⟩
    have hbd := HBD.out _ (HB.out k)
    obtain ⟨B1, cc1, rfl⟩ := hGk.form
    by_cases hlt : k < (rcT a 0 k).list.length
    · have b1 : (k : Int) < ((rcT a 0 k).list.length : Int) := by omega
      have hzk := hnk.size
      obtain ⟨X, hX⟩ : ∃ X, X = nth (rcT a 0 k).list k := ⟨_, rfl⟩
      have hXok := (HB.out k).ok X (by rw [hX]; exact nth_mem _ _ hlt)
      have HX := hid hX
      obtain ⟨X1, X2⟩ := hXok
      clear hX
      go_wp2_with fail
      go_loopw [4, 6] (fun ov i wr => ∃ l : Nat, l ≤ a.nx.length ∧ i = .int .i64 l ∧ New w wr ∧ Grow (w.heap.size + 1) 2 wr ov (bRow (rcG a.nx) k (rcT a 0 k) l).list ∧ OwnInts w.heap.size (w.heap.size + 1) wr (.slice (some ⟨w.heap.size, 0, none⟩) N N) (farL N (bRow (rcG a.nx) k (rcT a 0 k) l))) (fun _ i _ => a.nx.length - (intOf i).toNat)
      case atStart => exact ⟨0, Nat.zero_le _, rfl, hnk, hGk, hFk⟩
      case round =>
        obtain ⟨l, hll, rfl, hNi, hGi, hFi⟩ := hrel
        clear hGk hFk
        obtain ⟨wi, rfl⟩ : ∃ wi : World, wi = wr := ⟨_, rfl⟩
        have hpre := bRow_pre' (g := rcG a.nx) k (rcT a 0 k) l
        have hokl := BOk.row (fun l x y hl hx hy => HOK.out l x y hl hx hy) (HB.out k) k hlt l hll
        obtain ⟨T', hT'⟩ : ∃ T', T' = bRow (rcG a.nx) k (rcT a 0 k) l := ⟨_, rfl⟩
        have hbd2 := HBD.out _ hokl
        rw [← hT'] at hGi hpre hokl hbd2 hFi
        have HT := hid hT'
        have hk2 : k < T'.list.length := Nat.lt_of_lt_of_le hlt hpre.1
        have hXT : nth T'.list k = X := by rw [(hpre.2 k hlt).1, HX.out]
        have HXT := hid hXT
        have hXm : X ∈ T'.list := by rw [← hXT]; exact nth_mem _ _ hk2
        have hfX := HFAR.out _ hokl X
        have HOKL := hid hokl
        have hp1i := hNi.cell hp1
        obtain ⟨B2, cc2, rfl⟩ := hGi.form
        clear hT' hpre
        by_cases hltl : l < a.nx.length
        · have b2 : (l : Int) < (a.nx.length : Int) := by omega
          have b3 : (k : Int) < (T'.list.length : Int) := by omega
          obtain ⟨rb, ro, rv, rfl, hx, hrv⟩ := HC.out l hltl
          obtain ⟨A3, c3, rfl, hl3, hc3⟩ := hrv
          obtain ⟨r1, r2⟩ := HR.out l hltl
          obtain ⟨tb, to, rfl, ht⟩ := hc3 X.toNat (by omega)
          obtain ⟨Y, hY⟩ : ∃ Y, Y = nth (nth a.nx l) X.toNat := ⟨_, rfl⟩
          have hYr := r2 X.toNat (by omega)
          rw [← hY] at ht hYr
          have hYr2 := hid hYr
          have HY := hid hY
          obtain ⟨yr0, yr1⟩ := hYr
          have g1 : X < ((nth a.nx l).length : Int) := by omega
          have HG := hid (show rcG a.nx l (nth T'.list k) = some Y by rw [HXT.out, hY]; rfl)
          have HSUCC := hid (show bRow (rcG a.nx) k (rcT a 0 k) (l + 1) = bStep (rcG a.nx) k l T' by rw [bRow_succ, ← HT.out])
          replace hx := hNi.cell hx
          replace ht := hNi.cell ht
          have hzi := hNi.size
          obtain ⟨gb, hgb, ⟨c', e'⟩, _, _, hcell, _⟩ := ownsRow_cells hGi k (by simpa using hk2)
          injection e' with e1 e2 e3
          subst e1
          have hx0 : wi.cell? ⟨gb, k, none⟩ = some (.int .i64 X) := by rw [hcell, ← hXT, nth_eq _ _ hk2]; simp
          have hat := (hGi.own (by omega)).at
          have C := fun w' (hw : New wi w') => l00Has_any (.slice (some ⟨gb, 0, none⟩) T'.list.length cc2) T'.list Y w' (hat.new hw)
          have HGI := hid hGi
          clear hY hc3 r2 hcell e2 e3 hat hXT hGi
          by_cases hm : Y ∈ T'.list
          · have hb : hasB T'.list Y = true := (hasB_iff _ _).2 hm
            have HS := hid (show bRow (rcG a.nx) k (rcT a 0 k) (l + 1) = T' by rw [HSUCC.out, bStep_has _ _ _ _ Y HG.out hm])
            simp only [hb] at C
            clear hm hb hokl hXm
            go_wp2_with fail
            go_region_held3 (fun w' => w'.cell? ⟨pb, 1, none⟩ = some (.slice (some ⟨rb, ro, none⟩) a.nx.length c) ∧ w'.cell? ⟨rb, ro + l, none⟩ = some (.slice (some ⟨tb, to, none⟩) (nth a.nx l).length c3) ∧ w'.cell? ⟨gb, k, none⟩ = some (.int .i64 X) ∧ w'.cell? ⟨tb, to + X.toNat, none⟩ = some (.int .i64 Y))
              (go_keep)
              (fail)
            all_goals go_wp2_with (go_at_call 219; refine (C _ (by repeat (first | with_reducible exact New.refl _ | with_reducible assumption | with_reducible refine New.alloc ?_ _ | with_reducible refine New.drewN ?_ _ | with_reducible refine New.drew ?_ | with_reducible refine New.trans ?_ (by with_reducible assumption)))).mono ?_; rintro e w' ⟨rfl, rfl⟩)
            all_goals go_roundw
            case rel => exact ⟨l + 1, by omega, by go_num, hNi.trans (by repeat (first | with_reducible exact New.refl _ | with_reducible assumption | with_reducible refine New.alloc ?_ _ | with_reducible refine New.drewN ?_ _ | with_reducible refine New.drew ?_ | with_reducible refine New.trans ?_ (by with_reducible assumption))), by rw [HS.out]; exact HGI.out.new (by repeat (first | with_reducible exact New.refl _ | with_reducible assumption | with_reducible refine New.alloc ?_ _ | with_reducible refine New.drewN ?_ _ | with_reducible refine New.drew ?_ | with_reducible refine New.trans ?_ (by with_reducible assumption))), by rw [HS.out]; exact hFi.new (by repeat (first | with_reducible exact New.refl _ | with_reducible assumption | with_reducible refine New.alloc ?_ _ | with_reducible refine New.drewN ?_ _ | with_reducible refine New.drew ?_ | with_reducible refine New.trans ?_ (by with_reducible assumption)))⟩
            case measure => simp [intOf]; omega
          · have hb : hasB T'.list Y = false := by
              cases hq : hasB T'.list Y with
              | false => rfl
              | true => exact absurd ((hasB_iff _ _).1 hq) hm
            have HS := hid (show bRow (rcG a.nx) k (rcT a 0 k) (l + 1) = ⟨T'.list ++ [Y], T'.words ++ [nth T'.words k ++ [(l : Int)]]⟩ by rw [HSUCC.out, bStep_new _ _ _ _ Y HG.out hm])
            have hwl := farD_nth hokl.nodup k hk2
            rw [HXT.out] at hwl
            have hfx := farL_at N T' X X1 (by have := HNN.out; omega) hXm
            have hput := farL_put N hokl.lw Y (nth T'.words k ++ [(l : Int)]) hm yr0 (by have := HNN.out; omega)
            rw [List.length_append, ← hwl] at hput
            obtain ⟨FX, hFX⟩ : ∃ z, z = farD T' X := ⟨_, rfl⟩
            rw [← hFX] at hfX hfx hput
            have hFl := farL_len N T'
            obtain ⟨c1, c2⟩ := hFi.cell_at X.toNat (by have := HNN.out; omega)
            obtain ⟨c3', c4⟩ := hFi.cell_at Y.toNat (by have := HNN.out; omega)
            rw [Nat.zero_add] at c1 c2 c3' c4
            rw [hfx] at c1
            have HFS := hid (fun (w' : World) (hw : OwnInts w.heap.size (w.heap.size + 1) w' (.slice (some ⟨w.heap.size, 0, none⟩) N N) (farL N T')) => (show OwnInts w.heap.size (w.heap.size + 1) (w'.setCell ⟨w.heap.size, Y.toNat, none⟩ (.int .i64 ((FX : Int) + 1))) (.slice (some ⟨w.heap.size, 0, none⟩) N N) (farL N ⟨T'.list ++ [Y], T'.words ++ [nth T'.words k ++ [(l : Int)]]⟩) by
              have := hw.set Y.toNat (by have := HNN.out; omega) ((FX : Int) + 1)
              rw [Nat.zero_add, show ((FX : Int) + 1) = ((FX + [(l : Int)].length : Nat) : Int) by simp, hput] at this
              rw [show ((FX : Int) + 1) = ((FX + [(l : Int)].length : Nat) : Int) by simp]
              exact this))
            obtain ⟨FY, hFY⟩ : ∃ z, z = nth (farL N T') Y.toNat := ⟨_, rfl⟩
            rw [← hFY] at c3'
            have HNY := hid (show Y < (N : Int) by have := HNN.out; omega)
            have hNX : X < (N : Int) := by have := HNN.out; omega
            have hNY := HNY.out
            have hgbl := hgb
            simp only [hb] at C
            clear hm hb hokl hXm hwl hfx hput hFX hFl hFY
            go_wp2_with fail
            go_region_held3 (fun w' => w'.cell? ⟨pb, 1, none⟩ = some (.slice (some ⟨rb, ro, none⟩) a.nx.length c) ∧ w'.cell? ⟨rb, ro + l, none⟩ = some (.slice (some ⟨tb, to, none⟩) (nth a.nx l).length c3) ∧ w'.cell? ⟨gb, k, none⟩ = some (.int .i64 X) ∧ w'.cell? ⟨tb, to + X.toNat, none⟩ = some (.int .i64 Y))
              (go_keep)
              (fail)
            have hnd : New wi wi.drew := (by repeat (first | with_reducible exact New.refl _ | with_reducible assumption | with_reducible refine New.alloc ?_ _ | with_reducible refine New.drewN ?_ _ | with_reducible refine New.drew ?_ | with_reducible refine New.trans ?_ (by with_reducible assumption)))
            generalize wi.drew = wd at hnd ⊢
            have hNd := hNi.trans hnd
            have hFd0 := hid (World.block_lt_of_cell? wi _ c1)
            have hzd := hNd.size
            rw [← hnd.frozen c1] at c2
            rw [← hnd.frozen c3'] at c4
            replace c1 := hnd.cell c1
            replace c3' := hnd.cell c3'
            replace hx0 := hnd.cell hx0
            have hFd := hFi.new hnd
            have hGd := HGI.out.new hnd
            have hNs : New w (wd.setCell ⟨w.heap.size, Y.toNat, none⟩ (.int .i64 ((FX : Int) + 1))) := hNd.setCell (Nat.le_refl _) _
            have hGs : Grow (w.heap.size + 1) 2 (wd.setCell ⟨w.heap.size, Y.toNat, none⟩ (.int .i64 ((FX : Int) + 1))) (.slice (some ⟨gb, 0, none⟩) T'.list.length cc2) T'.list := ownsRow_grown hGd (grown_setCell _ _ _) (Or.inl (by have := (hGd.block gb rfl).1; simp [Value.ownBlock]; omega))
            have hTl : T'.list.length < 1099511627776 := by omega
            go_wp2_with (first
              | (go_at_call 219; refine (C _ hnd).mono ?_; rintro e w' ⟨rfl, hww⟩; rw [hww]; clear hww w')
              | (at_builtin; refine wpList_app (w1 := wd.setCell ⟨w.heap.size, Y.toNat, none⟩ (.int .i64 ((FX : Int) + 1))) rfl _ _ _ rfl Try.underlying26 info_i64 (.slice (some ⟨gb, 0, none⟩) T'.list.length cc2) T'.list rfl hGs (by rw [size_setCell]; rfl) hTl (by rw [size_setCell]; exact Nat.lt_of_lt_of_le (show w.heap.size < wi.heap.size from hFd0.out) hnd.size) ?_; intro g4 cap4 w12 ho12 hg12))
            have hW : Within (w.heap.size + 1) (wd.setCell ⟨w.heap.size, Y.toNat, none⟩ (.int .i64 ((FX : Int) + 1))).heap.size (wd.setCell ⟨w.heap.size, Y.toNat, none⟩ (.int .i64 ((FX : Int) + 1))) w12 := Within.of_grown hg12 (fun q hq => hGs.block q hq)
            go_roundw
            case rel => exact ⟨l + 1, by omega, by go_num, New.grown hNs hg12 (fun q hq => by have := (hGs.block q hq).1; omega), by rw [HS.out]; exact ho12, by rw [HS.out]; exact (HFS.out wd hFd).within hW (Or.inl (Nat.le_refl _))⟩
            case measure => simp [intOf]; omega
        · have e : l = a.nx.length := by omega
          subst e
          have b2 : ¬ (a.nx.length : Int) < (a.nx.length : Int) := by omega
          have HS := hid (show rcT a 0 (k + 1) = T' by unfold rcT at hlt HT ⊢; rw [bTo_succ, if_pos hlt, HT.out])
          go_wp2_with fail
          refine ⟨⟨k + 1, by rw [HS.out]; exact hk2, by go_num, hNi, by rw [HS.out]; exact hGi, by rw [HS.out]; exact hFi⟩, ?_⟩
          simp [intOf]; omega
    · have e : k = (rcT a 0 k).list.length := by omega
      have b1 : ¬ (k : Int) < ((rcT a 0 k).list.length : Int) := by omega
      rw [← HET.out k e.symm] at hFk
      obtain ⟨T, hT⟩ : ∃ T, T = rcT a 0 11 := ⟨_, rfl⟩
      rw [← hT] at hFk
      have HT := hid hT
      clear e hT
      go_wp2_with fail
      go_loopw [8, 9] (fun g i wr => ∃ s : Nat, s ≤ N ∧ i = .int .i64 s ∧ g = .int .i64 (gAll 0 (upTo (stateGap a) a.nx.length s 0) : Nat) ∧ New w wr ∧ OwnInts w.heap.size (w.heap.size + 1) wr (.slice (some ⟨w.heap.size, 0, none⟩) N N) (farL N T)) (fun _ i _ => N - (intOf i).toNat)
      case atStart => exact ⟨0, Nat.zero_le _, rfl, rfl, hnk, hFk⟩
      case round =>
        obtain ⟨s, hsN, rfl, rfl, hns, hFs⟩ := hrel
        clear hFk hGk hnk
        obtain ⟨wo2, rfl⟩ : ∃ wo2 : World, wo2 = wr := ⟨_, rfl⟩
        have hp0s := hns.cell hp0
        by_cases hlt2 : s < N
        · have b2 : (s : Int) < (N : Int) := by omega
          go_wp2_with fail
          go_loopw [8, 10] (fun g i wr => ∃ l : Nat, l ≤ a.nx.length ∧ i = .int .i64 l ∧ g = .int .i64 (gAll 0 (upTo (stateGap a) a.nx.length s l) : Nat) ∧ New w wr ∧ OwnInts w.heap.size (w.heap.size + 1) wr (.slice (some ⟨w.heap.size, 0, none⟩) N N) (farL N T)) (fun _ i _ => a.nx.length - (intOf i).toNat)
          case atStart => exact ⟨0, Nat.zero_le _, rfl, rfl, hns, hFs⟩
          case round =>
            obtain ⟨l, hll, rfl, rfl, hnl, hFl⟩ := hrel
            clear hFs hns hp0s
            obtain ⟨wl, rfl⟩ : ∃ wl : World, wl = wr := ⟨_, rfl⟩
            have hp1l := hnl.cell hp1
            have hgl := HGL.out s l
            obtain ⟨GV, hGV⟩ : ∃ z, z = gAll 0 (upTo (stateGap a) a.nx.length s l) := ⟨_, rfl⟩
            rw [← hGV] at hgl ⊢
            have HGV := hid hGV
            clear hGV
            by_cases hltl : l < a.nx.length
            · have b3 : (l : Int) < (a.nx.length : Int) := by omega
              obtain ⟨rb, ro, rv, rfl, hx, hrv⟩ := HC.out l hltl
              obtain ⟨A3, c3, rfl, hl3, hc3⟩ := hrv
              obtain ⟨r1, r2⟩ := HR.out l hltl
              have hN' := HNN.out
              obtain ⟨tb, to, rfl, ht⟩ := hc3 s (by omega)
              obtain ⟨Y, hY⟩ : ∃ Y, Y = nth (nth a.nx l) s := ⟨_, rfl⟩
              obtain ⟨yr0, yr1⟩ := r2 s (by omega)
              rw [← hY] at ht yr0 yr1
              have g1 : (s : Int) < ((nth a.nx l).length : Int) := by omega
              have hYN : Y < (N : Int) := by omega
              have HUP := hid (show gAll 0 (upTo (stateGap a) a.nx.length s (l + 1)) = Nat.gcd GV (stateGap a s l) by rw [upTo_step, gAll_snoc, ← HGV.out])
              have hms : (s : Int) ∈ T.list := by rw [HT.out]; exact HALL.out (s : Int) ⟨by omega, by omega⟩
              have hmY : Y ∈ T.list := by rw [HT.out]; exact HALL.out Y ⟨yr0, by omega⟩
              have e1 := farL_at N T (s : Int) (by omega) (by omega) hms
              have e2 := farL_at N T Y yr0 (by omega) hmY
              have HSG := hid (show stateGap a s l = gapOf (farD T (s : Int)) (farD T Y) by rw [HT.out, hY]; rfl)
              have hFN := farL_len N T
              obtain ⟨c1, _⟩ := hFl.cell_at s (by omega)
              obtain ⟨c2, _⟩ := hFl.cell_at Y.toNat (by omega)
              rw [Nat.zero_add] at c1 c2
              rw [show ((s : Int)).toNat = s from rfl] at e1
              rw [e1] at c1
              rw [e2] at c2
              have f1 := HFT.out (s : Int)
              have f2 := HFT.out Y
              rw [← HT.out] at f1 f2
              obtain ⟨FS, hFS⟩ : ∃ z, z = farD T (s : Int) := ⟨_, rfl⟩
              obtain ⟨FY, hFY⟩ : ∃ z, z = farD T Y := ⟨_, rfl⟩
              rw [← hFS] at c1 f1 HSG
              rw [← hFY] at c2 f2 HSG
              replace hx := hnl.cell hx
              replace ht := hnl.cell ht
              clear hc3 r2 hY hms hmY e1 e2 hFN hFS hFY hN'
              by_cases hneg : (FS : Int) + 1 - (FY : Int) < 0
              · have C := fun w9 => l01Gcd_any (GV : Int) (-((FS : Int) + 1 - (FY : Int))) w9 (by omega) (by omega)
                have HD := hid (show (-((FS : Int) + 1 - (FY : Int))).natAbs = gapOf FS FY by unfold gapOf; omega)
                have hdec : decide ((FS : Int) + 1 - (FY : Int) < 0) = true := decide_eq_true hneg
                go_wp2_with fail
                go_quiet (fail)
                go_wp2_with (go_at_call 220; refine (C _).mono ?_; rintro e w' ⟨rfl, rfl⟩)
                all_goals go_roundw
                case rel => exact ⟨l + 1, by omega, by go_num, by rw [HUP.out, HSG.out, ← HD.out, Int.natAbs_neg], hnl.trans (by repeat (first | with_reducible exact New.refl _ | with_reducible assumption | with_reducible refine New.alloc ?_ _ | with_reducible refine New.drewN ?_ _ | with_reducible refine New.drew ?_ | with_reducible refine New.trans ?_ (by with_reducible assumption))), hFl.new (by repeat (first | with_reducible exact New.refl _ | with_reducible assumption | with_reducible refine New.alloc ?_ _ | with_reducible refine New.drewN ?_ _ | with_reducible refine New.drew ?_ | with_reducible refine New.trans ?_ (by with_reducible assumption)))⟩
                case measure => simp [intOf]; omega
              · have C := fun w9 => l01Gcd_any (GV : Int) ((FS : Int) + 1 - (FY : Int)) w9 (by omega) (by omega)
                have HD := hid (show ((FS : Int) + 1 - (FY : Int)).natAbs = gapOf FS FY by unfold gapOf; omega)
                have hdec : decide ((FS : Int) + 1 - (FY : Int) < 0) = false := decide_eq_false hneg
                go_wp2_with fail
                go_quiet (fail)
                go_wp2_with (go_at_call 220; refine (C _).mono ?_; rintro e w' ⟨rfl, rfl⟩)
                all_goals go_roundw
                case rel => exact ⟨l + 1, by omega, by go_num, by rw [HUP.out, HSG.out, ← HD.out], hnl.trans (by repeat (first | with_reducible exact New.refl _ | with_reducible assumption | with_reducible refine New.alloc ?_ _ | with_reducible refine New.drewN ?_ _ | with_reducible refine New.drew ?_ | with_reducible refine New.trans ?_ (by with_reducible assumption))), hFl.new (by repeat (first | with_reducible exact New.refl _ | with_reducible assumption | with_reducible refine New.alloc ?_ _ | with_reducible refine New.drewN ?_ _ | with_reducible refine New.drew ?_ | with_reducible refine New.trans ?_ (by with_reducible assumption)))⟩
                case measure => simp [intOf]; omega
            · have e : l = a.nx.length := by omega
              subst e
              have b3 : ¬ (a.nx.length : Int) < (a.nx.length : Int) := by omega
              have HUP := hid (show gAll 0 (upTo (stateGap a) a.nx.length (s + 1) 0) = GV by rw [upTo_row, HGV.out])
              go_wp2_with fail
              refine ⟨⟨s + 1, by omega, by go_num, by rw [HUP.out], hnl, hFl⟩, ?_⟩
              simp [intOf]; omega
        · have e : s = N := by omega
          subst e
          have b2 : ¬ (s : Int) < (s : Int) := by omega
          go_wp2_with fail
          go_ret
          rw [HP.out]
          exact ⟨rfl, hns⟩

end Go.Proofs.Ytiflokfinkachaa
