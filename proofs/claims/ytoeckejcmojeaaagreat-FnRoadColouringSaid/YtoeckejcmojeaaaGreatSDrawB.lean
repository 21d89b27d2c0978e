/- The reference's drawn automata whose states are alike. -/
import Derived.Test.YtoeckejcmojeaaaGreatRows
import Derived.Test.YtoeckejcmojeaaaGreatCore
import Derived.Test.YtoeckejcmojeaaaGreatInfos
import Derived.Test.YtoeckejcmojeaaaGreatArrs
import Derived.Test.YtoeckejcmojeaaaGreatPlains
import Derived.Test.YtoeckejcmojeaaaGreatPers
import Derived.Test.YtoeckejcmojeaaaGreatMaps
import Derived.Test.YtoeckejcmojeaaaGreatDrawT
import Derived.Test.YtoeckejcmojeaaaGreatSDraw
import Derived.Test.YtoeckejcmojeaaaGreatSDrawA
import Derived.Test.YtoeckejcmojeaaaGreatS01b
import Derived.Test.YtoeckejcmojeaaaGreatSTidy
import Derived.WalkKit
import Derived.WalkSpells
import Derived.WalkLawsBesides
import Derived.Deep.QuietTactic
import Derived.Deep.OwnRows
import Derived.BigQuiet
import Derived.KernelRfl
import Derived.Carry
import Derived.Deep.RegionHeld3
import Derived.Deep.RegionLaw
namespace Go.Proofs.YtoeckejcmojeaaaGreat
open Go.RowKit

set_option maxRecDepth 20000 in
set_option maxHeartbeats 4000000 in
theorem l01Alike_any (sb n K : Nat) (w : World) (h : SrcAt w sb n K) (hK : K ≤ 500000000) :
    Calls Tryz.prog 108 #[.pointer (some ⟨sb, 0, none⟩)] w fun e w' => ∃ r cl a, e = .returned (.tuple #[r, cl]) ∧ Within sb (sb + 1) w w' ∧ SrcAt w' sb n (K + 2000) ∧ OwnAut w.heap.size w'.heap.size w' r a ∧ autOk a = true ∧ a.n ≤ 6 ∧ CapA r := by
  have hsb := h.lt
  obtain ⟨W0, hW0⟩ : ∃ W0, W0 = w.alloc (.cells #[.int .i64 0, .slice none 0 0] 31) := ⟨_, rfl⟩
  have hn0 : New w W0 := by rw [hW0]; exact (by repeat (first | with_reducible exact New.refl _ | with_reducible assumption | with_reducible refine New.alloc ?_ _ | with_reducible refine New.drewN ?_ _ | with_reducible refine New.drew ?_ | with_reducible refine New.trans ?_ (by with_reducible assumption)))
  have hz0 : W0.heap.size = w.heap.size + 1 := by rw [hW0]; simp only [size_alloc]
  have hR0 : Box2 W0 w.heap.size (.int .i64 0) (.slice none 0 0) := by rw [hW0]; exact ⟨by go_simp, by go_simp, by go_simp, by go_simp⟩
  have hs0 := h.new hn0
  have HP := hid (fun (w1 : World) (K1 : Nat) (m : Int) (hs : SrcAt w1 sb n K1) (hk : K1 ≤ 2000000000) (hm : m ≤ 1000000) => pick_any sb n K1 m w1 hs (by omega) hm)
  clear h
  go_enter Tryz.func108, Tryz.ntmps108
  go_wp2_with fail
  rw [← hW0]
  clear hW0
  refine (l01Drawn_any sb n K 3 W0 hs0 (by omega) ⟨by decide, by decide⟩).mono ?_
  rintro e w1 ⟨rq, q, rfl, hW1', hs1, hoq, hq, hq3, _⟩
  have hW1 : Within sb (sb + 1) w w1 := (Within.of_new hn0 _ _).trans hW1'
  have hR1 := hR0.within hW1' (Or.inr (by omega))
  have hz1 : W0.heap.size ≤ w1.heap.size := hW1'.2.2.2.1
  obtain ⟨rv, rfl, hoq2⟩ := hoq
  obtain ⟨AQ, cQ, rfl⟩ := hoq2.form
  have hqn := autOk_n hq
  have hql := autOk_l hq
  have hn2 : New w1 (w1.alloc (.cells #[.int .i64 q.n, .slice AQ q.nx.length cQ] 31)) := (by repeat (first | with_reducible exact New.refl _ | with_reducible assumption | with_reducible refine New.alloc ?_ _ | with_reducible refine New.drewN ?_ _ | with_reducible refine New.drew ?_ | with_reducible refine New.trans ?_ (by with_reducible assumption)))
  have hB2 : Box2 (w1.alloc (.cells #[.int .i64 q.n, .slice AQ q.nx.length cQ] 31)) w1.heap.size (.int .i64 q.n) (.slice AQ q.nx.length cQ) := ⟨by go_simp, by go_simp, by go_simp, by go_simp⟩
  have hs2 := hs1.new hn2
  have hR2 := hR1.new hn2
  have hO2 := hoq2.new hn2
  have hW2 := hW1.trans (Within.of_new hn2 sb (sb + 1))
  have hz2 : w1.heap.size + 1 = (w1.alloc (.cells #[.int .i64 q.n, .slice AQ q.nx.length cQ] 31)).heap.size := by simp only [size_alloc]
  go_wp2_with fail
  generalize (w1.alloc (.cells #[.int .i64 q.n, .slice AQ q.nx.length cQ] 31)) = w2 at hs2 hB2 hR2 hO2 hW2 hz2 ⊢
  have HQR := hid (fun l (hl : l < q.nx.length) => autOk_row hq l hl)
  clear hn0 hR0 hs0 hW1' hs1 hR1 hoq2 hn2 hW1 hq
  obtain ⟨qb, hqb⟩ : ∃ qb, qb = w1.heap.size := ⟨_, rfl⟩
  rw [← hqb] at hB2 ⊢
  have hqb1 : w.heap.size < qb := by omega
  have hqb2 : qb < w2.heap.size := by omega
  have hOW : OwnRows (w.heap.size + 1) qb w2 (.slice AQ q.nx.length cQ) q.nx := hO2.widen (by omega) (by omega)
  clear hO2 hqb hz2 hz1 hz0
  obtain ⟨c20, c21, _⟩ := id hB2
  go_region_held3 (fun w' => w'.cell? ⟨qb, 0, none⟩ = some (.int .i64 q.n))
    (first | exact hc3 | exact c20 | go_keep)
    (first
      | (go_at_call 49; refine (HP.out _ (K + 1000) 4 (hs2.new (by repeat (first | with_reducible exact New.refl _ | with_reducible assumption | with_reducible refine New.alloc ?_ _ | with_reducible refine New.drewN ?_ _ | with_reducible refine New.drew ?_ | with_reducible refine New.trans ?_ (by with_reducible assumption)))) (by omega) (by omega)).mono ?_; rintro e w3 ⟨x3, rfl, hx3, hb3, hs3⟩; have hW3 : Within sb (sb + 1) w2 w3 := (Within.of_new (by repeat (first | with_reducible exact New.refl _ | with_reducible assumption | with_reducible refine New.alloc ?_ _ | with_reducible refine New.drewN ?_ _ | with_reducible refine New.drew ?_ | with_reducible refine New.trans ?_ (by with_reducible assumption))) _ _).trans hb3.within1; have hc3 : w3.cell? ⟨qb, 0, none⟩ = some (.int .i64 q.n) := hW3.cell c20 (Or.inr (by show sb + 1 ≤ qb; omega))))
  have hx4 : 0 ≤ x3 ∧ x3 < 4 := ⟨hx3.1, hx3.2.2 (by decide)⟩
  have hwN : IntKind.i64.wrap (q.n + x3) = q.n + x3 := IntWalk.i64_in _ (by omega)
  rw [hwN]
  obtain ⟨N, hN⟩ : ∃ N, N = q.n + x3 := ⟨_, rfl⟩
  rw [← hN]
  have hNb : q.n ≤ N ∧ N ≤ 6 := by omega
  have hW03 := hW2.trans hW3
  have hR3 := hR2.within hW3 (Or.inr (by omega))
  have hB3 := hB2.within hW3 (Or.inr (by omega))
  have hO3 : OwnRows (w.heap.size + 1) qb w3 (.slice AQ q.nx.length cQ) q.nx := hOW.within hW3 (Or.inr (by omega))
  have hz3 : qb < w3.heap.size := hB3.lt
  clear hwN hN hx3 hx4 c20 c21 hB2 hR2 hOW hs2 hW2 hW3 hb3 hc3 hqb2
  go_wp2_with fail
  -- the marks
  have hM0 := Grow.empty w3.heap.size 2 w3 (Nat.le_refl _)
  have hnM : New w3 (w3.alloc (.cells #[] 2)) := (by repeat (first | with_reducible exact New.refl _ | with_reducible assumption | with_reducible refine New.alloc ?_ _ | with_reducible refine New.drewN ?_ _ | with_reducible refine New.drew ?_ | with_reducible refine New.trans ?_ (by with_reducible assumption)))
  have hsM := hs3.new hnM
  generalize (w3.alloc (.cells #[] 2)) = w4 at hM0 hnM hsM ⊢
  have hW34 := Within.of_new hnM sb (sb + 1)
  clear hnM
  go_loopw [6, 7] (fun mv i wr => ∃ (k : Nat) (MS : List Int), (k : Int) ≤ N ∧ i = .int .i64 k ∧ SrcAt wr sb n (K + 1002 + 2 * k) ∧ Within sb (sb + 1) w3 wr ∧ Grow w3.heap.size 2 wr mv MS ∧ Hid (MS.length = k ∧ ∀ j, j < k → 0 ≤ nth MS j ∧ nth MS j < q.n)) (fun _ i _ => (N - intOf i).toNat)
  case atStart => exact ⟨0, [], by omega, rfl, hsM, hW34, hM0, hid ⟨rfl, fun j hj => by omega⟩⟩
  case round =>
    obtain ⟨k, MS, hkN, rfl, hsk, hWk, hMk, hMS⟩ := hrel
    clear hM0 hsM hW34
    obtain ⟨wk, rfl⟩ : ∃ wk : World, wk = wr := ⟨_, rfl⟩
    obtain ⟨AM, cM, rfl⟩ := hMk.form
    have hBk := hB3.within hWk (Or.inr (by omega))
    obtain ⟨c0, c1, _⟩ := id hBk
    have hwz : w3.heap.size ≤ wk.heap.size := hWk.2.2.2.1
    by_cases hlk : (k : Int) < N
    · have hRl : MS.length < 1099511627776 := by have := hMS.out.1; omega
      by_cases hkq : (k : Int) < q.n
      · go_wp2_with (at_builtin; refine wpList_app (w1 := wk) rfl _ _ _ rfl Tryz.underlying34 info_i64 (.slice AM MS.length cM) MS rfl hMk rfl hRl hwz ?_; intro g9 cap9 w9 ho9 hg9)
        refine ⟨⟨k + 1, MS ++ [(k : Int)], by omega, by go_num, (hsk.grown9 hg9 (fun q hq => (hMk.block q hq).1) (by omega)).mono (by omega), Within.of_above hWk hg9 (fun q hq => (hMk.block q hq).1), ho9, hid (rows_snoc hMS.out (k : Int) (by omega) hkq)⟩, ?_⟩
        simp [intOf]; omega
      · go_wp2_with fail
        refine (HP.out _ _ q.n hsk (by omega) (by omega)).mono ?_
        rintro e w6 ⟨tz, rfl, hto, hb6, hs6⟩
        have hs6w := hWk.trans hb6.within1
        have hM6 := hMk.within hb6.within1 (by omega)
        have hs6z : w3.heap.size ≤ w6.heap.size := hs6w.2.2.2.1
        have hto2 : 0 ≤ tz ∧ tz < q.n := ⟨hto.1, by
          rcases Int.lt_or_le 1 q.n with u | u
          · exact hto.2.2 u
          · have := hto.2.1 u; omega⟩
        go_wp2_with (at_builtin; refine wpList_app (w1 := w6) rfl _ _ _ rfl Tryz.underlying34 info_i64 (.slice AM MS.length cM) MS rfl hM6 rfl hRl hs6z ?_; intro g9 cap9 w9 ho9 hg9)
        refine ⟨⟨k + 1, MS ++ [tz], by omega, by go_num, (hs6.grown9 hg9 (fun q hq => (hM6.block q hq).1) (by omega)).mono (by omega), Within.of_above hs6w hg9 (fun q hq => (hM6.block q hq).1), ho9, hid (rows_snoc hMS.out tz hto2.1 hto2.2)⟩, ?_⟩
        simp [intOf]; omega
    · have hke : (k : Int) = N := by omega
      have hMO := hMk.own (by have := hMS.out.1; omega)
      have hMl : MS.length ≤ 6 := by have := hMS.out.1; omega
      have hR4 := hR3.within hWk (Or.inr (by omega))
      have hO4 := hO3.within hWk (Or.inr (by omega))
      have hW04 := hW03.trans hWk
      have hWz4 : w.heap.size < wk.heap.size := by omega
      -- the automaton's box
      have hn5 : New wk (wk.alloc (.cells #[.int .i64 N, .slice none 0 0] 31)) := (by repeat (first | with_reducible exact New.refl _ | with_reducible assumption | with_reducible refine New.alloc ?_ _ | with_reducible refine New.drewN ?_ _ | with_reducible refine New.drew ?_ | with_reducible refine New.trans ?_ (by with_reducible assumption)))
      have hA5 : Box2 (wk.alloc (.cells #[.int .i64 N, .slice none 0 0] 31)) wk.heap.size (.int .i64 N) (.slice none 0 0) := ⟨by go_simp, by go_simp, by go_simp, by go_simp⟩
      have hz5 : wk.heap.size + 1 ≤ (wk.alloc (.cells #[.int .i64 N, .slice none 0 0] 31)).heap.size := by simp only [size_alloc]; omega
      have hs5 := hsk.new hn5
      have hR5 := hR4.new hn5
      have hO5 := hO4.new hn5
      have hB5 := hBk.new hn5
      have hM5 := hMO.new hn5
      have hW5 := hW04.trans (Within.of_new hn5 sb (sb + 1))
      obtain ⟨mb, hmb⟩ : ∃ mb, mb = w3.heap.size := ⟨_, rfl⟩
      rw [← hmb] at hM5
      have hmb1 : qb < mb := by omega
      clear hR4 hO4 hBk hMO hW04 c0 c1 hsk hWk hMk hwz hR3 hO3 hB3 hW03 hs3 hz3 hmb
      go_wp2_with fail
      generalize (wk.alloc (.cells #[.int .i64 N, .slice none 0 0] 31)) = w5 at hn5 hA5 hz5 hs5 hR5 hO5 hB5 hM5 hW5 ⊢
      obtain ⟨b8, hb8⟩ : ∃ b8, b8 = wk.heap.size := ⟨_, rfl⟩
      rw [← hb8] at hA5 hz5 hM5 hWz4 ⊢
      have hb8m : mb ≤ b8 := by
        by_cases h0 : 0 < MS.length
        · obtain ⟨_, _, _, _, ha, hcc⟩ := id hM5
          obtain ⟨b, off, e, _⟩ := hcc 0 h0
          have := ha _ e
          omega
        · have := hMS.out.1; omega
      clear hn5 hb8
      go_loopw [9] (fun i wr => ∃ (x : Nat) (v : Value) (RS : List (List Int)), x ≤ q.nx.length ∧ i = .int .i64 x ∧ Within sb (sb + 1) w wr ∧ SrcAt wr sb n (K + 1014 + 100 * x) ∧ Box2 wr w.heap.size (.int .i64 0) (.slice none 0 0) ∧ Box2 wr qb (.int .i64 q.n) (.slice AQ q.nx.length cQ) ∧ OwnRows (w.heap.size + 1) qb wr (.slice AQ q.nx.length cQ) q.nx ∧ OwnInts mb b8 wr (.slice AM MS.length cM) MS ∧ Box2 wr b8 (.int .i64 N) v ∧ b8 + 1 ≤ wr.heap.size ∧ GrowRows (b8 + 1) 34 wr v RS ∧ Hid (RS.length = x ∧ ∀ j, j < x → mapOk (nth RS j) N = true)) (fun i _ => q.nx.length - (intOf i).toNat)
      case atStart => exact ⟨0, _, [], Nat.zero_le _, rfl, hW5, hs5.mono (by omega), hR5, hB5, hO5, hM5, hA5, hz5, GrowRows.nil _ _ _, hid ⟨rfl, fun j hj => by omega⟩⟩
      case round =>
        obtain ⟨x, v, RS, hxl, rfl, hWx, hsx, hRx, hBx, hOx, hMx, hAx, hzx, hGx, hRS⟩ := hrel
        clear hW5 hs5 hR5 hB5 hO5 hM5 hA5 hz5
        obtain ⟨wS, rfl⟩ : ∃ wS : World, wS = wr := ⟨_, rfl⟩
        obtain ⟨AV, cV, rfl⟩ := hGx.form
        obtain ⟨c0, c1, _⟩ := id hBx
        by_cases hlx : x < q.nx.length
        · have b1 : (x : Int) < (q.nx.length : Int) := by omega
          have hsS := hsx.lt
          have hY0 := Grow.empty wS.heap.size 2 wS (Nat.le_refl _)
          have hnY : New wS (wS.alloc (.cells #[] 2)) := (by repeat (first | with_reducible exact New.refl _ | with_reducible assumption | with_reducible refine New.alloc ?_ _ | with_reducible refine New.drewN ?_ _ | with_reducible refine New.drew ?_ | with_reducible refine New.trans ?_ (by with_reducible assumption)))
          have hsY := hsx.new hnY
          have hWY := Within.of_new hnY sb (sb + 1)
          go_wp2_with fail
          generalize (wS.alloc (.cells #[] 2)) = wY at hY0 hnY hsY hWY ⊢
          go_loopw [10, 11] (fun rv i wr => ∃ (k : Nat) (ROW : List Int), (k : Int) ≤ N ∧ i = .int .i64 k ∧ SrcAt wr sb n (K + 1014 + 100 * x + 8 * k) ∧ Within sb (sb + 1) wS wr ∧ Grow wS.heap.size 2 wr rv ROW ∧ Hid (ROW.length = k ∧ ∀ j, j < k → 0 ≤ nth ROW j ∧ nth ROW j < N)) (fun _ i _ => (N - intOf i).toNat)
          case atStart => exact ⟨0, [], by omega, rfl, hsY, hWY, hY0, hid ⟨rfl, fun j hj => by omega⟩⟩
          case round =>
            obtain ⟨k2, ROW, hkm, rfl, hsk, hWk, hYk, hROW⟩ := hrel
            clear hY0 hnY hsY hWY
            obtain ⟨wk2, rfl⟩ : ∃ wk2 : World, wk2 = wr := ⟨_, rfl⟩
            obtain ⟨AY, cY, rfl⟩ := hYk.form
            have hzk : wS.heap.size ≤ wk2.heap.size := hWk.2.2.2.1
            by_cases hlk2 : (k2 : Int) < N
            · have hRl : ROW.length < 1099511627776 := by have := hROW.out.1; omega
              have hMk2 := hMx.within hWk (Or.inr (by omega))
              have hOk2 := (hOx.within hWk (Or.inr (by omega))).at
              have hBk2 := hBx.within hWk (Or.inr (by omega))
              obtain ⟨d0, d1, _⟩ := id hBk2
              have hML : (MS.length : Int) = N := by have := hMS.out.1; omega
              obtain ⟨A4, c4, e4, _, _, hmc⟩ := id hMk2
              cases e4
              obtain ⟨mb2, mo, rfl, hmx, _⟩ := hmc k2 (by omega)
              obtain ⟨MK, hMK⟩ : ∃ z, z = nth MS k2 := ⟨_, rfl⟩
              have hMKr := hMS.out.2 k2 (by have := hMS.out.1; omega)
              rw [← hMK] at hmx hMKr
              obtain ⟨mk0, mk1⟩ := hMKr
              obtain ⟨A6, c6, e6, _, hqc⟩ := id hOk2
              cases e6
              obtain ⟨rb, ro, rv, rfl, hrx, hrv⟩ := hqc x hlx
              obtain ⟨A7, c7, rfl, _, hrc⟩ := hrv
              obtain ⟨qr1, qr2⟩ := HQR.out x hlx
              obtain ⟨tb, toff, rfl, htx⟩ := hrc MK.toNat (by omega)
              obtain ⟨WT, hWT⟩ : ∃ z, z = nth (nth q.nx x) MK.toNat := ⟨_, rfl⟩
              have hWTr := qr2 MK.toNat (by omega)
              rw [← hWT] at htx hWTr
              obtain ⟨wt0, wt1⟩ := hWTr
              have m1 : (k2 : Int) < (MS.length : Int) := by omega
              have m2 : MK < ((nth q.nx x).length : Int) := by omega
              have HMC := hid (fun w' (hw : Within sb (sb + 1) wk2 w') (j : Nat) (hj : j < MS.length) => (show w'.cell? ⟨mb2, mo + j, none⟩ = some (.int .i64 (nth MS j)) by
                obtain ⟨_, _, e, _, _, hh⟩ := hMk2.within hw (Or.inr (by omega))
                cases e
                obtain ⟨b, o, e, hx, _⟩ := hh j hj
                cases e
                exact hx))
              clear hmc hqc hrc hMk2 hOk2 hBk2 hMK hWT qr1 qr2 hBx hOx
              go_wp2_with fail
              go_region_held3 (fun w' => w'.cell? ⟨qb, 1, none⟩ = some (.slice (some ⟨rb, ro, none⟩) q.nx.length cQ) ∧ w'.cell? ⟨rb, ro + x, none⟩ = some (.slice (some ⟨tb, toff, none⟩) (nth q.nx x).length c7) ∧ w'.cell? ⟨mb2, mo + k2, none⟩ = some (.int .i64 MK) ∧ w'.cell? ⟨tb, toff + MK.toNat, none⟩ = some (.int .i64 WT))
                (go_keep)
                (fail)
              all_goals go_wp2_with fail
              go_loopw [13, 14] (fun tv i wr => ∃ (t : Nat) (tz : Int), t ≤ 4 ∧ i = .int .i64 t ∧ tv = .int .i64 tz ∧ (0 ≤ tz ∧ tz < N) ∧ SrcAt wr sb n (K + 1014 + 100 * x + 8 * k2 + 2 * t) ∧ Within sb (sb + 1) wk2 wr) (fun _ i _ => 4 - (intOf i).toNat)
              case atStart => exact ⟨0, WT, by omega, rfl, rfl, ⟨wt0, by omega⟩, (hsk.new (by repeat (first | with_reducible exact New.refl _ | with_reducible assumption | with_reducible refine New.alloc ?_ _ | with_reducible refine New.drewN ?_ _ | with_reducible refine New.drew ?_ | with_reducible refine New.trans ?_ (by with_reducible assumption)))).mono (by omega), Within.of_new (by repeat (first | with_reducible exact New.refl _ | with_reducible assumption | with_reducible refine New.alloc ?_ _ | with_reducible refine New.drewN ?_ _ | with_reducible refine New.drew ?_ | with_reducible refine New.trans ?_ (by with_reducible assumption))) _ _⟩
              case round =>
                obtain ⟨tn, tz, htn, rfl, rfl, htz, hst, hWt⟩ := hrel
                obtain ⟨wt, rfl⟩ : ∃ wt : World, wt = wr := ⟨_, rfl⟩
                by_cases hlt : tn < 4
                · have b4 : (tn : Int) < 4 := by omega
                  go_wp2_with fail
                  refine (HP.out _ _ N hst (by omega) (by omega)).mono ?_
                  rintro e w6 ⟨kk, rfl, hkk, hb6, hs6⟩
                  have hkk2 : 0 ≤ kk ∧ kk < N := ⟨hkk.1, by
                    rcases Int.lt_or_le 1 N with u | u
                    · exact hkk.2.2 u
                    · have := hkk.2.1 u; omega⟩
                  obtain ⟨kk0, kk1⟩ := hkk2
                  have hW6 := hWt.trans hb6.within1
                  have hxx := HMC.out w6 hW6 kk.toNat (by omega)
                  have m3 : kk < (MS.length : Int) := by omega
                  by_cases hq : nth MS kk.toNat = WT
                  · have hqb : (nth MS kk.toNat == WT) = true := by simpa using hq
                    rw [hq] at hxx
                    clear hq hqb
                    go_wp2_with fail
                    refine ⟨⟨tn + 1, kk, by omega, by go_num, rfl, ⟨kk0, kk1⟩, hs6.mono (by omega), hW6⟩, ?_⟩
                    simp [intOf]; omega
                  · have hqb : (nth MS kk.toNat == WT) = false := by simpa using hq
                    clear hq
                    go_wp2_with fail
                    refine ⟨⟨tn + 1, tz, by omega, by go_num, rfl, htz, hs6.mono (by omega), hW6⟩, ?_⟩
                    simp [intOf]; omega
                · have e : tn = 4 := by omega
                  subst e
                  have hW7 := hWk.trans hWt
                  have hY7 := hYk.within hWt (by omega)
                  have hz7 : wS.heap.size ≤ wt.heap.size := hW7.2.2.2.1
                  go_wp2_with (at_builtin; refine wpList_app (w1 := wt) rfl _ _ _ rfl Tryz.underlying34 info_i64 (.slice AY ROW.length cY) ROW rfl hY7 rfl hRl hz7 ?_; intro g9 cap9 w9 ho9 hg9)
                  refine ⟨⟨k2 + 1, ROW ++ [tz], by omega, by go_num, (hst.grown9 hg9 (fun q hq => (hY7.block q hq).1) (by omega)).mono (by omega), Within.of_above hW7 hg9 (fun q hq => (hY7.block q hq).1), ho9, hid (rows_snoc hROW.out tz htz.1 htz.2)⟩, ?_⟩
                  simp [intOf]; omega
            · have hke2 : (k2 : Int) = N := by omega
              have hown := hYk.own (by have := hROW.out.1; omega)
              have hAk := hAx.within hWk (Or.inr (by omega))
              have hRk := hRx.within hWk (Or.inr (by omega))
              have hBk := hBx.within hWk (Or.inr (by omega))
              have hOk := hOx.within hWk (Or.inr (by omega))
              have hMk := hMx.within hWk (Or.inr (by omega))
              obtain ⟨o0, o1, of0, of1⟩ := id hAk
              have hblk := hid hGx.block
              have hXlt : RS.length < 1099511627776 := by have := hRS.out.1; omega
              have hmo : mapOk ROW N = true := (mapOk_iff _ _).2 ⟨by have := hROW.out.1; omega, fun j hj => hROW.out.2 j (by have := hROW.out.1; omega)⟩
              have HMO := hid hmo
              clear hmo c0 c1
              go_wp2_with (at_builtin; refine wpList_appRowsW (w0 := wS) (w1 := wk2) rfl _ _ _ rfl Tryz.underlying24 info_ints (.slice AV RS.length cV) RS ROW rfl hGx hWk (by omega) hown rfl hXlt hzx ?_; intro g9 cap9 w9 ho9 hg9; have hA9 := hAk.grown hg9 (fun q hq => by have := (hblk.out q hq).1; omega); obtain ⟨u0, u1, uf0, uf1⟩ := id hA9)
              have hbr : ∀ q, (Value.slice AV RS.length cV).ownBlock = some q → b8 + 1 ≤ q := fun q hq => (hblk.out q hq).1
              have hWg : But (fun q => b8 ≤ q) wk2 w9 := But.of_grown hg9 (fun q hq => by have := hbr q hq; omega)
              have hWs : But (fun q => b8 ≤ q) w9 (w9.setCell ⟨b8, 1, none⟩ (.slice (some ⟨g9, 0, none⟩) (RS.length + 1) cap9)) := But.setCell _ _ (Nat.le_refl _)
              have hWa := hWg.trans hWs (fun q hq => Or.inl hq)
              have hW9 : Within sb (sb + 1) w w9 := Within.of_above (hWx.trans hWk) hg9 (fun q hq => by have := hbr q hq; omega)
              have hz9 := hg9.size
              have hW10 := within_setCell w9 ⟨b8, 1, none⟩ (.slice (some ⟨g9, 0, none⟩) (RS.length + 1) cap9)
              refine ⟨⟨x + 1, _, RS ++ [ROW], by omega, by go_num, Within.of_above hW9 (grown_setCell _ _ _) (fun q hq => by cases hq; show w.heap.size ≤ b8; omega), (hsk.but hWa (fun q hq => by omega)).mono (by omega), hRk.block (hWa.2.2.2.2 _ hRk.lt (by omega)), hBk.block (hWa.2.2.2.2 _ hBk.lt (by omega)), hOk.but1 hWa (fun q hq => by omega), hMk.but1 hWa (fun q hq => by omega), hA9.set1 _, by rw [size_setCell]; omega, ho9.within hW10 (Nat.le_refl _), hid ⟨by simp [hRS.out.1], fun j hj => ?_⟩⟩, ?_⟩
              · by_cases e : j < x
                · rw [nth_append_left _ _ _ (by rw [hRS.out.1]; exact e)]; exact hRS.out.2 j e
                · have e2 : j = RS.length := by rw [hRS.out.1]; omega
                  rw [e2, nth_append_here]; exact HMO.out
              · simp [intOf]; omega
        · have hxe : x = q.nx.length := by omega
          subst hxe
          have b1 : ¬ (q.nx.length : Int) < (q.nx.length : Int) := by omega
          have hcap : RS.length ≤ cV := let ⟨_, h1, _⟩ := hGx; ownsRow_cap h1
          have hOW := hGx.own (by have := hRS.out.1; omega)
          obtain ⟨o0, o1, of0, of1⟩ := id hAx
          obtain ⟨q0, q1, qf0, qf1⟩ := id hRx
          have hok : autOk ⟨N, RS⟩ = true := by
            rw [autOk_iff]
            exact ⟨⟨by show 1 ≤ N; omega, by show N ≤ 10; omega⟩, ⟨by show 1 ≤ RS.length; have := hRS.out.1; omega, by show RS.length ≤ 3; have := hRS.out.1; omega⟩, fun j hj => hRS.out.2 j (by have hj' : j < RS.length := hj; have := hRS.out.1; omega)⟩
          have HOK := hid hok
          have HTD := hid (fun (w1 : World) (hn : New wS w1) => l01Tidied_any (.slice AM MS.length cM) MS w1 (hMx.at.new hn) (by omega))
          clear hok
          go_wp2_with fail
          go_region_law (first
            | (go_simp; go_at_call 145; refine (HTD.out _ (by repeat (first | with_reducible exact New.refl _ | with_reducible assumption | with_reducible refine New.alloc ?_ _ | with_reducible refine New.drewN ?_ _ | with_reducible refine New.drew ?_ | with_reducible refine New.trans ?_ (by with_reducible assumption)))).mono ?_; rintro e w6 ⟨cl, rfl, hn6, _⟩; have hn6w : New wS w6 := (by repeat (first | with_reducible exact New.refl _ | with_reducible assumption | with_reducible refine New.alloc ?_ _ | with_reducible refine New.drewN ?_ _ | with_reducible refine New.drew ?_ | with_reducible refine New.trans ?_ (by with_reducible assumption))); have p0 := hn6w.cell o0; have p1 := hn6w.cell o1; have r0 := hn6w.cell q0; have r1 := hn6w.cell q1; have rf0 := (hn6w.frozen q0).trans qf0; have rf1 := (hn6w.frozen q1).trans qf1))
          all_goals
            have hRx6 := hRx.new hn6w
            obtain ⟨g0, g1, _⟩ := hRx6.fill (.int .i64 N) (.slice AV RS.length cV)
            have HW := hid (Within.fill w6 w.heap.size (.int .i64 N) (.slice AV RS.length cV))
            have hs9 := (hsx.new hn6w).but (HW.out.but1) (fun q hq => by omega)
            have hWf : Within sb (sb + 1) w ((w6.setCell ⟨w.heap.size, 0, none⟩ (.int .i64 N)).setCell ⟨w.heap.size, 1, none⟩ (.slice AV RS.length cV)) := Within.of_above (Within.of_above (hWx.trans (Within.of_new hn6w _ _)) (grown_setCell w6 ⟨w.heap.size, 0, none⟩ _) (fun q hq => by cases hq; exact Nat.le_refl _)) (grown_setCell _ ⟨w.heap.size, 1, none⟩ _) (fun q hq => by cases hq; exact Nat.le_refl _)
            have hz6 := hn6w.size
            have hOA : OwnAut w.heap.size ((w6.setCell ⟨w.heap.size, 0, none⟩ (.int .i64 N)).setCell ⟨w.heap.size, 1, none⟩ (.slice AV RS.length cV)).heap.size ((w6.setCell ⟨w.heap.size, 0, none⟩ (.int .i64 N)).setCell ⟨w.heap.size, 1, none⟩ (.slice AV RS.length cV)) (.agg #[.int .i64 N, .slice AV RS.length cV]) ⟨N, RS⟩ := ⟨_, rfl, ((hOW.new hn6w).within HW.out (Or.inr (by omega))).widen (by omega) (by have := HW.out.2.2.2.1; omega)⟩
            go_wp2_with fail
            refine bodyPost_ret (v := .tuple #[.agg #[.int .i64 N, .slice AV RS.length cV], cl]) (by simp [results, Tryz.results108, go_sem, g0, g1]) rfl ?_
            first
              | exact ⟨_, _, ⟨N, RS⟩, rfl, hWf, hs9.mono (by omega), hOA, HOK.out, hNb.2, CapA.mk hcap⟩
              | exact ⟨_, _, rfl, hWf, hs9.mono (by omega), ⟨N, RS⟩, hOA, HOK.out, hNb.2, CapA.mk hcap⟩
              | exact ⟨_, ⟨_, rfl⟩, hWf, hs9.mono (by omega), ⟨N, RS⟩, hOA, HOK.out, hNb.2, CapA.mk hcap⟩

end Go.Proofs.YtoeckejcmojeaaaGreat
