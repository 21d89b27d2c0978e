/- The reference's drawn automata. -/
import Derived.Test.YtoeckejcmojeaaaGreatRows
import Derived.Test.YtoeckejcmojeaaaGreatCore
import Derived.Test.YtoeckejcmojeaaaGreatInfos
import Derived.Test.YtoeckejcmojeaaaGreatArrs
import Derived.Test.YtoeckejcmojeaaaGreatPlains
import Derived.Test.YtoeckejcmojeaaaGreatMaps
import Derived.Test.YtoeckejcmojeaaaGreatDrawT
import Derived.Test.YtoeckejcmojeaaaGreatSDraw
import Derived.WalkKit
import Derived.WalkSpells
import Derived.WalkLawsBesides
import Derived.Deep.QuietTactic
import Derived.Deep.OwnRows
import Derived.BigQuiet
import Derived.KernelRfl
import Derived.Carry
import Derived.Deep.Cut
import Derived.Deep.CutRange
namespace Go.Proofs.YtoeckejcmojeaaaGreat
open Go.RowKit

set_option maxHeartbeats 400000 in
theorem l00Min_any (a b : Int) (w : World) :
    Calls Tryz.prog 144 #[.int .i64 a, .int .i64 b] w fun e w' => e = .returned (.int .i64 (min a b)) ∧ w' = w := by
  by_cases h : a < b
  · have e : min a b = a := by omega
    rw [e]
    go_enter Tryz.func144, Tryz.ntmps144
    go_wp2_with fail
    go_ret
    exact ⟨rfl, rfl⟩
  · have e : min a b = b := by omega
    rw [e]
    go_enter Tryz.func144, Tryz.ntmps144
    go_wp2_with fail
    go_ret
    exact ⟨rfl, rfl⟩
set_option maxRecDepth 20000 in
set_option maxHeartbeats 4000000 in
theorem l01Drawn_any (sb n K : Nat) (most : Int) (w : World) (h : SrcAt w sb n K) (hK : K ≤ 1000000000) (hm : 3 ≤ most ∧ most ≤ 10) :
    Calls Tryz.prog 107 #[.pointer (some ⟨sb, 0, none⟩), .int .i64 most] w fun e w' => ∃ r a, e = .returned r ∧ Within sb (sb + 1) w w' ∧ SrcAt w' sb n (K + 1000) ∧ OwnAut w.heap.size w'.heap.size w' r a ∧ autOk a = true ∧ a.n ≤ most ∧ CapA r := by
  have hsb := h.lt
  obtain ⟨W0, hW0⟩ : ∃ W0, W0 = w.alloc (.cells #[.int .i64 0, .slice none 0 0] 31) := ⟨_, rfl⟩
  have hn0 : New w W0 := by rw [hW0]; exact (by repeat (first | with_reducible exact New.refl _ | with_reducible assumption | with_reducible refine New.alloc ?_ _ | with_reducible refine New.drewN ?_ _ | with_reducible refine New.drew ?_ | with_reducible refine New.trans ?_ (by with_reducible assumption)))
  have hz0 : W0.heap.size = w.heap.size + 1 := by rw [hW0]; simp only [size_alloc]
  have hR0 : Box2 W0 w.heap.size (.int .i64 0) (.slice none 0 0) := by rw [hW0]; exact ⟨by go_simp, by go_simp, by go_simp, by go_simp⟩
  have hs0 := h.new hn0
  have HP := hid (fun (w1 : World) (K1 : Nat) (m : Int) (hs : SrcAt w1 sb n K1) (hk : K1 ≤ 2000000000) (hm : m ≤ 1000000) => pick_any sb n K1 m w1 hs (by omega) hm)
  have HO := hid (fun (w1 : World) (K1 : Nat) (m : Int) (hs : SrcAt w1 sb n K1) (hk : K1 ≤ 2000000000) (hm : m ≤ 1000000) => one_any sb n K1 m w1 hs (by omega) hm)
  clear h
  go_enter Tryz.func107, Tryz.ntmps107
  refine wp_cut3 (fun a' w' => ∃ (m : Int) (u13 u14 u15 u16 u17 u18 u19 u20 u21 u22 u23 u24 u25 u26 u27 u28 : Value), ((1 ≤ m ∧ m ≤ most) ∧ Within sb (sb + 1) w w' ∧ SrcAt w' sb n (K + 6) ∧ Box2 w' w.heap.size (.int .i64 0) (.slice none 0 0)) ∧ a' = ⟨#[.pointer (some ⟨sb, 0, none⟩), .int .i64 most, undef, undef, .pointer (some ⟨w.heap.size, 0, none⟩), .int .i64 m, undef, undef, undef, undef, undef, undef, undef, u13, u14, u15, u16, u17, u18, u19, u20, u21, u22, u23, u24, u25, u26, u27, u28, undef, undef, undef, undef, undef, undef, undef, undef, undef, undef, undef, undef, undef, undef, undef, undef, undef, undef, undef, undef, undef, undef, undef, undef, undef, undef, undef, undef, undef, undef, undef, undef, undef, undef, undef, undef, undef, undef, undef, undef, undef, undef, undef, undef, undef, undef, undef, undef, undef, undef, undef, undef, undef, undef, undef, undef, undef, undef, undef, undef, undef], []⟩) ?_ ?_
  case refine_2 =>
    intro J J2 HJ hJ K2 hK2 K1 hK1
    go_wp2_with fail
    rw [← hW0]
    clear hW0
    refine (HP.out W0 K most hs0 (by omega) (by omega)).mono ?_
    rintro e w1 ⟨x1, rfl, hx1, hb1, hs1⟩
    have hW1 : Within sb (sb + 1) w w1 := (Within.of_new hn0 _ _).trans hb1.within1
    have hR1 := hR0.within hb1.within1 (Or.inr (by omega))
    have hz1 := hb1.size
    obtain ⟨x10, x11, x12⟩ := hx1
    by_cases h3 : 1 + x1 < 3
    · go_wp2_with fail
      refine (HO.out w1 _ 3 hs1 (by omega) (by omega)).mono ?_
      rintro e w2 ⟨b2, rfl, hb2, hs2⟩
      have hW2 := hW1.trans hb2.within1
      have hR2 := hR1.within hb2.within1 (Or.inr (by omega))
      cases b2 with
      | true =>
        go_wp2_with fail
        exact Met.intro (HJ.out _ _ (by exact ⟨_, _, _, _, _, _, _, _, _, _, _, _, _, _, _, _, _, ⟨⟨by omega, by omega⟩, hW2, hs2.mono (by omega), hR2⟩, rfl⟩))
      | false =>
        go_wp2_with fail
        refine (HP.out w2 _ 3 hs2 (by omega) (by omega)).mono ?_
        rintro e w3 ⟨x3, rfl, ⟨x30, _, x32⟩, hb3, hs3⟩
        have hW3 := hW2.trans hb3.within1
        have hR3 := hR2.within hb3.within1 (Or.inr (by have := hb2.size; omega))
        have x33 := x32 (by omega)
        go_wp2_with (go_at_call 144; refine (l00Min_any _ _ _).mono ?_; rintro e w' ⟨rfl, hww⟩; rw [hww]; clear hww w')
        exact Met.intro (HJ.out _ _ (by exact ⟨_, _, _, _, _, _, _, _, _, _, _, _, _, _, _, _, _, ⟨⟨by omega, by omega⟩, hW3, hs3.mono (by omega), hR3⟩, rfl⟩))
    · go_wp2_with fail
      exact Met.intro (HJ.out _ _ (by exact ⟨_, _, _, _, _, _, _, _, _, _, _, _, _, _, _, _, _, ⟨⟨by omega, by omega⟩, hW1, hs1.mono (by omega), hR1⟩, rfl⟩))
  case refine_1 =>
    clear hn0 hz0 hR0 hs0 hW0 W0
    rintro a' w2 ⟨m, u13, u14, u15, u16, u17, u18, u19, u20, u21, u22, u23, u24, u25, u26, u27, u28, ⟨hmm, hW2, hs2, hR2⟩, rfl⟩
    refine wp_cut2 (fun a' w' => ∃ (ll : Int) (u13 u14 u15 u16 u17 u18 u19 u20 u21 u22 u23 u24 u25 u26 u27 u28 u29 u30 u31 u32 u33 u34 u35 u36 u37 u38 : Value), ((1 ≤ ll ∧ ll ≤ 3) ∧ Within sb (sb + 1) w w' ∧ SrcAt w' sb n (K + 10) ∧ Box2 w' w.heap.size (.int .i64 0) (.slice none 0 0)) ∧ a' = ⟨#[.pointer (some ⟨sb, 0, none⟩), .int .i64 most, undef, undef, .pointer (some ⟨w.heap.size, 0, none⟩), .int .i64 m, .int .i64 ll, undef, undef, undef, undef, undef, undef, u13, u14, u15, u16, u17, u18, u19, u20, u21, u22, u23, u24, u25, u26, u27, u28, u29, u30, u31, u32, u33, u34, u35, u36, u37, u38, undef, undef, undef, undef, undef, undef, undef, undef, undef, undef, undef, undef, undef, undef, undef, undef, undef, undef, undef, undef, undef, undef, undef, undef, undef, undef, undef, undef, undef, undef, undef, undef, undef, undef, undef, undef, undef, undef, undef, undef, undef, undef, undef, undef, undef, undef, undef, undef, undef, undef, undef], []⟩) ?_ ?_
    case refine_2 =>
      intro J J2 HJ hJ K1 hK1
      go_wp2_with fail
      refine (HP.out w2 _ 3 hs2 (by omega) (by omega)).mono ?_
      rintro e w4 ⟨x4, rfl, ⟨x40, _, x42⟩, hb4, hs4⟩
      have x43 := x42 (by omega)
      have hW4 := hW2.trans hb4.within1
      have hR4 := hR2.within hb4.within1 (Or.inr (by omega))
      have hz4 := hb4.size
      by_cases hx : x4 = 0
      · subst hx
        go_wp2_with fail
        refine (HO.out w4 _ 3 hs4 (by omega) (by omega)).mono ?_
        rintro e w5 ⟨b5, rfl, hb5, hs5⟩
        have hW5 := hW4.trans hb5.within1
        have hR5 := hR4.within hb5.within1 (Or.inr (by have := hR4.lt; omega))
        cases b5 with
        | true =>
          go_wp2_with fail
          exact Met.intro (HJ.out _ _ (by exact ⟨_, _, _, _, _, _, _, _, _, _, _, _, _, _, _, _, _, _, _, _, _, _, _, _, _, _, _, ⟨⟨by omega, by omega⟩, hW5, hs5.mono (by omega), hR5⟩, rfl⟩))
        | false =>
          go_wp2_with fail
          exact Met.intro (HJ.out _ _ (by exact ⟨_, _, _, _, _, _, _, _, _, _, _, _, _, _, _, _, _, _, _, _, _, _, _, _, _, _, _, ⟨⟨by omega, by omega⟩, hW5, hs5.mono (by omega), hR5⟩, rfl⟩))
      · have hb : ((1 + x4) == 1) = false := by simp; omega
        have hb2 : (x4 == 0) = false := by simpa using hx
        go_wp2_with fail
        exact Met.intro (HJ.out _ _ (by exact ⟨_, _, _, _, _, _, _, _, _, _, _, _, _, _, _, _, _, _, _, _, _, _, _, _, _, _, _, ⟨⟨by omega, by omega⟩, hW4, hs4.mono (by omega), hR4⟩, rfl⟩))
    case refine_1 =>
      rintro a' w3 ⟨ll, u13, u14, u15, u16, u17, u18, u19, u20, u21, u22, u23, u24, u25, u26, u27, u28, u29, u30, u31, u32, u33, u34, u35, u36, u37, u38, ⟨hll, hW3, hs3, hR3⟩, rfl⟩
      have hsz3 := hW3.2.2.2.1
      have hn4 : New w3 (w3.alloc (.cells #[.int .i64 m, .slice none 0 0] 31)) := (by repeat (first | with_reducible exact New.refl _ | with_reducible assumption | with_reducible refine New.alloc ?_ _ | with_reducible refine New.drewN ?_ _ | with_reducible refine New.drew ?_ | with_reducible refine New.trans ?_ (by with_reducible assumption)))
      have hA4 : Box2 (w3.alloc (.cells #[.int .i64 m, .slice none 0 0] 31)) w3.heap.size (.int .i64 m) (.slice none 0 0) := ⟨by go_simp, by go_simp, by go_simp, by go_simp⟩
      have hz4 : w3.heap.size + 1 ≤ (w3.alloc (.cells #[.int .i64 m, .slice none 0 0] 31)).heap.size := by simp only [size_alloc]; omega
      have hW4 := hW3.trans (Within.of_new hn4 sb (sb + 1))
      have hs4 := hs3.new hn4
      have hR4 := hR3.new hn4
      go_wp2_with fail
      generalize (w3.alloc (.cells #[.int .i64 m, .slice none 0 0] 31)) = w4 at hW4 hs4 hR4 hA4 hz4 ⊢
      obtain ⟨b7, hb7⟩ : ∃ b7, b7 = w3.heap.size := ⟨_, rfl⟩
      rw [← hb7] at hA4 hz4 ⊢
      have hb7w : w.heap.size < b7 := by have := hR3.lt; omega
      clear hn4 hb7 hsz3 hW3 hs3 hR3
      go_loopw [8] (fun i wr => ∃ (x : Nat) (v : Value) (RS : List (List Int)), (x : Int) ≤ ll ∧ i = .int .i64 x ∧ Within sb (sb + 1) w wr ∧ SrcAt wr sb n (K + 10 + 100 * x) ∧ Box2 wr w.heap.size (.int .i64 0) (.slice none 0 0) ∧ Box2 wr b7 (.int .i64 m) v ∧ b7 + 1 ≤ wr.heap.size ∧ GrowRows (b7 + 1) 34 wr v RS ∧ Hid (RS.length = x ∧ ∀ j, j < x → mapOk (nth RS j) m = true)) (fun i _ => (ll - intOf i).toNat)
      case atStart => exact ⟨0, _, [], by omega, rfl, hW4, hs4.mono (by omega), hR4, hA4, hz4, GrowRows.nil _ _ _, hid ⟨rfl, fun j hj => by omega⟩⟩
      case round =>
        obtain ⟨x, v, RS, hxl, rfl, hWx, hsx, hRx, hAx, hzx, hGx, hRS⟩ := hrel
        clear hW4 hs4 hR4 hA4 hz4
        obtain ⟨wS, rfl⟩ : ∃ wS : World, wS = wr := ⟨_, rfl⟩
        obtain ⟨AV, cV, rfl⟩ := hGx.form
        by_cases hlx : (x : Int) < ll
        · have hsS := hsx.lt
          have hY0 := Grow.empty wS.heap.size 2 wS (Nat.le_refl _)
          have hnY : New wS (wS.alloc (.cells #[] 2)) := (by repeat (first | with_reducible exact New.refl _ | with_reducible assumption | with_reducible refine New.alloc ?_ _ | with_reducible refine New.drewN ?_ _ | with_reducible refine New.drew ?_ | with_reducible refine New.trans ?_ (by with_reducible assumption)))
          have hsY := hsx.new hnY
          go_wp2_with fail
          refine (HP.out _ _ 5 hsY (by omega) (by omega)).mono ?_
          rintro e w5 ⟨kd, rfl, ⟨kd0, _, kd2⟩, hb5, hs5⟩
          have hW5 : Within sb (sb + 1) wS w5 := (Within.of_new hnY _ _).trans hb5.within1
          have hY5 := hY0.within hb5.within1 (by omega)
          clear hY0 hnY hsY
          go_wp2_with fail
          go_loopw [9, 11] (fun rv i wr => ∃ (k : Nat) (ROW : List Int), (k : Int) ≤ m ∧ i = .int .i64 k ∧ SrcAt wr sb n (K + 10 + 100 * x + 2 + 4 * k) ∧ Within sb (sb + 1) wS wr ∧ Grow wS.heap.size 2 wr rv ROW ∧ Hid (ROW.length = k ∧ ∀ j, j < k → 0 ≤ nth ROW j ∧ nth ROW j < m)) (fun _ i _ => (m - intOf i).toNat)
          case atStart => exact ⟨0, [], by omega, rfl, hs5.mono (by omega), hW5, hY5, hid ⟨rfl, fun j hj => by omega⟩⟩
          case round =>
            obtain ⟨k, ROW, hkm, rfl, hsk, hWk, hYk, hROW⟩ := hrel
            clear hY5 hW5 hs5
            obtain ⟨wk, rfl⟩ : ∃ wk : World, wk = wr := ⟨_, rfl⟩
            obtain ⟨AY, cY, rfl⟩ := hYk.form
            by_cases hlk : (k : Int) < m
            · have hRl : ROW.length < 1099511627776 := by have := hROW.out.1; omega
              go_wp2_with fail
              refine (HP.out _ _ m hsk (by omega) (by omega)).mono ?_
              rintro e w6 ⟨tz, rfl, hto, hb6, hs6⟩
              have hs6w := hWk.trans hb6.within1
              have hY6 := hYk.within hb6.within1 (by omega)
              have hs6z : wS.heap.size ≤ w6.heap.size := hs6w.2.2.2.1
              have hto2 : 0 ≤ tz ∧ tz < m := ⟨hto.1, by
                rcases Int.lt_or_le 1 m with q | q
                · exact hto.2.2 q
                · have := hto.2.1 q; omega⟩
              obtain ⟨to0, to1⟩ := hto2
              by_cases kd0' : kd = 0
              · subst kd0'
                have hrem : Int.tmod ((k : Int) + 1) m = ((k : Int) + 1) % m := Int.tmod_eq_emod_of_nonneg (by omega)
                have hm0 : (0 : Int) ≤ ((k : Int) + 1) % m := Int.emod_nonneg _ (by omega)
                have hm1 : ((k : Int) + 1) % m < m := Int.emod_lt_of_pos _ (by omega)
                have hne : ¬ m = 0 := by omega
                go_wp2_with (at_builtin; refine wpList_app (w1 := w6) rfl _ _ _ rfl Tryz.underlying34 info_i64 (.slice AY ROW.length cY) ROW rfl hY6 rfl hRl hs6z ?_; intro g9 cap9 w9 ho9 hg9)
                have hWg : Within sb (sb + 1) wS w9 := Within.of_above hs6w hg9 (fun q hq => (hY6.block q hq).1)
                refine ⟨⟨k + 1, ROW ++ [(((k : Int) + 1) % m)], by omega, by go_num, (hs6.grown9 hg9 (fun q hq => (hY6.block q hq).1) hsS).mono (by omega), hWg, ho9, hid (rows_snoc hROW.out (((k : Int) + 1) % m) (by omega) (by omega))⟩, ?_⟩
                simp [intOf]; omega
              · have hk0 : (kd == 0) = false := by simpa using kd0'
                by_cases kd1' : kd = 1
                · subst kd1'
                  go_wp2_with fail
                  refine (HO.out _ _ 4 hs6 (by omega) (by omega)).mono ?_
                  rintro e w7 ⟨b7', rfl, hb7, hs7⟩
                  have hs7w := hs6w.trans hb7.within1
                  have hY7 := hY6.within hb7.within1 (by omega)
                  have hs7z : wS.heap.size ≤ w7.heap.size := hs7w.2.2.2.1
                  cases b7' with
                  | true =>
                    go_wp2_with (at_builtin; refine wpList_app (w1 := w7) rfl _ _ _ rfl Tryz.underlying34 info_i64 (.slice AY ROW.length cY) ROW rfl hY7 rfl hRl hs7z ?_; intro g9 cap9 w9 ho9 hg9)
                    have hWg : Within sb (sb + 1) wS w9 := Within.of_above hs7w hg9 (fun q hq => (hY7.block q hq).1)
                    refine ⟨⟨k + 1, ROW ++ [tz], by omega, by go_num, (hs7.grown9 hg9 (fun q hq => (hY7.block q hq).1) hsS).mono (by omega), hWg, ho9, hid (rows_snoc hROW.out tz (by omega) (by omega))⟩, ?_⟩
                    simp [intOf]; omega
                  | false =>
                    go_wp2_with (at_builtin; refine wpList_app (w1 := w7) rfl _ _ _ rfl Tryz.underlying34 info_i64 (.slice AY ROW.length cY) ROW rfl hY7 rfl hRl hs7z ?_; intro g9 cap9 w9 ho9 hg9)
                    have hWg : Within sb (sb + 1) wS w9 := Within.of_above hs7w hg9 (fun q hq => (hY7.block q hq).1)
                    refine ⟨⟨k + 1, ROW ++ [(k : Int)], by omega, by go_num, (hs7.grown9 hg9 (fun q hq => (hY7.block q hq).1) hsS).mono (by omega), hWg, ho9, hid (rows_snoc hROW.out (k : Int) (by omega) (by omega))⟩, ?_⟩
                    simp [intOf]; omega
                · have hk1 : (kd == 1) = false := by simpa using kd1'
                  by_cases kd2' : kd = 2
                  · subst kd2'
                    go_wp2_with fail
                    refine (HO.out _ _ 3 hs6 (by omega) (by omega)).mono ?_
                    rintro e w7 ⟨b7', rfl, hb7, hs7⟩
                    have hs7w := hs6w.trans hb7.within1
                    have hY7 := hY6.within hb7.within1 (by omega)
                    have hs7z : wS.heap.size ≤ w7.heap.size := hs7w.2.2.2.1
                    cases b7' with
                    | true =>
                      go_wp2_with (at_builtin; refine wpList_app (w1 := w7) rfl _ _ _ rfl Tryz.underlying34 info_i64 (.slice AY ROW.length cY) ROW rfl hY7 rfl hRl hs7z ?_; intro g9 cap9 w9 ho9 hg9)
                      have hWg : Within sb (sb + 1) wS w9 := Within.of_above hs7w hg9 (fun q hq => (hY7.block q hq).1)
                      refine ⟨⟨k + 1, ROW ++ [tz], by omega, by go_num, (hs7.grown9 hg9 (fun q hq => (hY7.block q hq).1) hsS).mono (by omega), hWg, ho9, hid (rows_snoc hROW.out tz (by omega) (by omega))⟩, ?_⟩
                      simp [intOf]; omega
                    | false =>
                      go_wp2_with (at_builtin; refine wpList_app (w1 := w7) rfl _ _ _ rfl Tryz.underlying34 info_i64 (.slice AY ROW.length cY) ROW rfl hY7 rfl hRl hs7z ?_; intro g9 cap9 w9 ho9 hg9)
                      have hWg : Within sb (sb + 1) wS w9 := Within.of_above hs7w hg9 (fun q hq => (hY7.block q hq).1)
                      refine ⟨⟨k + 1, ROW ++ [(m - 1 - (k : Int))], by omega, by go_num, (hs7.grown9 hg9 (fun q hq => (hY7.block q hq).1) hsS).mono (by omega), hWg, ho9, hid (rows_snoc hROW.out (m - 1 - (k : Int)) (by omega) (by omega))⟩, ?_⟩
                      simp [intOf]; omega
                  · have hk2 : (kd == 2) = false := by simpa using kd2'
                    go_wp2_with (at_builtin; refine wpList_app (w1 := w6) rfl _ _ _ rfl Tryz.underlying34 info_i64 (.slice AY ROW.length cY) ROW rfl hY6 rfl hRl hs6z ?_; intro g9 cap9 w9 ho9 hg9)
                    have hWg : Within sb (sb + 1) wS w9 := Within.of_above hs6w hg9 (fun q hq => (hY6.block q hq).1)
                    refine ⟨⟨k + 1, ROW ++ [tz], by omega, by go_num, (hs6.grown9 hg9 (fun q hq => (hY6.block q hq).1) hsS).mono (by omega), hWg, ho9, hid (rows_snoc hROW.out tz (by omega) (by omega))⟩, ?_⟩
                    simp [intOf]; omega
            · have hke : (k : Int) = m := by omega
              have hown := hYk.own (by have := hROW.out.1; omega)
              have hAk := hAx.within hWk (Or.inr (by omega))
              have hRk := hRx.within hWk (Or.inr (by omega))
              have hzk : wS.heap.size ≤ wk.heap.size := hWk.2.2.2.1
              obtain ⟨o0, o1, of0, of1⟩ := id hAk
              have hblk := hid hGx.block
              have hXlt : RS.length < 1099511627776 := by have := hRS.out.1; omega
              have hmo : mapOk ROW m = true := (mapOk_iff _ _).2 ⟨by have := hROW.out.1; omega, fun j hj => hROW.out.2 j (by have := hROW.out.1; omega)⟩
              have HMO := hid hmo
              clear hmo
              go_wp2_with (at_builtin; refine wpList_appRowsW (w0 := wS) (w1 := wk) rfl _ _ _ rfl Tryz.underlying24 info_ints (.slice AV RS.length cV) RS ROW rfl hGx hWk (by omega) hown rfl hXlt hzx ?_; intro g9 cap9 w9 ho9 hg9; have hA9 := hAk.grown hg9 (fun q hq => by have := (hblk.out q hq).1; omega); obtain ⟨u0, u1, uf0, uf1⟩ := id hA9)
              have hW9 : Within sb (sb + 1) w w9 := Within.of_above (hWx.trans hWk) hg9 (fun q hq => by have := (hblk.out q hq).1; omega)
              have hs9 := hsk.grown9 hg9 (fun q hq => (hblk.out q hq).1) (by omega)
              have hz9 := hg9.size
              have hR9 := hRk.grown hg9 (fun q hq => by have := (hblk.out q hq).1; omega)
              have hW10 := within_setCell w9 ⟨b7, 1, none⟩ (.slice (some ⟨g9, 0, none⟩) (RS.length + 1) cap9)
              refine ⟨⟨x + 1, _, RS ++ [ROW], by omega, by go_num, Within.of_above hW9 (grown_setCell _ _ _) (fun q hq => by cases hq; show w.heap.size ≤ b7; omega), (hs9.but (But.setCell (S := fun q => q = b7) ⟨b7, 1, none⟩ _ rfl) (fun q hq => by omega)).mono (by omega), hR9.other _ (by simp; omega) _, hA9.set1 _, by rw [size_setCell]; omega, ho9.within hW10 (Nat.le_refl _), hid ⟨by simp [hRS.out.1], fun j hj => ?_⟩⟩, ?_⟩
              · by_cases e : j < x
                · rw [nth_append_left _ _ _ (by rw [hRS.out.1]; exact e)]; exact hRS.out.2 j e
                · have e2 : j = RS.length := by rw [hRS.out.1]; omega
                  rw [e2, nth_append_here]; exact HMO.out
              · simp [intOf]; omega
        · have hxe : (x : Int) = ll := by omega
          have hOW := hGx.own (by have := hRS.out.1; omega)
          have hcap : RS.length ≤ cV := let ⟨_, h1, _⟩ := hGx; ownsRow_cap h1
          obtain ⟨o0, o1, of0, of1⟩ := id hAx
          obtain ⟨q0, q1, qf0, qf1⟩ := id hRx
          obtain ⟨g0, g1, _⟩ := hRx.fill (.int .i64 m) (.slice AV RS.length cV)
          have HW := hid (Within.fill wS w.heap.size (.int .i64 m) (.slice AV RS.length cV))
          have hok : autOk ⟨m, RS⟩ = true := by
            rw [autOk_iff]
            exact ⟨⟨by show 1 ≤ m; omega, by show m ≤ 10; omega⟩, ⟨by show 1 ≤ RS.length; have := hRS.out.1; omega, by show RS.length ≤ 3; have := hRS.out.1; omega⟩, fun j hj => hRS.out.2 j (by have hj' : j < RS.length := hj; have := hRS.out.1; omega)⟩
          have HOK := hid hok
          clear hok
          go_wp2_with fail
          refine bodyPost_ret (v := .agg #[.int .i64 m, .slice AV RS.length cV]) (by simp [results, Tryz.results107, go_sem, g0, g1]) rfl ?_
          have hs9 := hsx.but (HW.out.but1) (fun q hq => by omega)
          have hWf : Within sb (sb + 1) w ((wS.setCell ⟨w.heap.size, 0, none⟩ (.int .i64 m)).setCell ⟨w.heap.size, 1, none⟩ (.slice AV RS.length cV)) := Within.of_above (Within.of_above hWx (grown_setCell wS ⟨w.heap.size, 0, none⟩ _) (fun q hq => by cases hq; exact Nat.le_refl _)) (grown_setCell _ ⟨w.heap.size, 1, none⟩ _) (fun q hq => by cases hq; exact Nat.le_refl _)
          have hOA : OwnAut w.heap.size ((wS.setCell ⟨w.heap.size, 0, none⟩ (.int .i64 m)).setCell ⟨w.heap.size, 1, none⟩ (.slice AV RS.length cV)).heap.size ((wS.setCell ⟨w.heap.size, 0, none⟩ (.int .i64 m)).setCell ⟨w.heap.size, 1, none⟩ (.slice AV RS.length cV)) (.agg #[.int .i64 m, .slice AV RS.length cV]) ⟨m, RS⟩ := ⟨_, rfl, (hOW.within HW.out (Or.inr (by omega))).widen (by omega) HW.out.2.2.2.1⟩
          have hx3 : x ≤ 3 := by omega
          first
            | exact ⟨_, ⟨m, RS⟩, rfl, hWf, hs9.mono (by omega), hOA, HOK.out, hmm.2, CapA.mk hcap⟩
            | exact ⟨_, rfl, hWf, hs9.mono (by omega), ⟨m, RS⟩, hOA, HOK.out, hmm.2, CapA.mk hcap⟩

end Go.Proofs.YtoeckejcmojeaaaGreat
