/- An automaton with choices is drawn. -/
import Derived.Test.YtoeckejcmojeaaaRows
import Derived.Test.YtoeckejcmojeaaaCore
import Derived.Test.YtoeckejcmojeaaaInfos
import Derived.Test.YtoeckejcmojeaaaPlains
import Derived.Test.YtoeckejcmojeaaaPlainCho
import Derived.Test.YtoeckejcmojeaaaJoins
import Derived.Test.YtoeckejcmojeaaaPlainGreeds
import Derived.Test.YtoeckejcmojeaaaArrs
import Derived.Test.YtoeckejcmojeaaaSDraw
import Derived.Test.YtoeckejcmojeaaaDrawT
import Derived.Test.YtoeckejcmojeaaaSPut0
import Derived.Test.YtoeckejcmojeaaaCubeG
import Derived.Test.YtoeckejcmojeaaaSFin1
import Derived.WalkKit
import Derived.WalkSpells
import Derived.WalkLawsBesides
import Derived.Deep.QuietTactic
import Derived.Deep.OwnRows
import Derived.BigQuiet
import Derived.KernelRfl
import Derived.Carry
import Derived.Deep.RegionHeld3
namespace Go.Proofs.Ytoeckejcmojeaaa
open Go.RowKit

theorem choOk_of {m : Int} {c : List (List (List Int))} (h1 : 1 ≤ m ∧ m ≤ 10) (h2 : 1 ≤ c.length ∧ c.length ≤ 3) (h3 : ∀ i, i < c.length → ((nth c i).length : Int) = m ∧ ∀ j, j < (nth c i).length → setB (nth (nth c i) j) m = true) : choOk ⟨m, c⟩ = true := by
  unfold choOk
  rw [Bool.and_eq_true, Bool.and_eq_true, inB_iff, inB_iff, choRows_iff]
  refine ⟨h1, ⟨by simp only; omega, by simp only; omega⟩, fun i hi => ?_⟩
  unfold choRow
  rw [Bool.and_eq_true, decide_eq_true_eq, setsOk_iff]
  exact h3 i hi
/-- A rising list of numbers from 0 to m - 1. -/
def RiseIn (m : Int) (xs : List Int) : Prop := Rise xs ∧ ∀ x, x ∈ xs → 0 ≤ x ∧ x < m
theorem RiseIn.put {m z : Int} {xs : List Int} (h : RiseIn m xs) (h0 : 0 ≤ z) (h1 : z < m) : RiseIn m (putI xs z) := by
  obtain ⟨a, b⟩ := putI_rise (n := z) h.1
  refine ⟨a, fun x hx => ?_⟩
  rcases (b x).1 hx with q | q
  · exact h.2 x q
  · subst q; exact ⟨h0, h1⟩
theorem RiseIn.set {m : Int} {xs : List Int} (h : RiseIn m xs) : setB xs m = true := by
  unfold setB
  rw [riseB_iff]
  intro i hi
  unfold riseAt
  have h2 := h.2 _ (nth_mem xs i hi)
  rw [Bool.and_eq_true, inB_iff]
  refine ⟨by omega, ?_⟩
  cases i with
  | zero => rfl
  | succ i => simpa using h.1.nth i (i + 1) (by omega) hi
theorem info_rows22 : (Try.prog.info? 22).map (fun i => (i.zero, i.size, i.bytes)) = some (some (.slice none 0 0), 1, 24) := by kernel_rfl
set_option maxRecDepth 20000 in
set_option maxHeartbeats 4000000 in
theorem l04DrawChoice_any (sb n K : Nat) (most : Int) (w : World) (h : SrcAt w sb n K) (hK : K ≤ 1000000000) (hm : 1 ≤ most ∧ most ≤ 10) :
    Calls Try.prog 54 #[.pointer (some ⟨sb, 0, none⟩), .int .i64 most] w fun e w' => ∃ r c, e = .returned r ∧ Within sb (sb + 1) w w' ∧ SrcAt w' sb n (K + 2000) ∧ (∃ rv, r = .agg #[.int .i64 c.n, rv] ∧ GrowCube OwnRows w.heap.size 22 w' rv c.nx) ∧ choOk c = true ∧ c.n ≤ most := by
  have hsb := h.lt
  obtain ⟨W0, hW0⟩ : ∃ W0, W0 = w.alloc (.cells #[.int .i64 0, .slice none 0 0] 39) := ⟨_, rfl⟩
  have hn0 : New w W0 := by rw [hW0]; exact (by repeat (first | with_reducible exact New.refl _ | with_reducible assumption | with_reducible refine New.alloc ?_ _ | with_reducible refine New.drewN ?_ _ | with_reducible refine New.drew ?_ | with_reducible refine New.trans ?_ (by with_reducible assumption)))
  have hz0 : W0.heap.size = w.heap.size + 1 := by rw [hW0]; simp only [size_alloc]
  have hR0 : Box2 W0 w.heap.size (.int .i64 0) (.slice none 0 0) := by rw [hW0]; exact ⟨by go_simp, by go_simp, by go_simp, by go_simp⟩
  have hs0 := h.new hn0
  have HP := hid (fun (w1 : World) (K1 : Nat) (m : Int) (hs : SrcAt w1 sb n K1) (hk : K1 ≤ 2000000000) (hm : m ≤ 1000000) => pick_any sb n K1 m w1 hs (by omega) hm)
  have HO := hid (fun (w1 : World) (K1 : Nat) (m : Int) (hs : SrcAt w1 sb n K1) (hk : K1 ≤ 2000000000) (hm : m ≤ 1000000) => one_any sb n K1 m w1 hs (by omega) hm)
  clear h
  go_enter Try.func54, Try.ntmps54
  go_wp2_with fail
  rw [← hW0]
  clear hW0
  refine (HP.out W0 K most hs0 (by omega) (by omega)).mono ?_
  rintro e w1 ⟨x1, rfl, ⟨x10, x11, x12⟩, hb1, hs1⟩
  have hx1 : 1 ≤ 1 + x1 ∧ 1 + x1 ≤ most := by
    rcases Int.lt_or_le 1 most with q | q
    · have := x12 q; omega
    · have := x11 q; omega
  have hW1 : Within sb (sb + 1) w w1 := (Within.of_new hn0 _ _).trans hb1.within1
  have hR1 := hR0.within hb1.within1 (Or.inr (by omega))
  have hz1 := hb1.size
  obtain ⟨m, hmd⟩ : ∃ m, m = 1 + x1 := ⟨_, rfl⟩
  rw [← hmd] at hx1
  obtain ⟨M, rfl⟩ : ∃ M : Nat, m = (M : Int) := ⟨m.toNat, by omega⟩
  have hw64 : Go.RowKit.wrap64 (1 + x1) = (M : Int) := by rw [← hmd]; exact IntWalk.wrap64_in _ ⟨by omega, by omega⟩
  have hw64' : IntKind.i64.wrap (1 + x1) = (M : Int) := by rw [← hmd]; exact IntWalk.i64_in _ (by omega)
  clear x10 x11 x12 hb1 hR0 hs0 hn0 hmd
  go_wp2_with fail
  have hn4 : New w1 (w1.alloc (.cells #[.int .i64 M, .slice none 0 0] 39)) := (by repeat (first | with_reducible exact New.refl _ | with_reducible assumption | with_reducible refine New.alloc ?_ _ | with_reducible refine New.drewN ?_ _ | with_reducible refine New.drew ?_ | with_reducible refine New.trans ?_ (by with_reducible assumption)))
  have hA4 : Box2 (w1.alloc (.cells #[.int .i64 M, .slice none 0 0] 39)) w1.heap.size (.int .i64 M) (.slice none 0 0) := ⟨by go_simp, by go_simp, by go_simp, by go_simp⟩
  have hz4 : w1.heap.size + 1 ≤ (w1.alloc (.cells #[.int .i64 M, .slice none 0 0] 39)).heap.size := by simp only [size_alloc]; omega
  have hW4 := hW1.trans (Within.of_new hn4 sb (sb + 1))
  have hs4 := hs1.new hn4
  have hR4 := hR1.new hn4
  generalize (w1.alloc (.cells #[.int .i64 M, .slice none 0 0] 39)) = w4 at hW4 hs4 hR4 hA4 hz4 ⊢
  obtain ⟨b7, hb7⟩ : ∃ b7, b7 = w1.heap.size := ⟨_, rfl⟩
  rw [← hb7] at hA4 hz4 ⊢
  have hb7w : w.heap.size < b7 := by have := hR1.lt; omega
  clear hn4 hb7 hW1 hs1 hR1 hz1 hz0
  refine (HP.out w4 _ 2 hs4 (by omega) (by omega)).mono ?_
  rintro e w5 ⟨y, rfl, ⟨y0, _, y2⟩, hb5, hs5⟩
  have y3 := y2 (by omega)
  have hW5 := hW4.trans hb5.within1
  have hR5 := hR4.within hb5.within1 (Or.inr (by omega))
  have hA5 := hA4.within hb5.within1 (Or.inr (by omega))
  have hz5 : b7 + 1 ≤ w5.heap.size := Nat.le_trans hz4 hb5.size
  obtain ⟨KK, hKK⟩ : ∃ KK : Nat, 1 + y = (KK : Int) := ⟨(1 + y).toNat, by omega⟩
  have hKK2 : 1 ≤ KK ∧ KK ≤ 2 := by omega
  have hk64 : Go.RowKit.wrap64 (1 + y) = (KK : Int) := by rw [hKK]; exact IntWalk.wrap64_in _ ⟨by omega, by omega⟩
  have hk64' : IntKind.i64.wrap (1 + y) = (KK : Int) := by rw [hKK]; exact IntWalk.i64_in _ (by omega)
  clear hW4 hs4 hR4 hA4 hz4 hb5 y2 y0 y3 hKK
  go_wp2_with fail
  go_loopw [6] (fun kv wr => ∃ (j : Nat) (v : Value) (CS : List (List (List Int))), kv = .int .i64 j ∧ Hid (j + CS.length = KK) ∧ Within sb (sb + 1) w wr ∧ SrcAt wr sb n (K + 10 + 500 * CS.length) ∧ Box2 wr w.heap.size (.int .i64 0) (.slice none 0 0) ∧ Box2 wr b7 (.int .i64 M) v ∧ b7 + 1 ≤ wr.heap.size ∧ GrowCube OwnRows (b7 + 1) 22 wr v CS ∧ Hid (∀ i, i < CS.length → (nth CS i).length = M ∧ ∀ j, j < (nth CS i).length → RiseIn M (nth (nth CS i) j))) (fun kv _ => (intOf kv).toNat)
  case atStart => exact ⟨KK, _, [], rfl, hid rfl, hW5, hs5.mono (by omega), hR5, hA5, hz5, GrowCube.nil, hid (fun i hi => by simp at hi)⟩
  case round =>
    obtain ⟨j, v, CS, rfl, hjk, hWx, hsx, hRx, hAx, hzx, hGx, hCS⟩ := hrel
    have hCL : j ≤ KK ∧ CS.length ≤ KK := by have := hjk.out; omega
    clear hW5 hs5 hR5 hA5 hz5
    obtain ⟨wS, rfl⟩ : ∃ wS : World, wS = wr := ⟨_, rfl⟩
    obtain ⟨AV, cV, rfl⟩ := hGx.form
    rcases Nat.eq_zero_or_pos j with e | e
    · subst e
      have b1 : ¬ (0 : Int) < ((0 : Nat) : Int) := by omega
      obtain ⟨o0, o1, of0, of1⟩ := id hAx
      obtain ⟨q0, q1, qf0, qf1⟩ := id hRx
      obtain ⟨g0, g1, _⟩ := hRx.fill (.int .i64 M) (.slice AV CS.length cV)
      have HW := hid (Within.fill wS w.heap.size (.int .i64 M) (.slice AV CS.length cV))
      have hok : choOk ⟨(M : Int), CS⟩ = true := choOk_of ⟨by omega, by omega⟩ ⟨by have := hjk.out; omega, by omega⟩ fun a ha => ⟨by rw [(hCS.out a ha).1], fun q hq => RiseIn.set ((hCS.out a ha).2 q hq)⟩
      have HOK := hid hok
      clear hok
      go_wp2_with fail
      refine bodyPost_ret (v := .agg #[.int .i64 M, .slice AV CS.length cV]) (by simp [results, Try.results54, go_sem, g0, g1]) rfl ?_
      have hs9 := hsx.but (HW.out.but1) (fun q hq => by omega)
      have hWf : Within sb (sb + 1) w ((wS.setCell ⟨w.heap.size, 0, none⟩ (.int .i64 M)).setCell ⟨w.heap.size, 1, none⟩ (.slice AV CS.length cV)) := Within.of_above (Within.of_above hWx (grown_setCell wS ⟨w.heap.size, 0, none⟩ _) (fun q hq => by cases hq; exact Nat.le_refl _)) (grown_setCell _ ⟨w.heap.size, 1, none⟩ _) (fun q hq => by cases hq; exact Nat.le_refl _)
      have hOA := (hGx.within keeps_own HW.out (by omega)).base (B' := w.heap.size) (by omega)
      first
        | exact ⟨_, ⟨(M : Int), CS⟩, rfl, hWf, hs9.mono (by omega), ⟨_, rfl, hOA⟩, HOK.out, hx1.2⟩
        | exact ⟨_, rfl, hWf, hs9.mono (by omega), ⟨(M : Int), CS⟩, ⟨_, rfl, hOA⟩, HOK.out, hx1.2⟩
    · obtain ⟨j', hj'⟩ : ∃ j', j = j' + 1 := ⟨j - 1, by omega⟩
      have HJ := hid hj'
      clear hj'
      have b1 : (0 : Int) < (j : Int) := by omega
      have hsS := hsx.lt
      have hY0 := GrowRows.empty wS.heap.size 42 wS (Nat.le_refl _)
      have hnY : New wS (wS.alloc (.cells #[] 42)) := (by repeat (first | with_reducible exact New.refl _ | with_reducible assumption | with_reducible refine New.alloc ?_ _ | with_reducible refine New.drewN ?_ _ | with_reducible refine New.drew ?_ | with_reducible refine New.trans ?_ (by with_reducible assumption)))
      have hsY := hsx.new hnY
      have hWY : Within sb (sb + 1) wS (wS.alloc (.cells #[] 42)) := Within.of_new hnY _ _
      go_wp2_with fail
      go_loopw [7, 8] (fun rv xv wr => ∃ (x : Nat) (RS : List (List Int)), xv = .int .i64 x ∧ x ≤ M ∧ Hid (RS.length = x) ∧ Within sb (sb + 1) wS wr ∧ SrcAt wr sb n (K + 10 + 500 * CS.length + 20 * x) ∧ GrowRows wS.heap.size 42 wr rv RS ∧ Hid (∀ i, i < RS.length → RiseIn M (nth RS i))) (fun _ xv _ => M - (intOf xv).toNat)
      case atStart => exact ⟨0, [], rfl, Nat.zero_le _, hid rfl, hWY, hsY.mono (by omega), hY0, hid (fun i hi => by simp at hi)⟩
      case round =>
        obtain ⟨x, RS, rfl, hxM, hRSl, hWk, hsk, hGk, hRS⟩ := hrel
        have hRSM : RS.length ≤ 10 := by have := hRSl.out; omega
        clear hY0 hnY hsY hWY
        obtain ⟨wX, rfl⟩ : ∃ wX : World, wX = wr := ⟨_, rfl⟩
        obtain ⟨AR, cR, rfl⟩ := hGk.form
        have hAk := hAx.within hWk (Or.inr (by omega))
        obtain ⟨o0, o1, of0, of1⟩ := id hAk
        have hsX := hsk.lt
        have hzk : wS.heap.size ≤ wX.heap.size := hWk.2.2.2.1
        by_cases hlx : x < M
        · have b2 : (x : Int) < (M : Int) := by omega
          have hnZ : New wX (wX.alloc (.cells #[] 2)) := (by repeat (first | with_reducible exact New.refl _ | with_reducible assumption | with_reducible refine New.alloc ?_ _ | with_reducible refine New.drewN ?_ _ | with_reducible refine New.drew ?_ | with_reducible refine New.trans ?_ (by with_reducible assumption)))
          have hsZ := hsk.new hnZ
          have hO0 : OwnInts wX.heap.size (wX.alloc (.cells #[] 2)).heap.size (wX.alloc (.cells #[] 2)) (.slice (some ⟨wX.heap.size, 0, none⟩) 0 0) [] := (Grow.empty wX.heap.size 2 wX (Nat.le_refl _)).own (by simp)
          go_wp2_with fail
          refine (HP.out _ _ 2 hsZ (by omega) (by omega)).mono ?_
          rintro e w6 ⟨q, rfl, ⟨q0, _, q2⟩, hb6, hs6⟩
          have q3 := q2 (by omega)
          have hW6 : Within sb (sb + 1) wX w6 := (Within.of_new hnZ _ _).trans hb6.within1
          have hz6 := hb6.size
          have hO6 : OwnInts wX.heap.size w6.heap.size w6 (.slice (some ⟨wX.heap.size, 0, none⟩) 0 0) [] := (hO0.within hb6.within1 (Or.inr (by omega))).widen (Nat.le_refl _) hz6
          obtain ⟨I0, hI0⟩ : ∃ I0 : Nat, 1 + q = (I0 : Int) := ⟨(1 + q).toNat, by omega⟩
          have hI2 : I0 ≤ 2 := by omega
          have hi64 : Go.RowKit.wrap64 (1 + q) = (I0 : Int) := by rw [hI0]; exact IntWalk.wrap64_in _ ⟨by omega, by omega⟩
          have hi64' : IntKind.i64.wrap (1 + q) = (I0 : Int) := by rw [hI0]; exact IntWalk.i64_in _ (by omega)
          clear hnZ hsZ hO0 hb6 q0 q2 q3 hI0 hz6
          have HG := hid hGk
          have HRSL := hRSl
          have HWK := hid hWk
          clear hGk hRSl hWk
          go_wp2_with fail
          go_loopw [9, 10] (fun sv iv wr => ∃ (i : Nat) (xs : List Int), iv = .int .i64 i ∧ i + xs.length ≤ 2 ∧ Within sb (sb + 1) wX wr ∧ SrcAt wr sb n (K + 10 + 500 * CS.length + 20 * x + 2 + 4 * (2 - i)) ∧ OwnInts wX.heap.size wr.heap.size wr sv xs ∧ Hid (RiseIn M xs)) (fun _ iv _ => (intOf iv).toNat)
          case atStart => exact ⟨I0, [], rfl, by simpa using hI2, hW6, hs6.mono (by omega), hO6, hid ⟨Rise.nil, fun z hz => by simp at hz⟩⟩
          case round =>
            obtain ⟨i, xs, rfl, hil, hWi, hsi, hOi, hxs⟩ := hrel
            clear hW6 hs6 hO6 hi64 hi64' hI2
            obtain ⟨wi, rfl⟩ : ∃ wi : World, wi = wr := ⟨_, rfl⟩
            obtain ⟨AS, cS, rfl⟩ := hOi.form
            have hRlt : RS.length < 1099511627776 := by omega
            rcases Nat.eq_zero_or_pos i with e | e
            · subst e
              have b3 : ¬ (0 : Int) < ((0 : Nat) : Int) := by omega
              go_wp2_with (at_builtin; refine wpList_appRowsW (w0 := wX) (w1 := wi) rfl _ _ _ rfl Try.underlying22 info_ints (.slice AR RS.length cR) RS xs rfl HG.out hWi (by omega) hOi rfl hRlt hzk ?_; intro g9 cap9 w9 ho9 hg9)
              have hWg : Within sb (sb + 1) wS w9 := Within.of_above (HWK.out.trans hWi) hg9 (fun q hq => (HG.out.block q hq).1)
              refine ⟨⟨x + 1, RS ++ [xs], by go_num, by omega, hid (by simp [HRSL.out]), hWg, (hsi.grown9 hg9 (fun q hq => (HG.out.block q hq).1) (by omega)).mono (by omega), ho9, hid (fun a ha => ?_)⟩, ?_⟩
              · by_cases e : a < RS.length
                · rw [nth_append_left _ _ _ e]; exact hRS.out a e
                · have e2 : a = RS.length := by simp at ha; omega
                  rw [e2, nth_append_here]; exact hxs.out
              · simp [intOf]; omega
            · obtain ⟨i', hi'⟩ : ∃ i', i = i' + 1 := ⟨i - 1, by omega⟩
              have HI := hid hi'
              clear hi'
              have b3 : (0 : Int) < (i : Int) := by omega
              have hsbi := hsi.lt
              go_wp2_with fail
              refine (HO.out wi _ 10 hsi (by omega) (by omega)).mono ?_
              rintro e w7 ⟨b, rfl, hb7', hs7⟩
              have hW7 := hWi.trans hb7'.within1
              have hO7 := (hOi.within hb7'.within1 (Or.inr (by omega))).widen (Nat.le_refl _) hb7'.size
              have hA7 := (hAk.within hWi (Or.inr (by omega))).within hb7'.within1 (Or.inr (by omega))
              obtain ⟨p0, p1, _, _⟩ := id hA7
              have hzi : wX.heap.size ≤ w7.heap.size := hW7.2.2.2.1
              cases b with
              | true =>
                go_wp2_with (at_builtin; refine wpList_appRowsW (w0 := wX) (w1 := w7) rfl _ _ _ rfl Try.underlying22 info_ints (.slice AR RS.length cR) RS xs rfl HG.out hW7 (by omega) hO7 rfl hRlt hzk ?_; intro g9 cap9 w9 ho9 hg9)
                have hWg : Within sb (sb + 1) wS w9 := Within.of_above (HWK.out.trans hW7) hg9 (fun q hq => (HG.out.block q hq).1)
                refine ⟨⟨x + 1, RS ++ [xs], by go_num, by omega, hid (by simp [HRSL.out]), hWg, (hs7.grown9 hg9 (fun q hq => (HG.out.block q hq).1) (by omega)).mono (by omega), ho9, hid (fun a ha => ?_)⟩, ?_⟩
                · by_cases e : a < RS.length
                  · rw [nth_append_left _ _ _ e]; exact hRS.out a e
                  · have e2 : a = RS.length := by simp at ha; omega
                    rw [e2, nth_append_here]; exact hxs.out
                · simp [intOf]; omega
              | false =>
                go_wp2_with fail
                refine (HP.out w7 _ M hs7 (by omega) (by omega)).mono ?_
                rintro e w8 ⟨z, rfl, ⟨z0, z1, z2⟩, hb8, hs8⟩
                have hzm : z < (M : Int) := by
                  rcases Int.lt_or_le 1 (M : Int) with q | q
                  · exact z2 q
                  · have := z1 q; omega
                have hW8 := hW7.trans hb8.within1
                have hO8 := (hO7.within hb8.within1 (Or.inr (by omega))).widen (Nat.le_refl _) hb8.size
                have hz8 := hb8.size
                clear z1 z2
                go_wp2_with fail
                refine (l00Put_any _ xs z w8 hO8.at (by omega)).mono ?_
                rintro e w9 ⟨r9, rfl, hn9, ho9⟩
                obtain ⟨A9, c9, rfl⟩ := ho9.form
                have hpl := putI_len_le xs z
                go_wp2_with fail
                refine ⟨⟨i', putI xs z, (by have e := HI.out; subst e; go_num), by have := HI.out; omega, hW8.trans (Within.of_new hn9 _ _), (hs8.new hn9).mono (by have := HI.out; omega), ho9.widen (by omega) (Nat.le_refl _), hid (hxs.out.put z0 hzm)⟩, ?_⟩
                simp [intOf]; omega
        · have ex : x = M := by omega
          have b2 : ¬ (x : Int) < (M : Int) := by omega
          have hown := hGk.own (by omega)
          have hRk := hRx.within hWk (Or.inr (by omega))
          have hblk := hid hGx.block
          have hXlt : CS.length < 1099511627776 := by omega
          have HRSM := hid (show RS.length = M by have := hRSl.out; omega)
          clear ex
          go_wp2_with (at_builtin; refine wpList_appCubeW keeps_own (w0 := wS) (w1 := wX) rfl _ _ _ rfl Try.underlying37 info_rows22 (.slice AV CS.length cV) CS RS rfl hGx hWk (by omega) hown rfl rfl hXlt hzx ?_; intro g9 cap9 w9 ho9 hg9; have hA9 := hAk.grown hg9 (fun q hq => by have := (hblk.out q hq).1; omega); obtain ⟨u0, u1, uf0, uf1⟩ := id hA9)
          have hW9 : Within sb (sb + 1) w w9 := Within.of_above (hWx.trans hWk) hg9 (fun q hq => by have := (hblk.out q hq).1; omega)
          have hs9 := hsk.grown9 hg9 (fun q hq => (hblk.out q hq).1) (by omega)
          have hz9 := hg9.size
          have hR9 := hRk.grown hg9 (fun q hq => by have := (hblk.out q hq).1; omega)
          have hW10 := within_setCell w9 ⟨b7, 1, none⟩ (.slice (some ⟨g9, 0, none⟩) (CS.length + 1) cap9)
          refine ⟨⟨j', _, CS ++ [RS], (by have e := HJ.out; subst e; go_num), hid (by have := hjk.out; have := HJ.out; simp; omega), Within.of_above hW9 (grown_setCell _ _ _) (fun q hq => by cases hq; show w.heap.size ≤ b7; omega), (hs9.but (But.setCell (S := fun q => q = b7) ⟨b7, 1, none⟩ _ rfl) (fun q hq => by omega)).mono (by simp; omega), hR9.other _ (by simp; omega) _, by simpa using hA9.set1 _, by rw [size_setCell]; omega, by simpa using ho9.within keeps_own hW10 (Nat.le_refl _), hid (fun a ha => ?_)⟩, ?_⟩
          · by_cases e : a < CS.length
            · rw [nth_append_left _ _ _ e]; exact hCS.out a e
            · have e2 : a = CS.length := by simp at ha; omega
              rw [e2, nth_append_here]; exact ⟨HRSM.out, fun q hq => hRS.out q hq⟩
          · simp [intOf]; omega

end Go.Proofs.Ytoeckejcmojeaaa
