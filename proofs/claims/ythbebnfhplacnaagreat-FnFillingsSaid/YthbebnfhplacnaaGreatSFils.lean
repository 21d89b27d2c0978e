/- Parts of the proof that lean on no program: SFil1, SFil2, SFil3. -/
import Derived.Test.YthbebnfhplacnaaGreatRows
import Derived.Test.YthbebnfhplacnaaGreatCore
import Derived.Test.YthbebnfhplacnaaGreatInfos
import Derived.Test.YthbebnfhplacnaaGreatPlains
import Derived.Test.YthbebnfhplacnaaGreatDrawT
import Derived.Test.YthbebnfhplacnaaGreatPlainFill
import Derived.Test.YthbebnfhplacnaaGreatPFils
import Derived.Test.YthbebnfhplacnaaGreatArrs
import Derived.Test.YthbebnfhplacnaaGreatSDraw
import Derived.Test.YthbebnfhplacnaaGreatPlainGreeds
import Derived.Test.YthbebnfhplacnaaGreatSBase
import Derived.Test.YthbebnfhplacnaaGreatSMergs
import Derived.Test.YthbebnfhplacnaaGreatSGreeds
import Derived.Test.YthbebnfhplacnaaGreatS04a
import Derived.Test.YthbebnfhplacnaaGreatGapsG
import Derived.Test.YthbebnfhplacnaaGreatPlainSure
import Derived.Test.YthbebnfhplacnaaGreatSFill2
import Derived.Test.YthbebnfhplacnaaGreatIFills
import Derived.WalkKit
import Derived.WalkSpells
import Derived.WalkLawsBesides
import Derived.Deep.QuietTactic
import Derived.Deep.OwnRows
import Derived.BigQuiet
import Derived.KernelRfl
import Derived.Carry
import Derived.Deep.RegionHeld3
import Derived.Deep.RegionLaw
namespace Go.Proofs.YthbebnfhplacnaaGreat
open Go.RowKit

section
set_option maxRecDepth 20000 in
set_option maxHeartbeats 2000000 in
theorem P6States_any (v : Value) (n C : Nat) (m : Int) (w : World) (h : BytesAt w v n) (hm : 1 ≤ m ∧ m ≤ 1000) (hC : C ≤ 100) :
    Calls Tryz.prog 13 #[v, .int .i64 C, .int .i64 m] w fun e w' => ∃ r ws, e = .returned r ∧ New w w' ∧ OwnInts w.heap.size w'.heap.size w' r ws ∧ ws.length = C ∧ ∀ i, i < ws.length → 0 ≤ nth ws i ∧ nth ws i < m := by
  have C1 := from_any v n w h
  have HP := hid (fun (w1 : World) (sb K1 : Nat) (m : Int) (hs : SrcAt w1 sb n K1) (hk : K1 ≤ 100000) (hm : m ≤ 1000000) => pick_any sb n K1 m w1 hs (by omega) hm)
  go_enter Tryz.func13, Tryz.ntmps13
  go_wp2_with fail
  refine C1.mono ?_
  rintro e w1 ⟨rfl, hn1, hs1⟩
  obtain ⟨sb, hsb⟩ : ∃ sb, sb = w.heap.size := ⟨_, rfl⟩
  rw [← hsb] at hs1 ⊢
  have HSB := hid hsb
  have hz1 : sb < w1.heap.size := hs1.lt
  have hY0 := Grow.empty w1.heap.size 2 w1 (Nat.le_refl _)
  have hnY : New w1 (w1.alloc (.cells #[] 2)) := (by repeat (first | with_reducible exact New.refl _ | with_reducible assumption | with_reducible refine New.alloc ?_ _ | with_reducible refine New.drewN ?_ _ | with_reducible refine New.drew ?_ | with_reducible refine New.trans ?_ (by with_reducible assumption)))
  have hsY := hs1.new hnY
  have hWY : Within sb (sb + 1) w1 (w1.alloc (.cells #[] 2)) := Within.of_new hnY _ _
  clear hsb C1
  go_wp2_with fail
  go_loopw [8, 9] (fun ov kv wr => ∃ (j : Nat) (ws : List Int), kv = .int .i64 j ∧ j ≤ C ∧ SrcAt wr sb n (100 + 2 * j) ∧ Within sb (sb + 1) w1 wr ∧ Grow w1.heap.size 2 wr ov ws ∧ Hid (ws.length = j ∧ ∀ i, i < j → 0 ≤ nth ws i ∧ nth ws i < m)) (fun _ kv _ => C - (intOf kv).toNat)
  case atStart => exact ⟨0, [], rfl, Nat.zero_le _, hsY.mono (by omega), hWY, hY0, hid ⟨rfl, fun i hi => by omega⟩⟩
  case round =>
    obtain ⟨j, ws, rfl, hj, hsj, hWj, hYj, hws⟩ := hrel
    clear hsY hWY hY0 hnY
    obtain ⟨wo, rfl⟩ : ∃ wo : World, wo = wr := ⟨_, rfl⟩
    obtain ⟨AY, cY, rfl⟩ := hYj.form
    have hRl : ws.length < 1099511627776 := by have := hws.out.1; omega
    by_cases hlt : j < C
    · have b1 : (j : Int) < (C : Int) := by omega
      go_wp2_with fail
      refine (HP.out _ sb _ m hsj (by omega) (by omega)).mono ?_
      rintro e w5 ⟨z, rfl, ⟨z0, z1, z2⟩, hb5, hs5⟩
      have hzm : z < m := by
        rcases Int.lt_or_le 1 m with q | q
        · exact z2 q
        · have := z1 q; omega
      have hW5 := hWj.trans hb5.within1
      have hY5 := hYj.within hb5.within1 (by omega)
      have hz5 : w1.heap.size ≤ w5.heap.size := hW5.2.2.2.1
      clear z1 z2
      go_wp2_with (at_builtin; refine wpList_app (w1 := w5) rfl _ _ _ rfl Tryz.underlying34 info_i64 (.slice AY ws.length cY) ws rfl hY5 rfl hRl hz5 ?_; intro g9 cap9 w9 ho9 hg9)
      have hWg : Within sb (sb + 1) w1 w9 := Within.of_above hW5 hg9 (fun q hq => (hY5.block q hq).1)
      refine ⟨⟨j + 1, ws ++ [z], by go_num, by omega, (hs5.grown9 hg9 (fun q hq => (hY5.block q hq).1) (by omega)).mono (by omega), hWg, by simpa using ho9, hid (rows_snoc hws.out z z0 hzm)⟩, ?_⟩
      simp [intOf] <;> omega
    · have b1 : ¬ (j : Int) < (C : Int) := by omega
      have HJ := hid (show j = C by omega)
      go_wp2_with fail
      go_ret
      have hz : w1.heap.size ≤ wo.heap.size := hWj.2.2.2.1
      have h0 := hn1.size
      have hsbw := HSB.out
      refine ⟨_, rfl, hn1.within hWj (by omega), ws, (hYj.own (by omega)).widen (by omega) (Nat.le_refl _), by rw [hws.out.1]; exact HJ.out, fun i hi => hws.out.2 i (by rw [← hws.out.1]; exact hi)⟩
set_option maxRecDepth 20000 in
set_option maxHeartbeats 4000000 in
theorem l04Draw_any (sb n K g : Nat) (most : Int) (w : World) (h : SrcAt w sb n K) (hK : K ≤ 1000000000) (hm : 1 ≤ most ∧ most ≤ 10) (hg : g ≤ 6) :
    Calls Tryz.prog 18 #[.pointer (some ⟨sb, 0, none⟩), .int .i64 most, .int .i64 g] w fun e w' => ∃ r a, e = .returned r ∧ Within sb (sb + 1) w w' ∧ SrcAt w' sb n (K + 2000) ∧ OwnAut w.heap.size w'.heap.size w' r a ∧ partOk a = true ∧ a.n ≤ most ∧ (gapsOf a.nx).length ≤ g := by
  have hsb := h.lt
  obtain ⟨W0, hW0⟩ : ∃ W0, W0 = w.alloc (.cells #[.int .i64 0, .slice none 0 0] 26) := ⟨_, rfl⟩
  have hn0 : New w W0 := by rw [hW0]; exact (by repeat (first | with_reducible exact New.refl _ | with_reducible assumption | with_reducible refine New.alloc ?_ _ | with_reducible refine New.drewN ?_ _ | with_reducible refine New.drew ?_ | with_reducible refine New.trans ?_ (by with_reducible assumption)))
  have hz0 : W0.heap.size = w.heap.size + 1 := by rw [hW0]; simp only [size_alloc]
  have hR0 : Box2 W0 w.heap.size (.int .i64 0) (.slice none 0 0) := by rw [hW0]; exact ⟨by go_simp, by go_simp, by go_simp, by go_simp⟩
  have hs0 := h.new hn0
  have HP := hid (fun (w1 : World) (K1 : Nat) (m : Int) (hs : SrcAt w1 sb n K1) (hk : K1 ≤ 2000000000) (hm : m ≤ 1000000) => pick_any sb n K1 m w1 hs (by omega) hm)
  have HO := hid (fun (w1 : World) (K1 : Nat) (m : Int) (hs : SrcAt w1 sb n K1) (hk : K1 ≤ 2000000000) (hm : m ≤ 1000000) => one_any sb n K1 m w1 hs (by omega) hm)
  clear h
  go_enter Tryz.func18, Tryz.ntmps18
  go_wp2_with fail
  rw [← hW0]
  clear hW0
  refine (HP.out W0 K most hs0 (by omega) (by omega)).mono ?_
  rintro e w1 ⟨x1, rfl, ⟨x10, x11, x12⟩, hb1, hs1⟩
  have hx1 : 1 ≤ 1 + x1 ∧ 1 + x1 ≤ most := by
    rcases Int.lt_or_le 1 most with q | q
    · have := x12 q; omega
    · have := x11 q; omega
  have hW1 : Within sb (sb + 1) w w1 := (Within.of_new hn0 _ _).trans hb1.within1
  have hR1 := hR0.within hb1.within1 (Or.inr (by omega))
  have hz1 := hb1.size
  obtain ⟨m, hmd⟩ : ∃ m, m = 1 + x1 := ⟨_, rfl⟩
  rw [← hmd] at hx1
  obtain ⟨M, rfl⟩ : ∃ M : Nat, m = (M : Int) := ⟨m.toNat, by omega⟩
  have hw64 : Go.RowKit.wrap64 (1 + x1) = (M : Int) := by rw [← hmd]; exact IntWalk.wrap64_in _ ⟨by omega, by omega⟩
  have hw64' : IntKind.i64.wrap (1 + x1) = (M : Int) := by rw [← hmd]; exact IntWalk.i64_in _ (by omega)
  clear x10 x11 x12 hb1 hR0 hs0 hn0 hmd
  go_wp2_with fail
  have hn4 : New w1 (w1.alloc (.cells #[.int .i64 M, .slice none 0 0] 26)) := (by repeat (first | with_reducible exact New.refl _ | with_reducible assumption | with_reducible refine New.alloc ?_ _ | with_reducible refine New.drewN ?_ _ | with_reducible refine New.drew ?_ | with_reducible refine New.trans ?_ (by with_reducible assumption)))
  have hA4 : Box2 (w1.alloc (.cells #[.int .i64 M, .slice none 0 0] 26)) w1.heap.size (.int .i64 M) (.slice none 0 0) := ⟨by go_simp, by go_simp, by go_simp, by go_simp⟩
  have hz4 : w1.heap.size + 1 ≤ (w1.alloc (.cells #[.int .i64 M, .slice none 0 0] 26)).heap.size := by simp only [size_alloc]; omega
  have hW4 := hW1.trans (Within.of_new hn4 sb (sb + 1))
  have hs4 := hs1.new hn4
  have hR4 := hR1.new hn4
  generalize (w1.alloc (.cells #[.int .i64 M, .slice none 0 0] 26)) = w4 at hW4 hs4 hR4 hA4 hz4 ⊢
  obtain ⟨b7, hb7⟩ : ∃ b7, b7 = w1.heap.size := ⟨_, rfl⟩
  rw [← hb7] at hA4 hz4 ⊢
  have hb7w : w.heap.size < b7 := by have := hR1.lt; omega
  clear hn4 hb7 hW1 hs1 hR1 hz1 hz0
  refine (HP.out w4 _ 3 hs4 (by omega) (by omega)).mono ?_
  rintro e w5 ⟨y, rfl, ⟨y0, _, y2⟩, hb5, hs5⟩
  have y3 := y2 (by omega)
  have hW5 := hW4.trans hb5.within1
  have hR5 := hR4.within hb5.within1 (Or.inr (by omega))
  have hA5 := hA4.within hb5.within1 (Or.inr (by omega))
  have hz5 : b7 + 1 ≤ w5.heap.size := Nat.le_trans hz4 hb5.size
  obtain ⟨KK, hKK⟩ : ∃ KK : Nat, 1 + y = (KK : Int) := ⟨(1 + y).toNat, by omega⟩
  have hKK2 : 1 ≤ KK ∧ KK ≤ 3 := by omega
  have hk64 : Go.RowKit.wrap64 (1 + y) = (KK : Int) := by rw [hKK]; exact IntWalk.wrap64_in _ ⟨by omega, by omega⟩
  have hk64' : IntKind.i64.wrap (1 + y) = (KK : Int) := by rw [hKK]; exact IntWalk.i64_in _ (by omega)
  clear hW4 hs4 hR4 hA4 hz4 hb5 y2 y0 y3 hKK
  go_wp2_with fail
  go_loopw [8] (fun kv wr => ∃ (j : Nat) (v : Value) (RS : List (List Int)), kv = .int .i64 j ∧ Hid (j + RS.length = KK) ∧ Within sb (sb + 1) w wr ∧ SrcAt wr sb n (K + 10 + 200 * RS.length) ∧ Box2 wr w.heap.size (.int .i64 0) (.slice none 0 0) ∧ Box2 wr b7 (.int .i64 M) v ∧ b7 + 1 ≤ wr.heap.size ∧ GrowRows (b7 + 1) 34 wr v RS ∧ Hid (DrawnP M RS.length RS [])) (fun kv _ => (intOf kv).toNat)
  case atStart => exact ⟨KK, _, [], rfl, hid rfl, hW5, hs5.mono (by omega), hR5, hA5, hz5, GrowRows.nil _ _ _, hid (DrawnP.start M)⟩
  case round =>
    obtain ⟨j, v, RS, rfl, hjk, hWx, hsx, hRx, hAx, hzx, hGx, hRS⟩ := hrel
    have hCL : j ≤ KK ∧ RS.length ≤ KK := by have := hjk.out; omega
    clear hW5 hs5 hR5 hA5 hz5 hw64 hw64' hk64 hk64'
    obtain ⟨wS, rfl⟩ : ∃ wS : World, wS = wr := ⟨_, rfl⟩
    obtain ⟨AV, cV, rfl⟩ := hGx.form
    rcases Nat.eq_zero_or_pos j with e | e
    · subst e
      have b1 : ¬ (0 : Int) < ((0 : Nat) : Int) := by omega
      have HLK := hid (show RS.length = KK by have := hjk.out; omega)
      have hlen : RS.length ≤ 3 ∧ 1 ≤ RS.length := by have := HLK.out; omega
      have hOS := (hGx.own (by omega))
      obtain ⟨fA, fc, frv, fe, hfl, hfa, hfc, hfd⟩ := id hOS
      obtain ⟨⟨b, off, hfA, _, _⟩, _⟩ := hfc 0 (by omega)
      injection fe with fe1 fe2 fe3
      rw [← fe1] at hfA
      subst hfA
      have hbb := hfa _ fe1.symm
      simp only at hbb
      clear fe1 fe2 fe3 hfl hfa hfc hfd
      have hgw := IntWalk.i64_in ((g : Int) + 1) (by omega)
      have hg1 : Go.RowKit.wrap64 ((g : Int) + 1) = ((g + 1 : Nat) : Int) := IntWalk.wrap64_in _ ⟨by omega, by omega⟩
      have hg1' : IntKind.i64.wrap ((g : Int) + 1) = ((g + 1 : Nat) : Int) := hgw
      clear hgw
      go_wp2_with fail
      clear hg1 hg1'
      refine (HP.out wS _ ((g + 1 : Nat) : Int) hsx (by omega) (by omega)).mono ?_
      rintro e w6 ⟨x, rfl, ⟨x0, x1', x2⟩, hb6, hs6⟩
      have hxg : x ≤ (g : Int) := by
        rcases Int.lt_or_le 1 ((g + 1 : Nat) : Int) with q | q
        · have := x2 q; omega
        · have := x1' q; omega
      obtain ⟨X, rfl⟩ : ∃ X : Nat, x = (X : Int) := ⟨x.toNat, by omega⟩
      have hXg : X ≤ g := by omega
      have hW6 := hWx.trans hb6.within1
      have hR6 := hRx.within hb6.within1 (Or.inr (by omega))
      have hA6 := hAx.within hb6.within1 (Or.inr (by omega))
      have hO6 := hOS.within hb6.within1 (Or.inr (by omega))
      have hz6 := hb6.size
      have HES := hid (show w.heap.size < b7 ∧ b7 + 1 ≤ wS.heap.size from ⟨hb7w, hzx⟩)
      clear x0 x1' x2 hxg hb6 hOS hGx hsx hRx hAx hWx
      go_wp2_with fail
      obtain ⟨EE, hEE⟩ : ∃ z, z = wS.heap.size := ⟨_, rfl⟩
      rw [← hEE] at hO6 hz6 HES
      have hbE : b7 + 1 ≤ b ∧ b < EE := by rw [hEE]; exact hbb
      obtain ⟨LL, hLL⟩ : ∃ z, z = RS.length := ⟨_, rfl⟩
      have hs60 := hs6.mono (K' := K + 800) (by omega)
      rw [← hLL] at hA6 hO6 hRS hlen HLK
      have hes := HES.out
      clear hEE hLL hs6 hbb b1
      go_loopw [11] (fun iv wr => ∃ (i : Nat) (RX : List (List Int)) (G : List (Nat × Nat)), iv = .int .i64 i ∧ i + G.length ≤ g ∧ Within sb (sb + 1) w wr ∧ SrcAt wr sb n (K + 800 + 10 * G.length) ∧ Box2 wr w.heap.size (.int .i64 0) (.slice none 0 0) ∧ Box2 wr b7 (.int .i64 M) (.slice (some ⟨b, off, none⟩) LL cV) ∧ OwnRows (b7 + 1) EE wr (.slice (some ⟨b, off, none⟩) LL cV) RX ∧ EE ≤ wr.heap.size ∧ Hid (DrawnP M LL RX G)) (fun iv _ => (intOf iv).toNat)
      case atStart => exact ⟨X, RS, [], rfl, by simpa using hXg, hW6, hs60, hR6, hA6, hO6, hz6, hRS⟩
      case round =>
        obtain ⟨i, RX, G, rfl, hiG, hWx, hsx, hRx, hAx, hOx, hzx, hDP⟩ := hrel
        clear hW6 hs60 hR6 hA6 hO6 hRS
        obtain ⟨wi, rfl⟩ : ∃ wi : World, wi = wr := ⟨_, rfl⟩
        obtain ⟨y0, y1, yf0, yf1⟩ := id hAx
        have hRXl := hDP.out.1
        rcases Nat.eq_zero_or_pos i with e | e
        · subst e
          have b1 : ¬ (0 : Int) < ((0 : Nat) : Int) := by omega
          have HOK := hid (hDP.out.ok ⟨by omega, by omega⟩ ⟨hlen.2, hlen.1⟩)
          obtain ⟨g0, g1, _⟩ := hRx.fill (.int .i64 M) (.slice (some ⟨b, off, none⟩) LL cV)
          obtain ⟨q0, q1, qf0, qf1⟩ := id hRx
          have HW := hid (Within.fill wi w.heap.size (.int .i64 M) (.slice (some ⟨b, off, none⟩) LL cV))
          go_wp2_with fail
          refine bodyPost_ret (v := .agg #[.int .i64 M, .slice (some ⟨b, off, none⟩) LL cV]) (by simp [results, Tryz.results18, go_sem, g0, g1]) rfl ?_
          have hs9 := hsx.but (HW.out.but1) (fun q hq => by omega)
          have hWf : Within sb (sb + 1) w ((wi.setCell ⟨w.heap.size, 0, none⟩ (.int .i64 M)).setCell ⟨w.heap.size, 1, none⟩ (.slice (some ⟨b, off, none⟩) LL cV)) := Within.of_above (Within.of_above hWx (grown_setCell wi ⟨w.heap.size, 0, none⟩ _) (fun q hq => by cases hq; exact Nat.le_refl _)) (grown_setCell _ ⟨w.heap.size, 1, none⟩ _) (fun q hq => by cases hq; exact Nat.le_refl _)
          have hOA := ((hOx.within HW.out (Or.inr (by omega))).widen (B' := w.heap.size) (by omega) (Nat.le_trans hzx HW.out.2.2.2.1))
          have hGg : (gapsOf RX).length ≤ g := Nat.le_trans HOK.out.2 (by omega)
          first
            | exact ⟨_, ⟨(M : Int), RX⟩, rfl, hWf, hs9.mono (by omega), ⟨_, rfl, hOA⟩, HOK.out.1, hx1.2, hGg⟩
            | exact ⟨_, rfl, hWf, hs9.mono (by omega), ⟨(M : Int), RX⟩, ⟨_, rfl, hOA⟩, HOK.out.1, hx1.2, hGg⟩
        · obtain ⟨i', hi'⟩ : ∃ i', i = i' + 1 := ⟨i - 1, by omega⟩
          have HI := hid hi'
          have HRXL := hid hRXl
          clear hi' hRXl
          have b1 : (0 : Int) < (i : Int) := by omega
          have hM1 : 1 ≤ M := by omega
          have HA := hid (show ∀ (w7 : World) (x1 : Int), Choice (LL : Int) x1 → But (fun q => q = sb) wi w7 → ∃ (L1 b2 off2 c2 : Nat), x1 = (L1 : Int) ∧ L1 < LL ∧ (L1 : Int) < (LL : Int) ∧ w7.cell? ⟨b7, 0, none⟩ = some (.int .i64 M) ∧ w7.cell? ⟨b7, 1, none⟩ = some (.slice (some ⟨b, off, none⟩) LL cV) ∧ w7.cell? ⟨b, off + L1, none⟩ = some (.slice (some ⟨b2, off2, none⟩) M c2) from fun w7 x1 hx hb => by
            obtain ⟨k1, k2, k3⟩ := hx
            obtain ⟨L1, rfl⟩ : ∃ L1 : Nat, x1 = (L1 : Int) := ⟨x1.toNat, by omega⟩
            have hL1 : L1 < LL := by
              rcases Int.lt_or_le 1 (LL : Int) with q | q
              · have := k3 q; omega
              · have := k2 q; omega
            have hO7 := hOx.within hb.within1 (Or.inr (by omega))
            have hA7 := hAx.within hb.within1 (Or.inr (by omega))
            have hrl := (hDP.out.2 L1 hL1).1
            obtain ⟨bq, oq, b2, off2, c2, hA, ux, _⟩ := hO7.put L1 0 (by rw [HRXL.out]; exact hL1) (by omega)
            cases hA
            rw [hrl] at ux
            exact ⟨L1, b2, off2, c2, rfl, hL1, by omega, hA7.1, hA7.2.1, ux⟩)
          have HB := hid (show ∀ (w7 w8 : World) (L1 b2 off2 c2 : Nat) (x2 : Int), But (fun q => q = sb) wi w7 → But (fun q => q = sb) w7 w8 → L1 < LL → w7.cell? ⟨b, off + L1, none⟩ = some (.slice (some ⟨b2, off2, none⟩) M c2) → Choice (M : Int) x2 → ∃ (L2 : Nat) (z : Int), x2 = (L2 : Int) ∧ L2 < M ∧ (L2 : Int) < (M : Int) ∧ w8.cell? ⟨b7, 0, none⟩ = some (.int .i64 M) ∧ w8.cell? ⟨b7, 1, none⟩ = some (.slice (some ⟨b, off, none⟩) LL cV) ∧ w8.cell? ⟨b, off + L1, none⟩ = some (.slice (some ⟨b2, off2, none⟩) M c2) ∧ w8.cell? ⟨b2, off2 + L2, none⟩ = some (.int .i64 z) ∧ w8.frozen? ⟨b2, off2 + L2, none⟩ = false ∧ (b7 + 1 ≤ b2 ∧ b2 < EE) ∧ OwnRows (b7 + 1) EE (w8.setCell ⟨b2, off2 + L2, none⟩ (.int .i64 (-1))) (.slice (some ⟨b, off, none⟩) LL cV) (putAt RX L1 L2 (-1)) ∧ But (fun q => q = sb) wi w8 from fun w7 w8 L1 b2 off2 c2 x2 hb1 hb2 hL1 hx hc => by
            obtain ⟨k1, k2, k3⟩ := hc
            obtain ⟨L2, rfl⟩ : ∃ L2 : Nat, x2 = (L2 : Int) := ⟨x2.toNat, by omega⟩
            have hL2 : L2 < M := by
              rcases Int.lt_or_le 1 (M : Int) with q | q
              · have := k3 q; omega
              · have := k2 q; omega
            have hb := hb1.trans hb2 (fun q hq => Or.inl hq)
            have hO8 := hOx.within hb.within1 (Or.inr (by omega))
            have hA8 := hAx.within hb.within1 (Or.inr (by omega))
            have hrl := (hDP.out.2 L1 hL1).1
            have ux8 := hb2.cell hx (by show ¬ b = sb; omega)
            obtain ⟨uxs, uxf, u1, u2, _, hput⟩ := hO8.putX L1 L2 (by rw [HRXL.out]; exact hL1) (by omega) ux8
            exact ⟨L2, _, rfl, hL2, by omega, hA8.1, hA8.2.1, ux8, uxs, uxf, ⟨u1, u2⟩, (hput (-1)).1, hb⟩)
          go_wp2_with fail
          go_region_law (first
            | (go_simp; go_at_call 39; refine (HP.out _ _ (M : Int) hs7 (by omega) (by omega)).mono ?_; rintro e w8 ⟨x2, rfl, hx2, hb8, hs8⟩; obtain ⟨L2, z, rfl, hL2, hL2i, y0b, y1b, uxb, uxs, uxf, hb2r, hO9, hbb8⟩ := HB.out w7 w8 L1 b2 off2 c2 x2 hb7 hb8 hL1 ux7 hx2)
            | (go_simp; go_at_call 39; refine (HP.out _ _ (LL : Int) (hsx.new (by repeat (first | with_reducible exact New.refl _ | with_reducible assumption | with_reducible refine New.alloc ?_ _ | with_reducible refine New.drewN ?_ _ | with_reducible refine New.drew ?_ | with_reducible refine New.trans ?_ (by with_reducible assumption)))) (by omega) (by omega)).mono ?_; rintro e w7 ⟨x1, rfl, hx1, hb7', hs7⟩; have hb7 : But (fun q => q = sb) wi w7 := (But.of_new (S := fun q => q = sb) (by repeat (first | with_reducible exact New.refl _ | with_reducible assumption | with_reducible refine New.alloc ?_ _ | with_reducible refine New.drewN ?_ _ | with_reducible refine New.drew ?_ | with_reducible refine New.trans ?_ (by with_reducible assumption)))).trans hb7' (fun q hq => Or.inl hq); obtain ⟨L1, b2, off2, c2, rfl, hL1, hL1i, y0a, y1a, ux7⟩ := HA.out w7 x1 hx1 hb7))
          all_goals go_wp2_with fail
          all_goals refine ⟨⟨i', putAt RX L1 L2 (-1), G ++ [(L1, L2)], (by have e := HI.out; subst e; go_num), (by have := HI.out; simp; omega), ?_, ?_, ?_, ?_, hO9, ?_, hid (hDP.out.put L1 L2 hL1 hL2)⟩, by simp [intOf]; omega⟩
          all_goals first
            | exact Within.of_above (hWx.trans hbb8.within1) (grown_setCell _ _ _) (fun q hq => by cases hq; show w.heap.size ≤ b2; omega)
            | exact (hs8.but (But.setCell (S := fun q => q = b2) ⟨b2, off2 + L2, none⟩ _ rfl) (fun q hq => by omega)).mono (by simp; omega)
            | exact (hRx.within hbb8.within1 (Or.inr (by omega))).other _ (by show b2 ≠ w.heap.size; omega) _
            | exact (hAx.within hbb8.within1 (Or.inr (by omega))).other _ (by show b2 ≠ b7; omega) _
            | (rw [size_setCell]; exact Nat.le_trans hzx hbb8.size)
    · obtain ⟨j', hj'⟩ : ∃ j', j = j' + 1 := ⟨j - 1, by omega⟩
      have HJ := hid hj'
      clear hj'
      have b1 : (0 : Int) < (j : Int) := by omega
      have hsS := hsx.lt
      have hY0 := Grow.empty wS.heap.size 2 wS (Nat.le_refl _)
      have hnY : New wS (wS.alloc (.cells #[] 2)) := (by repeat (first | with_reducible exact New.refl _ | with_reducible assumption | with_reducible refine New.alloc ?_ _ | with_reducible refine New.drewN ?_ _ | with_reducible refine New.drew ?_ | with_reducible refine New.trans ?_ (by with_reducible assumption)))
      have hsY := hsx.new hnY
      have hWY : Within sb (sb + 1) wS (wS.alloc (.cells #[] 2)) := Within.of_new hnY _ _
      go_wp2_with fail
      go_loopw [9, 10] (fun rv xv wr => ∃ (x : Nat) (ROW : List Int), xv = .int .i64 x ∧ x ≤ M ∧ Within sb (sb + 1) wS wr ∧ SrcAt wr sb n (K + 10 + 200 * RS.length + 2 * x) ∧ Grow wS.heap.size 2 wr rv ROW ∧ Hid (ROW.length = x ∧ ∀ i, i < x → 0 ≤ nth ROW i ∧ nth ROW i < M)) (fun _ xv _ => M - (intOf xv).toNat)
      case atStart => exact ⟨0, [], rfl, Nat.zero_le _, hWY, hsY.mono (by omega), hY0, hid ⟨rfl, fun i hi => by omega⟩⟩
      case round =>
        obtain ⟨x, ROW, rfl, hxM, hWk, hsk, hYk, hROW⟩ := hrel
        clear hY0 hnY hsY hWY
        obtain ⟨wX, rfl⟩ : ∃ wX : World, wX = wr := ⟨_, rfl⟩
        obtain ⟨AR, cR, rfl⟩ := hYk.form
        have hAk := hAx.within hWk (Or.inr (by omega))
        obtain ⟨o0, o1, of0, of1⟩ := id hAk
        have hzk : wS.heap.size ≤ wX.heap.size := hWk.2.2.2.1
        have hRl : ROW.length < 1099511627776 := by have := hROW.out.1; omega
        by_cases hlx : x < M
        · have b2 : (x : Int) < (M : Int) := by omega
          go_wp2_with fail
          refine (HP.out _ _ (M : Int) hsk (by omega) (by omega)).mono ?_
          rintro e w6 ⟨z, rfl, ⟨z0, z1, z2⟩, hb6, hs6⟩
          have hzm : z < (M : Int) := by
            rcases Int.lt_or_le 1 (M : Int) with q | q
            · exact z2 q
            · have := z1 q; omega
          have hW6 := hWk.trans hb6.within1
          have hY6 := hYk.within hb6.within1 (by omega)
          have hz6 : wS.heap.size ≤ w6.heap.size := hW6.2.2.2.1
          clear z1 z2
          go_wp2_with (at_builtin; refine wpList_app (w1 := w6) rfl _ _ _ rfl Tryz.underlying34 info_i64 (.slice AR ROW.length cR) ROW rfl hY6 rfl hRl hz6 ?_; intro g9 cap9 w9 ho9 hg9)
          have hWg : Within sb (sb + 1) wS w9 := Within.of_above hW6 hg9 (fun q hq => (hY6.block q hq).1)
          refine ⟨⟨x + 1, ROW ++ [z], by go_num, by omega, hWg, (hs6.grown9 hg9 (fun q hq => (hY6.block q hq).1) hsS).mono (by omega), by simpa using ho9, hid (rows_snoc hROW.out z z0 hzm)⟩, ?_⟩
          simp [intOf]; omega
        · have HX := hid (show x = M by omega)
          have b2 : ¬ (x : Int) < (M : Int) := by omega
          go_wp2_with fail
          refine (HO.out wX _ 3 hsk (by omega) (by omega)).mono ?_
          rintro e w6 ⟨b, rfl, hb6, hs6⟩
          have hW6 := hWk.trans hb6.within1
          have hY6 := hYk.within hb6.within1 (by omega)
          have hz6 : wS.heap.size ≤ w6.heap.size := hW6.2.2.2.1
          have hO6 := hY6.own (Nat.le_of_lt hRl)
          have hA6 := hAk.within hb6.within1 (Or.inr (by omega))
          obtain ⟨p0, p1, _, _⟩ := id hA6
          have hR6 := (hRx.within hWk (Or.inr (by omega))).within hb6.within1 (Or.inr (by omega))
          cases b with
          | true =>
            have hMl := HX.out
            have hRM := hROW.out.1
            have hr0 : 0 < ROW.length := by omega
            obtain ⟨R1, hR1⟩ : ∃ R1 : Nat, ROW.length = R1 + 1 := ⟨ROW.length - 1, by omega⟩
            obtain ⟨bR, _, ⟨c', e9⟩, hBR, hltR, hc0, hf0⟩ := ownsRow_cells hY6 0 (by simpa using hr0)
            obtain ⟨bR', _, ⟨c'', e9'⟩, _, _, hc1, _⟩ := ownsRow_cells hY6 R1 (by simp; omega)
            cases e9
            cases e9'
            have v0 : w6.cell? ⟨bR, 0, none⟩ = some (.int .i64 (nth ROW 0)) := by rw [hc0, nth_eq _ _ hr0]; simp
            have v1 : w6.cell? ⟨bR, R1, none⟩ = some (.int .i64 (nth ROW R1)) := by rw [hc1, nth_eq _ _ (by omega)]; simp
            have hwl : Go.RowKit.wrap64 ((ROW.length : Int) - 1) = (R1 : Int) := by rw [hR1]; exact (IntWalk.wrap64_in _ ⟨by omega, by omega⟩).trans (by omega)
            have hwl' : IntKind.i64.wrap ((ROW.length : Int) - 1) = (R1 : Int) := by rw [hR1]; exact (IntWalk.i64_in _ (by omega)).trans (by omega)
            have hsub : (ROW.length : Int) - 1 = (R1 : Int) := by omega
            have c3 : (R1 : Int) < (ROW.length : Int) := by omega
            have c4 : (0 : Int) < (ROW.length : Int) := by omega
            have hO7 := hO6.set 0 hr0 (nth ROW R1)
            rw [Nat.add_zero] at hO7
            have HROW2 := hid (show (ROW.set 0 (nth ROW R1)).length = M ∧ ∀ s, s < M → 0 ≤ nth (ROW.set 0 (nth ROW R1)) s ∧ nth (ROW.set 0 (nth ROW R1)) s < (M : Int) from ⟨by simp; omega, fun s hs => by
              rw [nth_set _ _ _ _ hr0]
              split
              · exact hROW.out.2 R1 (by omega)
              · exact hROW.out.2 s (by omega)⟩)
            have HR1 := hid hR1
            clear hR1 hMl hRM hc0 hc1
            have hbRb : b7 < bR := by omega
            have hW7 : Within sb (sb + 1) wS (w6.setCell ⟨bR, 0, none⟩ (.int .i64 (nth ROW R1))) := Within.of_above hW6 (grown_setCell _ _ _) (fun q hq => by cases hq; exact hBR)
            have hO8 : OwnInts wS.heap.size (w6.setCell ⟨bR, 0, none⟩ (.int .i64 (nth ROW R1))).heap.size (w6.setCell ⟨bR, 0, none⟩ (.int .i64 (nth ROW R1))) (.slice (some ⟨bR, 0, none⟩) ROW.length cR) (ROW.set 0 (nth ROW R1)) := hO7.widen (Nat.le_refl _) (by rw [size_setCell]; exact Nat.le_refl _)
            have hA7 := hA6.other ⟨bR, 0, none⟩ (by show bR ≠ b7; omega) (.int .i64 (nth ROW R1))
            have hR7 := hR6.other ⟨bR, 0, none⟩ (by show bR ≠ w.heap.size; omega) (.int .i64 (nth ROW R1))
            have hs7 := hs6.but (But.setCell (S := fun q => q = bR) ⟨bR, 0, none⟩ (.int .i64 (nth ROW R1)) rfl) (fun q hq => by omega)
            clear hO7
            have hblk := hid hGx.block
            have hXlt : RS.length < 1099511627776 := by omega
            go_wp2_with (at_builtin; refine wpList_appRowsW (w0 := wS) (w1 := (w6.setCell ⟨bR, 0, none⟩ (.int .i64 (nth ROW R1)))) rfl _ _ _ rfl Tryz.underlying24 info_ints (.slice AV RS.length cV) RS (ROW.set 0 (nth ROW R1)) rfl hGx hW7 (by omega) hO8 (by rw [size_setCell]; rfl) hXlt hzx ?_; intro g9 cap9 w9 ho9 hg9; have hA9 := hA7.grown hg9 (fun q hq => by have := (hblk.out q hq).1; omega); obtain ⟨u0, u1, uf0, uf1⟩ := id hA9)
            have hW9 : Within sb (sb + 1) w w9 := Within.of_above (hWx.trans hW7) hg9 (fun q hq => by have := (hblk.out q hq).1; omega)
            have hs9 := hs7.grown9 hg9 (fun q hq => (hblk.out q hq).1) (by omega)
            have hz9 := hg9.size
            try rw [size_setCell] at hz9
            have hR9 := hR7.grown hg9 (fun q hq => by have := (hblk.out q hq).1; omega)
            have hW10 := within_setCell w9 ⟨b7, 1, none⟩ (.slice (some ⟨g9, 0, none⟩) (RS.length + 1) cap9)
            refine ⟨⟨j', _, RS ++ [(ROW.set 0 (nth ROW R1))], (by have e := HJ.out; subst e; go_num), hid (by have := hjk.out; have := HJ.out; simp; omega), Within.of_above hW9 (grown_setCell _ _ _) (fun q hq => by cases hq; show w.heap.size ≤ b7; omega), (hs9.but (But.setCell (S := fun q => q = b7) ⟨b7, 1, none⟩ _ rfl) (fun q hq => by omega)).mono (by simp; omega), hR9.other _ (by simp; omega) _, by simpa using hA9.set1 _, by rw [size_setCell]; omega, by simpa using ho9.within hW10 (Nat.le_refl _), hid (by simpa using hRS.out.snoc HROW2.out)⟩, ?_⟩
            simp [intOf]; omega
          | false =>
            have HROW2 := hid (show ROW.length = M ∧ ∀ s, s < M → 0 ≤ nth ROW s ∧ nth ROW s < (M : Int) from ⟨by rw [hROW.out.1]; exact HX.out, fun s hs => hROW.out.2 s (by rw [HX.out]; exact hs)⟩)
            have hblk := hid hGx.block
            have hXlt : RS.length < 1099511627776 := by omega
            go_wp2_with (at_builtin; refine wpList_appRowsW (w0 := wS) (w1 := w6) rfl _ _ _ rfl Tryz.underlying24 info_ints (.slice AV RS.length cV) RS ROW rfl hGx hW6 (by omega) hO6 rfl hXlt hzx ?_; intro g9 cap9 w9 ho9 hg9; have hA9 := hA6.grown hg9 (fun q hq => by have := (hblk.out q hq).1; omega); obtain ⟨u0, u1, uf0, uf1⟩ := id hA9)
            have hW9 : Within sb (sb + 1) w w9 := Within.of_above (hWx.trans hW6) hg9 (fun q hq => by have := (hblk.out q hq).1; omega)
            have hs9 := hs6.grown9 hg9 (fun q hq => (hblk.out q hq).1) (by omega)
            have hz9 := hg9.size
            try rw [size_setCell] at hz9
            have hR9 := hR6.grown hg9 (fun q hq => by have := (hblk.out q hq).1; omega)
            have hW10 := within_setCell w9 ⟨b7, 1, none⟩ (.slice (some ⟨g9, 0, none⟩) (RS.length + 1) cap9)
            refine ⟨⟨j', _, RS ++ [ROW], (by have e := HJ.out; subst e; go_num), hid (by have := hjk.out; have := HJ.out; simp; omega), Within.of_above hW9 (grown_setCell _ _ _) (fun q hq => by cases hq; show w.heap.size ≤ b7; omega), (hs9.but (But.setCell (S := fun q => q = b7) ⟨b7, 1, none⟩ _ rfl) (fun q hq => by omega)).mono (by simp; omega), hR9.other _ (by simp; omega) _, by simpa using hA9.set1 _, by rw [size_setCell]; omega, by simpa using ho9.within hW10 (Nat.le_refl _), hid (by simpa using hRS.out.snoc HROW2.out)⟩, ?_⟩
            simp [intOf]; omega
set_option maxHeartbeats 1000000 in
theorem P6Partial_any (v : Value) (n g : Nat) (w : World) (h : BytesAt w v n) (hg : g ≤ 6) :
    Calls Tryz.prog 5 #[v, .int .i64 g] w fun e w' => ∃ r c, e = .returned r ∧ New w w' ∧ AutAt w' r c ∧ partOk c = true ∧ c.n ≤ 4 ∧ (gapsOf c.nx).length ≤ g := by
  obtain ⟨wb, hwb⟩ : ∃ wb, wb = w.alloc (.cells #[.int .i64 0, .slice none 0 0] 26) := ⟨_, rfl⟩
  have hnb : New w wb := by rw [hwb]; exact (by repeat (first | with_reducible exact New.refl _ | with_reducible assumption | with_reducible refine New.alloc ?_ _ | with_reducible refine New.drewN ?_ _ | with_reducible refine New.drew ?_ | with_reducible refine New.trans ?_ (by with_reducible assumption)))
  have hR : Box2 wb w.heap.size (.int .i64 0) (.slice none 0 0) := by rw [hwb]; exact ⟨by go_simp, by go_simp, by go_simp, by go_simp⟩
  have C1 := from_any v n wb (h.new hnb)
  have hwl : w.heap.size < wb.heap.size := hR.lt
  go_enter Tryz.func5, Tryz.ntmps5
  go_wp2_with fail
  rw [← hwb]
  clear hwb
  go_wp2_with fail
  refine C1.mono ?_
  rintro e w1 ⟨rfl, hn1, hs1⟩
  obtain ⟨sb, hsb⟩ : ∃ sb, sb = wb.heap.size := ⟨_, rfl⟩
  rw [← hsb] at hs1 hwl ⊢
  have HSB := hid hsb
  clear hsb C1
  have hR1 := hR.new hn1
  have C2 := l04Draw_any sb n 0 g 4 w1 hs1 (by omega) (by decide) hg
  go_wp2_with fail
  refine C2.mono ?_
  rintro e w2 ⟨r2, c, rfl, hW2, _, ⟨rv, rfl, hG2⟩, hok, hc4, hgl⟩
  have hR2 := hR1.within hW2 (Or.inl hwl)
  have hsbw := HSB.out
  have hN2 : New wb w2 := hn1.within hW2 (by omega)
  obtain ⟨A, cap, rfl⟩ := hG2.form
  obtain ⟨q0, q1, qf0, qf1⟩ := id hR2
  obtain ⟨g0, g1, _⟩ := hR2.fill (.int .i64 c.n) (.slice A c.nx.length cap)
  have HW := hid (Within.fill w2 w.heap.size (.int .i64 c.n) (.slice A c.nx.length cap))
  have hz1 := hn1.size
  have HOK := hid hok
  clear hok
  go_wp2_with fail
  refine bodyPost_ret (v := .agg #[.int .i64 c.n, .slice A c.nx.length cap]) (by simp [results, Tryz.results5, go_sem, g0, g1]) rfl ?_
  have hfin : New w ((w2.setCell ⟨w.heap.size, 0, none⟩ (.int .i64 c.n)).setCell ⟨w.heap.size, 1, none⟩ (.slice A c.nx.length cap)) := (hnb.trans hN2).within HW.out (Nat.le_refl _)
  have hat := (hG2.within HW.out (Or.inr (by omega))).at
  first
    | exact ⟨_, c, rfl, hfin, ⟨_, rfl, hat⟩, HOK.out, hc4, hgl⟩
    | exact ⟨_, rfl, hfin, c, ⟨_, rfl, hat⟩, HOK.out, hc4, hgl⟩
end
section
set_option maxHeartbeats 1000000 in
theorem f6ints_any (v1 v2 : Value) (xs : List Int) (w : World) (h1 : IntsAt w v1 xs) (h2 : IntsAt w v2 xs) :
    Calls Tryz.prog 12 #[v1, v2] w fun e w' => e = .returned (.bool true) ∧ New w w' := by
  obtain ⟨A, c, rfl, hl1, hc1⟩ := h1
  obtain ⟨A2, c2, rfl, hl2, hc2⟩ := h2
  have HC1 := hid hc1
  have HC2 := hid hc2
  have hb : ((xs.length : Int) != xs.length) = false := by simp
  clear hc1 hc2
  go_enter Tryz.func12, Tryz.ntmps12
  go_wp2_with fail
  go_loopw [5] (fun i wr => ∃ k : Nat, k ≤ xs.length ∧ i = .int .i64 k ∧ New w wr) (fun i _ => xs.length - (intOf i).toNat)
  case atStart => exact ⟨0, Nat.zero_le _, rfl, New.refl _⟩
  case round =>
    obtain ⟨k, hk, rfl, hw⟩ := hrel
    obtain ⟨wo, rfl⟩ : ∃ wo : World, wo = wr := ⟨_, rfl⟩
    by_cases hlt : k < xs.length
    · have b1 : (k : Int) < (xs.length : Int) := by omega
      obtain ⟨b, off, rfl, hx⟩ := HC1.out k hlt
      obtain ⟨b2, off2, rfl, hy⟩ := HC2.out k hlt
      replace hx := hw.cell hx
      replace hy := hw.cell hy
      obtain ⟨X, hX⟩ : ∃ X, X = nth xs k := ⟨_, rfl⟩
      rw [← hX] at hx hy
      have hbx : (X != X) = false := by simp
      clear hX
      go_wp2_with fail
      go_quiet (fail)
      go_wp2_with fail
      exact ⟨⟨k + 1, by omega, by go_num, hw.trans (by repeat (first | with_reducible exact New.refl _ | with_reducible assumption | with_reducible refine New.alloc ?_ _ | with_reducible refine New.drewN ?_ _ | with_reducible refine New.drew ?_ | with_reducible refine New.trans ?_ (by with_reducible assumption)))⟩, by simp [intOf]; omega⟩
    · have e : k = xs.length := by omega
      subst e
      have b1 : ¬ (xs.length : Int) < (xs.length : Int) := by omega
      go_wp2_with fail
      go_ret
      exact ⟨rfl, hw⟩
set_option maxHeartbeats 2000000 in
theorem SameAutomaton_self (v1 v2 : Value) (a : Aut) (w : World) (h1 : AutAt w v1 a) (h2 : AutAt w v2 a) :
    Calls Tryz.prog 11 #[v1, v2] w fun e w' => e = .returned (.bool true) ∧ New w w' := by
  obtain ⟨r1, rfl, hr1⟩ := h1
  obtain ⟨r2, rfl, hr2⟩ := h2
  obtain ⟨A, c, rfl, hl1, hc1⟩ := hr1
  obtain ⟨A2, c2, rfl, hl2, hc2⟩ := hr2
  have HC1 := hid hc1
  have HC2 := hid hc2
  clear hc1 hc2
  obtain ⟨wb, hwb⟩ : ∃ wb, wb = (w.alloc (.cells #[.int .i64 a.n, .slice A a.nx.length c] 31)).alloc (.cells #[.int .i64 a.n, .slice A2 a.nx.length c2] 31) := ⟨_, rfl⟩
  have hnb : New w wb := by rw [hwb]; exact (by repeat (first | with_reducible exact New.refl _ | with_reducible assumption | with_reducible refine New.alloc ?_ _ | with_reducible refine New.drewN ?_ _ | with_reducible refine New.drew ?_ | with_reducible refine New.trans ?_ (by with_reducible assumption)))
  have x0 : wb.cell? ⟨w.heap.size, 0, none⟩ = some (.int .i64 a.n) := by rw [hwb]; go_simp
  have x1 : wb.cell? ⟨w.heap.size, 1, none⟩ = some (.slice A a.nx.length c) := by rw [hwb]; go_simp
  have y0 : wb.cell? ⟨w.heap.size + 1, 0, none⟩ = some (.int .i64 a.n) := by rw [hwb]; go_simp
  have y1 : wb.cell? ⟨w.heap.size + 1, 1, none⟩ = some (.slice A2 a.nx.length c2) := by rw [hwb]; go_simp
  have hb1 : (a.n != a.n) = false := by simp
  have hb2 : ((a.nx.length : Int) != a.nx.length) = false := by simp
  go_enter Tryz.func11, Tryz.ntmps11
  go_wp2_with fail
  rw [← hwb]
  clear hwb
  obtain ⟨p1, hp1⟩ : ∃ z, z = w.heap.size := ⟨_, rfl⟩
  obtain ⟨p2, hp2⟩ : ∃ z, z = w.heap.size + 1 := ⟨_, rfl⟩
  rw [← hp2] at y0 y1 ⊢
  rw [← hp1] at x0 x1 ⊢
  clear hp1 hp2
  go_wp2_with fail
  try go_quiet (fail)
  go_wp2_with fail
  go_loopw [5] (fun i wr => ∃ k : Nat, k ≤ a.nx.length ∧ i = .int .i64 k ∧ New wb wr) (fun i _ => a.nx.length - (intOf i).toNat)
  case atStart => exact ⟨0, Nat.zero_le _, rfl, New.refl _⟩
  case round =>
    obtain ⟨k, hk, rfl, hm⟩ := hrel
    obtain ⟨wo, rfl⟩ : ∃ wo : World, wo = wr := ⟨_, rfl⟩
    have hw := hnb.trans hm
    replace x1 := hm.cell x1
    replace y1 := hm.cell y1
    by_cases hlt : k < a.nx.length
    · have kb1 : (k : Int) < (a.nx.length : Int) := by omega
      obtain ⟨b, off, s1, rfl, hx, hr1⟩ := HC1.out k hlt
      obtain ⟨b2, off2, s2, rfl, hy, hr2⟩ := HC2.out k hlt
      replace hx := hw.cell hx
      replace hy := hw.cell hy
      replace hr1 := hr1.new hw
      replace hr2 := hr2.new hw
      have C : ∀ e, Calls Tryz.prog 38 #[s1, s2] (ext wo e) fun e' w' => e' = .returned (.bool true) ∧ New (ext wo e) w' := fun e => by
        have := l00Same_any _ _ _ _ _ (hr1.new (ext_new _ e)) (hr2.new (ext_new _ e))
        rw [decide_eq_true rfl] at this
        exact this
      have e1 := ext_cell x1
      have e2 := ext_cell y1
      have e3 := ext_cell hx
      have e4 := ext_cell hy
      go_wp2_with fail
      refine wp_region_quiet_new (by kernel_rfl) (by kernel_rfl) ?_; (repeat (go_big_quiet_step (((go_at_call 38; exact quiet_new (C _)))))); refine wpQuiet_nil ?_; intro wq hq; have hnq := new_of_ext hq; clear hq
      go_wp2_with fail
      exact ⟨⟨k + 1, by omega, by go_num, hm.trans hnq⟩, by simp [intOf]; omega⟩
    · have e : k = a.nx.length := by omega
      subst e
      have b1 : ¬ (a.nx.length : Int) < (a.nx.length : Int) := by omega
      go_wp2_with fail
      go_ret
      exact ⟨rfl, hw⟩
set_option maxHeartbeats 1000000 in
theorem specGapsOf_any (v : Value) (p : Aut) (w : World) (h : AutAt w v p) (hp : partOk p = true) :
    Calls Tryz.prog 6 #[v] w fun e w' => ∃ g c, e = .returned (.tuple #[.slice g (gapsOf p.nx).length c, .int .i64 0]) ∧ New w w' := by
  obtain ⟨rv, rfl, hr⟩ := h
  obtain ⟨A, c, rfl⟩ := hr.form
  obtain ⟨wb, hwb⟩ : ∃ wb, wb = w.alloc (.cells #[.int .i64 p.n, .slice A p.nx.length c] 26) := ⟨_, rfl⟩
  have hpa : PAut wb (.pointer (some ⟨w.heap.size, 0, none⟩)) p := by rw [hwb]; exact PAut.box hr _
  have hnb : New w wb := by rw [hwb]; exact (by repeat (first | with_reducible exact New.refl _ | with_reducible assumption | with_reducible refine New.alloc ?_ _ | with_reducible refine New.drew ?_ | with_reducible refine New.drewN ?_ _ | with_reducible refine New.setCell ?_ (by simp <;> omega) _))
  have C1 := l04Ok_any _ p _ hpa
  rw [hp] at C1
  have hf := part_facts hp
  have HG := hid (fun w1 (hm : New wb w1) => l04Gaps_any _ p w1 (hpa.new hm) hf.l3 (fun i hi => by have := hf.row i hi; have := hf.n10; omega))
  clear hf hp
  go_enter Tryz.func6, Tryz.ntmps6
  go_wp2_with fail
  rw [← hwb]
  clear hwb
  refine C1.mono ?_
  rintro e w1 ⟨rfl, hn1⟩
  go_wp2_with (go_at_call 21; refine (HG.out w1 hn1).mono ?_; rintro e w2 ⟨r, rfl, hn2, hga, _⟩; obtain ⟨AG, cG, rfl⟩ := hga.form)
  go_ret2
  exact ⟨AG, cG, rfl, (hnb.trans hn1).trans hn2⟩
set_option maxHeartbeats 2000000 in
theorem specFillGaps_any (v sv : Value) (p : Aut) (st : List Int) (w : World) (h : AutAt w v p) (hs : IntsAt w sv st) (hp : partOk p = true) (hsl : st.length = (gapsOf p.nx).length) (hst : ∀ i, i < st.length → 0 ≤ nth st i ∧ nth st i < p.n) :
    Calls Tryz.prog 46 #[v, sv] w fun e w' => ∃ r, e = .returned (.tuple #[r, .int .i64 0]) ∧ New w w' ∧ OwnAut w.heap.size w'.heap.size w' r ⟨p.n, fillOf p.nx st⟩ := by
  obtain ⟨rv, rfl, hr⟩ := h
  obtain ⟨A, c, rfl⟩ := hr.form
  obtain ⟨AS, cS, rfl⟩ := hs.form
  obtain ⟨wb, hwb⟩ : ∃ wb, wb = (w.alloc (.cells #[.int .i64 p.n, .slice A p.nx.length c] 26)).alloc (.cells #[.int .i64 0, .slice none 0 0] 31) := ⟨_, rfl⟩
  have hpa : PAut wb (.pointer (some ⟨w.heap.size, 0, none⟩)) p := by rw [hwb]; exact (PAut.box hr _).new (by repeat (first | with_reducible exact New.refl _ | with_reducible assumption | with_reducible refine New.alloc ?_ _ | with_reducible refine New.drew ?_ | with_reducible refine New.drewN ?_ _ | with_reducible refine New.setCell ?_ (by simp <;> omega) _))
  have hnb : New w wb := by rw [hwb]; exact (by repeat (first | with_reducible exact New.refl _ | with_reducible assumption | with_reducible refine New.alloc ?_ _ | with_reducible refine New.drew ?_ | with_reducible refine New.drewN ?_ _ | with_reducible refine New.setCell ?_ (by simp <;> omega) _))
  have hR : Box2 wb (w.heap.size + 1) (.int .i64 0) (.slice none 0 0) := by rw [hwb]; exact ⟨by go_simp, by go_simp, by go_simp, by go_simp⟩
  have hb0 : wb.cell? ⟨w.heap.size, 0, none⟩ = some (.int .i64 p.n) := by rw [hwb]; go_simp
  have C1 := l04Ok_any _ p _ hpa
  rw [hp] at C1
  have hf := part_facts hp
  have hn1 := hf.n1
  have hn10 := hf.n10
  have hgl : st.length ≤ 30 := by rw [hsl]; exact gaps_len hf
  have HG := hid (fun w1 (hm : New wb w1) => (l04Gaps_any _ p w1 (hpa.new hm) hf.l3 (fun i hi => by have := hf.row i hi; have := hf.n10; omega)).mono (show ∀ e w', _ → ∃ AG cG, e = .returned (.slice AG st.length cG) ∧ New w1 w' from fun e w' ⟨r, he, hn, hga, _⟩ => by
    obtain ⟨AG, cG, rfl⟩ := hga.form
    exact ⟨AG, cG, by rw [he, hsl], hn⟩))
  have HF := hid (fun w1 (hm : New wb w1) => l04Fill_any _ (.slice AS st.length cS) p st w1 (hpa.new hm) (hs.new (hnb.trans hm)) hf hsl)
  have HSI := hid (fun i hi => hst i hi)
  have HS := hid (hs.new hnb)
  have hbe : ((st.length : Int) != st.length) = false := by simp
  have hwz : wb.heap.size = w.heap.size + 2 := by rw [hwb]; simp only [size_alloc]
  have HWZ := hid hwz
  have HLF := hid (show (fillOf p.nx st).length = p.nx.length from gapTo_len _ _ _ _)
  clear hf hp hsl hst hwz
  go_enter Tryz.func46, Tryz.ntmps46
  go_wp2_with fail
  rw [← hwb]
  clear hwb
  obtain ⟨pb, hpb⟩ : ∃ z, z = w.heap.size := ⟨_, rfl⟩
  obtain ⟨rb, hrb⟩ : ∃ z, z = w.heap.size + 1 := ⟨_, rfl⟩
  rw [← hrb] at hR ⊢
  rw [← hpb] at hb0 HG HF C1 ⊢
  have HRB := hid hrb
  clear hpb hrb
  refine C1.mono ?_
  rintro e w1 ⟨rfl, hn1⟩
  go_wp2_with (go_at_call 21; refine (HG.out w1 hn1).mono ?_; rintro e w2 ⟨AG, cG, rfl, hn2⟩)
  have hm2 := hn1.trans hn2
  have hb2 := hm2.cell hb0
  have hR2 := hR.new hm2
  obtain ⟨_, _, eS, hSl, hSc⟩ := HS.out
  cases eS
  have HSC := hid hSc
  have hw64 : Go.RowKit.wrap64 (p.n - 1) = p.n - 1 := IntWalk.wrap64_in _ ⟨by omega, by omega⟩
  have hw64' : IntKind.i64.wrap (p.n - 1) = p.n - 1 := IntWalk.i64_in _ (by omega)
  clear hSc
  go_loopw [6] (fun i wr => ∃ k : Nat, k ≤ st.length ∧ i = .int .i64 k ∧ New w2 wr) (fun i _ => st.length - (intOf i).toNat)
  case atStart => exact ⟨0, Nat.zero_le _, rfl, New.refl _⟩
  case round =>
    obtain ⟨k, hk, rfl, hm⟩ := hrel
    obtain ⟨wo, rfl⟩ : ∃ wo : World, wo = wr := ⟨_, rfl⟩
    replace hb2 := hm.cell hb2
    by_cases hlt : k < st.length
    · have c1 : (k : Int) < (st.length : Int) := by omega
      obtain ⟨b, off, rfl, hx⟩ := HSC.out k hlt
      replace hx := (hm2.trans hm).cell hx
      have hin := HSI.out k hlt
      obtain ⟨X, hX⟩ : ∃ X, X = nth st k := ⟨_, rfl⟩
      rw [← hX] at hx hin
      have C : ∀ e, Calls Tryz.prog 50 #[.int .i64 X, .int .i64 0, .int .i64 (p.n - 1)] (ext wo e) fun e' w' => e' = .returned (.bool true) ∧ w' = ext wo e := fun e => by
        have := l00In_any X 0 (p.n - 1) (ext wo e)
        rw [show inB X 0 (p.n - 1) = true from (inB_iff _ _ _).2 (by omega)] at this
        exact this
      have e1 := ext_cell hb2
      have e2 := ext_cell hx
      clear hX
      go_wp2_with fail
      refine wp_region_quiet_new (by kernel_rfl) (by kernel_rfl) ?_; (repeat (go_big_quiet_step (((go_at_call 50; exact quiet_same (C _)))))); refine wpQuiet_nil ?_; intro wq hq; have hnq := new_of_ext hq; clear hq
      go_wp2_with fail
      exact ⟨⟨k + 1, by omega, by go_num, hm.trans hnq⟩, by simp [intOf]; omega⟩
    · have e : k = st.length := by omega
      subst e
      have c1 : ¬ (st.length : Int) < (st.length : Int) := by omega
      have hmo := hm2.trans hm
      have hRo := hR2.new hm
      have hwo : w.heap.size ≤ wo.heap.size := (hnb.trans hmo).size
      have hwb2 := hmo.size
      clear hw64 hw64' hb2
      go_wp2_with (go_at_call 56; refine (HF.out wo hmo).mono ?_; rintro e w3 ⟨r3, rfl, hn3, ho3⟩; obtain ⟨rv3, rfl, ho4⟩ := ho3; obtain ⟨A3, c3, rfl⟩ := ho4.form; have hR3 := hRo.new hn3; obtain ⟨q0, q1, qf0, qf1⟩ := id hR3; obtain ⟨g0, g1, _⟩ := hR3.fill (.int .i64 p.n) (.slice A3 (fillOf p.nx st).length c3))
      refine bodyPost_ret (v := .tuple #[.agg #[.int .i64 p.n, .slice A3 (fillOf p.nx st).length c3], .int .i64 0]) (by simp [results, Tryz.results46, go_sem, g0, g1]) rfl ?_
      have hwf := Within.fill w3 rb (.int .i64 p.n) (.slice A3 (fillOf p.nx st).length c3)
      have hrb := HRB.out
      have hwz := HWZ.out
      exact ⟨_, rfl, ((hnb.trans hmo).trans hn3).within hwf (by omega), _, rfl, (ho4.within hwf (Or.inr (by omega))).widen hwo hwf.2.2.2.1⟩
theorem img_one {a : Aut} (ha : autOk a = true) (ws : List Int) : decide ((imgOf a.nx (iota 0 a.n.toNat) ws).length = 1) = decide (∀ s : Nat, s < a.n.toNat → runOf a.nx (s : Int) ws = runOf a.nx 0 ws) := by
  have hn := autOk_n ha
  obtain ⟨hR, hM⟩ := imgL_spec ((iota 0 a.n.toNat).map fun s => runOf a.nx s ws)
  have hmem : ∀ s : Nat, s < a.n.toNat → runOf a.nx (s : Int) ws ∈ imgOf a.nx (iota 0 a.n.toNat) ws := fun s hs => (hM _).2 (List.mem_map.2 ⟨(s : Int), by unfold iota; exact List.mem_map.2 ⟨s, List.mem_range.2 hs, by omega⟩, rfl⟩)
  rw [decide_eq_decide]
  constructor
  · intro h s hs
    obtain ⟨x, hx⟩ := List.length_eq_one_iff.1 h
    have h1 := hmem s hs
    have h2 := hmem 0 (by omega)
    rw [hx, List.mem_singleton] at h1 h2
    rw [h1]; exact h2.symm
  · intro h
    have h0 := hmem 0 (by omega)
    have hall : ∀ x, x ∈ imgOf a.nx (iota 0 a.n.toNat) ws → x = runOf a.nx 0 ws := fun x hx => by
      obtain ⟨s, hs, rfl⟩ := List.mem_map.1 ((hM x).1 hx)
      unfold iota at hs
      obtain ⟨k, hk, rfl⟩ := List.mem_map.1 hs
      have := h k (List.mem_range.1 hk)
      rw [← this, Int.zero_add]
    have hl : 0 < (imgOf a.nx (iota 0 a.n.toNat) ws).length := List.length_pos_of_mem h0
    rcases Nat.lt_or_ge 1 (imgOf a.nx (iota 0 a.n.toNat) ws).length with q | q
    · have := hR.nth 0 1 (by omega) q
      have e1 := hall _ (nth_mem _ 0 hl)
      have e2 := hall _ (nth_mem _ 1 q)
      have e3 : nth (imgOf a.nx (iota 0 a.n.toNat) ws) 0 < nth (imgOf a.nx (iota 0 a.n.toNat) ws) 1 := this
      omega
    · omega
set_option maxHeartbeats 1000000 in
theorem specIsReset_any (v v2 : Value) (a : Aut) (ws : List Int) (w : World) (h : AutAt w v a) (h2 : IntsAt w v2 ws) (ha : autOk a = true) (hw : wordOk a ws = true) :
    Calls Tryz.prog 47 #[v, v2] w fun e w' => e = .returned (.tuple #[.bool (decide (∀ s : Nat, s < a.n.toNat → runOf a.nx (s : Int) ws = runOf a.nx 0 ws)), .int .i64 0]) ∧ New w w' := by
  obtain ⟨rv, rfl, hr⟩ := h
  obtain ⟨A, c, rfl⟩ := hr.form
  have HI1 := hid (img_one ha ws)
  obtain ⟨wb, hwb⟩ : ∃ wb, wb = w.alloc (.cells #[.int .i64 a.n, .slice A a.nx.length c] 31) := ⟨_, rfl⟩
  have hpa : PAut wb (.pointer (some ⟨w.heap.size, 0, none⟩)) a := by rw [hwb]; exact PAut.box hr _
  have hnb : New w wb := by rw [hwb]; exact (by repeat (first | with_reducible exact New.refl _ | with_reducible assumption | with_reducible refine New.alloc ?_ _ | with_reducible refine New.drew ?_ | with_reducible refine New.drewN ?_ _ | with_reducible refine New.setCell ?_ (by simp <;> omega) _))
  have hb0 : wb.cell? ⟨w.heap.size, 0, none⟩ = some (.int .i64 a.n) := by rw [hwb]; go_simp
  have hb1 : wb.cell? ⟨w.heap.size, 1, none⟩ = some (.slice A a.nx.length c) := by rw [hwb]; go_simp
  have han := autOk_n ha
  have hwl := ((wordOk_iff a ws).1 hw).2
  have C1 := l01Ok_any _ a _ hpa
  rw [ha] at C1
  have HW := hid (fun w1 (hm : New wb w1) => l01Word_any _ v2 a ws w1 (hpa.new hm) (h2.new (hnb.trans hm)))
  rw [hw] at HW
  have HAL := hid (fun w1 => l01All_any a.n w1 (by omega) (by omega))
  have hil := iota_length 0 a.n.toNat
  have HIM := hid (fun w1 v3 (hm : New wb w1) (h3 : IntsAt w1 v3 (iota 0 a.n.toNat)) => l01Image_any _ v3 v2 a (iota 0 a.n.toNat) ws w1 (hpa.new hm) h3 (h2.new (hnb.trans hm)) ha hwl (fun s hs => by
    unfold iota at hs
    simp at hs
    obtain ⟨k, hk, rfl⟩ := hs
    omega) (by omega))
  obtain ⟨IM, hIM⟩ : ∃ z, z = imgOf a.nx (iota 0 a.n.toNat) ws := ⟨_, rfl⟩
  rw [← hIM] at HIM HI1
  obtain ⟨D, hD⟩ : ∃ z, z = decide (∀ s : Nat, s < a.n.toNat → runOf a.nx (s : Int) ws = runOf a.nx 0 ws) := ⟨_, rfl⟩
  rw [← hD] at HI1
  rw [← hD]
  clear hIM hD ha hw hwl hil
  go_enter Tryz.func47, Tryz.ntmps47
  go_wp2_with fail
  rw [← hwb]
  clear hwb
  refine C1.mono ?_
  rintro e w1 ⟨rfl, hn1⟩
  have hb0' := hn1.cell hb0
  go_wp2_with (first
    | (go_at_call 78; refine (HW.out w1 hn1).mono ?_; rintro e w2 ⟨rfl, hn2⟩; have hm2 := hn1.trans hn2; have hb02 := hm2.cell hb0)
    | (go_at_call 80; refine (HAL.out w2).mono ?_; rintro e w3 ⟨r3, rfl, hn3, ho3⟩; have hm3 := hm2.trans hn3)
    | (go_at_call 79; refine (HIM.out w3 _ hm3 ho3.at).mono ?_; rintro e w4 ⟨r4, he, hn4, ho4⟩; obtain ⟨A4, c4, rfl⟩ := ho4.form; subst he))
  go_ret2
  have e1 : ((IM.length : Int) == 1) = D := by rw [← HI1.out, Bool.eq_iff_iff]; simp; omega
  exact ⟨by rw [e1]; rfl, (hnb.trans hm3).trans hn4⟩
end
section
theorem fillOf_len (p : Aut) (st : List Int) : (fillOf p.nx st).length = p.nx.length := gapTo_len _ _ _ _
theorem word_fill {p : Aut} {ws : List Int} (st : List Int) (hl : lettersP p ws) (h4 : ws.length ≤ 400) : wordOk ⟨p.n, fillOf p.nx st⟩ ws = true := (wordOk_iff _ _).2 ⟨h4, fun i hi => by
  have := hl i hi
  show 0 ≤ nth ws i ∧ nth ws i < ((fillOf p.nx st).length : Int)
  rw [fillOf_len]; exact this⟩
set_option maxRecDepth 20000 in
set_option maxHeartbeats 2000000 in
theorem f6resets_any (v wv : Value) (gA : Option Addr) (gc : Nat) (p : Aut) (ws : List Int) (w : World) (h : AutAt w v p) (hw : IntsAt w wv ws) (hp : partOk p = true) (hn4 : p.n ≤ 4) (hm : (gapsOf p.nx).length ≤ 2) (hl : lettersP p ws) (hl4 : ws.length ≤ 400) :
    Calls Tryz.prog 17 #[v, .slice gA (gapsOf p.nx).length gc, wv] w fun e w' => e = .returned (.int .i64 (leC p ws (fillCount p) : Nat)) ∧ New w w' := by
  obtain ⟨rv, rfl, hr⟩ := h
  obtain ⟨A, c, rfl⟩ := hr.form
  have h1 : AutAt w (.agg #[.int .i64 p.n, .slice A p.nx.length c]) p := ⟨_, rfl, hr⟩
  have hf := part_facts hp
  have hLE := hid (fun k => leC_le p ws k)
  have hLS := hid (fun k => leC_succ p ws k)
  have HFG := hid (fun (w1 : World) sv st (hm1 : New w w1) (hs : IntsAt w1 sv st) (hsl : st.length = (gapsOf p.nx).length) (hst : ∀ i, i < st.length → 0 ≤ nth st i ∧ nth st i < p.n) => specFillGaps_any _ sv p st w1 (h1.new hm1) hs hp hsl hst)
  have HRS := hid (fun (w1 : World) v1 (st : List Int) (hm1 : New w w1) (ha : AutAt w1 v1 ⟨p.n, fillOf p.nx st⟩) (hsl : st.length = (gapsOf p.nx).length) (hst : ∀ i, i < st.length → 0 ≤ nth st i ∧ nth st i < p.n) =>
    (show Calls Tryz.prog 47 #[v1, wv] w1 fun e w' => e = .returned (.tuple #[.bool (rsB ⟨p.n, fillOf p.nx st⟩ ws), .int .i64 0]) ∧ New w1 w' from by
      have hok := fill_ok hf (st := st) (fun i hi => hst i (by rw [hsl]; exact hi))
      have hwo := word_fill st hl hl4
      have := specIsReset_any v1 wv ⟨p.n, fillOf p.nx st⟩ ws w1 ha (hw.new hm1) hok hwo
      rw [show decide (∀ s : Nat, s < (⟨p.n, fillOf p.nx st⟩ : Aut).n.toNat → runOf (⟨p.n, fillOf p.nx st⟩ : Aut).nx (s : Int) ws = runOf (⟨p.n, fillOf p.nx st⟩ : Aut).nx 0 ws) = rsB ⟨p.n, fillOf p.nx st⟩ ws from by
        rw [Bool.eq_iff_iff, decide_eq_true_iff]
        exact (rsB_iff hok (((wordOk_iff _ _).1 hwo).2)).symm] at this
      exact this))
  obtain ⟨n, hnn⟩ : ∃ n : Nat, p.n = (n : Int) := ⟨p.n.toNat, by have := hf.n1; omega⟩
  have hn1 : 1 ≤ n := by have := hf.n1; omega
  have hn4' : n ≤ 4 := by omega
  have HFC := hid (show fillCount p = n ^ (gapsOf p.nx).length by unfold fillCount; rw [hnn]; rfl)
  have HLST := hid (fun k m' => leD_succ n m' k)
  rw [hnn] at HFG HRS
  rw [hnn, Int.toNat_natCast] at hLS
  obtain ⟨m, hmm⟩ : ∃ m, m = (gapsOf p.nx).length := ⟨_, rfl⟩
  rw [← hmm] at hm HFC HFG HRS hLS
  rw [← hmm, HFC.out, hnn]
  have hb0 : (w.alloc (.cells #[.int .i64 n, .slice A p.nx.length c] 26)).cell? ⟨w.heap.size, 0, none⟩ = some (.int .i64 n) := by go_simp
  have hb1 : (w.alloc (.cells #[.int .i64 n, .slice A p.nx.length c] 26)).cell? ⟨w.heap.size, 1, none⟩ = some (.slice A p.nx.length c) := by go_simp
  obtain ⟨wb, hwb⟩ : ∃ wb, wb = w.alloc (.cells #[.int .i64 n, .slice A p.nx.length c] 26) := ⟨_, rfl⟩
  have hnb : New w wb := by rw [hwb]; exact (by repeat (first | with_reducible exact New.refl _ | with_reducible assumption | with_reducible refine New.alloc ?_ _ | with_reducible refine New.drewN ?_ _ | with_reducible refine New.drew ?_ | with_reducible refine New.trans ?_ (by with_reducible assumption)))
  rw [← hwb] at hb0 hb1
  have hpow : n ^ m ≤ 16 := by
    have h1 := Nat.pow_le_pow_left hn4' m
    have h2 := Nat.pow_le_pow_right (n := 4) (by decide) hm
    omega
  have HPOW := hid (fun j (hj : j ≤ m) => Nat.le_trans (Nat.pow_le_pow_right hn1 hj) hpow)
  have HNN := hid hnn
  clear hf hp hmm hl hw hn4 hnn
  go_enter Tryz.func17, Tryz.ntmps17
  go_wp2_with fail
  rw [← hwb]
  clear hwb
  obtain ⟨pb, hpb⟩ : ∃ z, z = w.heap.size := ⟨_, rfl⟩
  rw [← hpb] at hb0 hb1 ⊢
  clear hpb
  go_loopw [8, 9] (fun tv iv wr => ∃ i : Nat, i ≤ m ∧ iv = .int .i64 i ∧ tv = .int .i64 (n ^ i : Nat) ∧ wr = wb) (fun _ iv _ => m - (intOf iv).toNat)
  case atStart => exact ⟨0, Nat.zero_le _, rfl, rfl, rfl⟩
  case round =>
    obtain ⟨i, hi, rfl, rfl, hwr⟩ := hrel
    obtain rfl : wb = wr := hwr.symm
    clear hwr
    have hpi := HPOW.out i hi
    have HSU := hid (Nat.pow_succ n i)
    by_cases hlt : i < m
    · have b1 : (i : Int) < (m : Int) := by omega
      obtain ⟨X, hX⟩ : ∃ X, X = n ^ i := ⟨_, rfl⟩
      rw [← hX] at HSU hpi ⊢
      obtain ⟨Y, hY⟩ : ∃ Y, Y = X * n := ⟨_, rfl⟩
      rw [← hY] at HSU
      have key : Y ≤ 50000 := by
        have := Nat.mul_le_mul hpi hn4'
        omega
      obtain ⟨hw1, hw2⟩ := mul_small hY key
      clear hX hY
      go_wp2_with fail
      exact ⟨⟨i + 1, by omega, by go_num, by rw [HSU.out], by first | rfl | trivial⟩, by simp [intOf]; omega⟩
    · have e : i = m := by omega
      subst e
      have b1 : ¬ (i : Int) < (i : Int) := by omega
      clear HSU
      obtain ⟨T, hT⟩ : ∃ T, T = n ^ i := ⟨_, rfl⟩
      rw [← hT] at hpi hpow ⊢
      have HT := hid hT
      clear hT
      go_wp2_with fail
      go_loopw [7, 10] (fun cv kv wr => ∃ k : Nat, k ≤ T ∧ kv = .int .i64 k ∧ cv = .int .i64 (leC p ws k : Nat) ∧ New wb wr) (fun _ kv _ => T - (intOf kv).toNat)
      case atStart => exact ⟨0, Nat.zero_le _, rfl, rfl, New.refl _⟩
      case round =>
        obtain ⟨k, hk, rfl, rfl, hN⟩ := hrel
        obtain ⟨wo, rfl⟩ : ∃ wo : World, wo = wr := ⟨_, rfl⟩
        have hcl := hLE.out k
        have HS := hid (hLS.out k)
        obtain ⟨LK, hLK⟩ : ∃ z, z = leC p ws k := ⟨_, rfl⟩
        rw [← hLK] at hcl HS ⊢
        have HLK := hid hLK
        clear hLK
        by_cases hltk : k < T
        · have b2 : (k : Int) < (T : Int) := by omega
          have hY0 := Grow.empty wo.heap.size 2 wo (Nat.le_refl _)
          have hnY : New wo (wo.alloc (.cells #[] 2)) := (by repeat (first | with_reducible exact New.refl _ | with_reducible assumption | with_reducible refine New.alloc ?_ _ | with_reducible refine New.drewN ?_ _ | with_reducible refine New.drew ?_ | with_reducible refine New.trans ?_ (by with_reducible assumption)))
          replace hb0 := hN.cell hb0
          replace hb1 := hN.cell hb1
          have hpbo : pb < wo.heap.size := World.block_lt_of_cell? wo _ hb0
          go_wp2_with fail
          go_loopw [11, 12, 13] (fun ov rv jv wr => ∃ j : Nat, j ≤ i ∧ jv = .int .i64 j ∧ rv = .int .i64 (k / n ^ j : Nat) ∧ New wo wr ∧ Grow wo.heap.size 2 wr ov (leD n j k)) (fun _ _ jv _ => i - (intOf jv).toNat)
          case atStart => exact ⟨0, Nat.zero_le _, rfl, by simp, hnY, hY0⟩
          case round =>
            obtain ⟨j, hj, rfl, rfl, hM, hG⟩ := hrel
            clear hY0 hnY
            obtain ⟨wi, rfl⟩ : ∃ wi : World, wi = wr := ⟨_, rfl⟩
            have hld := leD_len n j k
            have HLS2 := hid (HLST.out k j)
            obtain ⟨LD, hLD⟩ : ∃ z, z = leD n j k := ⟨_, rfl⟩
            rw [← hLD] at hG hld HLS2
            have HLDE := hid hLD
            have HLD := hid hld
            have hld2 : LD.length < 1099511627776 := by omega
            clear hLD hld
            obtain ⟨AG, cG, rfl⟩ := hG.form
            replace hb0 := hM.cell hb0
            replace hb1 := hM.cell hb1
            by_cases hltj : j < i
            · have b3 : (j : Int) < (i : Int) := by omega
              have HX1 := hid (show k / n ^ (j + 1) = k / n ^ j / n by rw [Nat.pow_succ, Nat.div_div_eq_div_mul])
              have hXk : k / n ^ j ≤ k := Nat.div_le_self _ _
              obtain ⟨X, hX⟩ : ∃ X, X = k / n ^ j := ⟨_, rfl⟩
              rw [← hX] at HX1 hXk HLS2 ⊢
              have hrem := rem_nat (X := X) (n := n) (by omega)
              have hquo := quo_nat (X := X) (n := n) (by omega)
              have hne : ¬ (n : Int) = 0 := by omega
              have hzi := hM.size
              have hXd : X / n ≤ X := Nat.div_le_self _ _
              have hXm : X % n ≤ X := Nat.mod_le _ _
              obtain ⟨Q, hQ⟩ : ∃ Q, Q = X / n := ⟨_, rfl⟩
              obtain ⟨R, hR⟩ : ∃ R, R = X % n := ⟨_, rfl⟩
              rw [← hQ] at hXd hquo HX1
              rw [← hR] at hXm hrem HLS2
              clear hQ hR
              clear hX
              go_wp2_with (at_builtin; refine wpList_app rfl _ _ _ rfl Tryz.underlying34 info_i64 (.slice AG LD.length cG) LD rfl hG rfl hld2 hzi ?_; intro g9 cap9 w9 ho9 hg9; have hb09 := hg9.cell (New.cell (w := wi) (by repeat (first | with_reducible exact New.refl _ | with_reducible assumption | with_reducible refine New.alloc ?_ _ | with_reducible refine New.drewN ?_ _ | with_reducible refine New.drew ?_ | with_reducible refine New.trans ?_ (by with_reducible assumption))) hb0) (fun e => by have := (hG.block pb e.symm).1; omega))
              exact ⟨⟨j + 1, by omega, by go_num, by rw [HX1.out], New.app (a := wo) hM hg9 hG (Nat.le_refl _), by rw [HLS2.out]; first | exact ho9 | simpa using ho9⟩, by simp [intOf]; omega⟩
            · have e2 : j = i := by omega
              have HE2 := hid e2
              clear e2
              have b3 : ¬ (j : Int) < (i : Int) := by omega
              have hNi := hN.trans hM
              have hNw := hnb.trans hNi
              have hown := hG.own (by omega)
              have hst : ∀ q, q < LD.length → 0 ≤ nth LD q ∧ nth LD q < (n : Int) := fun q hq => by
                rw [HLDE.out] at hq ⊢
                rw [leD_len] at hq
                rw [nth_leD _ _ _ _ hq]
                have := Nat.mod_lt (k / n ^ q) (show n > 0 by omega)
                omega
              have HLL := hid (show LD.length = i by rw [HLD.out]; exact HE2.out)
              have CF := hid (HFG.out wi _ LD hNw hown.at HLL.out hst)
              have CR := hid (fun w1 v1 (hm1 : New w w1) (ha : AutAt w1 v1 ⟨(n : Int), fillOf p.nx LD⟩) => HRS.out w1 v1 LD hm1 ha HLL.out hst)
              have HS2 := hid (show leC p ws (k + 1) = LK + if rsB ⟨(n : Int), fillOf p.nx LD⟩ ws = true then 1 else 0 by rw [HS.out, HLDE.out, HE2.out])
              obtain ⟨FO, hFO⟩ : ∃ z, z = fillOf p.nx LD := ⟨_, rfl⟩
              rw [← hFO] at CF CR HS2
              obtain ⟨RS, hRS⟩ : ∃ z, z = rsB ⟨(n : Int), FO⟩ ws := ⟨_, rfl⟩
              rw [← hRS] at CR HS2
              clear hFO hRS hst
              cases hrs : RS with
              | true =>
                rw [hrs] at CR HS2
                rw [if_pos rfl] at HS2
                clear hrs
                go_wp2_with (first
                  | (go_at_call 46; refine CF.out.mono ?_; rintro e w5 ⟨r5, rfl, hn5, ho5⟩; obtain ⟨rv5, rfl, ho6⟩ := ho5; obtain ⟨A5, c5, rfl⟩ := ho6.form)
                  | (go_at_call 47; refine (CR.out _ _ (hNw.trans (New.trans (b := w5) hn5 (by repeat (first | with_reducible exact New.refl _ | with_reducible assumption | with_reducible refine New.alloc ?_ _ | with_reducible refine New.drewN ?_ _ | with_reducible refine New.drew ?_ | with_reducible refine New.trans ?_ (by with_reducible assumption))))) ⟨_, rfl, ho6.at.new (by repeat (first | with_reducible exact New.refl _ | with_reducible assumption | with_reducible refine New.alloc ?_ _ | with_reducible refine New.drewN ?_ _ | with_reducible refine New.drew ?_ | with_reducible refine New.trans ?_ (by with_reducible assumption)))⟩).mono ?_; rintro e w6 ⟨rfl, hn6⟩))
                have hz6 : New wo w6 := hM.trans (hn5.trans (New.trans (b := (w5.alloc (.cells #[.int .i64 n, .slice A5 FO.length c5] 31))) (by repeat (first | with_reducible exact New.refl _ | with_reducible assumption | with_reducible refine New.alloc ?_ _ | with_reducible refine New.drewN ?_ _ | with_reducible refine New.drew ?_ | with_reducible refine New.trans ?_ (by with_reducible assumption))) hn6))
                exact ⟨⟨k + 1, by omega, by go_num, by rw [HS2.out]; first | rfl | go_num, hN.trans hz6⟩, by simp [intOf]; omega⟩
              | false =>
                rw [hrs] at CR HS2
                rw [if_neg (by simp), Nat.add_zero] at HS2
                clear hrs
                go_wp2_with (first
                  | (go_at_call 46; refine CF.out.mono ?_; rintro e w5 ⟨r5, rfl, hn5, ho5⟩; obtain ⟨rv5, rfl, ho6⟩ := ho5; obtain ⟨A5, c5, rfl⟩ := ho6.form)
                  | (go_at_call 47; refine (CR.out _ _ (hNw.trans (New.trans (b := w5) hn5 (by repeat (first | with_reducible exact New.refl _ | with_reducible assumption | with_reducible refine New.alloc ?_ _ | with_reducible refine New.drewN ?_ _ | with_reducible refine New.drew ?_ | with_reducible refine New.trans ?_ (by with_reducible assumption))))) ⟨_, rfl, ho6.at.new (by repeat (first | with_reducible exact New.refl _ | with_reducible assumption | with_reducible refine New.alloc ?_ _ | with_reducible refine New.drewN ?_ _ | with_reducible refine New.drew ?_ | with_reducible refine New.trans ?_ (by with_reducible assumption)))⟩).mono ?_; rintro e w6 ⟨rfl, hn6⟩))
                have hz6 : New wo w6 := hM.trans (hn5.trans (New.trans (b := (w5.alloc (.cells #[.int .i64 n, .slice A5 FO.length c5] 31))) (by repeat (first | with_reducible exact New.refl _ | with_reducible assumption | with_reducible refine New.alloc ?_ _ | with_reducible refine New.drewN ?_ _ | with_reducible refine New.drew ?_ | with_reducible refine New.trans ?_ (by with_reducible assumption))) hn6))
                exact ⟨⟨k + 1, by omega, by go_num, by rw [HS2.out]; first | rfl | go_num, hN.trans hz6⟩, by simp [intOf]; omega⟩
        · have e : k = T := by omega
          subst e
          have b2 : ¬ (k : Int) < (k : Int) := by omega
          go_wp2_with fail
          go_ret
          rw [HLK.out, HT.out]
          exact ⟨rfl, hnb.trans hN⟩
end

end Go.Proofs.YthbebnfhplacnaaGreat
