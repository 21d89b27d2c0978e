/- The reference's swap of two letters. -/
import Derived.Test.YtdaaglfemaoigaaRows
import Derived.Test.YtdaaglfemaoigaaBase
import Derived.Test.YtdaaglfemaoigaaAut
import Derived.Test.YtdaaglfemaoigaaApp
import Derived.Test.YtdaaglfemaoigaaAppRows
import Derived.Test.YtdaaglfemaoigaaAppStep
import Derived.Test.YtdaaglfemaoigaaAppV
import Derived.Test.YtdaaglfemaoigaaInfo
import Derived.Test.YtdaaglfemaoigaaPlain1
import Derived.Test.YtdaaglfemaoigaaPlainRun
import Derived.Test.YtdaaglfemaoigaaPlainSet
import Derived.Test.YtdaaglfemaoigaaPlainRen
import Derived.Test.YtdaaglfemaoigaaPlainSwap
import Derived.Test.YtdaaglfemaoigaaOwnC
import Derived.Test.YtdaaglfemaoigaaS01a
import Derived.Test.YtdaaglfemaoigaaS06b
import Derived.Test.YtdaaglfemaoigaaSOwn
import Derived.Test.YtdaaglfemaoigaaSForget
import Derived.WalkKit
import Derived.WalkSpells
import Derived.WalkLawsBesides
import Derived.Deep.QuietTactic
import Derived.Deep.OwnRows
import Derived.BigQuiet
import Derived.KernelRfl
import Derived.Deep.RegionLaw
namespace Go.Proofs.Ytdaaglfemaoigaa
open Go.RowKit

set_option maxRecDepth 20000 in
set_option maxHeartbeats 4000000 in
theorem specSwapColours_any (v1 : Value) (a : Aut) (s x y : Int) (w : World) (h1 : AutAt w v1 a) :
    Calls Try.prog 16 #[v1, .int .i64 s, .int .i64 x, .int .i64 y] w fun e w' => ∃ r, e = .returned (.tuple #[r, .int .i64 (SwapColours a s x y).2]) ∧ New w w' ∧ OwnAut w.heap.size w'.heap.size w' r (SwapColours a s x y).1 := by
  obtain ⟨rv, rfl, hr⟩ := h1
  obtain ⟨A1, c1, rfl⟩ := hr.form
  obtain ⟨wb, hwb⟩ : ∃ wb, wb = (w.alloc (.cells #[.int .i64 a.n, .slice A1 a.nx.length c1] 26)).alloc (.cells #[.int .i64 0, .slice none 0 0] 26) := ⟨_, rfl⟩
  have hp : PAut wb (.pointer (some ⟨w.heap.size, 0, none⟩)) a := by rw [hwb]; exact (PAut.box hr _).new ((New.refl _).alloc _)
  have hnb : New w wb := by rw [hwb]; exact (by repeat (first | with_reducible exact New.refl _ | with_reducible assumption | with_reducible refine New.alloc ?_ _ | with_reducible refine New.drew ?_ | with_reducible refine New.drewN ?_ _ | with_reducible refine New.setCell ?_ (by simp <;> omega) _))
  have hzb : w.heap.size + 2 = wb.heap.size := by rw [hwb]; simp only [size_alloc]
  have hba : Box2 wb w.heap.size (.int .i64 a.n) (.slice A1 a.nx.length c1) := by rw [hwb]; exact ⟨by go_simp, by go_simp, by go_simp, by go_simp⟩
  obtain ⟨hb0, hb1, _, _⟩ := id hba
  have hr0 : Box2 wb (w.heap.size + 1) (.int .i64 0) (.slice none 0 0) := by rw [hwb]; exact ⟨by go_simp, by go_simp, by go_simp, by go_simp⟩
  obtain ⟨R, hR⟩ : ∃ R, R = SwapColours a s x y := ⟨_, rfl⟩
  rw [← hR]
  unfold SwapColours at hR
  have HR := hid hR
  clear hR
  have C1 := l01Ok_any _ a _ hp
  have key : ∀ (code : Int) (w1 : World), New wb w1 → R = (⟨0, []⟩, code) → ∃ r, (Ending.returned (.tuple #[.agg #[.int .i64 0, .slice none 0 0], .int .i64 code]) = .returned (.tuple #[r, .int .i64 R.2])) ∧ New w ((w1.setCell ⟨w.heap.size + 1, 0, none⟩ (.int .i64 0)).setCell ⟨w.heap.size + 1, 1, none⟩ (.slice none 0 0)) ∧ OwnAut w.heap.size ((w1.setCell ⟨w.heap.size + 1, 0, none⟩ (.int .i64 0)).setCell ⟨w.heap.size + 1, 1, none⟩ (.slice none 0 0)).heap.size ((w1.setCell ⟨w.heap.size + 1, 0, none⟩ (.int .i64 0)).setCell ⟨w.heap.size + 1, 1, none⟩ (.slice none 0 0)) r R.1 := fun code w1 hn1 e => by
    rw [e]
    exact ⟨_, rfl, New.fill (hnb.trans hn1) (by omega) _ _, _, rfl, none, 0, fun _ => default, rfl, by simp, by simp, by simp, by simp⟩
  cases ha : autOk a with
  | false =>
    rw [ha] at C1
    have KEY := hid (fun w1 hn1 => key 1 w1 hn1 (by rw [HR.out, ha]; rfl))
    clear key
    go_enter Try.func16, Try.ntmps16
    go_wp2_with fail
    rw [← hwb]
    refine C1.mono ?_
    rintro e w1 ⟨rfl, hn1⟩
    obtain ⟨x0, x1, x2, x3⟩ := hr0.new hn1
    go_wp2_with fail
    obtain ⟨g0, g1, _, _⟩ := (hr0.new hn1).fill (.int .i64 0) (.slice none 0 0)
    exact bodyPost_ret (v := .tuple #[.agg #[.int .i64 0, .slice none 0 0], .int .i64 1]) (by simp [results, Try.results16, go_sem, g0, g1]) rfl (KEY.out _ hn1)
  | true =>
    rw [ha] at C1
    have han := autOk_n ha
    have hal := autOk_l ha
    have hni : IntKind.i64.wrap (a.n - 1) = a.n - 1 := IntWalk.i64_in _ (by omega)
    have hli : IntKind.i64.wrap ((a.nx.length : Int) - 1) = (a.nx.length : Int) - 1 := IntWalk.i64_in _ (by omega)
    have KEY := hid (fun w1 hn1 (hsw : swapIn a s x y = false) => key 2 w1 hn1 (by rw [HR.out, ha, hsw]; rfl))
    clear key
    have HA := hid ha
    have fin : ∀ w1, New wb w1 → swapIn a s x y = false → True := fun _ _ _ => trivial
    cases hs : inB s 0 (a.n - 1) with
    | false =>
      have hsw : swapIn a s x y = false := by unfold swapIn; rw [hs]; rfl
      have HSW := hid hsw
      clear hsw ha
      go_enter Try.func16, Try.ntmps16
      go_wp2_with fail
      rw [← hwb]
      refine C1.mono ?_
      rintro e w1 ⟨rfl, hn1⟩
      replace hb0 := hn1.cell hb0
      replace hb1 := hn1.cell hb1
      obtain ⟨x0, x1, x2, x3⟩ := hr0.new hn1
      go_wp2_with (go_at_call 67; refine (l00In_any _ _ _ _).mono ?_; rintro e w' ⟨rfl, rfl⟩)
      obtain ⟨g0, g1, _, _⟩ := (hr0.new hn1).fill (.int .i64 0) (.slice none 0 0)
      exact bodyPost_ret (v := .tuple #[.agg #[.int .i64 0, .slice none 0 0], .int .i64 2]) (by simp [results, Try.results16, go_sem, g0, g1]) rfl (KEY.out _ hn1 HSW.out)
    | true =>
      cases hx : inB x 0 ((a.nx.length : Int) - 1) with
      | false =>
        have hsw : swapIn a s x y = false := by unfold swapIn; rw [hs, hx]; rfl
        have HSW := hid hsw
        clear hsw ha
        go_enter Try.func16, Try.ntmps16
        go_wp2_with fail
        rw [← hwb]
        refine C1.mono ?_
        rintro e w1 ⟨rfl, hn1⟩
        replace hb0 := hn1.cell hb0
        replace hb1 := hn1.cell hb1
        obtain ⟨x0, x1, x2, x3⟩ := hr0.new hn1
        go_wp2_with (go_at_call 67; refine (l00In_any _ _ _ _).mono ?_; rintro e w' ⟨rfl, rfl⟩)
        obtain ⟨g0, g1, _, _⟩ := (hr0.new hn1).fill (.int .i64 0) (.slice none 0 0)
        exact bodyPost_ret (v := .tuple #[.agg #[.int .i64 0, .slice none 0 0], .int .i64 2]) (by simp [results, Try.results16, go_sem, g0, g1]) rfl (KEY.out _ hn1 HSW.out)
      | true =>
        cases hy : inB y 0 ((a.nx.length : Int) - 1) with
        | false =>
          have hsw : swapIn a s x y = false := by unfold swapIn; rw [hs, hx, hy]; rfl
          have HSW := hid hsw
          clear hsw ha
          go_enter Try.func16, Try.ntmps16
          go_wp2_with fail
          rw [← hwb]
          refine C1.mono ?_
          rintro e w1 ⟨rfl, hn1⟩
          replace hb0 := hn1.cell hb0
          replace hb1 := hn1.cell hb1
          obtain ⟨x0, x1, x2, x3⟩ := hr0.new hn1
          go_wp2_with (go_at_call 67; refine (l00In_any _ _ _ _).mono ?_; rintro e w' ⟨rfl, rfl⟩)
          obtain ⟨g0, g1, _, _⟩ := (hr0.new hn1).fill (.int .i64 0) (.slice none 0 0)
          exact bodyPost_ret (v := .tuple #[.agg #[.int .i64 0, .slice none 0 0], .int .i64 2]) (by simp [results, Try.results16, go_sem, g0, g1]) rfl (KEY.out _ hn1 HSW.out)
        | true =>
          have hE : R = (swapOf a s x y, 0) := by rw [HR.out, ha]; unfold swapIn; rw [hs, hx, hy]; rfl
          have HE := hid hE
          obtain ⟨s0, s1⟩ := (inB_iff _ _ _).1 hs
          obtain ⟨X0, X1⟩ := (inB_iff _ _ _).1 hx
          obtain ⟨Y0, Y1⟩ := (inB_iff _ _ _).1 hy
          have HROW := hid (fun i (hi : i < a.nx.length) => (autOk_row ha i hi).1)
          obtain ⟨A2, c2, e2, hl2, hc2⟩ := hr
          cases e2
          have HC2 := hid hc2
          have HO := hid (fun (i : Nat) v w1 (h : IntsAt w1 v (nth a.nx i)) (hi : i < a.nx.length) => l00Own_any v (nth a.nx i) w1 h (by have := HROW.out i hi; omega))
          clear ha KEY hE hc2 HR fin
          go_enter Try.func16, Try.ntmps16
          go_wp2_with fail
          rw [← hwb]
          clear hwb
          refine C1.mono ?_
          rintro e w1 ⟨rfl, hn1⟩
          replace hb0 := hn1.cell hb0
          replace hb1 := hn1.cell hb1
          replace hba := hba.new hn1
          have hr1 := hr0.new hn1
          have hz1 := hn1.size
          have hnw1 := hnb.trans hn1
          clear hr0 C1 hn1 hnb hp
          go_wp2_with (go_at_call 67; refine (l00In_any _ _ _ _).mono ?_; rintro e w' ⟨rfl, rfl⟩)
          obtain ⟨w1, rfl⟩ : ∃ w1 : World, w1 = w' := ⟨_, rfl⟩
          have hb6 : Box2 (w1.alloc (.cells #[.int .i64 a.n, .slice none 0 0] 26)) w1.heap.size (.int .i64 a.n) (.slice none 0 0) := ⟨by go_simp, by go_simp, by go_simp, by go_simp⟩
          have hb4 : Box2 (w1.alloc (.cells #[.int .i64 a.n, .slice none 0 0] 26)) (w.heap.size + 1) (.int .i64 0) (.slice none 0 0) := hr1.new ((New.refl _).alloc _)
          have hnw : New w (w1.alloc (.cells #[.int .i64 a.n, .slice none 0 0] 26)) := hnw1.alloc _
          have hq0 : Box2 (w1.alloc (.cells #[.int .i64 a.n, .slice none 0 0] 26)) w.heap.size (.int .i64 a.n) (.slice A1 a.nx.length c1) := hba.new ((New.refl _).alloc _)
          obtain ⟨tb, htb⟩ : ∃ tb, tb = w1.heap.size := ⟨_, rfl⟩
          rw [← htb] at hb6 ⊢
          have hzw : (w1.alloc (.cells #[.int .i64 a.n, .slice none 0 0] 26)).heap.size = tb + 1 := by rw [size_alloc, htb]
          generalize w1.alloc (.cells #[.int .i64 a.n, .slice none 0 0] 26) = wq at hb6 hnw hb4 hzw hq0 ⊢
          have htb2 : w.heap.size + 2 ≤ tb := by omega
          clear htb hz1 hr1 hnw1 hb0 hb1 hba hzb
          go_loopw [12] (fun i wr => ∃ (k : Nat) (v : Value), k ≤ a.nx.length ∧ i = .int .i64 k ∧ New w wr ∧ Box2 wr w.heap.size (.int .i64 a.n) (.slice A1 a.nx.length c1) ∧ Box2 wr (w.heap.size + 1) (.int .i64 0) (.slice none 0 0) ∧
              Box2 wr tb (.int .i64 a.n) v ∧ tb + 1 ≤ wr.heap.size ∧ GrowRows (tb + 1) 36 wr v (a.nx.take k)) (fun i _ => a.nx.length - (intOf i).toNat)
          case atStart => exact ⟨0, _, Nat.zero_le _, rfl, hnw, hq0, hb4, hb6, by omega, by simpa using GrowRows.nil _ _ _⟩
          case round =>
            obtain ⟨k, v, hk, rfl, hn, hba, hbr, hbo, hsz, hg⟩ := hrel
            obtain ⟨wo, rfl⟩ : ∃ wo : World, wo = wr := ⟨_, rfl⟩
            clear hb4 hb6 hnw hzw hq0
            obtain ⟨y0, y1, _, _⟩ := id hba
            obtain ⟨z0, z1, zf0, zf1⟩ := id hbo
            have hkl : (a.nx.take k).length = k := by simp; omega
            have HKL := hid hkl
            obtain ⟨Av, cv, rfl⟩ := hg.form
            rw [hkl] at hg z1 hbo
            clear hkl
            by_cases hlt : k < a.nx.length
            · have b1 : (k : Int) < (a.nx.length : Int) := by omega
              obtain ⟨b, off, rvk, rfl, hxk, hrk⟩ := HC2.out k hlt
              replace hxk := hn.cell hxk
              replace hrk := hrk.new hn
              have HG := hid hg
              clear hg
              go_wp2_with fail
              go_region_law (first
                  | (go_simp; go_at_call 68; refine (HO.out k _ _ (hrk.new (by repeat (first | with_reducible exact New.refl _ | with_reducible assumption | with_reducible refine New.alloc ?_ _ | with_reducible refine New.drew ?_ | with_reducible refine New.drewN ?_ _ | with_reducible refine New.setCell ?_ (by simp <;> omega) _))) hlt).mono ?_; rintro e w3 ⟨r3, he, hr3, ho3⟩; obtain ⟨A3, c3, rfl⟩ := ho3.form; subst he; have hq3 : New wo w3 := New.trans (New.refl _).drew hr3; have y3 := hq3.cell z1; have s3 : tb < w3.heap.size := (by have := hq3.size; omega); have hs3 := hr3.size)
                  | (refine step_appRows1 (w0 := wo) rfl _ _ _ rfl Try.underlying22 info_ints (.slice Av k cv) _ (a.nx.take k) (nth a.nx k) _ rfl HG.out (hq3.trans (by repeat (first | with_reducible exact New.refl _ | with_reducible assumption | with_reducible refine New.alloc ?_ _ | with_reducible refine New.drew ?_ | with_reducible refine New.drewN ?_ _ | with_reducible refine New.setCell ?_ (by simp <;> omega) _))) ((ho3.new (by repeat (first | with_reducible exact New.refl _ | with_reducible assumption | with_reducible refine New.alloc ?_ _ | with_reducible refine New.drew ?_ | with_reducible refine New.drewN ?_ _ | with_reducible refine New.setCell ?_ (by simp <;> omega) _))).widen (by (try simp only [sizes] at *) <;> omega) (by (try simp only [sizes]) <;> omega)) rfl (cell_box1 _ _ _) (by have := HKL.out; omega) (by omega) ?_; intro g cap w5 ho5 hg5; have hbo5 := ((hbo.new hq3).new ((New.refl _).alloc _)).grown hg5 (fun q hq => by have := HG.out.block q hq; omega); obtain ⟨x0', x1', xf0', xf1'⟩ := id hbo5))
              all_goals go_wp2
              all_goals go_roundw
              all_goals first
                | (simp [intOf]; omega)
                | (have hn5 : New w w5 := New.grown (hn.trans (hq3.trans (by repeat (first | with_reducible exact New.refl _ | with_reducible assumption | with_reducible refine New.alloc ?_ _ | with_reducible refine New.drew ?_ | with_reducible refine New.drewN ?_ _ | with_reducible refine New.setCell ?_ (by simp <;> omega) _)))) hg5 (fun q hq => by have := HG.out.block q hq; omega)
                   have hs5 := hg5.size
                   simp only [size_alloc] at hs5
                   rw [HKL.out] at ho5
                   have hW := within_setCell w5 ⟨tb, 1, none⟩ (.slice (some ⟨g, 0, none⟩) (k + 1) cap)
                   refine ⟨k + 1, _, by omega, by go_num, hn5.setCell (by show w.heap.size ≤ tb; omega) _, ?_, ?_, hbo5.set1 _, (by (try simp only [sizes]) <;> omega), ?_⟩
                   · exact (((hba.new hq3).new ((New.refl _).alloc _)).grown hg5 (fun q hq => by have := HG.out.block q hq; omega)).other _ (by simp; omega) _
                   · exact (((hbr.new hq3).new ((New.refl _).alloc _)).grown hg5 (fun q hq => by have := HG.out.block q hq; omega)).other _ (by simp; omega) _
                   · rw [take_succ_nth _ k hlt]
                     exact ho5.within hW (by simp))
            · have e : k = a.nx.length := by omega
              subst e
              rw [List.take_length] at hg
              have HO2 := hg.own (by omega)
              have rx := HROW.out x.toNat (by omega)
              have ry := HROW.out y.toNat (by omega)
              obtain ⟨bo, oo, bx, ox, cx, hAv, ux, uxs, uxf, ux1, ux2, hput⟩ := HO2.put x.toNat s.toNat (by omega) (by omega)
              cases hAv
              have hbx := HO2.row_ne x.toNat (by omega) ux
              obtain ⟨hO3, hW3⟩ := hput (nth (nth a.nx y.toNat) s.toNat)
              obtain ⟨_, _, bk, ok, ck, e2, vy, vys, vyf, vy1, vy2, hput2⟩ := hO3.put y.toNat s.toNat (by rw [putAt_len]; omega) (by rw [putAt_rowlen _ _ _ _ _ (by omega)]; omega)
              cases e2
              have hbk := hO3.row_ne y.toNat (by rw [putAt_len]; omega) vy
              rw [putAt_rowlen _ _ _ _ _ (by omega)] at vy
              obtain ⟨hO4, hW4⟩ := hput2 (nth (nth a.nx x.toNat) s.toNat)
              obtain ⟨ba, oa, rvy, rfl, ha1, hra1⟩ := HC2.out y.toNat (by omega)
              obtain ⟨_, _, rvx, e3, ha2, hra2⟩ := HC2.out x.toNat (by omega)
              cases e3
              obtain ⟨A5, c5, rfl, _, hc5⟩ := hra1
              obtain ⟨b5, o5, rfl, hx5⟩ := hc5 s.toNat (by omega)
              obtain ⟨A6, c6, rfl, _, hc6⟩ := hra2
              obtain ⟨b6, o6, rfl, hx6⟩ := hc6 s.toNat (by omega)
              have l1 : b5 < w.heap.size := World.block_lt_of_cell? w _ hx5
              have l2 : b6 < w.heap.size := World.block_lt_of_cell? w _ hx6
              have l3 : ba < w.heap.size := World.block_lt_of_cell? w _ ha1
              replace ha1 := hn.cell ha1
              replace ha2 := hn.cell ha2
              replace hx5 := hn.cell hx5
              replace hx6 := hn.cell hx6
              have kx : x < (a.nx.length : Int) := by omega
              have ky : y < (a.nx.length : Int) := by omega
              have sx : s < ((nth a.nx x.toNat).length : Int) := by omega
              have sy : s < ((nth a.nx y.toNat).length : Int) := by omega
              obtain ⟨zA, hzA⟩ : ∃ z, z = nth (nth a.nx y.toNat) s.toNat := ⟨_, rfl⟩
              obtain ⟨zB, hzB⟩ : ∃ z, z = nth (nth a.nx x.toNat) s.toNat := ⟨_, rfl⟩
              have HSW := hid (show putAt (putAt a.nx x.toNat s.toNat zA) y.toNat s.toNat zB = (swapOf a s x y).nx by rw [hzA, hzB]; rfl)
              rw [← hzA] at hx5 vys vy hW3 hO4 hW4 vyf
              rw [← hzB] at hx6 hO4 hW4
              clear hzA hzB hc5 hc6 hput hput2 rx ry
              have HO4 := hid hO4
              have HW3 := hid hW3
              have HW4 := hid hW4
              have hrw := hid hbr
              clear hO3 hO4 hW3 hW4 HO2 hg hba
              have HZ1 := hid (HW3.out.cell z1 (Or.inl (by show tb < tb + 1; omega)))
              have HX1 := hid ((World.cell?_setCell_other (w := wo) (a := ⟨bx, ox + s.toNat, none⟩) (v := .int .i64 zA) (b := ⟨bo, oo + x.toNat, none⟩) (fun e => hbx (by injection e))).trans ux)
              have HY1 := hid (HW3.out.cell y1 (Or.inl (by show w.heap.size < tb + 1; omega)))
              have HA1 := hid (HW3.out.cell ha1 (Or.inl (by show ba < tb + 1; omega)))
              have HX5 := hid (HW3.out.cell hx5 (Or.inl (by show b5 < tb + 1; omega)))
              go_wp2_with fail
              go_region_held3 (fun w' => w'.cell? ⟨tb, 1, none⟩ = some (.slice (some ⟨bo, oo, none⟩) a.nx.length cv) ∧ w'.cell? ⟨bo, oo + x.toNat, none⟩ = some (.slice (some ⟨bx, ox, none⟩) (nth a.nx x.toNat).length cx) ∧
                  w'.cell? ⟨w.heap.size, 1, none⟩ = some (.slice (some ⟨ba, oa, none⟩) a.nx.length c1) ∧ w'.cell? ⟨ba, oa + y.toNat, none⟩ = some (.slice (some ⟨b5, o5, none⟩) (nth a.nx y.toNat).length c5) ∧ w'.cell? ⟨b5, o5 + s.toNat, none⟩ = some (.int .i64 zA))
                (first | exact ⟨HZ1.out, HX1.out, HY1.out, HA1.out, HX5.out⟩ | go_keep)
                (first | fail)
              have hq1 : New (wo.setCell ⟨bx, ox + s.toNat, none⟩ (.int .i64 zA)) (wo.setCell ⟨bx, ox + s.toNat, none⟩ (.int .i64 zA)).drew := (New.refl _).drew
              have z1' := HZ1.out
              have vy' := vy
              have y1' := HY1.out
              have ha2' := HW3.out.cell ha2 (Or.inl (by show ba < tb + 1; omega))
              have hx6' := HW3.out.cell hx6 (Or.inl (by show b6 < tb + 1; omega))
              have HBO := hid ((hbo.within HW3.out (Or.inl (by omega))).within HW4.out (Or.inl (by omega)))
              have HBR := hid ((hbr.within HW3.out (Or.inl (by omega))).within HW4.out (Or.inl (by omega)))
              have HNN := hid ((hn.within HW3.out (by omega)).within HW4.out (by omega))
              have HSZ := hid (show ((wo.setCell ⟨bx, ox + s.toNat, none⟩ (.int .i64 zA)).setCell ⟨bk, ok + s.toNat, none⟩ (.int .i64 zB)).heap.size = wo.heap.size by simp only [size_setCell])
              have HZ2 := hid (HW4.out.cell z1' (Or.inl (by show tb < tb + 1; omega)))
              have HX2 := hid ((World.cell?_setCell_other (w := wo.setCell ⟨bx, ox + s.toNat, none⟩ (.int .i64 zA)) (a := ⟨bk, ok + s.toNat, none⟩) (v := .int .i64 zB) (b := ⟨bo, oo + y.toNat, none⟩) (fun e => hbk (by injection e))).trans vy)
              have HY2 := hid (HW4.out.cell y1' (Or.inl (by show w.heap.size < tb + 1; omega)))
              have HA2 := hid (HW4.out.cell ha2' (Or.inl (by show ba < tb + 1; omega)))
              have HX6 := hid (HW4.out.cell hx6' (Or.inl (by show b6 < tb + 1; omega)))
              clear ha1 ha2 hx5 hx6 HZ1 HX1 HY1 HA1 HX5 y0 y1 z0 z1 zf0 zf1 ux uxs uxf hbo hbr hn HW3
              generalize (wo.setCell ⟨bx, ox + s.toNat, none⟩ (.int .i64 zA)) = wm at *
              go_wp2_with fail
              go_region_held3 (fun w' => w'.cell? ⟨tb, 1, none⟩ = some (.slice (some ⟨bo, oo, none⟩) a.nx.length cv) ∧ w'.cell? ⟨bo, oo + y.toNat, none⟩ = some (.slice (some ⟨bk, ok, none⟩) (nth a.nx y.toNat).length ck) ∧
                  w'.cell? ⟨w.heap.size, 1, none⟩ = some (.slice (some ⟨ba, oa, none⟩) a.nx.length c1) ∧ w'.cell? ⟨ba, oa + x.toNat, none⟩ = some (.slice (some ⟨b6, o6, none⟩) (nth a.nx x.toNat).length c6) ∧ w'.cell? ⟨b6, o6 + s.toNat, none⟩ = some (.int .i64 zB))
                (first | exact ⟨HZ2.out, HX2.out, HY2.out, HA2.out, HX6.out⟩ | go_keep)
                (first | fail)
              have hqn : New (wm.setCell ⟨bk, ok + s.toNat, none⟩ (.int .i64 zB)) (wm.setCell ⟨bk, ok + s.toNat, none⟩ (.int .i64 zB)).drew.drew := ((New.refl _).drew).drew
              have HB4 := hid (HBO.out.new hqn)
              obtain ⟨p0, p1, _, _⟩ := id HB4.out
              have hbr4 := HBR.out.new hqn
              obtain ⟨r0, r1, rf0, rf1⟩ := id hbr4
              have HN4 := hid (HNN.out.trans hqn)
              have HO5 := hid (HO4.out.new hqn)
              have HS5 := hid (show (wm.setCell ⟨bk, ok + s.toNat, none⟩ (.int .i64 zB)).drew.drew.heap.size = wo.heap.size by rw [size_drew, size_drew]; exact HSZ.out)
              clear hqn hq1 z1' vy' y1' ha2' hx6' HZ2 HX2 HY2 HA2 HX6 vy vys vyf HBO HBR HNN HO4 HSZ HW4
              generalize (wm.setCell ⟨bk, ok + s.toNat, none⟩ (.int .i64 zB)).drew.drew = wl at *
              go_wp2_with fail
              obtain ⟨g0, g1, _, _⟩ := hbr4.fill (.int .i64 a.n) (.slice (some ⟨bo, oo, none⟩) a.nx.length cv)
              refine bodyPost_ret (v := .tuple #[.agg #[.int .i64 a.n, .slice (some ⟨bo, oo, none⟩) a.nx.length cv], .int .i64 0]) (by simp [results, Try.results16, go_sem, g0, g1]) rfl ?_
              rw [HE.out]
              have hfin := HO5.out.within (Within.fill wl (w.heap.size + 1) (.int .i64 a.n) (.slice (some ⟨bo, oo, none⟩) a.nx.length cv)) (Or.inr (by omega))
              refine ⟨_, rfl, New.fill HN4.out (by omega) _ _, _, rfl, ?_⟩
              rw [HSW.out] at hfin
              exact hfin.widen (by omega) (by first | (simp only [size_setCell]; have := HS5.out; omega) | (have := HS5.out; simp; omega))

end Go.Proofs.Ytdaaglfemaoigaa
