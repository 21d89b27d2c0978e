/- Parts of the proof that lean on no program: ISort, IRoads, I05a. -/
import Derived.Test.YtoeckejcmojeaaaGreatRows
import Derived.Test.YtoeckejcmojeaaaGreatCore
import Derived.Test.YtoeckejcmojeaaaGreatInfos
import Derived.Test.YtoeckejcmojeaaaGreatPlains
import Derived.Test.YtoeckejcmojeaaaGreatJoins
import Derived.Test.YtoeckejcmojeaaaGreatIBase
import Derived.Test.YtoeckejcmojeaaaGreatIEqs
import Derived.WalkKit
import Derived.WalkSpells
import Derived.WalkLawsBesides
import Derived.Deep.QuietTactic
import Derived.Deep.OwnRows
import Derived.BigQuiet
import Derived.KernelRfl
import Derived.RegionTactic
import Derived.ChangeAlike
import Derived.Deep.RegionHeld3
namespace Go.Proofs.YtoeckejcmojeaaaGreat
open Go.RowKit

section
theorem grown_of_new' {w w' : World} (h : New w w') (r : Option Nat) : w.grownBy w' r := ⟨h.os, h.tape, h.output, h.size, fun k hk _ => h.block k hk⟩
set_option maxHeartbeats 400000 in
theorem isNaN64_any (x : Int) (w : World) : Calls Tryz.prog 161 #[.int .i64 x] w fun e w' => e = .returned (.bool false) ∧ w' = w := by
  have h : (x != x) = false := by simp
  go_enter Tryz.func161, Tryz.ntmps161
  go_wp2
  go_ret
  exact ⟨rfl, rfl⟩
set_option maxHeartbeats 400000 in
theorem Less64_any (x y : Int) (w : World) : Calls Tryz.prog 148 #[.int .i64 x, .int .i64 y] w fun e w' => e = .returned (.bool (decide (x < y))) ∧ w' = w := by
  go_enter Tryz.func148, Tryz.ntmps148
  go_wp2_with (go_at_call 161; refine (isNaN64_any _ _).mono ?_; rintro e w' ⟨rfl, rfl⟩)
  go_ret
  exact ⟨rfl, rfl⟩
set_option maxRecDepth 20000 in
set_option maxHeartbeats 2000000 in
theorem Len64_any (n : Nat) (hn : n ≤ 12) (w : World) : Calls Tryz.prog 138 #[.int .u64 n] w fun e w' => ∃ k : Int, e = .returned (.int .i64 k) ∧ w' = w := by
  have h : n = 0 ∨ n = 1 ∨ n = 2 ∨ n = 3 ∨ n = 4 ∨ n = 5 ∨ n = 6 ∨ n = 7 ∨ n = 8 ∨ n = 9 ∨ n = 10 ∨ n = 11 ∨ n = 12 := by omega
  rcases h with rfl | rfl | rfl | rfl | rfl | rfl | rfl | rfl | rfl | rfl | rfl | rfl | rfl
  all_goals
    go_enter Tryz.func138, Tryz.ntmps138
    go_wp2
    go_ret
    exact ⟨_, rfl, rfl⟩
set_option maxHeartbeats 400000 in
theorem bitsLen_any (n : Nat) (hn : n ≤ 12) (w : World) : Calls Tryz.prog 88 #[.int .u64 n] w fun e w' => ∃ k : Int, e = .returned (.int .i64 k) ∧ w' = w := by
  go_enter Tryz.func88, Tryz.ntmps88
  go_wp2_with (go_at_call 138; refine (Len64_any _ hn _).mono ?_; rintro e w' ⟨k, rfl, rfl⟩)
  go_ret
  exact ⟨_, rfl, rfl⟩
set_option maxRecDepth 20000 in
set_option maxHeartbeats 2000000 in
theorem insertionSort_any {B E b off n c : Nat} (xs : List Int) (w : World) (h : OwnInts B E w (.slice (some ⟨b, off, none⟩) n c) xs) (hn : xs.length = n) (hl : n ≤ 12) :
    Calls Tryz.prog 167 #[.slice (some ⟨b, off, none⟩) n c, .int .i64 0, .int .i64 n] w fun e w' => e = .returned (.tuple #[]) ∧ OwnInts B E w' (.slice (some ⟨b, off, none⟩) n c) (insAll xs) ∧ w.grownBy w' (some b) := by
  have HN := hid hn
  have HH := hid h
  clear h hn
  go_enter Tryz.func167, Tryz.ntmps167
  go_wp2
  go_loopw [6, 7] (fun i j wr => ∃ m : Nat, 1 ≤ m ∧ m ≤ n + 1 ∧ i = .int .i64 m ∧ Hid (OwnInts B E wr (.slice (some ⟨b, off, none⟩) n c) (insTo xs (m - 1))) ∧ Hid (w.grownBy wr (some b)) ∧ (m = n + 1 → n = 0)) (fun i _ _ => n + 1 - (intOf i).toNat)
  case atStart => exact ⟨1, Nat.le_refl _, by omega, by go_num, hid HH.out, hid (grown_refl _ _), by omega⟩
  case round =>
    obtain ⟨m, hm1, hm2, rfl, ho, hg, hm0⟩ := hrel
    obtain ⟨wo, rfl⟩ : ∃ wo : World, wo = wr := ⟨_, rfl⟩
    by_cases hlt : m < n
    · have b1 : (m : Int) < (n : Int) := by omega
      go_wp2
      go_loopw [7] (fun k wr => ∃ (j : Nat) (ys : List Int), j ≤ m ∧ k = .int .i64 j ∧ ys.length = n ∧ Hid (downAt j ys = insTo xs m) ∧ Hid (OwnInts B E wr (.slice (some ⟨b, off, none⟩) n c) ys) ∧ Hid (w.grownBy wr (some b))) (fun k _ => (intOf k).toNat)
      case atStart => exact ⟨m, insTo xs (m - 1), Nat.le_refl _, rfl, by rw [insTo_len]; exact HN.out, hid (by obtain ⟨q, rfl⟩ : ∃ q, m = q + 1 := ⟨m - 1, by omega⟩; rfl), ho, hg⟩
      case round =>
        obtain ⟨j, ys, hj, rfl, hys, hd, ho2, hg2⟩ := hrel
        have HYS := hid hys
        clear hys
        cases j with
        | zero =>
          have e : ys = insTo xs m := hd.out
          have HO := hid (e ▸ ho2.out)
          clear ho2 hd e
          go_wp2_with fail
          go_quiet (first | (go_at_call 148; refine Calls.quiet_of_same (Less64_any _ _ _)))
          go_wp2
          go_roundw
          case rel => exact ⟨m + 1, by omega, by omega, by go_num, hid (HO.out.new ((New.refl _).drewN nq)), hid (grown_trans hg2.out (grown_of_new' ((New.refl _).drewN nq) _)), by omega⟩
          case measure => (try simp [intOf]) <;> omega
        | succ j =>
          obtain ⟨x1, f1⟩ := ho2.out.cell_at (j + 1) (by have := HYS.out; omega)
          obtain ⟨x0, f0⟩ := ho2.out.cell_at j (by have := HYS.out; omega)
          have k1 : ((j + 1 : Nat) : Int) < (n : Int) := by omega
          have k0 : (j : Int) < (n : Int) := by omega
          by_cases hq : nth ys (j + 1) < nth ys j
          · have hq' : decide (nth ys (j + 1) < nth ys j) = true := by simp [hq]
            have HD := hid (show downAt j (swapAt ys j) = insTo xs m by rw [← downAt_go j ys hq]; exact hd.out)
            clear hq hd
            go_wp2_with fail
            go_quiet (first | (go_at_call 148; refine Calls.quiet_of_same (Less64_any _ _ _)))
            go_wp2
            have hsw : OwnInts B E (((wr.drewN (nq + 1)).setCell ⟨b, off + (j + 1), none⟩ (.int .i64 (nth ys j))).setCell ⟨b, off + j, none⟩ (.int .i64 (nth ys (j + 1)))) (.slice (some ⟨b, off, none⟩) n c) (swapAt ys j) :=
              ((ho2.out.new ((New.refl _).drewN (nq + 1))).set (j + 1) (by have := HYS.out; omega) (nth ys j)).set j (by have := HYS.out; simp; omega) (nth ys (j + 1))
            have HSW := hid hsw
            clear hsw
            go_region
            all_goals go_wp2
            go_roundw
            case rel => exact ⟨j, swapAt ys j, by omega, rfl, by rw [swapAt_len]; exact HYS.out, HD, HSW, hid (grown_trans (grown_trans hg2.out (grown_trans (grown_of_new' ((New.refl _).drewN (nq + 1)) _) (grown_setCell _ ⟨b, off + (j + 1), none⟩ _))) (grown_setCell _ ⟨b, off + j, none⟩ _))⟩
            case measure => (try simp [intOf]) <;> omega
          · have hq' : decide (nth ys (j + 1) < nth ys j) = false := by simp; omega
            have HD := hid (show ys = insTo xs m by rw [← downAt_stay j ys hq]; exact hd.out)
            clear hq hd
            go_wp2_with fail
            go_quiet (first | (go_at_call 148; refine Calls.quiet_of_same (Less64_any _ _ _)))
            go_wp2
            go_roundw
            case rel => exact ⟨m + 1, by omega, by omega, by go_num, hid (by rw [show m + 1 - 1 = m from rfl, ← HD.out]; exact ho2.out.new ((New.refl _).drewN nq)), hid (grown_trans hg2.out (grown_of_new' ((New.refl _).drewN nq) _)), by omega⟩
            case measure => (try simp [intOf]) <;> omega
    · have hge : ¬ (m : Int) < (n : Int) := by omega
      have HO := hid (show OwnInts B E wo (.slice (some ⟨b, off, none⟩) n c) (insAll xs) by
        have := ho.out
        rw [insAll, HN.out]
        by_cases e : m = n
        · subst e; exact this
        · have h0 := hm0 (by omega)
          rw [show m - 1 = n - 1 by omega] at this
          exact this)
      clear ho
      go_wp2
      go_end0
      exact ⟨rfl, HO.out, hg.out⟩
set_option maxHeartbeats 1000000 in
theorem pdqsort_any {B E b off n c : Nat} (k : Int) (xs : List Int) (w : World) (h : OwnInts B E w (.slice (some ⟨b, off, none⟩) n c) xs) (hn : xs.length = n) (hl : n ≤ 12) :
    Calls Tryz.prog 166 #[.slice (some ⟨b, off, none⟩) n c, .int .i64 0, .int .i64 n, .int .i64 k] w fun e w' => e = .returned (.tuple #[]) ∧ OwnInts B E w' (.slice (some ⟨b, off, none⟩) n c) (insAll xs) ∧ w.grownBy w' (some b) := by
  have C := hid (insertionSort_any xs w h hn hl)
  clear h hn
  go_enter Tryz.func166, Tryz.ntmps166
  go_wp2
  refine wp_loop_rounds 1 ?_
  rw [rounds_succ]
  go_wp2_with (go_at_call 167; refine C.out.mono ?_; rintro e w' ⟨rfl, ho, hg⟩)
  (try simp only [Exit.inBlock, Exit.then]); refine bodyPost_ret (results_none rfl _ _ _) rfl ?_
  exact ⟨rfl, ho, hg⟩
set_option maxHeartbeats 1000000 in
theorem Sort64_any {B E b off n c : Nat} (xs : List Int) (w : World) (h : OwnInts B E w (.slice (some ⟨b, off, none⟩) n c) xs) (hn : xs.length = n) (hl : n ≤ 12) :
    Calls Tryz.prog 163 #[.slice (some ⟨b, off, none⟩) n c] w fun e w' => e = .returned (.tuple #[]) ∧ OwnInts B E w' (.slice (some ⟨b, off, none⟩) n c) (insAll xs) ∧ w.grownBy w' (some b) := by
  have C := hid (fun k => pdqsort_any k xs w h hn hl)
  clear h hn
  go_enter Tryz.func163, Tryz.ntmps163
  go_wp2_with (first
    | (go_at_call 88; refine (bitsLen_any _ hl _).mono ?_; rintro e w' ⟨k, rfl, rfl⟩)
    | (go_at_call 166; refine (C.out _).mono ?_; rintro e w' ⟨rfl, ho, hg⟩))
  go_end0
  exact ⟨rfl, ho, hg⟩
end
section
end
section
set_option maxHeartbeats 800000 in
theorem IsSorted64_any (v : Value) (xs : List Int) (w : World) (h : IntsAt w v xs) (h1 : 0 < xs.length) :
    Calls Tryz.prog 113 #[v] w fun e w' => e = .returned (.bool (upB xs)) ∧ New w w' := by
  obtain ⟨A, c, rfl, hl, hc⟩ := h
  have kz : IntKind.i64.wrap ((xs.length : Int) - 1) = (xs.length : Int) - 1 := IntWalk.i64_in _ (by omega)
  go_enter Tryz.func113, Tryz.ntmps113
  go_wp2
  go_loopw [3] (fun i wr => ∃ k : Nat, k < xs.length ∧ i = .int .i64 k ∧ Hid (∀ j, k < j → j < xs.length → nth xs (j - 1) ≤ nth xs j) ∧ New w wr) (fun i _ => (intOf i).toNat)
  case atStart => exact ⟨xs.length - 1, by omega, by rw [show ((xs.length - 1 : Nat) : Int) = (xs.length : Int) - 1 by omega], fun j hj hj2 => absurd hj (by omega), New.refl _⟩
  case round =>
    obtain ⟨k, hk, rfl, he, hw⟩ := hrel
    by_cases hk0 : k = 0
    · subst hk0
      go_wp2
      go_ret
      exact ⟨ret_bool ((upB_iff xs).2 fun j hj h0 => he.out j h0 hj).symm, hw⟩
    · obtain ⟨b, off, rfl, hx⟩ := hc k hk
      obtain ⟨b', off', e', hy⟩ := hc (k - 1) (by omega)
      cases e'
      replace hx := hw.cell hx
      replace hy := hw.cell hy
      have kb1 : (k : Int) < (xs.length : Int) := by omega
      have kb3 : decide ((0 : Int) < (k : Int)) = true := by simp; omega
      have kb4 : (0 : Int) < (k : Int) := by omega
      have kb5 : 0 < k := by omega
      clear hc
      have kn : (0 : Int) ≤ (k : Int) - 1 := by omega
      have kn1 : (1 : Int) ≤ (k : Int) := by omega
      have kl : (k : Int) - 1 < (xs.length : Int) := by omega
      have kt : ((k : Int) - 1).toNat = k - 1 := by omega
      have kw : IntKind.i64.wrap ((k : Int) - 1) = (k : Int) - 1 := IntWalk.i64_in _ (by omega)
      have C := fun w => Less64_any (nth xs k) (nth xs (k - 1)) w
      by_cases hr : nth xs (k - 1) ≤ nth xs k
      · have hr' : decide (nth xs k < nth xs (k - 1)) = false := by simp; omega
        rw [hr'] at C
        have HR := hid hr
        clear hr
        go_wp2_with fail
        go_quiet ((go_at_call 148; exact Calls.quiet_of_same (C _)))
        go_wp2
        go_roundw
        case rel => exact ⟨k - 1, by omega, by rw [show ((k - 1 : Nat) : Int) = (k : Int) - 1 by omega], fun i hi hi2 => by
            by_cases e : i = k
            · subst e; exact HR.out
            · exact he.out i (by omega) hi2, hw.drewN nq⟩
        case measure => simp [intOf]; omega
      · have hr' : decide (nth xs k < nth xs (k - 1)) = true := by simp; omega
        rw [hr'] at C
        go_wp2_with fail
        go_quiet ((go_at_call 148; exact Calls.quiet_of_same (C _)))
        go_wp2
        go_ret
        exact ⟨ret_bool (upB_false hk kb5 (by omega)).symm, hw.drewN nq⟩
set_option maxHeartbeats 400000 in
theorem degree_any (v : Value) (r : Aut) (w : World) (h : AutAt w v r) (h0 : 0 < r.nx.length) :
    Calls Tryz.prog 111 #[v] w fun e w' => e = .returned (.int .i64 (nth r.nx 0).length) ∧ New w w' := by
  obtain ⟨rv, rfl, hr⟩ := h
  obtain ⟨A, c, rfl, hl, hc⟩ := hr
  obtain ⟨b, off, rv, rfl, hx, hr⟩ := hc 0 h0
  obtain ⟨A2, c2, rfl, hl2, hc2⟩ := hr
  rw [Nat.add_zero] at hx
  have kb : (0 : Int) < (r.nx.length : Int) := by omega
  have hn0 : New w (w.alloc (.cells #[.int .i64 r.n, .slice (some ⟨b, off, none⟩) r.nx.length c] 47)) := (by repeat (first | with_reducible exact New.refl _ | with_reducible assumption | with_reducible refine New.alloc ?_ _ | with_reducible refine New.drew ?_ | with_reducible refine New.drewN ?_ _ | with_reducible refine New.setCell ?_ (by simp <;> omega) _))
  have hx' := hn0.cell hx
  clear hc hc2
  go_enter Tryz.func111, Tryz.ntmps111
  go_wp2_with (go_at_call 82; refine (size64_any _ _ _ _ hl2).mono ?_; rintro e w' ⟨rfl, rfl⟩)
  go_ret
  exact ⟨rfl, hn0⟩
set_option maxHeartbeats 1000000 in
theorem ValidRoads1_any (v : Value) (xs : List Int) (p : Value) (r : Aut) (w : World) (h : IntsAt w v xs) (hp : PAut w p r) (h0 : 1 ≤ r.n) (h1 : r.n ≤ 7) (hl0 : 0 < r.nx.length) (hl1 : 0 < (nth r.nx 0).length) :
    Calls Tryz.prog 112 #[v, p] w fun e w' => e = .returned (.bool (!roadRow (nth r.nx 0).length r.n xs)) ∧ New w w' := by
  obtain ⟨pb, rv, rfl, hp0, hp1, hpr⟩ := hp
  obtain ⟨A2, c2, rfl, hl2, hc2⟩ := hpr
  obtain ⟨b, off, rv, rfl, hx, hr⟩ := hc2 0 hl0
  obtain ⟨A3, c3, rfl, hl3, hc3⟩ := hr
  rw [Nat.add_zero] at hx
  have kb : (0 : Int) < (r.nx.length : Int) := by omega
  obtain ⟨A, c, rfl⟩ := h.form
  rw [roadRow_eq]
  clear hc2 hc3
  by_cases hlen : xs.length = (nth r.nx 0).length
  · have hb : ((xs.length : Int) != (nth r.nx 0).length) = false := by simp [hlen]
    have hd : decide (xs.length = (nth r.nx 0).length) = true := by simp [hlen]
    have hxl : 0 < xs.length := by omega
    rw [hd]
    clear hlen hd
    cases hA : allIn xs 0 (r.n - 1) with
    | true =>
      have HA := hid hA
      clear hA
      go_enter Tryz.func112, Tryz.ntmps112
      go_wp2_with (go_at_call 51; refine (areWithin_any _ _ _ _ _ h).mono ?_; rw [HA.out]; rintro e w1 ⟨rfl, hn1⟩)
      go_wp2_with (go_at_call 113; refine (IsSorted64_any _ _ _ (h.new hn1) hxl).mono ?_; rintro e w2 ⟨rfl, hn2⟩)
      go_ret
      exact ⟨ret_bool (by simp), hn1.trans hn2⟩
    | false =>
      have HA := hid hA
      clear hA
      go_enter Tryz.func112, Tryz.ntmps112
      go_wp2_with (go_at_call 51; refine (areWithin_any _ _ _ _ _ h).mono ?_; rw [HA.out]; rintro e w1 ⟨rfl, hn1⟩)
      go_wp2
      go_ret
      exact ⟨ret_bool (by simp), hn1⟩
  · have hb : ((xs.length : Int) != (nth r.nx 0).length) = true := by simp; omega
    have hd : decide (xs.length = (nth r.nx 0).length) = false := by simp [hlen]
    rw [hd]
    go_enter Tryz.func112, Tryz.ntmps112
    go_wp2
    go_ret
    exact ⟨ret_bool (by simp), New.refl _⟩
theorem roads_any_row (r : Aut) : (!(r.nx.any fun xs => !roadRow (nth r.nx 0).length r.n xs)) = r.nx.all (roadRow (nth r.nx 0).length r.n) := by
  rw [List.not_any_eq_all_not]; simp
set_option maxRecDepth 20000 in
set_option maxHeartbeats 1600000 in
theorem ValidRoads_any (v : Value) (r : Aut) (w : World) (h : AutAt w v r) :
    Calls Tryz.prog 59 #[v] w fun e w' => e = .returned (.bool (roadsOk r)) ∧ New w w' := by
  obtain ⟨rv, rfl, hr⟩ := h
  obtain ⟨A, c, rfl⟩ := hr.form
  have hl := hr.len
  obtain ⟨wb, hwb⟩ : ∃ wb, wb = w.alloc (.cells #[.int .i64 r.n, .slice A r.nx.length c] 47) := ⟨_, rfl⟩
  have hn0 : New w wb := by rw [hwb]; exact (by repeat (first | with_reducible exact New.refl _ | with_reducible assumption | with_reducible refine New.alloc ?_ _ | with_reducible refine New.drew ?_ | with_reducible refine New.drewN ?_ _ | with_reducible refine New.setCell ?_ (by simp <;> omega) _))
  have hp : PAut wb (.pointer (some ⟨w.heap.size, 0, none⟩)) r := by rw [hwb]; exact PAut.box hr _
  have hb0 : wb.cell? ⟨w.heap.size, 0, none⟩ = some (.int .i64 r.n) := by rw [hwb]; go_simp
  have hb1 : wb.cell? ⟨w.heap.size, 1, none⟩ = some (.slice A r.nx.length c) := by rw [hwb]; go_simp
  have hrb := hr.new hn0
  have x0 := ext_cell hb0
  have x1 := ext_cell hb1
  cases hn : inB r.n 1 7 with
  | true =>
    have hn' := (inB_iff _ _ _).1 hn
    have hn2 : 1 ≤ r.n := hn'.1
    have hn3 : r.n ≤ 7 := hn'.2
    have HN := hid hn
    have C1 : ∀ w, Calls Tryz.prog 72 #[.int .i64 r.n, .int .i64 1, .int .i64 7] w fun e' w' => e' = .returned (.bool true) ∧ w' = w := fun w => by have := within_any r.n 1 7 w; rw [HN.out] at this; exact this
    have CS : ∀ w, Calls Tryz.prog 110 #[.slice A r.nx.length c] w fun e w' => e = .returned (.int .i64 r.nx.length) ∧ w' = w := fun w => sizeRows_any _ _ _ _ hl
    clear hn hn'
    by_cases hlen : (r.nx.length : Int) = r.n
    · have hb : ((r.nx.length : Int) == r.n) = true := by simp [hlen]
      have hL : decide ((r.nx.length : Int) = r.n) = true := by simp [hlen]
      have kl0 : 0 < r.nx.length := by omega
      have CD : ∀ e, Calls Tryz.prog 111 #[.agg #[.int .i64 r.n, .slice A r.nx.length c]] (ext wb e) fun e' w' => e' = .returned (.int .i64 (nth r.nx 0).length) ∧ New (ext wb e) w' := fun e => degree_any _ r _ ⟨_, rfl, hrb.new (ext_new _ e)⟩ kl0
      clear hlen
      cases hd : inB ((nth r.nx 0).length : Int) 1 3 with
      | true =>
        have HD := hid hd
        have hd3 := (inB_iff _ _ _).1 hd
        have hd4 : 0 < (nth r.nx 0).length := by omega
        have CC : ∀ (x y : Int) (bb : Bool) w, (x = r.n ∧ y = 7 ∧ bb = true) ∨ (x = ((nth r.nx 0).length : Int) ∧ y = 3 ∧ bb = true) → Calls Tryz.prog 72 #[.int .i64 x, .int .i64 1, .int .i64 y] w fun e' w' => e' = .returned (.bool bb) ∧ w' = w := fun x y bb w hh => by
          rcases hh with ⟨rfl, rfl, rfl⟩ | ⟨rfl, rfl, rfl⟩
          · exact C1 w
          · have := within_any ((nth r.nx 0).length : Int) 1 3 w; rw [HD.out] at this; exact this
        clear C1
        have CF : ∀ e, Calls Tryz.prog 80 #[.slice A r.nx.length c, .func (.func 112) #[] #[.pointer (some ⟨w.heap.size, 0, none⟩)]] (ext wb e) fun e' w' => e' = .returned (.bool (r.nx.any fun xs => !roadRow (nth r.nx 0).length r.n xs)) ∧ New (ext wb e) w' := fun e =>
          ContainsFuncRows_any _ r.nx 112 #[.pointer (some ⟨w.heap.size, 0, none⟩)] (fun xs => !roadRow (nth r.nx 0).length r.n xs) _ (hrb.new (ext_new _ e))
            (enters Tryz.func112 (by decide) (by simp [Tryz.f112])) fun w' hw i hi rv hrv => ValidRoads1_any _ _ _ r _ hrv (hp.new ((ext_new _ e).trans hw)) hn2 hn3 kl0 hd4
        have HM : roadsOk r = !(r.nx.any fun xs => !roadRow (nth r.nx 0).length r.n xs) := by rw [roads_any_row]; unfold roadsOk; rw [HN.out, hL, HD.out]; simp
        rw [HM]
        generalize (r.nx.any fun xs => !roadRow (nth r.nx 0).length r.n xs) = bb at CF
        clear hd hd3 HM hL
        go_enter Tryz.func59, Tryz.ntmps59
        go_wp2_with fail
        rw [← hwb]
        clear hwb
        refine wp_region_quiet_new (by kernel_rfl) (by kernel_rfl) ?_; (repeat (go_big_quiet_step ((first | (go_at_call 72; first | exact quiet_same (CC _ _ _ _ (Or.inl ⟨rfl, rfl, rfl⟩)) | exact quiet_same (CC _ _ _ _ (Or.inr ⟨rfl, rfl, rfl⟩))) | (go_at_call 110; exact quiet_same (CS _)) | (go_at_call 111; exact quiet_new (CD _)) | (go_at_call 80; exact quiet_new (CF _)))))); refine wpQuiet_nil ?_; intro wq hq; have hnq := new_of_ext hq; clear hq
        go_wp2
        go_ret
        exact ⟨rfl, hn0.trans hnq⟩
      | false =>
        have HD := hid hd
        have CC : ∀ (x y : Int) (bb : Bool) w, (x = r.n ∧ y = 7 ∧ bb = true) ∨ (x = ((nth r.nx 0).length : Int) ∧ y = 3 ∧ bb = false) → Calls Tryz.prog 72 #[.int .i64 x, .int .i64 1, .int .i64 y] w fun e' w' => e' = .returned (.bool bb) ∧ w' = w := fun x y bb w hh => by
          rcases hh with ⟨rfl, rfl, rfl⟩ | ⟨rfl, rfl, rfl⟩
          · exact C1 w
          · have := within_any ((nth r.nx 0).length : Int) 1 3 w; rw [HD.out] at this; exact this
        clear C1
        have HM : roadsOk r = false := by unfold roadsOk; rw [HD.out]; simp
        rw [HM]
        clear hd hL
        go_enter Tryz.func59, Tryz.ntmps59
        go_wp2_with fail
        rw [← hwb]
        clear hwb
        refine wp_region_quiet_new (by kernel_rfl) (by kernel_rfl) ?_; (repeat (go_big_quiet_step ((first | (go_at_call 72; first | exact quiet_same (CC _ _ _ _ (Or.inl ⟨rfl, rfl, rfl⟩)) | exact quiet_same (CC _ _ _ _ (Or.inr ⟨rfl, rfl, rfl⟩))) | (go_at_call 110; exact quiet_same (CS _)) | (go_at_call 111; exact quiet_new (CD _)))))); refine wpQuiet_nil ?_; intro wq hq; have hnq := new_of_ext hq; clear hq
        go_wp2
        go_ret
        exact ⟨rfl, hn0.trans hnq⟩
    · have hb : ((r.nx.length : Int) == r.n) = false := by simp [hlen]
      have HM : roadsOk r = false := by unfold roadsOk; simp [hlen]
      rw [HM]
      go_enter Tryz.func59, Tryz.ntmps59
      go_wp2_with fail
      rw [← hwb]
      clear hwb
      refine wp_region_quiet_new (by kernel_rfl) (by kernel_rfl) ?_; (repeat (go_big_quiet_step ((first | (go_at_call 72; exact quiet_same (C1 _)) | (go_at_call 110; exact quiet_same (CS _)))))); refine wpQuiet_nil ?_; intro wq hq; have hnq := new_of_ext hq; clear hq
      go_wp2
      go_ret
      exact ⟨rfl, hn0.trans hnq⟩
  | false =>
    have HN := hid hn
    have C1 : ∀ w, Calls Tryz.prog 72 #[.int .i64 r.n, .int .i64 1, .int .i64 7] w fun e' w' => e' = .returned (.bool false) ∧ w' = w := fun w => by have := within_any r.n 1 7 w; rw [HN.out] at this; exact this
    have HM : roadsOk r = false := by unfold roadsOk; rw [HN.out]; rfl
    rw [HM]
    clear hn
    go_enter Tryz.func59, Tryz.ntmps59
    go_wp2_with fail
    rw [← hwb]
    clear hwb
    refine wp_region_quiet_new (by kernel_rfl) (by kernel_rfl) ?_; (repeat (go_big_quiet_step (((go_at_call 72; exact quiet_same (C1 _)))))); refine wpQuiet_nil ?_; intro wq hq; have hnq := new_of_ext hq; clear hq
    go_wp2
    go_ret
    exact ⟨rfl, hn0.trans hnq⟩
end

end Go.Proofs.YtoeckejcmojeaaaGreat
