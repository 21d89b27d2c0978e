/- Parts of the proof that lean on no program: ISort, IRoads, I05a. -/
import Derived.Test.YthbebnfhplacnaaDoorRows
import Derived.Test.YthbebnfhplacnaaDoorCore
import Derived.Test.YthbebnfhplacnaaDoorInfos
import Derived.Test.YthbebnfhplacnaaDoorPlains
import Derived.Test.YthbebnfhplacnaaDoorJoins
import Derived.Test.YthbebnfhplacnaaDoorIBase
import Derived.Test.YthbebnfhplacnaaDoorIEqs
import Derived.WalkKit
import Derived.WalkSpells
import Derived.WalkLawsBesides
import Derived.Deep.QuietTactic
import Derived.Deep.OwnRows
import Derived.BigQuiet
import Derived.KernelRfl
import Derived.RegionTactic
import Derived.ChangeAlike
import Derived.Deep.RegionHeld3
namespace Go.Proofs.YthbebnfhplacnaaDoor
open Go.RowKit

section
theorem grown_of_new' {w w' : World} (h : New w w') (r : Option Nat) : w.grownBy w' r := ⟨h.os, h.tape, h.output, h.size, fun k hk _ => h.block k hk⟩
set_option maxHeartbeats 400000 in
theorem isNaN64_any (x : Int) (w : World) : Calls Tryd.prog 55 #[.int .i64 x] w fun e w' => e = .returned (.bool false) ∧ w' = w := by
  have h : (x != x) = false := by simp
  go_enter Tryd.func55, Tryd.ntmps55
  go_wp2
  go_ret
  exact ⟨rfl, rfl⟩
set_option maxHeartbeats 400000 in
theorem Less64_any (x y : Int) (w : World) : Calls Tryd.prog 43 #[.int .i64 x, .int .i64 y] w fun e w' => e = .returned (.bool (decide (x < y))) ∧ w' = w := by
  go_enter Tryd.func43, Tryd.ntmps43
  go_wp2_with (go_at_call 55; refine (isNaN64_any _ _).mono ?_; rintro e w' ⟨rfl, rfl⟩)
  go_ret
  exact ⟨rfl, rfl⟩
set_option maxRecDepth 20000 in
set_option maxHeartbeats 2000000 in
theorem Len64_any (n : Nat) (hn : n ≤ 12) (w : World) : Calls Tryd.prog 76 #[.int .u64 n] w fun e w' => ∃ k : Int, e = .returned (.int .i64 k) ∧ w' = w := by
  have h : n = 0 ∨ n = 1 ∨ n = 2 ∨ n = 3 ∨ n = 4 ∨ n = 5 ∨ n = 6 ∨ n = 7 ∨ n = 8 ∨ n = 9 ∨ n = 10 ∨ n = 11 ∨ n = 12 := by omega
  rcases h with rfl | rfl | rfl | rfl | rfl | rfl | rfl | rfl | rfl | rfl | rfl | rfl | rfl
  all_goals
    go_enter Tryd.func76, Tryd.ntmps76
    go_wp2
    go_ret
    exact ⟨_, rfl, rfl⟩
end
section
end
section
set_option maxHeartbeats 800000 in
theorem IsSorted64_any (v : Value) (xs : List Int) (w : World) (h : IntsAt w v xs) (h1 : 0 < xs.length) :
    Calls Tryd.prog 29 #[v] w fun e w' => e = .returned (.bool (upB xs)) ∧ New w w' := by
  obtain ⟨A, c, rfl, hl, hc⟩ := h
  have kz : IntKind.i64.wrap ((xs.length : Int) - 1) = (xs.length : Int) - 1 := IntWalk.i64_in _ (by omega)
  go_enter Tryd.func29, Tryd.ntmps29
  go_wp2
  go_loopw [3] (fun i wr => ∃ k : Nat, k < xs.length ∧ i = .int .i64 k ∧ Hid (∀ j, k < j → j < xs.length → nth xs (j - 1) ≤ nth xs j) ∧ New w wr) (fun i _ => (intOf i).toNat)
  case atStart => exact ⟨xs.length - 1, by omega, by rw [show ((xs.length - 1 : Nat) : Int) = (xs.length : Int) - 1 by omega], fun j hj hj2 => absurd hj (by omega), New.refl _⟩
  case round =>
    obtain ⟨k, hk, rfl, he, hw⟩ := hrel
    by_cases hk0 : k = 0
    · subst hk0
      go_wp2
      go_ret
      exact ⟨ret_bool ((upB_iff xs).2 fun j hj h0 => he.out j h0 hj).symm, hw⟩
    · obtain ⟨b, off, rfl, hx⟩ := hc k hk
      obtain ⟨b', off', e', hy⟩ := hc (k - 1) (by omega)
      cases e'
      replace hx := hw.cell hx
      replace hy := hw.cell hy
      have kb1 : (k : Int) < (xs.length : Int) := by omega
      have kb3 : decide ((0 : Int) < (k : Int)) = true := by simp; omega
      have kb4 : (0 : Int) < (k : Int) := by omega
      have kb5 : 0 < k := by omega
      clear hc
      have kn : (0 : Int) ≤ (k : Int) - 1 := by omega
      have kn1 : (1 : Int) ≤ (k : Int) := by omega
      have kl : (k : Int) - 1 < (xs.length : Int) := by omega
      have kt : ((k : Int) - 1).toNat = k - 1 := by omega
      have kw : IntKind.i64.wrap ((k : Int) - 1) = (k : Int) - 1 := IntWalk.i64_in _ (by omega)
      have C := fun w => Less64_any (nth xs k) (nth xs (k - 1)) w
      by_cases hr : nth xs (k - 1) ≤ nth xs k
      · have hr' : decide (nth xs k < nth xs (k - 1)) = false := by simp; omega
        rw [hr'] at C
        have HR := hid hr
        clear hr
        go_wp2_with fail
        go_quiet ((go_at_call 43; exact Calls.quiet_of_same (C _)))
        go_wp2
        go_roundw
        case rel => exact ⟨k - 1, by omega, by rw [show ((k - 1 : Nat) : Int) = (k : Int) - 1 by omega], fun i hi hi2 => by
            by_cases e : i = k
            · subst e; exact HR.out
            · exact he.out i (by omega) hi2, hw.drewN nq⟩
        case measure => simp [intOf]; omega
      · have hr' : decide (nth xs k < nth xs (k - 1)) = true := by simp; omega
        rw [hr'] at C
        go_wp2_with fail
        go_quiet ((go_at_call 43; exact Calls.quiet_of_same (C _)))
        go_wp2
        go_ret
        exact ⟨ret_bool (upB_false hk kb5 (by omega)).symm, hw.drewN nq⟩
set_option maxHeartbeats 400000 in
theorem degree_any (v : Value) (r : Aut) (w : World) (h : AutAt w v r) (h0 : 0 < r.nx.length) :
    Calls Tryd.prog 25 #[v] w fun e w' => e = .returned (.int .i64 (nth r.nx 0).length) ∧ New w w' := by
  obtain ⟨rv, rfl, hr⟩ := h
  obtain ⟨A, c, rfl, hl, hc⟩ := hr
  obtain ⟨b, off, rv, rfl, hx, hr⟩ := hc 0 h0
  obtain ⟨A2, c2, rfl, hl2, hc2⟩ := hr
  rw [Nat.add_zero] at hx
  have kb : (0 : Int) < (r.nx.length : Int) := by omega
  have hn0 : New w (w.alloc (.cells #[.int .i64 r.n, .slice (some ⟨b, off, none⟩) r.nx.length c] 24)) := (by repeat (first | with_reducible exact New.refl _ | with_reducible assumption | with_reducible refine New.alloc ?_ _ | with_reducible refine New.drew ?_ | with_reducible refine New.drewN ?_ _ | with_reducible refine New.setCell ?_ (by simp <;> omega) _))
  have hx' := hn0.cell hx
  clear hc hc2
  go_enter Tryd.func25, Tryd.ntmps25
  go_wp2_with (go_at_call 39; refine (size64_any _ _ _ _ hl2).mono ?_; rintro e w' ⟨rfl, rfl⟩)
  go_ret
  exact ⟨rfl, hn0⟩
set_option maxHeartbeats 1000000 in
theorem ValidRoads1_any (v : Value) (xs : List Int) (p : Value) (r : Aut) (w : World) (h : IntsAt w v xs) (hp : PAut w p r) (h0 : 1 ≤ r.n) (h1 : r.n ≤ 7) (hl0 : 0 < r.nx.length) (hl1 : 0 < (nth r.nx 0).length) :
    Calls Tryd.prog 27 #[v, p] w fun e w' => e = .returned (.bool (!roadRow (nth r.nx 0).length r.n xs)) ∧ New w w' := by
  obtain ⟨pb, rv, rfl, hp0, hp1, hpr⟩ := hp
  obtain ⟨A2, c2, rfl, hl2, hc2⟩ := hpr
  obtain ⟨b, off, rv, rfl, hx, hr⟩ := hc2 0 hl0
  obtain ⟨A3, c3, rfl, hl3, hc3⟩ := hr
  rw [Nat.add_zero] at hx
  have kb : (0 : Int) < (r.nx.length : Int) := by omega
  obtain ⟨A, c, rfl⟩ := h.form
  rw [roadRow_eq]
  clear hc2 hc3
  by_cases hlen : xs.length = (nth r.nx 0).length
  · have hb : ((xs.length : Int) != (nth r.nx 0).length) = false := by simp [hlen]
    have hd : decide (xs.length = (nth r.nx 0).length) = true := by simp [hlen]
    have hxl : 0 < xs.length := by omega
    rw [hd]
    clear hlen hd
    cases hA : allIn xs 0 (r.n - 1) with
    | true =>
      have HA := hid hA
      clear hA
      go_enter Tryd.func27, Tryd.ntmps27
      go_wp2_with (go_at_call 28; refine (areWithin_any _ _ _ _ _ h).mono ?_; rw [HA.out]; rintro e w1 ⟨rfl, hn1⟩)
      go_wp2_with (go_at_call 29; refine (IsSorted64_any _ _ _ (h.new hn1) hxl).mono ?_; rintro e w2 ⟨rfl, hn2⟩)
      go_ret
      exact ⟨ret_bool (by simp), hn1.trans hn2⟩
    | false =>
      have HA := hid hA
      clear hA
      go_enter Tryd.func27, Tryd.ntmps27
      go_wp2_with (go_at_call 28; refine (areWithin_any _ _ _ _ _ h).mono ?_; rw [HA.out]; rintro e w1 ⟨rfl, hn1⟩)
      go_wp2
      go_ret
      exact ⟨ret_bool (by simp), hn1⟩
  · have hb : ((xs.length : Int) != (nth r.nx 0).length) = true := by simp; omega
    have hd : decide (xs.length = (nth r.nx 0).length) = false := by simp [hlen]
    rw [hd]
    go_enter Tryd.func27, Tryd.ntmps27
    go_wp2
    go_ret
    exact ⟨ret_bool (by simp), New.refl _⟩
theorem roads_any_row (r : Aut) : (!(r.nx.any fun xs => !roadRow (nth r.nx 0).length r.n xs)) = r.nx.all (roadRow (nth r.nx 0).length r.n) := by
  rw [List.not_any_eq_all_not]; simp
set_option maxRecDepth 20000 in
set_option maxHeartbeats 1600000 in
theorem ValidRoads_any (v : Value) (r : Aut) (w : World) (h : AutAt w v r) :
    Calls Tryd.prog 15 #[v] w fun e w' => e = .returned (.bool (roadsOk r)) ∧ New w w' := by
  obtain ⟨rv, rfl, hr⟩ := h
  obtain ⟨A, c, rfl⟩ := hr.form
  have hl := hr.len
  obtain ⟨wb, hwb⟩ : ∃ wb, wb = w.alloc (.cells #[.int .i64 r.n, .slice A r.nx.length c] 24) := ⟨_, rfl⟩
  have hn0 : New w wb := by rw [hwb]; exact (by repeat (first | with_reducible exact New.refl _ | with_reducible assumption | with_reducible refine New.alloc ?_ _ | with_reducible refine New.drew ?_ | with_reducible refine New.drewN ?_ _ | with_reducible refine New.setCell ?_ (by simp <;> omega) _))
  have hp : PAut wb (.pointer (some ⟨w.heap.size, 0, none⟩)) r := by rw [hwb]; exact PAut.box hr _
  have hb0 : wb.cell? ⟨w.heap.size, 0, none⟩ = some (.int .i64 r.n) := by rw [hwb]; go_simp
  have hb1 : wb.cell? ⟨w.heap.size, 1, none⟩ = some (.slice A r.nx.length c) := by rw [hwb]; go_simp
  have hrb := hr.new hn0
  have x0 := ext_cell hb0
  have x1 := ext_cell hb1
  cases hn : inB r.n 1 7 with
  | true =>
    have hn' := (inB_iff _ _ _).1 hn
    have hn2 : 1 ≤ r.n := hn'.1
    have hn3 : r.n ≤ 7 := hn'.2
    have HN := hid hn
    have C1 : ∀ w, Calls Tryd.prog 24 #[.int .i64 r.n, .int .i64 1, .int .i64 7] w fun e' w' => e' = .returned (.bool true) ∧ w' = w := fun w => by have := within_any r.n 1 7 w; rw [HN.out] at this; exact this
    have CS : ∀ w, Calls Tryd.prog 14 #[.slice A r.nx.length c] w fun e w' => e = .returned (.int .i64 r.nx.length) ∧ w' = w := fun w => sizeRows_any _ _ _ _ hl
    clear hn hn'
    by_cases hlen : (r.nx.length : Int) = r.n
    · have hb : ((r.nx.length : Int) == r.n) = true := by simp [hlen]
      have hL : decide ((r.nx.length : Int) = r.n) = true := by simp [hlen]
      have kl0 : 0 < r.nx.length := by omega
      have CD : ∀ e, Calls Tryd.prog 25 #[.agg #[.int .i64 r.n, .slice A r.nx.length c]] (ext wb e) fun e' w' => e' = .returned (.int .i64 (nth r.nx 0).length) ∧ New (ext wb e) w' := fun e => degree_any _ r _ ⟨_, rfl, hrb.new (ext_new _ e)⟩ kl0
      clear hlen
      cases hd : inB ((nth r.nx 0).length : Int) 1 3 with
      | true =>
        have HD := hid hd
        have hd3 := (inB_iff _ _ _).1 hd
        have hd4 : 0 < (nth r.nx 0).length := by omega
        have CC : ∀ (x y : Int) (bb : Bool) w, (x = r.n ∧ y = 7 ∧ bb = true) ∨ (x = ((nth r.nx 0).length : Int) ∧ y = 3 ∧ bb = true) → Calls Tryd.prog 24 #[.int .i64 x, .int .i64 1, .int .i64 y] w fun e' w' => e' = .returned (.bool bb) ∧ w' = w := fun x y bb w hh => by
          rcases hh with ⟨rfl, rfl, rfl⟩ | ⟨rfl, rfl, rfl⟩
          · exact C1 w
          · have := within_any ((nth r.nx 0).length : Int) 1 3 w; rw [HD.out] at this; exact this
        clear C1
        have CF : ∀ e, Calls Tryd.prog 26 #[.slice A r.nx.length c, .func (.func 27) #[] #[.pointer (some ⟨w.heap.size, 0, none⟩)]] (ext wb e) fun e' w' => e' = .returned (.bool (r.nx.any fun xs => !roadRow (nth r.nx 0).length r.n xs)) ∧ New (ext wb e) w' := fun e =>
          ContainsFuncRows_any _ r.nx 27 #[.pointer (some ⟨w.heap.size, 0, none⟩)] (fun xs => !roadRow (nth r.nx 0).length r.n xs) _ (hrb.new (ext_new _ e))
            (enters Tryd.func27 (by decide) (by simp [Tryd.f27])) fun w' hw i hi rv hrv => ValidRoads1_any _ _ _ r _ hrv (hp.new ((ext_new _ e).trans hw)) hn2 hn3 kl0 hd4
        have HM : roadsOk r = !(r.nx.any fun xs => !roadRow (nth r.nx 0).length r.n xs) := by rw [roads_any_row]; unfold roadsOk; rw [HN.out, hL, HD.out]; simp
        rw [HM]
        generalize (r.nx.any fun xs => !roadRow (nth r.nx 0).length r.n xs) = bb at CF
        clear hd hd3 HM hL
        go_enter Tryd.func15, Tryd.ntmps15
        go_wp2_with fail
        rw [← hwb]
        clear hwb
        refine wp_region_quiet_new (by kernel_rfl) (by kernel_rfl) ?_; (repeat (go_big_quiet_step ((first | (go_at_call 24; first | exact quiet_same (CC _ _ _ _ (Or.inl ⟨rfl, rfl, rfl⟩)) | exact quiet_same (CC _ _ _ _ (Or.inr ⟨rfl, rfl, rfl⟩))) | (go_at_call 14; exact quiet_same (CS _)) | (go_at_call 25; exact quiet_new (CD _)) | (go_at_call 26; exact quiet_new (CF _)))))); refine wpQuiet_nil ?_; intro wq hq; have hnq := new_of_ext hq; clear hq
        go_wp2
        go_ret
        exact ⟨rfl, hn0.trans hnq⟩
      | false =>
        have HD := hid hd
        have CC : ∀ (x y : Int) (bb : Bool) w, (x = r.n ∧ y = 7 ∧ bb = true) ∨ (x = ((nth r.nx 0).length : Int) ∧ y = 3 ∧ bb = false) → Calls Tryd.prog 24 #[.int .i64 x, .int .i64 1, .int .i64 y] w fun e' w' => e' = .returned (.bool bb) ∧ w' = w := fun x y bb w hh => by
          rcases hh with ⟨rfl, rfl, rfl⟩ | ⟨rfl, rfl, rfl⟩
          · exact C1 w
          · have := within_any ((nth r.nx 0).length : Int) 1 3 w; rw [HD.out] at this; exact this
        clear C1
        have HM : roadsOk r = false := by unfold roadsOk; rw [HD.out]; simp
        rw [HM]
        clear hd hL
        go_enter Tryd.func15, Tryd.ntmps15
        go_wp2_with fail
        rw [← hwb]
        clear hwb
        refine wp_region_quiet_new (by kernel_rfl) (by kernel_rfl) ?_; (repeat (go_big_quiet_step ((first | (go_at_call 24; first | exact quiet_same (CC _ _ _ _ (Or.inl ⟨rfl, rfl, rfl⟩)) | exact quiet_same (CC _ _ _ _ (Or.inr ⟨rfl, rfl, rfl⟩))) | (go_at_call 14; exact quiet_same (CS _)) | (go_at_call 25; exact quiet_new (CD _)))))); refine wpQuiet_nil ?_; intro wq hq; have hnq := new_of_ext hq; clear hq
        go_wp2
        go_ret
        exact ⟨rfl, hn0.trans hnq⟩
    · have hb : ((r.nx.length : Int) == r.n) = false := by simp [hlen]
      have HM : roadsOk r = false := by unfold roadsOk; simp [hlen]
      rw [HM]
      go_enter Tryd.func15, Tryd.ntmps15
      go_wp2_with fail
      rw [← hwb]
      clear hwb
      refine wp_region_quiet_new (by kernel_rfl) (by kernel_rfl) ?_; (repeat (go_big_quiet_step ((first | (go_at_call 24; exact quiet_same (C1 _)) | (go_at_call 14; exact quiet_same (CS _)))))); refine wpQuiet_nil ?_; intro wq hq; have hnq := new_of_ext hq; clear hq
      go_wp2
      go_ret
      exact ⟨rfl, hn0.trans hnq⟩
  | false =>
    have HN := hid hn
    have C1 : ∀ w, Calls Tryd.prog 24 #[.int .i64 r.n, .int .i64 1, .int .i64 7] w fun e' w' => e' = .returned (.bool false) ∧ w' = w := fun w => by have := within_any r.n 1 7 w; rw [HN.out] at this; exact this
    have HM : roadsOk r = false := by unfold roadsOk; rw [HN.out]; rfl
    rw [HM]
    clear hn
    go_enter Tryd.func15, Tryd.ntmps15
    go_wp2_with fail
    rw [← hwb]
    clear hwb
    refine wp_region_quiet_new (by kernel_rfl) (by kernel_rfl) ?_; (repeat (go_big_quiet_step (((go_at_call 24; exact quiet_same (C1 _)))))); refine wpQuiet_nil ?_; intro wq hq; have hnq := new_of_ext hq; clear hq
    go_wp2
    go_ret
    exact ⟨rfl, hn0.trans hnq⟩
end

end Go.Proofs.YthbebnfhplacnaaDoor
