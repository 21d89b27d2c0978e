/- Parts of the proof that lean on no program: LInts, LRoads. -/
import Derived.Test.YthbebnfhplacnaaDoorRows
import Derived.Test.YthbebnfhplacnaaDoorCore
import Derived.Test.YthbebnfhplacnaaDoorInfos
import Derived.WalkKit
import Derived.WalkSpells
import Derived.WalkLawsBesides
import Derived.Deep.QuietTactic
import Derived.Deep.OwnRows
import Derived.BigQuiet
import Derived.KernelRfl
import Derived.Deep.RegionHeld3
namespace Go.Proofs.YthbebnfhplacnaaDoor
open Go.RowKit

section
/-- What is left of a size once n are taken; -1 if they aren't there. -/
def szB (n : Nat) (left : Int) : Int := if left < n then -1 else left - n
def szRows : List (List Int) → Int → Int
  | [], left => left
  | xs :: r, left => if szB xs.length left < 0 then -1 else szRows r (szB xs.length left)
def szBB (xss : List (List Int)) (left : Int) : Int := if szB xss.length left < 0 then -1 else szRows xss (szB xss.length left)
theorem szB_le (n : Nat) (left : Int) (h : -1 ≤ left) : szB n left ≤ left ∧ -1 ≤ szB n left := by unfold szB; split <;> omega

theorem szRows_drop (xss : List (List Int)) (k : Nat) (left : Int) (h : k < xss.length) :
    szRows (xss.drop k) left = if szB (nth xss k).length left < 0 then -1 else szRows (xss.drop (k + 1)) (szB (nth xss k).length left) := by
  rw [List.drop_eq_getElem_cons h, nth_eq xss k h]; rfl

theorem New.of_drew (w w' : World) (h : w' = w.drew) : New w w' := by subst h; exact (New.refl _).drew
set_option maxHeartbeats 400000 in
theorem eqInt64S_any (v1 v2 : Value) (xs ys : List Int) (w : World) (h1 : IntsAt w v1 xs) (h2 : IntsAt w v2 ys) :
    Calls Tryd.prog 31 #[v1, v2] w fun e w' => e = .returned (.bool (decide (xs = ys))) ∧ New w w' := by
  obtain ⟨A, c, rfl, hl1, hc1⟩ := h1
  obtain ⟨A2, c2, rfl, hl2, hc2⟩ := h2
  by_cases hlen : xs.length = ys.length
  · have hb : ((xs.length : Int) != ys.length) = false := by simp [hlen]
    have HL := hid hlen
    clear hlen
    go_enter Tryd.func31, Tryd.ntmps31
    go_wp2
    go_loopw [5] (fun i wr => ∃ k : Nat, k ≤ xs.length ∧ i = .int .i64 k ∧ Hid (∀ i, i < k → nth xs i = nth ys i) ∧ New w wr) (fun i _ => xs.length - (intOf i).toNat)
    case atStart => exact ⟨0, Nat.zero_le _, rfl, fun i hi => absurd hi (by omega), New.refl _⟩
    case round =>
      obtain ⟨k, hk, rfl, he, hw⟩ := hrel
      by_cases hlt : k < xs.length
      · obtain ⟨b, off, rfl, hx⟩ := hc1 k hlt
        obtain ⟨b2, off2, rfl, hy⟩ := hc2 k (by have := HL.out; omega)
        replace hx := hw.cell hx
        replace hy := hw.cell hy
        have hlt2 : k < ys.length := by have := HL.out; omega
        have b1 : (k : Int) < (xs.length : Int) := by omega
        have b2 : (k : Int) < (ys.length : Int) := by omega
        by_cases hq : nth xs k = nth ys k
        · have hq' : (nth xs k != nth ys k) = false := by simp [hq]
          have HQ := hid hq
          clear hq
          go_wp2_with fail
          go_quiet (fail)
          go_wp2
          go_roundw
          case rel => exact ⟨k + 1, by omega, by go_num, fun i hi => by
              rcases Nat.lt_succ_iff_lt_or_eq.1 hi with h | h
              · exact he.out i h
              · subst h; exact HQ.out, hw.drewN nq⟩
          case measure => simp [intOf]; omega
        · have hq' : (nth xs k != nth ys k) = true := by simp [hq]
          go_wp2_with fail
          go_quiet (fail)
          go_wp2
          go_ret
          have hne : ¬ xs = ys := fun e => hq (by rw [e])
          exact ⟨by simp [hne], hw.drewN nq⟩
      · go_wp2
        go_ret
        have he' : xs = ys := ext_nth xs ys HL.out (fun i hi => he.out i (by omega))
        exact ⟨by simp [he'], hw⟩
  · have hb : ((xs.length : Int) != ys.length) = true := by simp; omega
    go_enter Tryd.func31, Tryd.ntmps31
    go_wp2
    go_ret
    have hne : ¬ xs = ys := fun e => hlen (by rw [e])
    exact ⟨by simp [hne], New.refl _⟩

set_option maxHeartbeats 400000 in
theorem eqInt64SS_any (v1 v2 : Value) (xs ys : List (List Int)) (w : World) (h1 : RowsAt w v1 xs) (h2 : RowsAt w v2 ys) :
    Calls Tryd.prog 17 #[v1, v2] w fun e w' => e = .returned (.bool (decide (xs = ys))) ∧ New w w' := by
  obtain ⟨A, c, rfl, hl1, hc1⟩ := h1
  obtain ⟨A2, c2, rfl, hl2, hc2⟩ := h2
  by_cases hlen : xs.length = ys.length
  · have hb : ((xs.length : Int) != ys.length) = false := by simp [hlen]
    have HL := hid hlen
    clear hlen
    go_enter Tryd.func17, Tryd.ntmps17
    go_wp2
    go_loopw [5] (fun i wr => ∃ k : Nat, k ≤ xs.length ∧ i = .int .i64 k ∧ Hid (∀ i, i < k → nth xs i = nth ys i) ∧ New w wr) (fun i _ => xs.length - (intOf i).toNat)
    case atStart => exact ⟨0, Nat.zero_le _, rfl, fun i hi => absurd hi (by omega), New.refl _⟩
    case round =>
      obtain ⟨k, hk, rfl, he, hw⟩ := hrel
      by_cases hlt : k < xs.length
      · obtain ⟨b, off, r1, rfl, hx, hr1⟩ := hc1 k hlt
        obtain ⟨b2, off2, r2, rfl, hy, hr2⟩ := hc2 k (by have := HL.out; omega)
        replace hx := hw.cell hx
        replace hy := hw.cell hy
        replace hr1 := hr1.new hw
        replace hr2 := hr2.new hw
        have hlt2 : k < ys.length := by have := HL.out; omega
        have kb1 : (k : Int) < (xs.length : Int) := by omega
        have kb2 : (k : Int) < (ys.length : Int) := by omega
        by_cases hq : nth xs k = nth ys k
        · have hq' : decide (nth xs k = nth ys k) = true := by simp [hq]
          have HQ := hid hq
          clear hq
          go_wp2_with fail
          go_region_held3 (fun w' => w'.cell? ⟨b, off + k, none⟩ = some r1 ∧ w'.cell? ⟨b2, off2 + k, none⟩ = some r2) (first | go_keep | exact ⟨New.cell hn hx, New.cell hn hy⟩)
            (first | (go_at_call 31; refine (eqInt64S_any _ _ _ _ _ (hr1.new (New.refl _).drew) (hr2.new (New.refl _).drew)).mono ?_; rintro e w' ⟨rfl, hn⟩))
          go_wp2
          go_roundw
          case rel => exact ⟨k + 1, by omega, by go_num, fun i hi => by
              rcases Nat.lt_succ_iff_lt_or_eq.1 hi with h | h
              · exact he.out i h
              · subst h; exact HQ.out, hw.trans ((New.refl _).drew.trans hn)⟩
          case measure => simp [intOf]; omega
        · have hq' : decide (nth xs k = nth ys k) = false := by simp [hq]
          go_wp2_with fail
          go_region_held3 (fun w' => w'.cell? ⟨b, off + k, none⟩ = some r1 ∧ w'.cell? ⟨b2, off2 + k, none⟩ = some r2) (first | go_keep | exact ⟨New.cell hn hx, New.cell hn hy⟩)
            (first | (go_at_call 31; refine (eqInt64S_any _ _ _ _ _ (hr1.new (New.refl _).drew) (hr2.new (New.refl _).drew)).mono ?_; rintro e w' ⟨rfl, hn⟩))
          go_wp2
          go_ret
          have hne : ¬ xs = ys := fun e => hq (by rw [e])
          exact ⟨by simp [hne], hw.trans ((New.refl _).drew.trans hn)⟩
      · go_wp2
        go_ret
        have he' : xs = ys := ext_nth xs ys HL.out (fun i hi => he.out i (by omega))
        exact ⟨by simp [he'], hw⟩
  · have hb : ((xs.length : Int) != ys.length) = true := by simp; omega
    go_enter Tryd.func17, Tryd.ntmps17
    go_wp2
    go_ret
    have hne : ¬ xs = ys := fun e => hlen (by rw [e])
    exact ⟨by simp [hne], New.refl _⟩

theorem szB_pos (n : Nat) (left : Int) (h : ¬ szB n left < 0) : szB n left = left - n := by
  unfold szB at h ⊢
  rw [if_neg]
  intro h5
  rw [if_pos h5] at h
  omega
theorem szRows_bound : ∀ (xss : List (List Int)) (left : Int), -1 ≤ left → -1 ≤ szRows xss left ∧ szRows xss left ≤ left
  | [], left, h => ⟨h, Int.le_refl _⟩
  | xs :: r, left, h => by
    have h1 := szB_le xs.length left h
    unfold szRows
    split
    · omega
    · have := szRows_bound r (szB xs.length left) h1.2; omega
theorem szBB_bound (xss : List (List Int)) (left : Int) (h : -1 ≤ left) : -1 ≤ szBB xss left ∧ szBB xss left ≤ left := by
  have h1 := szB_le xss.length left h
  unfold szBB
  split
  · omega
  · have := szRows_bound xss _ h1.2; omega
theorem szRows_len : ∀ (xss : List (List Int)) (left : Int), 0 ≤ left → 0 ≤ szRows xss left → left = szRows xss left + total xss
  | [], left, _, _ => by simp [szRows, total]
  | xs :: r, left, h, h1 => by
    unfold szRows at h1 ⊢
    by_cases h2 : szB xs.length left < 0
    · rw [if_pos h2] at h1; omega
    · rw [if_neg h2] at h1 ⊢
      have := szRows_len r _ (by omega) h1
      have h3 := szB_pos _ _ h2
      simp [total]; omega
/-- A size that is not used up bounds what it has counted. -/
theorem szBB_len (xss : List (List Int)) (left : Int) (_h : 0 ≤ left) (h1 : 0 ≤ szBB xss left) : left = szBB xss left + xss.length + total xss := by
  unfold szBB at h1 ⊢
  by_cases h2 : szB xss.length left < 0
  · rw [if_pos h2] at h1; omega
  · rw [if_neg h2] at h1 ⊢
    have := szRows_len xss _ (by omega) h1
    have h3 := szB_pos _ _ h2
    omega
theorem length_le_total (xss : List (List Int)) (i : Nat) (h : i < xss.length) : (nth xss i).length ≤ total xss := by
  have h1 := total_take_succ xss i h
  have h2 := total_take_le xss (i + 1)
  omega
end
section
set_option maxHeartbeats 400000 in
theorem eqRoads_any (v1 v2 : Value) (a b : Aut) (w : World) (h1 : AutAt w v1 a) (h2 : AutAt w v2 b) :
    Calls Tryd.prog 6 #[v1, v2] w fun e w' => e = .returned (.bool (decide (a = b))) ∧ New w w' := by
  obtain ⟨rv, rfl, hr⟩ := h1
  obtain ⟨rv2, rfl, hr2⟩ := h2
  obtain ⟨A1, c1, rfl⟩ := hr.form
  obtain ⟨A2, c2, rfl⟩ := hr2.form
  rw [Aut.ext']
  by_cases h : a.n = b.n
  · have hb : (a.n != b.n) = false := by simp [h]
    have hd : decide (a.n = b.n) = true := by simp [h]
    have H := hid h
    clear h
    by_cases hx : a.nx = b.nx
    · have hd2 : decide (a.nx = b.nx) = true := by simp [hx]
      have HX := hid hx
      clear hx
      go_enter Tryd.func6, Tryd.ntmps6
      go_wp2_with (go_at_call 17; refine (eqInt64SS_any _ _ _ _ _ (hr.new (by repeat (first | with_reducible exact New.refl _ | with_reducible assumption | with_reducible refine New.alloc ?_ _ | with_reducible refine New.drew ?_ | with_reducible refine New.drewN ?_ _ | with_reducible refine New.setCell ?_ (by simp <;> omega) _))) (hr2.new (by repeat (first | with_reducible exact New.refl _ | with_reducible assumption | with_reducible refine New.alloc ?_ _ | with_reducible refine New.drew ?_ | with_reducible refine New.drewN ?_ _ | with_reducible refine New.setCell ?_ (by simp <;> omega) _)))).mono ?_; rintro e w' ⟨rfl, hn⟩)
      go_ret
      exact ⟨by simp [H.out, HX.out], New.trans (by repeat (first | with_reducible exact New.refl _ | with_reducible assumption | with_reducible refine New.alloc ?_ _ | with_reducible refine New.drew ?_ | with_reducible refine New.drewN ?_ _ | with_reducible refine New.setCell ?_ (by simp <;> omega) _)) hn⟩
    · have hd2 : decide (a.nx = b.nx) = false := by simp [hx]
      go_enter Tryd.func6, Tryd.ntmps6
      go_wp2_with (go_at_call 17; refine (eqInt64SS_any _ _ _ _ _ (hr.new (by repeat (first | with_reducible exact New.refl _ | with_reducible assumption | with_reducible refine New.alloc ?_ _ | with_reducible refine New.drew ?_ | with_reducible refine New.drewN ?_ _ | with_reducible refine New.setCell ?_ (by simp <;> omega) _))) (hr2.new (by repeat (first | with_reducible exact New.refl _ | with_reducible assumption | with_reducible refine New.alloc ?_ _ | with_reducible refine New.drew ?_ | with_reducible refine New.drewN ?_ _ | with_reducible refine New.setCell ?_ (by simp <;> omega) _)))).mono ?_; rintro e w' ⟨rfl, hn⟩)
      go_ret
      exact ⟨by simp [H.out, hx], New.trans (by repeat (first | with_reducible exact New.refl _ | with_reducible assumption | with_reducible refine New.alloc ?_ _ | with_reducible refine New.drew ?_ | with_reducible refine New.drewN ?_ _ | with_reducible refine New.setCell ?_ (by simp <;> omega) _)) hn⟩
  · have hb : (a.n != b.n) = true := by simp [h]
    go_enter Tryd.func6, Tryd.ntmps6
    go_wp2
    go_ret
    exact ⟨by simp [h], (by repeat (first | with_reducible exact New.refl _ | with_reducible assumption | with_reducible refine New.alloc ?_ _ | with_reducible refine New.drew ?_ | with_reducible refine New.drewN ?_ _ | with_reducible refine New.setCell ?_ (by simp <;> omega) _))⟩
end

end Go.Proofs.YthbebnfhplacnaaDoor
