/- Parts of the proof that lean on no program: I01a, I01b. -/
import Derived.Test.YthbebnfhplacnaaDoorRows
import Derived.Test.YthbebnfhplacnaaDoorCore
import Derived.Test.YthbebnfhplacnaaDoorPlains
import Derived.WalkKit
import Derived.WalkSpells
import Derived.WalkLawsBesides
import Derived.Deep.QuietTactic
import Derived.Deep.OwnRows
import Derived.BigQuiet
import Derived.KernelRfl
namespace Go.Proofs.YthbebnfhplacnaaDoor
open Go.RowKit

section
set_option maxHeartbeats 400000 in
theorem within_any (n lo hi : Int) (w : World) :
    Calls Tryd.prog 24 #[.int .i64 n, .int .i64 lo, .int .i64 hi] w fun e w' => e = .returned (.bool (inB n lo hi)) ∧ w' = w := by
  by_cases h : lo ≤ n
  · go_enter Tryd.func24, Tryd.ntmps24
    go_wp2
    go_ret
    exact ⟨ret_bool (by simp [inB, h]), rfl⟩
  · have h' : decide (lo ≤ n) = false := by simpa using h
    go_enter Tryd.func24, Tryd.ntmps24
    go_wp2
    go_ret
    have hf : inB n lo hi = false := (inB_false _ _ _).2 (Or.inl (by omega))
    exact ⟨ret_bool (by rw [hf]), rfl⟩
set_option maxHeartbeats 400000 in
theorem size64_any (A : Option Addr) (n c : Nat) (w : World) (_h : n ≤ 9223372036854775807) :
    Calls Tryd.prog 39 #[.slice A n c] w fun e w' => e = .returned (.int .i64 n) ∧ w' = w := by
  go_enter Tryd.func39, Tryd.ntmps39
  go_wp2
  go_ret
  exact ⟨rfl, rfl⟩
set_option maxHeartbeats 400000 in
theorem areWithin1_any (b1 b2 : Nat) (n lo hi : Int) (w : World) (h1 : w.cell? ⟨b1, 0, none⟩ = some (.int .i64 lo)) (h2 : w.cell? ⟨b2, 0, none⟩ = some (.int .i64 hi)) :
    Calls Tryd.prog 42 #[.int .i64 n, .pointer (some ⟨b1, 0, none⟩), .pointer (some ⟨b2, 0, none⟩)] w fun e w' => e = .returned (.bool (!inB n lo hi)) ∧ w' = w := by
  go_enter Tryd.func42, Tryd.ntmps42
  go_wp2_with (go_at_call 24; refine (within_any _ _ _ _).mono ?_; rintro e w' ⟨rfl, rfl⟩)
  go_ret
  exact ⟨rfl, rfl⟩
/-- The place of the first element of which p holds; -1 if there is none. -/
def idxOf {α : Type} (p : α → Bool) (xs : List α) : Int := match xs.findIdx? p with
  | some i => i
  | none => -1
theorem idxOf_hit {α : Type} [Inhabited α] (p : α → Bool) (xs : List α) (k : Nat) (hk : k < xs.length) (h : p (nth xs k) = true) (hb : ∀ j, j < k → p (nth xs j) = false) : idxOf p xs = k := by
  have : xs.findIdx? p = some k := by
    rw [List.findIdx?_eq_some_iff_getElem]
    refine ⟨hk, by rw [← nth_eq xs k hk]; exact h, fun j hj => ?_⟩
    rw [← nth_eq xs j (by omega)]; simp [hb j hj]
  simp [idxOf, this]
theorem idxOf_none {α : Type} [Inhabited α] (p : α → Bool) (xs : List α) (hb : ∀ j, j < xs.length → p (nth xs j) = false) : idxOf p xs = -1 := by
  have : xs.findIdx? p = none := by
    rw [List.findIdx?_eq_none_iff]
    intro x hx; obtain ⟨i, hi, rfl⟩ := mem_nth xs x hx; exact hb i hi
  simp [idxOf, this]
theorem idxOf_any {α : Type} (p : α → Bool) (xs : List α) : decide (0 ≤ idxOf p xs) = xs.any p := by
  unfold idxOf
  cases h : xs.findIdx? p with
  | none =>
    rw [List.findIdx?_eq_none_iff] at h
    have : xs.any p = false := by rw [List.any_eq_false]; intro x hx; rw [h x hx]; simp
    simp [this]
  | some i =>
    rw [List.findIdx?_eq_some_iff_getElem] at h
    have : xs.any p = true := List.any_eq_true.2 ⟨xs[i]'h.1, List.getElem_mem _, h.2.1⟩
    simp [this]
set_option maxHeartbeats 400000 in
theorem IndexFunc64_any (v : Value) (xs : List Int) (k : Nat) (cap : Array Value) (p : Int → Bool) (w : World) (h : IntsAt w v xs)
    (hent : ∀ args w, Sem.run Tryd.prog (callFunc k args) w = .ok (.enter k args) w)
    (hf : ∀ w', New w w' → ∀ i, i < xs.length → Calls Tryd.prog k (#[.int .i64 (nth xs i)] ++ cap) w' fun e w'' => e = .returned (.bool (p (nth xs i))) ∧ New w' w'') :
    Calls Tryd.prog 54 #[v, .func (.func k) #[] cap] w fun e w' => e = .returned (.int .i64 (idxOf p xs)) ∧ New w w' := by
  obtain ⟨A, c, rfl, hl, hc⟩ := h
  have HF := hid hf
  clear hf
  go_enter Tryd.func54, Tryd.ntmps54
  go_wp2
  go_loopw [8] (fun i wr => ∃ j : Nat, j ≤ xs.length ∧ i = .int .i64 j ∧ Hid (∀ i, i < j → p (nth xs i) = false) ∧ New w wr) (fun i _ => xs.length - (intOf i).toNat)
  case atStart => exact ⟨0, Nat.zero_le _, rfl, fun j hj => absurd hj (by omega), New.refl _⟩
  case round =>
    obtain ⟨j, hj, rfl, he, hw⟩ := hrel
    by_cases hlt : j < xs.length
    · obtain ⟨b, off, rfl, hx⟩ := hc j hlt
      have b1 : (j : Int) < (xs.length : Int) := by omega
      replace hx := hw.cell hx
      clear hc
      by_cases hq : p (nth xs j) = true
      · go_wp2_with (refine (HF.out _ hw j hlt).mono ?_; rintro e w1 ⟨rfl, hn1⟩)
        go_ret
        exact ⟨ret_int (idxOf_hit p xs j hlt hq he.out).symm, hw.trans hn1⟩
      · have hq' : p (nth xs j) = false := by simpa using hq
        clear hq
        go_wp2_with (refine (HF.out _ hw j hlt).mono ?_; rintro e w1 ⟨rfl, hn1⟩)
        go_roundw
        case rel => exact ⟨j + 1, by omega, by go_num, fun i hi => by
            rcases Nat.lt_succ_iff_lt_or_eq.1 hi with h | h
            · exact he.out i h
            · subst h; exact hq', hw.trans hn1⟩
        case measure => simp [intOf]; omega
    · have e : j = xs.length := by omega
      subst e
      go_wp2
      go_ret
      exact ⟨ret_int (idxOf_none p xs he.out).symm, hw⟩
set_option maxHeartbeats 400000 in
theorem ContainsFunc64_any (v : Value) (xs : List Int) (k : Nat) (cap : Array Value) (p : Int → Bool) (w : World) (h : IntsAt w v xs)
    (hent : ∀ args w, Sem.run Tryd.prog (callFunc k args) w = .ok (.enter k args) w)
    (hf : ∀ w', New w w' → ∀ i, i < xs.length → Calls Tryd.prog k (#[.int .i64 (nth xs i)] ++ cap) w' fun e w'' => e = .returned (.bool (p (nth xs i))) ∧ New w' w'') :
    Calls Tryd.prog 41 #[v, .func (.func k) #[] cap] w fun e w' => e = .returned (.bool (xs.any p)) ∧ New w w' := by
  have HF := hid hf
  clear hf
  go_enter Tryd.func41, Tryd.ntmps41
  go_wp2_with (go_at_call 54; refine (IndexFunc64_any v xs k cap p w h hent HF.out).mono ?_; rintro e w1 ⟨rfl, hn1⟩)
  go_ret
  exact ⟨ret_bool (idxOf_any p xs), hn1⟩
set_option maxHeartbeats 400000 in
theorem areWithin_any (v : Value) (xs : List Int) (lo hi : Int) (w : World) (h : IntsAt w v xs) :
    Calls Tryd.prog 28 #[v, .int .i64 lo, .int .i64 hi] w fun e w' => e = .returned (.bool (allIn xs lo hi)) ∧ New w w' := by
  go_enter Tryd.func28, Tryd.ntmps28
  go_wp2_with fail
  have hn0 : New w ((w.alloc (.cells #[.int .i64 lo] 2)).alloc (.cells #[.int .i64 hi] 2)) := (by repeat (first | with_reducible exact New.refl _ | with_reducible assumption | with_reducible refine New.alloc ?_ _ | with_reducible refine New.drew ?_ | with_reducible refine New.drewN ?_ _ | with_reducible refine New.setCell ?_ (by simp <;> omega) _))
  refine (ContainsFunc64_any v xs 42 #[.pointer (some ⟨w.heap.size, 0, none⟩), .pointer (some ⟨w.heap.size + 1, 0, none⟩)] (fun x => !inB x lo hi) _ (h.new hn0)
    (enters Tryd.func42 (by decide) (by simp [Tryd.f42])) fun w' hw i hi' => ?_).mono ?_
  · refine (areWithin1_any _ _ _ lo hi _ (hw.cell (by go_simp)) (hw.cell (by go_simp))).mono ?_
    rintro e w' ⟨rfl, rfl⟩
    exact ⟨rfl, New.refl _⟩
  · rintro e w1 ⟨rfl, hn1⟩
    go_wp2_with fail
    go_ret
    refine ⟨ret_bool ?_, hn0.trans hn1⟩
    rw [allIn, List.not_any_eq_all_not]; simp
end
section
set_option maxHeartbeats 400000 in
theorem IndexFuncRows_any (v : Value) (xss : List (List Int)) (k : Nat) (cap : Array Value) (p : List Int → Bool) (w : World) (h : RowsAt w v xss)
    (hent : ∀ args w, Sem.run Tryd.prog (callFunc k args) w = .ok (.enter k args) w)
    (hf : ∀ w', New w w' → ∀ i, i < xss.length → ∀ rv, IntsAt w' rv (nth xss i) → Calls Tryd.prog k (#[rv] ++ cap) w' fun e w'' => e = .returned (.bool (p (nth xss i))) ∧ New w' w'') :
    Calls Tryd.prog 40 #[v, .func (.func k) #[] cap] w fun e w' => e = .returned (.int .i64 (idxOf p xss)) ∧ New w w' := by
  obtain ⟨A, c, rfl, hl, hc⟩ := h
  have HF := hid hf
  clear hf
  go_enter Tryd.func40, Tryd.ntmps40
  go_wp2
  go_loopw [8] (fun i wr => ∃ j : Nat, j ≤ xss.length ∧ i = .int .i64 j ∧ Hid (∀ i, i < j → p (nth xss i) = false) ∧ New w wr) (fun i _ => xss.length - (intOf i).toNat)
  case atStart => exact ⟨0, Nat.zero_le _, rfl, fun j hj => absurd hj (by omega), New.refl _⟩
  case round =>
    obtain ⟨j, hj, rfl, he, hw⟩ := hrel
    by_cases hlt : j < xss.length
    · obtain ⟨b, off, rv, rfl, hx, hr⟩ := hc j hlt
      have b1 : (j : Int) < (xss.length : Int) := by omega
      replace hx := hw.cell hx
      replace hr := hr.new hw
      clear hc
      by_cases hq : p (nth xss j) = true
      · go_wp2_with (refine (HF.out _ hw j hlt _ hr).mono ?_; rintro e w1 ⟨rfl, hn1⟩)
        go_ret
        exact ⟨ret_int (idxOf_hit p xss j hlt hq he.out).symm, hw.trans hn1⟩
      · have hq' : p (nth xss j) = false := by simpa using hq
        clear hq
        go_wp2_with (refine (HF.out _ hw j hlt _ hr).mono ?_; rintro e w1 ⟨rfl, hn1⟩)
        go_roundw
        case rel => exact ⟨j + 1, by omega, by go_num, fun i hi => by
            rcases Nat.lt_succ_iff_lt_or_eq.1 hi with h | h
            · exact he.out i h
            · subst h; exact hq', hw.trans hn1⟩
        case measure => simp [intOf]; omega
    · have e : j = xss.length := by omega
      subst e
      go_wp2
      go_ret
      exact ⟨ret_int (idxOf_none p xss he.out).symm, hw⟩
set_option maxHeartbeats 400000 in
theorem ContainsFuncRows_any (v : Value) (xss : List (List Int)) (k : Nat) (cap : Array Value) (p : List Int → Bool) (w : World) (h : RowsAt w v xss)
    (hent : ∀ args w, Sem.run Tryd.prog (callFunc k args) w = .ok (.enter k args) w)
    (hf : ∀ w', New w w' → ∀ i, i < xss.length → ∀ rv, IntsAt w' rv (nth xss i) → Calls Tryd.prog k (#[rv] ++ cap) w' fun e w'' => e = .returned (.bool (p (nth xss i))) ∧ New w' w'') :
    Calls Tryd.prog 26 #[v, .func (.func k) #[] cap] w fun e w' => e = .returned (.bool (xss.any p)) ∧ New w w' := by
  have HF := hid hf
  clear hf
  go_enter Tryd.func26, Tryd.ntmps26
  go_wp2_with (go_at_call 40; refine (IndexFuncRows_any v xss k cap p w h hent HF.out).mono ?_; rintro e w1 ⟨rfl, hn1⟩)
  go_ret
  exact ⟨ret_bool (idxOf_any p xss), hn1⟩

set_option maxHeartbeats 400000 in
theorem sizeRows_any (A : Option Addr) (n c : Nat) (w : World) (_h : n ≤ 9223372036854775807) :
    Calls Tryd.prog 14 #[.slice A n c] w fun e w' => e = .returned (.int .i64 n) ∧ w' = w := by
  go_enter Tryd.func14, Tryd.ntmps14
  go_wp2
  go_ret
  exact ⟨rfl, rfl⟩
end

end Go.Proofs.YthbebnfhplacnaaDoor
