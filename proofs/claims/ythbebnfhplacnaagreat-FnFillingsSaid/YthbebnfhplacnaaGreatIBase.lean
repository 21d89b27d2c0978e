/- Parts of the proof that lean on no program: I01a, I01b. -/
import Derived.Test.YthbebnfhplacnaaGreatRows
import Derived.Test.YthbebnfhplacnaaGreatCore
import Derived.Test.YthbebnfhplacnaaGreatPlains
import Derived.WalkKit
import Derived.WalkSpells
import Derived.WalkLawsBesides
import Derived.Deep.QuietTactic
import Derived.Deep.OwnRows
import Derived.BigQuiet
import Derived.KernelRfl
namespace Go.Proofs.YthbebnfhplacnaaGreat
open Go.RowKit

section
set_option maxHeartbeats 400000 in
theorem within_any (n lo hi : Int) (w : World) :
    Calls Tryz.prog 51 #[.int .i64 n, .int .i64 lo, .int .i64 hi] w fun e w' => e = .returned (.bool (inB n lo hi)) ∧ w' = w := by
  by_cases h : lo ≤ n
  · go_enter Tryz.func51, Tryz.ntmps51
    go_wp2
    go_ret
    exact ⟨ret_bool (by simp [inB, h]), rfl⟩
  · have h' : decide (lo ≤ n) = false := by simpa using h
    go_enter Tryz.func51, Tryz.ntmps51
    go_wp2
    go_ret
    have hf : inB n lo hi = false := (inB_false _ _ _).2 (Or.inl (by omega))
    exact ⟨ret_bool (by rw [hf]), rfl⟩
set_option maxHeartbeats 400000 in
theorem size64_any (A : Option Addr) (n c : Nat) (w : World) (_h : n ≤ 9223372036854775807) :
    Calls Tryz.prog 55 #[.slice A n c] w fun e w' => e = .returned (.int .i64 n) ∧ w' = w := by
  go_enter Tryz.func55, Tryz.ntmps55
  go_wp2
  go_ret
  exact ⟨rfl, rfl⟩
set_option maxHeartbeats 400000 in
theorem areWithin1_any (b1 b2 : Nat) (n lo hi : Int) (w : World) (h1 : w.cell? ⟨b1, 0, none⟩ = some (.int .i64 lo)) (h2 : w.cell? ⟨b2, 0, none⟩ = some (.int .i64 hi)) :
    Calls Tryz.prog 73 #[.int .i64 n, .pointer (some ⟨b1, 0, none⟩), .pointer (some ⟨b2, 0, none⟩)] w fun e w' => e = .returned (.bool (!inB n lo hi)) ∧ w' = w := by
  go_enter Tryz.func73, Tryz.ntmps73
  go_wp2_with (go_at_call 51; refine (within_any _ _ _ _).mono ?_; rintro e w' ⟨rfl, rfl⟩)
  go_ret
  exact ⟨rfl, rfl⟩
/-- The place of the first element of which p holds; -1 if there is none. -/
def idxOf {α : Type} (p : α → Bool) (xs : List α) : Int := match xs.findIdx? p with
  | some i => i
  | none => -1
theorem idxOf_hit {α : Type} [Inhabited α] (p : α → Bool) (xs : List α) (k : Nat) (hk : k < xs.length) (h : p (nth xs k) = true) (hb : ∀ j, j < k → p (nth xs j) = false) : idxOf p xs = k := by
  have : xs.findIdx? p = some k := by
    rw [List.findIdx?_eq_some_iff_getElem]
    refine ⟨hk, by rw [← nth_eq xs k hk]; exact h, fun j hj => ?_⟩
    rw [← nth_eq xs j (by omega)]; simp [hb j hj]
  simp [idxOf, this]
theorem idxOf_none {α : Type} [Inhabited α] (p : α → Bool) (xs : List α) (hb : ∀ j, j < xs.length → p (nth xs j) = false) : idxOf p xs = -1 := by
  have : xs.findIdx? p = none := by
    rw [List.findIdx?_eq_none_iff]
    intro x hx; obtain ⟨i, hi, rfl⟩ := mem_nth xs x hx; exact hb i hi
  simp [idxOf, this]
theorem idxOf_any {α : Type} (p : α → Bool) (xs : List α) : decide (0 ≤ idxOf p xs) = xs.any p := by
  unfold idxOf
  cases h : xs.findIdx? p with
  | none =>
    rw [List.findIdx?_eq_none_iff] at h
    have : xs.any p = false := by rw [List.any_eq_false]; intro x hx; rw [h x hx]; simp
    simp [this]
  | some i =>
    rw [List.findIdx?_eq_some_iff_getElem] at h
    have : xs.any p = true := List.any_eq_true.2 ⟨xs[i]'h.1, List.getElem_mem _, h.2.1⟩
    simp [this]
set_option maxHeartbeats 400000 in
theorem IndexFunc64_any (v : Value) (xs : List Int) (k : Nat) (cap : Array Value) (p : Int → Bool) (w : World) (h : IntsAt w v xs)
    (hent : ∀ args w, Sem.run Tryz.prog (callFunc k args) w = .ok (.enter k args) w)
    (hf : ∀ w', New w w' → ∀ i, i < xs.length → Calls Tryz.prog k (#[.int .i64 (nth xs i)] ++ cap) w' fun e w'' => e = .returned (.bool (p (nth xs i))) ∧ New w' w'') :
    Calls Tryz.prog 101 #[v, .func (.func k) #[] cap] w fun e w' => e = .returned (.int .i64 (idxOf p xs)) ∧ New w w' := by
  obtain ⟨A, c, rfl, hl, hc⟩ := h
  have HF := hid hf
  clear hf
  go_enter Tryz.func101, Tryz.ntmps101
  go_wp2
  go_loopw [8] (fun i wr => ∃ j : Nat, j ≤ xs.length ∧ i = .int .i64 j ∧ Hid (∀ i, i < j → p (nth xs i) = false) ∧ New w wr) (fun i _ => xs.length - (intOf i).toNat)
  case atStart => exact ⟨0, Nat.zero_le _, rfl, fun j hj => absurd hj (by omega), New.refl _⟩
  case round =>
    obtain ⟨j, hj, rfl, he, hw⟩ := hrel
    by_cases hlt : j < xs.length
    · obtain ⟨b, off, rfl, hx⟩ := hc j hlt
      have b1 : (j : Int) < (xs.length : Int) := by omega
      replace hx := hw.cell hx
      clear hc
      by_cases hq : p (nth xs j) = true
      · go_wp2_with (refine (HF.out _ hw j hlt).mono ?_; rintro e w1 ⟨rfl, hn1⟩)
        go_ret
        exact ⟨ret_int (idxOf_hit p xs j hlt hq he.out).symm, hw.trans hn1⟩
      · have hq' : p (nth xs j) = false := by simpa using hq
        clear hq
        go_wp2_with (refine (HF.out _ hw j hlt).mono ?_; rintro e w1 ⟨rfl, hn1⟩)
        go_roundw
        case rel => exact ⟨j + 1, by omega, by go_num, fun i hi => by
            rcases Nat.lt_succ_iff_lt_or_eq.1 hi with h | h
            · exact he.out i h
            · subst h; exact hq', hw.trans hn1⟩
        case measure => simp [intOf]; omega
    · have e : j = xs.length := by omega
      subst e
      go_wp2
      go_ret
      exact ⟨ret_int (idxOf_none p xs he.out).symm, hw⟩
set_option maxHeartbeats 400000 in
theorem ContainsFunc64_any (v : Value) (xs : List Int) (k : Nat) (cap : Array Value) (p : Int → Bool) (w : World) (h : IntsAt w v xs)
    (hent : ∀ args w, Sem.run Tryz.prog (callFunc k args) w = .ok (.enter k args) w)
    (hf : ∀ w', New w w' → ∀ i, i < xs.length → Calls Tryz.prog k (#[.int .i64 (nth xs i)] ++ cap) w' fun e w'' => e = .returned (.bool (p (nth xs i))) ∧ New w' w'') :
    Calls Tryz.prog 72 #[v, .func (.func k) #[] cap] w fun e w' => e = .returned (.bool (xs.any p)) ∧ New w w' := by
  have HF := hid hf
  clear hf
  go_enter Tryz.func72, Tryz.ntmps72
  go_wp2_with (go_at_call 101; refine (IndexFunc64_any v xs k cap p w h hent HF.out).mono ?_; rintro e w1 ⟨rfl, hn1⟩)
  go_ret
  exact ⟨ret_bool (idxOf_any p xs), hn1⟩
set_option maxHeartbeats 400000 in
theorem areWithin_any (v : Value) (xs : List Int) (lo hi : Int) (w : World) (h : IntsAt w v xs) :
    Calls Tryz.prog 41 #[v, .int .i64 lo, .int .i64 hi] w fun e w' => e = .returned (.bool (allIn xs lo hi)) ∧ New w w' := by
  go_enter Tryz.func41, Tryz.ntmps41
  go_wp2_with fail
  have hn0 : New w ((w.alloc (.cells #[.int .i64 lo] 2)).alloc (.cells #[.int .i64 hi] 2)) := (by repeat (first | with_reducible exact New.refl _ | with_reducible assumption | with_reducible refine New.alloc ?_ _ | with_reducible refine New.drew ?_ | with_reducible refine New.drewN ?_ _ | with_reducible refine New.setCell ?_ (by simp <;> omega) _))
  refine (ContainsFunc64_any v xs 73 #[.pointer (some ⟨w.heap.size, 0, none⟩), .pointer (some ⟨w.heap.size + 1, 0, none⟩)] (fun x => !inB x lo hi) _ (h.new hn0)
    (enters Tryz.func73 (by decide) (by simp [Tryz.f73])) fun w' hw i hi' => ?_).mono ?_
  · refine (areWithin1_any _ _ _ lo hi _ (hw.cell (by go_simp)) (hw.cell (by go_simp))).mono ?_
    rintro e w' ⟨rfl, rfl⟩
    exact ⟨rfl, New.refl _⟩
  · rintro e w1 ⟨rfl, hn1⟩
    go_wp2_with fail
    go_ret
    refine ⟨ret_bool ?_, hn0.trans hn1⟩
    rw [allIn, List.not_any_eq_all_not]; simp
end
section
set_option maxHeartbeats 400000 in
theorem IndexFuncRows_any (v : Value) (xss : List (List Int)) (k : Nat) (cap : Array Value) (p : List Int → Bool) (w : World) (h : RowsAt w v xss)
    (hent : ∀ args w, Sem.run Tryz.prog (callFunc k args) w = .ok (.enter k args) w)
    (hf : ∀ w', New w w' → ∀ i, i < xss.length → ∀ rv, IntsAt w' rv (nth xss i) → Calls Tryz.prog k (#[rv] ++ cap) w' fun e w'' => e = .returned (.bool (p (nth xss i))) ∧ New w' w'') :
    Calls Tryz.prog 82 #[v, .func (.func k) #[] cap] w fun e w' => e = .returned (.int .i64 (idxOf p xss)) ∧ New w w' := by
  obtain ⟨A, c, rfl, hl, hc⟩ := h
  have HF := hid hf
  clear hf
  go_enter Tryz.func82, Tryz.ntmps82
  go_wp2
  go_loopw [8] (fun i wr => ∃ j : Nat, j ≤ xss.length ∧ i = .int .i64 j ∧ Hid (∀ i, i < j → p (nth xss i) = false) ∧ New w wr) (fun i _ => xss.length - (intOf i).toNat)
  case atStart => exact ⟨0, Nat.zero_le _, rfl, fun j hj => absurd hj (by omega), New.refl _⟩
  case round =>
    obtain ⟨j, hj, rfl, he, hw⟩ := hrel
    by_cases hlt : j < xss.length
    · obtain ⟨b, off, rv, rfl, hx, hr⟩ := hc j hlt
      have b1 : (j : Int) < (xss.length : Int) := by omega
      replace hx := hw.cell hx
      replace hr := hr.new hw
      clear hc
      by_cases hq : p (nth xss j) = true
      · go_wp2_with (refine (HF.out _ hw j hlt _ hr).mono ?_; rintro e w1 ⟨rfl, hn1⟩)
        go_ret
        exact ⟨ret_int (idxOf_hit p xss j hlt hq he.out).symm, hw.trans hn1⟩
      · have hq' : p (nth xss j) = false := by simpa using hq
        clear hq
        go_wp2_with (refine (HF.out _ hw j hlt _ hr).mono ?_; rintro e w1 ⟨rfl, hn1⟩)
        go_roundw
        case rel => exact ⟨j + 1, by omega, by go_num, fun i hi => by
            rcases Nat.lt_succ_iff_lt_or_eq.1 hi with h | h
            · exact he.out i h
            · subst h; exact hq', hw.trans hn1⟩
        case measure => simp [intOf]; omega
    · have e : j = xss.length := by omega
      subst e
      go_wp2
      go_ret
      exact ⟨ret_int (idxOf_none p xss he.out).symm, hw⟩
set_option maxHeartbeats 400000 in
theorem ContainsFuncRows_any (v : Value) (xss : List (List Int)) (k : Nat) (cap : Array Value) (p : List Int → Bool) (w : World) (h : RowsAt w v xss)
    (hent : ∀ args w, Sem.run Tryz.prog (callFunc k args) w = .ok (.enter k args) w)
    (hf : ∀ w', New w w' → ∀ i, i < xss.length → ∀ rv, IntsAt w' rv (nth xss i) → Calls Tryz.prog k (#[rv] ++ cap) w' fun e w'' => e = .returned (.bool (p (nth xss i))) ∧ New w' w'') :
    Calls Tryz.prog 53 #[v, .func (.func k) #[] cap] w fun e w' => e = .returned (.bool (xss.any p)) ∧ New w w' := by
  have HF := hid hf
  clear hf
  go_enter Tryz.func53, Tryz.ntmps53
  go_wp2_with (go_at_call 82; refine (IndexFuncRows_any v xss k cap p w h hent HF.out).mono ?_; rintro e w1 ⟨rfl, hn1⟩)
  go_ret
  exact ⟨ret_bool (idxOf_any p xss), hn1⟩

set_option maxHeartbeats 400000 in
theorem ValidAutomaton1_any (v : Value) (xs : List Int) (p : Value) (a : Aut) (w : World) (h : IntsAt w v xs) (hp : PAut w p a) (h0 : 0 ≤ a.n) (h1 : a.n ≤ 1048576) :
    Calls Tryz.prog 76 #[v, p] w fun e w' => e = .returned (.bool (!mapOk xs a.n)) ∧ New w w' := by
  obtain ⟨pb, rv, rfl, hp0, hp1, hpr⟩ := hp
  obtain ⟨A, c, rfl⟩ := h.form
  by_cases hlen : (xs.length : Int) = a.n
  · have hb : ((xs.length : Int) != a.n) = false := by simp [hlen]
    have HL := hid hlen
    have hx0 := ext_cell hp0
    have hl := h.len
    clear hlen
    go_enter Tryz.func76, Tryz.ntmps76
    go_wp2_with fail
    refine wp_region_quiet_new (by kernel_rfl) (by kernel_rfl) ?_; (repeat (go_big_quiet_step ((first | (go_at_call 55; exact quiet_same (size64_any _ _ _ _ hl)) | (go_at_call 41; exact quiet_new (areWithin_any _ _ _ _ _ (h.new (ext_new _ _)))))))); refine wpQuiet_nil ?_; intro wq hq; have hnq := new_of_ext hq; clear hq
    go_wp2
    go_ret
    refine ⟨ret_bool ?_, hnq⟩
    simp [mapOk, HL.out]
  · have hb : ((xs.length : Int) != a.n) = true := by simp [hlen]
    have hx0 := ext_cell hp0
    have hl := h.len
    go_enter Tryz.func76, Tryz.ntmps76
    go_wp2_with fail
    refine wp_region_quiet_new (by kernel_rfl) (by kernel_rfl) ?_; (repeat (go_big_quiet_step ((first | (go_at_call 55; exact quiet_same (size64_any _ _ _ _ hl)) | (go_at_call 41; exact quiet_new (areWithin_any _ _ _ _ _ (h.new (ext_new _ _)))))))); refine wpQuiet_nil ?_; intro wq hq; have hnq := new_of_ext hq; clear hq
    go_wp2
    go_ret
    refine ⟨ret_bool ?_, hnq⟩
    simp [mapOk, hlen]
set_option maxHeartbeats 400000 in
theorem sizeRows_any (A : Option Addr) (n c : Nat) (w : World) (_h : n ≤ 9223372036854775807) :
    Calls Tryz.prog 81 #[.slice A n c] w fun e w' => e = .returned (.int .i64 n) ∧ w' = w := by
  go_enter Tryz.func81, Tryz.ntmps81
  go_wp2
  go_ret
  exact ⟨rfl, rfl⟩
set_option maxHeartbeats 400000 in
theorem letters_any (v : Value) (a : Aut) (w : World) (h : AutAt w v a) :
    Calls Tryz.prog 75 #[v] w fun e w' => e = .returned (.int .i64 a.nx.length) ∧ New w w' := by
  obtain ⟨rv, rfl, hr⟩ := h
  obtain ⟨A, c, rfl⟩ := hr.form
  have hl := hr.len
  go_enter Tryz.func75, Tryz.ntmps75
  go_wp2_with (go_at_call 81; refine (sizeRows_any _ _ _ _ hl).mono ?_; rintro e w' ⟨rfl, rfl⟩)
  go_ret
  exact ⟨rfl, (by repeat (first | with_reducible exact New.refl _ | with_reducible assumption | with_reducible refine New.alloc ?_ _ | with_reducible refine New.drew ?_ | with_reducible refine New.drewN ?_ _ | with_reducible refine New.setCell ?_ (by simp <;> omega) _))⟩
set_option maxHeartbeats 400000 in
theorem ValidAutomaton_any (v : Value) (a : Aut) (w : World) (h : AutAt w v a) :
    Calls Tryz.prog 43 #[v] w fun e w' => e = .returned (.bool (autOk a)) ∧ New w w' := by
  obtain ⟨rv, rfl, hr⟩ := h
  obtain ⟨A, c, rfl⟩ := hr.form
  have hl := hr.len
  have hn0 : New w (w.alloc (.cells #[.int .i64 a.n, .slice A a.nx.length c] 31)) := (by repeat (first | with_reducible exact New.refl _ | with_reducible assumption | with_reducible refine New.alloc ?_ _ | with_reducible refine New.drew ?_ | with_reducible refine New.drewN ?_ _ | with_reducible refine New.setCell ?_ (by simp <;> omega) _))
  have hp := PAut.box hr 31
  by_cases h1 : inB a.n 1 10 = true
  · have h1' := (inB_iff _ _ _).1 h1
    have h3 : 0 ≤ a.n := by omega
    have h4 : a.n ≤ 1048576 := by omega
    clear h1'
    by_cases h2 : inB (a.nx.length : Int) 1 3 = true
    · go_enter Tryz.func43, Tryz.ntmps43
      go_wp2_with fail
      refine (within_any _ _ _ _).mono ?_
      rintro e w' ⟨rfl, rfl⟩
      go_wp2_with fail
      refine (letters_any _ a _ ⟨_, rfl, hr.new hn0⟩).mono ?_
      rintro e w1 ⟨rfl, hn1⟩
      obtain ⟨hc_hn1, hf_hn1⟩ := New.both hn1; have hz_hn1 := New.size hn1; try simp only [sizes] at hz_hn1
      go_wp2_with fail
      refine (within_any _ _ _ _).mono ?_
      rintro e w' ⟨rfl, rfl⟩
      go_wp2_with fail
      refine (ContainsFuncRows_any _ a.nx 76 #[.pointer (some ⟨w.heap.size, 0, none⟩)] (fun xs => !mapOk xs a.n) _ (hr.new (hn0.trans hn1))
        (enters Tryz.func76 (by decide) (by simp [Tryz.f76])) fun w' hw i hi rv hrv => ValidAutomaton1_any _ _ _ a _ hrv (hp.new (hn1.trans hw)) h3 h4).mono ?_
      rintro e w2 ⟨rfl, hn2⟩
      go_wp2_with fail
      go_ret
      refine ⟨ret_bool ?_, (hn0.trans hn1).trans hn2⟩
      rw [autOk, h1, h2, rowsOk, List.not_any_eq_all_not]; simp
    · have h2' : inB (a.nx.length : Int) 1 3 = false := by simpa using h2
      clear h2
      go_enter Tryz.func43, Tryz.ntmps43
      go_wp2_with fail
      refine (within_any _ _ _ _).mono ?_
      rintro e w' ⟨rfl, rfl⟩
      go_wp2_with fail
      refine (letters_any _ a _ ⟨_, rfl, hr.new hn0⟩).mono ?_
      rintro e w1 ⟨rfl, hn1⟩
      obtain ⟨hc_hn1, hf_hn1⟩ := New.both hn1; have hz_hn1 := New.size hn1; try simp only [sizes] at hz_hn1
      go_wp2_with fail
      refine (within_any _ _ _ _).mono ?_
      rintro e w' ⟨rfl, rfl⟩
      go_wp2_with fail
      go_ret
      exact ⟨ret_bool (by rw [autOk, h1, h2']; rfl), hn0.trans hn1⟩
  · have h1' : inB a.n 1 10 = false := by simpa using h1
    clear h1
    go_enter Tryz.func43, Tryz.ntmps43
    go_wp2_with (go_at_call 51; refine (within_any _ _ _ _).mono ?_; rintro e w' ⟨rfl, rfl⟩)
    go_ret
    exact ⟨ret_bool (by rw [autOk, h1']; rfl), hn0⟩
end

end Go.Proofs.YthbebnfhplacnaaGreat
