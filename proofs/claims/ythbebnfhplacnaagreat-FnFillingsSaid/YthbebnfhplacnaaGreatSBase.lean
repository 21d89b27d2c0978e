/- Parts of the proof that lean on no program: S00a, S01a, S00b. -/
import Derived.Test.YthbebnfhplacnaaGreatRows
import Derived.Test.YthbebnfhplacnaaGreatCore
import Derived.Test.YthbebnfhplacnaaGreatPlains
import Derived.WalkKit
import Derived.WalkSpells
import Derived.WalkLawsBesides
import Derived.Deep.QuietTactic
import Derived.Deep.OwnRows
import Derived.BigQuiet
import Derived.KernelRfl
namespace Go.Proofs.YthbebnfhplacnaaGreat
open Go.RowKit

section
set_option maxHeartbeats 400000 in
theorem l00Same_any (v1 v2 : Value) (xs ys : List Int) (w : World) (h1 : IntsAt w v1 xs) (h2 : IntsAt w v2 ys) :
    Calls Tryz.prog 38 #[v1, v2] w fun e w' => e = .returned (.bool (decide (xs = ys))) ∧ New w w' := by
  obtain ⟨A, c, rfl, hl1, hc1⟩ := h1
  obtain ⟨A2, c2, rfl, hl2, hc2⟩ := h2
  by_cases hlen : xs.length = ys.length
  · have hb : ((xs.length : Int) != ys.length) = false := by simp [hlen]
    have HL := hid hlen
    clear hlen
    go_enter Tryz.func38, Tryz.ntmps38
    go_wp2
    go_loopw [5] (fun i wr => ∃ k : Nat, k ≤ xs.length ∧ i = .int .i64 k ∧ Hid (∀ i, i < k → nth xs i = nth ys i) ∧ New w wr) (fun i _ => xs.length - (intOf i).toNat)
    case atStart => exact ⟨0, Nat.zero_le _, rfl, fun i hi => absurd hi (by omega), New.refl _⟩
    case round =>
      obtain ⟨k, hk, rfl, he, hw⟩ := hrel
      by_cases hlt : k < xs.length
      · obtain ⟨b, off, rfl, hx⟩ := hc1 k hlt
        obtain ⟨b2, off2, rfl, hy⟩ := hc2 k (by have := HL.out; omega)
        replace hx := hw.cell hx
        replace hy := hw.cell hy
        have hlt2 : k < ys.length := by have := HL.out; omega
        have b1 : (k : Int) < (xs.length : Int) := by omega
        have b2 : (k : Int) < (ys.length : Int) := by omega
        by_cases hq : nth xs k = nth ys k
        · have hq' : (nth xs k != nth ys k) = false := by simp [hq]
          have HQ := hid hq
          clear hq
          go_wp2_with fail
          go_quiet (fail)
          go_wp2
          go_roundw
          case rel => exact ⟨k + 1, by omega, by go_num, fun i hi => by
              rcases Nat.lt_succ_iff_lt_or_eq.1 hi with h | h
              · exact he.out i h
              · subst h; exact HQ.out, hw.drewN nq⟩
          case measure => simp [intOf]; omega
        · have hq' : (nth xs k != nth ys k) = true := by simp [hq]
          go_wp2_with fail
          go_quiet (fail)
          go_wp2
          go_ret
          have hne : ¬ xs = ys := fun e => hq (by rw [e])
          exact ⟨by simp [hne], hw.drewN nq⟩
      · go_wp2
        go_ret
        have he' : xs = ys := ext_nth xs ys HL.out (fun i hi => he.out i (by omega))
        exact ⟨by simp [he'], hw⟩
  · have hb : ((xs.length : Int) != ys.length) = true := by simp; omega
    go_enter Tryz.func38, Tryz.ntmps38
    go_wp2
    go_ret
    have hne : ¬ xs = ys := fun e => hlen (by rw [e])
    exact ⟨by simp [hne], New.refl _⟩
end
section
set_option maxHeartbeats 400000 in
theorem l00In_any (n lo hi : Int) (w : World) :
    Calls Tryz.prog 50 #[.int .i64 n, .int .i64 lo, .int .i64 hi] w fun e w' => e = .returned (.bool (inB n lo hi)) ∧ w' = w := by
  by_cases h : lo ≤ n
  · go_enter Tryz.func50, Tryz.ntmps50
    go_wp2
    go_ret
    exact ⟨ret_bool (by simp [inB, h]), rfl⟩
  · have h' : decide (lo ≤ n) = false := by simpa using h
    go_enter Tryz.func50, Tryz.ntmps50
    go_wp2
    go_ret
    have hf : inB n lo hi = false := (inB_false _ _ _).2 (Or.inl (by omega))
    exact ⟨ret_bool (by rw [hf]), rfl⟩

set_option maxHeartbeats 400000 in
theorem l01Map_any (v : Value) (xs : List Int) (n : Int) (w : World) (h : IntsAt w v xs) (h0 : 0 ≤ n) (h1 : n ≤ 1048576) :
    Calls Tryz.prog 84 #[v, .int .i64 n] w fun e w' => e = .returned (.bool (mapOk xs n)) ∧ w' = w := by
  obtain ⟨A, c, rfl, hl, hc⟩ := h
  go_enter Tryz.func84, Tryz.ntmps84
  go_wp2
  go_loop [5] (fun i => ∃ k : Nat, k ≤ xs.length ∧ i = .int .i64 k ∧ Hid (∀ j, j < k → inB (nth xs j) 0 (n - 1) = true)) (fun i => xs.length - (intOf i).toNat)
  case atStart => exact ⟨0, Nat.zero_le _, rfl, fun j hj => absurd hj (by omega)⟩
  case round =>
    obtain ⟨k, hk, rfl, he⟩ := hrel
    by_cases hlt : k < xs.length
    · obtain ⟨b, off, rfl, hx⟩ := hc k hlt
      have b1 : (k : Int) < (xs.length : Int) := by omega
      clear hc
      by_cases hq : inB (nth xs k) 0 (n - 1) = true
      · go_wp2_with (go_at_call 50; refine (l00In_any _ _ _ _).mono ?_; rintro e w' ⟨rfl, rfl⟩)
        go_round
        case rel => exact ⟨k + 1, by omega, by go_num, fun i hi => by
            rcases Nat.lt_succ_iff_lt_or_eq.1 hi with h | h
            · exact he.out i h
            · subst h; exact hq⟩
        case measure => simp [intOf]; omega
      · have hq' : inB (nth xs k) 0 (n - 1) = false := by simpa using hq
        clear hq
        go_wp2_with (go_at_call 50; refine (l00In_any _ _ _ _).mono ?_; rintro e w' ⟨rfl, rfl⟩)
        go_ret
        refine ⟨ret_bool ?_, rfl⟩
        rw [mapOk, allIn_false xs 0 (n - 1) k hlt hq']; rfl
    · have e : k = xs.length := by omega
      subst e
      go_wp2
      go_ret
      refine ⟨ret_bool ?_, rfl⟩
      have ha : allIn xs 0 (n - 1) = true := (allIn_iff _ _ _).2 fun i hi => he.out i (by omega)
      rw [Bool.eq_iff_iff]; simp [mapOk, ha]

set_option maxHeartbeats 400000 in
theorem l01Word_any (p v : Value) (a : Aut) (ws : List Int) (w : World) (hp : PAut w p a) (h : IntsAt w v ws) :
    Calls Tryz.prog 78 #[p, v] w fun e w' => e = .returned (.bool (wordOk a ws)) ∧ New w w' := by
  obtain ⟨pb, rv, rfl, hp0, hp1, hpr⟩ := hp
  obtain ⟨A2, c2, rfl⟩ := hpr.form
  have hnl : a.nx.length ≤ 9223372036854775807 := let ⟨_, _, _, h, _⟩ := hpr; h
  obtain ⟨A, c, rfl, hl, hc⟩ := h
  go_enter Tryz.func78, Tryz.ntmps78
  go_wp2
  go_loopw [5] (fun i wr => ∃ k : Nat, k ≤ ws.length ∧ i = .int .i64 k ∧ Hid (∀ j, j < k → inB (nth ws j) 0 ((a.nx.length : Int) - 1) = true) ∧ New w wr) (fun i _ => ws.length - (intOf i).toNat)
  case atStart => exact ⟨0, Nat.zero_le _, rfl, fun j hj => absurd hj (by omega), New.refl _⟩
  case round =>
    obtain ⟨k, hk, rfl, he, hw⟩ := hrel
    by_cases hlt : k < ws.length
    · obtain ⟨b, off, rfl, hx⟩ := hc k hlt
      have b1 : (k : Int) < (ws.length : Int) := by omega
      replace hx := hw.cell hx
      replace hp0 := hw.cell hp0
      replace hp1 := hw.cell hp1
      clear hc
      by_cases hq : inB (nth ws k) 0 ((a.nx.length : Int) - 1) = true
      · go_wp2_with fail
        go_quiet ((go_at_call 50; exact Calls.quiet_of_same (l00In_any _ _ _ _)))
        go_wp2
        go_roundw
        case rel => exact ⟨k + 1, by omega, by go_num, fun i hi => by
            rcases Nat.lt_succ_iff_lt_or_eq.1 hi with h | h
            · exact he.out i h
            · subst h; exact hq, hw.drewN nq⟩
        case measure => simp [intOf]; omega
      · have hq' : inB (nth ws k) 0 ((a.nx.length : Int) - 1) = false := by simpa using hq
        clear hq
        go_wp2_with fail
        go_quiet ((go_at_call 50; exact Calls.quiet_of_same (l00In_any _ _ _ _)))
        go_wp2
        go_ret
        refine ⟨ret_bool ?_, hw.drewN nq⟩
        rw [wordOk, allIn_false ws 0 _ k hlt hq']; rfl
    · have e : k = ws.length := by omega
      subst e
      go_wp2
      go_ret
      refine ⟨ret_bool ?_, hw⟩
      have ha : allIn ws 0 ((a.nx.length : Int) - 1) = true := (allIn_iff _ _ _).2 fun i hi => he.out i (by omega)
      simp [wordOk, ha]
      omega

set_option maxHeartbeats 400000 in
theorem l01Ok_any (p : Value) (a : Aut) (w : World) (hp : PAut w p a) :
    Calls Tryz.prog 57 #[p] w fun e w' => e = .returned (.bool (autOk a)) ∧ New w w' := by
  obtain ⟨pb, rv, rfl, hp0, hp1, hpr⟩ := hp
  obtain ⟨A, c, rfl, hl, hc⟩ := hpr
  by_cases h1 : inB a.n 1 10 = true
  · by_cases h2 : inB (a.nx.length : Int) 1 3 = true
    · have h1' := (inB_iff _ _ _).1 h1
      have h3 : 0 ≤ a.n := by omega
      have h4 : a.n ≤ 1048576 := by omega
      clear h1'
      go_enter Tryz.func57, Tryz.ntmps57
      go_wp2_with (go_at_call 50; refine (l00In_any _ _ _ _).mono ?_; rintro e w' ⟨rfl, rfl⟩)
      go_loopw [3] (fun i wr => ∃ k : Nat, k ≤ a.nx.length ∧ i = .int .i64 k ∧ Hid (∀ j, j < k → mapOk (nth a.nx j) a.n = true) ∧ New w' wr) (fun i _ => a.nx.length - (intOf i).toNat)
      case atStart => exact ⟨0, Nat.zero_le _, rfl, fun j hj => absurd hj (by omega), New.refl _⟩
      case round =>
        obtain ⟨k, hk, rfl, he, hw⟩ := hrel
        replace hp0 := hw.cell hp0
        replace hp1 := hw.cell hp1
        by_cases hlt : k < a.nx.length
        · obtain ⟨b, off, rv, rfl, hx, hr⟩ := hc k hlt
          have b1 : (k : Int) < (a.nx.length : Int) := by omega
          replace hx := hw.cell hx
          replace hr := hr.new hw
          clear hc
          by_cases hq : mapOk (nth a.nx k) a.n = true
          · go_wp2_with fail
            go_quiet ((go_at_call 84; exact Calls.quiet_of_same (l01Map_any _ _ _ _ (hr.new (by repeat (first | with_reducible exact New.refl _ | with_reducible assumption | with_reducible refine New.alloc ?_ _ | with_reducible refine New.drew ?_ | with_reducible refine New.drewN ?_ _ | with_reducible refine New.setCell ?_ (by simp <;> omega) _))) h3 h4)))
            go_wp2
            go_roundw
            case rel => exact ⟨k + 1, by omega, by go_num, fun i hi => by
                rcases Nat.lt_succ_iff_lt_or_eq.1 hi with h | h
                · exact he.out i h
                · subst h; exact hq, hw.drewN nq⟩
            case measure => simp [intOf]; omega
          · have hq' : mapOk (nth a.nx k) a.n = false := by simpa using hq
            clear hq
            go_wp2_with fail
            go_quiet ((go_at_call 84; exact Calls.quiet_of_same (l01Map_any _ _ _ _ (hr.new (by repeat (first | with_reducible exact New.refl _ | with_reducible assumption | with_reducible refine New.alloc ?_ _ | with_reducible refine New.drew ?_ | with_reducible refine New.drewN ?_ _ | with_reducible refine New.setCell ?_ (by simp <;> omega) _))) h3 h4)))
            go_wp2
            go_ret
            refine ⟨ret_bool ?_, hw.drewN nq⟩
            rw [autOk, rowsOk_false a.nx a.n k hlt hq', Bool.and_false]
        · have e : k = a.nx.length := by omega
          subst e
          go_wp2
          go_ret
          refine ⟨ret_bool ?_, hw⟩
          rw [autOk, h1, h2, (rowsOk_iff _ _).2 fun i hi => he.out i hi]; rfl
    · have h2' : inB (a.nx.length : Int) 1 3 = false := by simpa using h2
      clear h2
      go_enter Tryz.func57, Tryz.ntmps57
      go_wp2_with (go_at_call 50; refine (l00In_any _ _ _ _).mono ?_; rintro e w' ⟨rfl, rfl⟩)
      go_ret
      exact ⟨ret_bool (by rw [autOk, h1, h2']; rfl), New.refl _⟩
  · have h1' : inB a.n 1 10 = false := by simpa using h1
    clear h1
    go_enter Tryz.func57, Tryz.ntmps57
    go_wp2_with (go_at_call 50; refine (l00In_any _ _ _ _).mono ?_; rintro e w' ⟨rfl, rfl⟩)
    go_ret
    exact ⟨ret_bool (by rw [autOk, h1']; rfl), New.refl _⟩

end
section
end

end Go.Proofs.YthbebnfhplacnaaGreat
