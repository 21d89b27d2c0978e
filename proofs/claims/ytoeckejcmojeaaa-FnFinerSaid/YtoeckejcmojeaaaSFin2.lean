/- The reference's comparison of automata with choices; parts of lists. -/
import Derived.Test.YtoeckejcmojeaaaRows
import Derived.Test.YtoeckejcmojeaaaCore
import Derived.Test.YtoeckejcmojeaaaArrs
import Derived.Test.YtoeckejcmojeaaaPlains
import Derived.Test.YtoeckejcmojeaaaSBase
import Derived.WalkKit
import Derived.WalkSpells
import Derived.WalkLawsBesides
import Derived.Deep.QuietTactic
import Derived.Deep.OwnRows
import Derived.BigQuiet
import Derived.KernelRfl
namespace Go.Proofs.Ytoeckejcmojeaaa
open Go.RowKit

set_option maxHeartbeats 1000000 in
theorem l06SameRows_any (v1 v2 : Value) (xs ys : List (List Int)) (w : World) (h1 : RowsAt w v1 xs) (h2 : RowsAt w v2 ys) :
    Calls Try.prog 68 #[v1, v2] w fun e w' => e = .returned (.bool (decide (xs = ys))) ∧ New w w' := by
  obtain ⟨A, c, rfl, hl1, hc1⟩ := h1
  obtain ⟨A2, c2, rfl, hl2, hc2⟩ := h2
  by_cases hlen : xs.length = ys.length
  · have hb2 : ((xs.length : Int) != ys.length) = false := by simp [hlen]
    have HL := hid hlen
    clear hlen
    go_enter Try.func68, Try.ntmps68
    go_wp2
    go_loopw [5] (fun i wr => ∃ k : Nat, k ≤ xs.length ∧ i = .int .i64 k ∧ Hid (∀ i, i < k → nth xs i = nth ys i) ∧ New w wr) (fun i _ => xs.length - (intOf i).toNat)
    case atStart => exact ⟨0, Nat.zero_le _, rfl, fun j hj => absurd hj (by omega), New.refl _⟩
    case round =>
      obtain ⟨k, hk, rfl, he, hw⟩ := hrel
      by_cases hlt : k < xs.length
      · obtain ⟨b, off, r1, rfl, hx, hr1⟩ := hc1 k hlt
        obtain ⟨b2, off2, r2, rfl, hy, hr2⟩ := hc2 k (by have := HL.out; omega)
        replace hx := hw.cell hx
        replace hy := hw.cell hy
        replace hr1 := hr1.new hw
        replace hr2 := hr2.new hw
        have hlt2 : k < ys.length := by have := HL.out; omega
        have kb1 : (k : Int) < (xs.length : Int) := by omega
        have kb2 : (k : Int) < (ys.length : Int) := by omega
        have C : ∀ e, Calls Try.prog 92 #[r1, r2] (ext wr e) fun e' w' => e' = .returned (.bool (decide (nth xs k = nth ys k))) ∧ New (ext wr e) w' := fun e => l00Same_any _ _ _ _ _ (hr1.new (ext_new _ e)) (hr2.new (ext_new _ e))
        have e3 := ext_cell hx
        have e4 := ext_cell hy
        by_cases hq : nth xs k = nth ys k
        · have hq' : decide (nth xs k = nth ys k) = true := by simp [hq]
          rw [hq'] at C
          have HQ := hid hq
          clear hq hc1 hc2
          go_wp2_with fail
          refine wp_region_quiet_new (by kernel_rfl) (by kernel_rfl) ?_; (repeat (go_big_quiet_step (((go_at_call 92; exact quiet_new (C _)))))); refine wpQuiet_nil ?_; intro wq hq; have hnq := new_of_ext hq; clear hq
          go_wp2
          go_roundw
          case rel => exact ⟨k + 1, by omega, by go_num, fun i hi => by
              rcases Nat.lt_succ_iff_lt_or_eq.1 hi with h | h
              · exact he.out i h
              · subst h; exact HQ.out, hw.trans hnq⟩
          case measure => simp [intOf]; omega
        · have hq' : decide (nth xs k = nth ys k) = false := by simp [hq]
          rw [hq'] at C
          clear hc1 hc2
          go_wp2_with fail
          refine wp_region_quiet_new (by kernel_rfl) (by kernel_rfl) ?_; (repeat (go_big_quiet_step (((go_at_call 92; exact quiet_new (C _)))))); refine wpQuiet_nil ?_; intro wq hq; have hnq := new_of_ext hq; clear hq
          go_wp2
          go_ret
          have hne : ¬ xs = ys := fun e => hq (by rw [e])
          exact ⟨by simp [hne], hw.trans hnq⟩
      · have e : k = xs.length := by omega
        subst e
        go_wp2
        go_ret
        have he' : xs = ys := ext_nth _ _ HL.out (fun i hi => he.out i hi)
        exact ⟨by simp [he'], hw⟩
  · have hb : ((xs.length : Int) != ys.length) = true := by simp; omega
    go_enter Try.func68, Try.ntmps68
    go_wp2
    go_ret
    have hne : ¬ xs = ys := fun e => hlen (by rw [e])
    exact ⟨by simp [hne], New.refl _⟩
set_option maxRecDepth 20000 in
set_option maxHeartbeats 1000000 in
theorem SameChoice_any (v1 v2 : Value) (r a : Cho) (w : World) (h1 : ChoAt w v1 r) (h2 : ChoAt w v2 a) :
    Calls Try.prog 23 #[v1, v2] w fun e w' => e = .returned (.bool (decide (r = a))) ∧ New w w' := by
  obtain ⟨rv, rfl, hr⟩ := h1
  obtain ⟨av, rfl, ha⟩ := h2
  obtain ⟨A, c, rfl, hl1, hc1⟩ := hr
  obtain ⟨A2, c2, rfl, hl2, hc2⟩ := ha
  rw [Cho.ext']
  obtain ⟨wb, hwb⟩ : ∃ wb, wb = (w.alloc (.cells #[.int .i64 r.n, .slice A r.nx.length c] 39)).alloc (.cells #[.int .i64 a.n, .slice A2 a.nx.length c2] 39) := ⟨_, rfl⟩
  have hnb : New w wb := by rw [hwb]; exact (by repeat (first | with_reducible exact New.refl _ | with_reducible assumption | with_reducible refine New.alloc ?_ _ | with_reducible refine New.drewN ?_ _ | with_reducible refine New.drew ?_ | with_reducible refine New.trans ?_ (by with_reducible assumption)))
  have h0 : wb.cell? ⟨w.heap.size, 0, none⟩ = some (.int .i64 r.n) := by rw [hwb]; go_simp
  have h1 : wb.cell? ⟨w.heap.size, 1, none⟩ = some (.slice A r.nx.length c) := by rw [hwb]; go_simp
  have j0 : wb.cell? ⟨w.heap.size + 1, 0, none⟩ = some (.int .i64 a.n) := by rw [hwb]; go_simp
  have j1 : wb.cell? ⟨w.heap.size + 1, 1, none⟩ = some (.slice A2 a.nx.length c2) := by rw [hwb]; go_simp
  by_cases hn : r.n = a.n
  · have hb : (r.n != a.n) = false := by simp [hn]
    have HN := hid hn
    clear hn
    by_cases hlen : r.nx.length = a.nx.length
    · have hb2 : ((r.nx.length : Int) != a.nx.length) = false := by simp [hlen]
      have HL := hid hlen
      clear hlen
      go_enter Try.func23, Try.ntmps23
      go_wp2_with fail
      rw [← hwb]
      clear hwb
      go_wp2_with fail
      have hN := hnb
      obtain ⟨wc, hwc⟩ : ∃ wc, wc = wb := ⟨_, rfl⟩
      rw [← hwc] at hN h1 j1 ⊢
      clear hwc
      go_loopw [5] (fun i wr => ∃ k : Nat, k ≤ r.nx.length ∧ i = .int .i64 k ∧ Hid (∀ i, i < k → nth r.nx i = nth a.nx i) ∧ New wc wr) (fun i _ => r.nx.length - (intOf i).toNat)
      case atStart => exact ⟨0, Nat.zero_le _, rfl, fun j hj => absurd hj (by omega), New.refl _⟩
      case round =>
        obtain ⟨k, hk, rfl, he, hw0⟩ := hrel
        have hw := hN.trans hw0
        replace h1 := hw0.cell h1
        replace j1 := hw0.cell j1
        by_cases hlt : k < r.nx.length
        · obtain ⟨b, off, r1, rfl, hx, hr1⟩ := hc1 k hlt
          obtain ⟨b2, off2, r2, rfl, hy, hr2⟩ := hc2 k (by have := HL.out; omega)
          replace hx := hw.cell hx
          replace hy := hw.cell hy
          replace hr1 := hr1.new hw
          replace hr2 := hr2.new hw
          have hlt2 : k < a.nx.length := by have := HL.out; omega
          have kb1 : (k : Int) < (r.nx.length : Int) := by omega
          have kb2 : (k : Int) < (a.nx.length : Int) := by omega
          have C : ∀ e, Calls Try.prog 68 #[r1, r2] (ext wr e) fun e' w' => e' = .returned (.bool (decide (nth r.nx k = nth a.nx k))) ∧ New (ext wr e) w' := fun e => l06SameRows_any _ _ _ _ _ (hr1.new (ext_new _ e)) (hr2.new (ext_new _ e))
          have e1 := ext_cell h1
          have e2 := ext_cell j1
          have e3 := ext_cell hx
          have e4 := ext_cell hy
          by_cases hq : nth r.nx k = nth a.nx k
          · have hq' : decide (nth r.nx k = nth a.nx k) = true := by simp [hq]
            rw [hq'] at C
            have HQ := hid hq
            clear hq hc1 hc2
            go_wp2_with fail
            refine wp_region_quiet_new (by kernel_rfl) (by kernel_rfl) ?_; (repeat (go_big_quiet_step (((go_at_call 68; exact quiet_new (C _)))))); refine wpQuiet_nil ?_; intro wq hq; have hnq := new_of_ext hq; clear hq
            go_wp2
            go_roundw
            case rel => exact ⟨k + 1, by omega, by go_num, fun i hi => by
                rcases Nat.lt_succ_iff_lt_or_eq.1 hi with h | h
                · exact he.out i h
                · subst h; exact HQ.out, hw0.trans hnq⟩
            case measure => simp [intOf]; omega
          · have hq' : decide (nth r.nx k = nth a.nx k) = false := by simp [hq]
            rw [hq'] at C
            clear hc1 hc2
            go_wp2_with fail
            refine wp_region_quiet_new (by kernel_rfl) (by kernel_rfl) ?_; (repeat (go_big_quiet_step (((go_at_call 68; exact quiet_new (C _)))))); refine wpQuiet_nil ?_; intro wq hq; have hnq := new_of_ext hq; clear hq
            go_wp2
            go_ret
            have hne : ¬ r.nx = a.nx := fun e => hq (by rw [e])
            exact ⟨by simp [hne], hw.trans hnq⟩
        · have e : k = r.nx.length := by omega
          subst e
          go_wp2
          go_ret
          have he' : r.nx = a.nx := ext_nth _ _ HL.out (fun i hi => he.out i hi)
          exact ⟨by simp [he', HN.out], hw⟩
    · have hb2 : ((r.nx.length : Int) != a.nx.length) = true := by simp; omega
      go_enter Try.func23, Try.ntmps23
      go_wp2_with fail
      rw [← hwb]
      clear hwb
      go_wp2_with fail
      go_ret
      have hne : ¬ r.nx = a.nx := fun e => hlen (by rw [e])
      exact ⟨by simp [hne], hnb⟩
  · have hb : (r.n != a.n) = true := by simp [hn]
    go_enter Try.func23, Try.ntmps23
    go_wp2_with fail
    rw [← hwb]
    clear hwb
    go_wp2_with fail
    go_ret
    exact ⟨by simp [hn], hnb⟩
def partB (xs ys : List Int) : Bool := xs.all fun x => decide (x ∈ ys)
theorem partB_iff (xs ys : List Int) : partB xs ys = true ↔ ∀ i, i < xs.length → nth xs i ∈ ys := by
  unfold partB
  rw [List.all_eq_true]
  constructor
  · intro h i hi; exact of_decide_eq_true (h _ (nth_mem _ _ hi))
  · intro h x hx
    obtain ⟨i, hi, rfl⟩ := mem_nth _ x hx
    exact decide_eq_true (h i hi)
theorem mem_take_succ (ys : List Int) (k : Nat) (hk : k < ys.length) (x : Int) : x ∈ ys.take (k + 1) ↔ x ∈ ys.take k ∨ x = nth ys k := by
  rw [take_succ_nth ys k hk, List.mem_append, List.mem_singleton]
set_option maxRecDepth 20000 in
set_option maxHeartbeats 1000000 in
theorem f6part_any (v1 v2 : Value) (xs ys : List Int) (w : World) (h1 : IntsAt w v1 xs) (h2 : IntsAt w v2 ys) :
    Calls Try.prog 24 #[v1, v2] w fun e w' => e = .returned (.bool (partB xs ys)) ∧ New w w' := by
  obtain ⟨A, c, rfl, hl1, hc1⟩ := h1
  obtain ⟨A2, c2, rfl, hl2, hc2⟩ := h2
  have HC2 := hid hc2
  have HC1 := hid hc1
  clear hc1 hc2
  go_enter Try.func24, Try.ntmps24
  go_wp2_with fail
  go_loopw [5] (fun i wr => ∃ k : Nat, k ≤ xs.length ∧ i = .int .i64 k ∧ Hid (∀ i, i < k → nth xs i ∈ ys) ∧ New w wr) (fun i _ => xs.length - (intOf i).toNat)
  case atStart => exact ⟨0, Nat.zero_le _, rfl, hid (fun j hj => absurd hj (by omega)), New.refl _⟩
  case round =>
    obtain ⟨k, hk, rfl, he, hw⟩ := hrel
    obtain ⟨wo, rfl⟩ : ∃ wo : World, wo = wr := ⟨_, rfl⟩
    by_cases hlt : k < xs.length
    · have b1 : (k : Int) < (xs.length : Int) := by omega
      obtain ⟨b, off, rfl, hx⟩ := HC1.out k hlt
      obtain ⟨X, hX⟩ : ∃ X, X = nth xs k := ⟨_, rfl⟩
      rw [← hX] at hx
      have HX := hid hX
      clear hX
      replace hx := hw.cell hx
      go_wp2_with fail
      go_loopw [6, 7] (fun f j wr => ∃ m : Nat, m ≤ ys.length ∧ j = .int .i64 m ∧ f = .bool (decide (X ∈ ys.take m)) ∧ New wo wr) (fun _ j _ => ys.length - (intOf j).toNat)
      case atStart => exact ⟨0, Nat.zero_le _, rfl, by simp, New.refl _⟩
      case round =>
        obtain ⟨m, hm, rfl, rfl, hw2⟩ := hrel
        obtain ⟨wi, rfl⟩ : ∃ wi : World, wi = wr := ⟨_, rfl⟩
        by_cases hlm : m < ys.length
        · have b2 : (m : Int) < (ys.length : Int) := by omega
          obtain ⟨b2', off2, rfl, hy⟩ := HC2.out m hlm
          replace hy := (hw.trans hw2).cell hy
          replace hx := hw2.cell hx
          have HM := hid (mem_take_succ ys m hlm X)
          by_cases hin : X ∈ ys.take m
          · rw [decide_eq_true hin]
            have HN := hid (show decide (X ∈ ys.take (m + 1)) = true from decide_eq_true (HM.out.2 (Or.inl hin)))
            clear hin
            go_wp2_with fail
            go_quiet (fail)
            go_wp2
            go_roundw
            case rel => exact ⟨m + 1, by omega, by go_num, by rw [HN.out], hw2.drewN nq⟩
            case measure => simp [intOf]; omega
          · rw [decide_eq_false hin]
            by_cases hq : X = nth ys m
            · have hqb : (X == nth ys m) = true := by simp [hq]
              have HN := hid (show decide (X ∈ ys.take (m + 1)) = true from decide_eq_true (HM.out.2 (Or.inr hq)))
              clear hin hq
              go_wp2_with fail
              go_quiet (fail)
              go_wp2
              go_roundw
              case rel => exact ⟨m + 1, by omega, by go_num, by rw [HN.out], hw2.drewN nq⟩
              case measure => simp [intOf]; omega
            · have hqb : (X == nth ys m) = false := by simp [hq]
              have HN := hid (show decide (X ∈ ys.take (m + 1)) = false from decide_eq_false (fun h => by
                rcases HM.out.1 h with h | h
                · exact hin h
                · exact hq h))
              clear hin hq
              go_wp2_with fail
              go_quiet (fail)
              go_wp2
              go_roundw
              case rel => exact ⟨m + 1, by omega, by go_num, by rw [HN.out], hw2.drewN nq⟩
              case measure => simp [intOf]; omega
        · have e : m = ys.length := by omega
          subst e
          have b2 : ¬ (ys.length : Int) < (ys.length : Int) := by omega
          rw [List.take_length]
          by_cases hin : X ∈ ys
          · rw [decide_eq_true hin]
            have HIN := hid hin
            clear hin
            go_wp2_with fail
            go_roundw
            case rel => exact ⟨k + 1, by omega, by go_num, hid (fun i hi => by
                rcases Nat.lt_succ_iff_lt_or_eq.1 hi with h | h
                · exact he.out i h
                · subst h; rw [← HX.out]; exact HIN.out), hw.trans hw2⟩
            case measure => simp [intOf]; omega
          · rw [decide_eq_false hin]
            have HIN := hid hin
            clear hin
            go_wp2_with fail
            go_ret
            refine ⟨ret_bool ?_, hw.trans hw2⟩
            cases hp : partB xs ys with
            | false => rfl
            | true => exact absurd (HX.out ▸ (partB_iff xs ys).1 hp k hlt) HIN.out
    · have e : k = xs.length := by omega
      subst e
      have b1 : ¬ (xs.length : Int) < (xs.length : Int) := by omega
      go_wp2_with fail
      go_ret
      exact ⟨ret_bool ((partB_iff xs ys).2 he.out).symm, hw⟩

end Go.Proofs.Ytoeckejcmojeaaa
