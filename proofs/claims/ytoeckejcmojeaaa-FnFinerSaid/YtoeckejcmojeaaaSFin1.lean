/- Words and sets are drawn; parts of lists; the same choices. -/
import Derived.Test.YtoeckejcmojeaaaRows
import Derived.Test.YtoeckejcmojeaaaCore
import Derived.Test.YtoeckejcmojeaaaInfos
import Derived.Test.YtoeckejcmojeaaaPlains
import Derived.Test.YtoeckejcmojeaaaArrs
import Derived.Test.YtoeckejcmojeaaaSDraw
import Derived.Test.YtoeckejcmojeaaaDrawT
import Derived.Test.YtoeckejcmojeaaaSBase
import Derived.WalkKit
import Derived.WalkSpells
import Derived.WalkLawsBesides
import Derived.Deep.QuietTactic
import Derived.Deep.OwnRows
import Derived.BigQuiet
import Derived.KernelRfl
import Derived.Carry
import Derived.Deep.RegionHeld3
namespace Go.Proofs.Ytoeckejcmojeaaa
open Go.RowKit

set_option maxHeartbeats 400000 in
theorem f6big_any (v : Value) (n : Nat) (w : World) (h : BytesAt w v n) :
    Calls Try.prog 15 #[v] w fun e w' => e = .returned (.bool (decide (4096 < n))) ∧ w' = w := by
  obtain ⟨A, c, rfl, _, _⟩ := h
  by_cases hl : 4096 < n
  · have hi : (4096 : Int) < (n : Int) := by omega
    rw [decide_eq_true hl]
    go_enter Try.func15, Try.ntmps15
    go_wp2_with fail
    go_ret
    exact ⟨rfl, rfl⟩
  · have hi : ¬ (4096 : Int) < (n : Int) := by omega
    rw [decide_eq_false hl]
    go_enter Try.func15, Try.ntmps15
    go_wp2_with fail
    go_ret
    exact ⟨rfl, rfl⟩
/-- Rising numbers from 0 on below a bound. -/
def risTo (x : Nat) (xs : List Int) : Prop := (∀ i, i < xs.length → 0 ≤ nth xs i ∧ nth xs i < (x : Int)) ∧ ∀ i, i + 1 < xs.length → nth xs i < nth xs (i + 1)
theorem risTo_nil (x : Nat) : risTo x [] := ⟨fun i hi => by simp at hi, fun i hi => by simp at hi⟩
theorem risTo.mono {x y : Nat} {xs : List Int} (h : risTo x xs) (hxy : x ≤ y) : risTo y xs := ⟨fun i hi => by have := h.1 i hi; omega, h.2⟩
theorem risTo.snoc {x : Nat} {xs : List Int} (h : risTo x xs) : risTo (x + 1) (xs ++ [(x : Int)]) := by
  refine ⟨fun i hi => ?_, fun i hi => ?_⟩
  · rw [List.length_append, List.length_singleton] at hi
    by_cases e : i < xs.length
    · rw [nth_append_left _ _ _ e]; have := h.1 i e; omega
    · have e2 : i = xs.length := by omega
      subst e2
      rw [nth_append_here]; omega
  · rw [List.length_append, List.length_singleton] at hi
    rw [nth_append_left _ _ _ (by omega)]
    by_cases e : i + 1 < xs.length
    · rw [nth_append_left _ _ _ e]; exact h.2 i e
    · have e2 : i + 1 = xs.length := by omega
      rw [e2, nth_append_here]
      exact (h.1 i (by omega)).2
theorem risTo.set {x : Nat} {xs : List Int} (h : risTo x xs) : setB xs (x : Int) = true := by
  unfold setB
  rw [riseB_iff]
  intro i hi
  unfold riseAt
  rw [Bool.and_eq_true, inB_iff]
  refine ⟨by have := h.1 i hi; omega, ?_⟩
  cases i with
  | zero => rfl
  | succ i => simpa using h.2 i hi
set_option maxRecDepth 20000 in
set_option maxHeartbeats 2000000 in
theorem P6Word_any (v : Value) (n : Nat) (m most : Int) (w : World) (h : BytesAt w v n) (hm : 1 ≤ m ∧ m ≤ 1000) (hmo : 0 ≤ most ∧ most ≤ 100) :
    Calls Try.prog 18 #[v, .int .i64 m, .int .i64 most] w fun e w' => ∃ r ws, e = .returned r ∧ New w w' ∧ OwnInts w.heap.size w'.heap.size w' r ws ∧ (ws.length : Int) ≤ most ∧ ∀ i, i < ws.length → 0 ≤ nth ws i ∧ nth ws i < m := by
  have C1 := from_any v n w h
  have HP := hid (fun (w1 : World) (sb K1 : Nat) (m : Int) (hs : SrcAt w1 sb n K1) (hk : K1 ≤ 100000) (hm : m ≤ 1000000) => pick_any sb n K1 m w1 hs (by omega) hm)
  go_enter Try.func18, Try.ntmps18
  go_wp2_with fail
  refine C1.mono ?_
  rintro e w1 ⟨rfl, hn1, hs1⟩
  obtain ⟨sb, hsb⟩ : ∃ sb, sb = w.heap.size := ⟨_, rfl⟩
  rw [← hsb] at hs1 ⊢
  have HSB := hid hsb
  have hz1 : sb < w1.heap.size := hs1.lt
  have hY0 := Grow.empty w1.heap.size 2 w1 (Nat.le_refl _)
  have hnY : New w1 (w1.alloc (.cells #[] 2)) := (by repeat (first | with_reducible exact New.refl _ | with_reducible assumption | with_reducible refine New.alloc ?_ _ | with_reducible refine New.drewN ?_ _ | with_reducible refine New.drew ?_ | with_reducible refine New.trans ?_ (by with_reducible assumption)))
  have hsY := hs1.new hnY
  clear hsb C1
  go_wp2_with fail
  refine (HP.out _ sb _ (most + 1) hsY (by omega) (by omega)).mono ?_
  rintro e w2 ⟨kd, rfl, ⟨kd0, kd1, kd2⟩, hb2, hs2⟩
  have hkd : kd ≤ most := by
    rcases Int.lt_or_le 1 (most + 1) with q | q
    · have := kd2 q; omega
    · have := kd1 q; omega
  have hW2 : Within sb (sb + 1) w1 w2 := (Within.of_new hnY _ _).trans hb2.within1
  have hY2 := hY0.within hb2.within1 (by omega)
  obtain ⟨KD, rfl⟩ : ∃ KD : Nat, kd = (KD : Int) := ⟨kd.toNat, by omega⟩
  clear hY0 hnY hsY kd1 kd2 hb2
  go_wp2_with fail
  go_loopw [8, 9] (fun ov kv wr => ∃ (j : Nat) (ws : List Int), kv = .int .i64 j ∧ (j : Int) + ws.length ≤ most ∧ SrcAt wr sb n (100 + 2 * ws.length) ∧ Within sb (sb + 1) w1 wr ∧ Grow w1.heap.size 2 wr ov ws ∧ Hid (∀ i, i < ws.length → 0 ≤ nth ws i ∧ nth ws i < m)) (fun _ kv _ => (intOf kv).toNat)
  case atStart => exact ⟨KD, [], rfl, by simpa using hkd, hs2.mono (by omega), hW2, hY2, hid (fun i hi => by simp at hi)⟩
  case round =>
    obtain ⟨j, ws, rfl, hj, hsj, hWj, hYj, hws⟩ := hrel
    clear hs2 hW2 hY2 hkd kd0
    obtain ⟨wo, rfl⟩ : ∃ wo : World, wo = wr := ⟨_, rfl⟩
    obtain ⟨AY, cY, rfl⟩ := hYj.form
    rcases Nat.eq_zero_or_pos j with e | e
    · subst e
      have b1 : ¬ (0 : Int) < ((0 : Nat) : Int) := by omega
      go_wp2_with fail
      go_ret
      have hz : w1.heap.size ≤ wo.heap.size := hWj.2.2.2.1
      have h0 := hn1.size
      have hsbw := HSB.out
      refine ⟨_, rfl, hn1.within hWj (by omega), ws, (hYj.own (by omega)).widen (by omega) (Nat.le_refl _), by omega, hws.out⟩
    · obtain ⟨j', rfl⟩ : ∃ j', j = j' + 1 := ⟨j - 1, by omega⟩
      have b1 : (0 : Int) < ((j' + 1 : Nat) : Int) := by omega
      have hRl : ws.length < 1099511627776 := by omega
      go_wp2_with fail
      refine (HP.out _ sb _ m hsj (by omega) (by omega)).mono ?_
      rintro e w5 ⟨z, rfl, ⟨z0, z1, z2⟩, hb5, hs5⟩
      have hzm : z < m := by
        rcases Int.lt_or_le 1 m with q | q
        · exact z2 q
        · have := z1 q; omega
      have hW5 := hWj.trans hb5.within1
      have hY5 := hYj.within hb5.within1 (by omega)
      have hz5 : w1.heap.size ≤ w5.heap.size := hW5.2.2.2.1
      clear z1 z2
      go_wp2_with (at_builtin; refine wpList_app (w1 := w5) rfl _ _ _ rfl Try.underlying42 info_i64 (.slice AY ws.length cY) ws rfl hY5 rfl hRl hz5 ?_; intro g9 cap9 w9 ho9 hg9)
      have hWg : Within sb (sb + 1) w1 w9 := Within.of_above hW5 hg9 (fun q hq => (hY5.block q hq).1)
      refine ⟨⟨j', ws ++ [z], by go_num, by simp <;> omega, (hs5.grown9 hg9 (fun q hq => (hY5.block q hq).1) (by omega)).mono (by simp <;> omega), hWg, by simpa using ho9, hid (fun i hi => ?_)⟩, ?_⟩
      · have := rows_snoc (xs := ws) (k := ws.length) (m := m) ⟨rfl, hws.out⟩ z z0 hzm
        exact this.2 i (by simpa using hi)
      · simp [intOf] <;> omega
set_option maxRecDepth 20000 in
set_option maxHeartbeats 2000000 in
theorem P6Set_any (v : Value) (n : Nat) (m : Int) (w : World) (h : BytesAt w v n) (hm : 1 ≤ m ∧ m ≤ 1000) :
    Calls Try.prog 19 #[v, .int .i64 m] w fun e w' => ∃ r xs, e = .returned r ∧ New w w' ∧ OwnInts w.heap.size w'.heap.size w' r xs ∧ setB xs m = true := by
  have C1 := from_any v n w h
  have HO := hid (fun (w1 : World) (sb K1 : Nat) (m : Int) (hs : SrcAt w1 sb n K1) (hk : K1 ≤ 100000) (hm : m ≤ 1000000) => one_any sb n K1 m w1 hs (by omega) hm)
  obtain ⟨M, rfl⟩ : ∃ M : Nat, m = (M : Int) := ⟨m.toNat, by omega⟩
  go_enter Try.func19, Try.ntmps19
  go_wp2_with fail
  refine C1.mono ?_
  rintro e w1 ⟨rfl, hn1, hs1⟩
  obtain ⟨sb, hsb⟩ : ∃ sb, sb = w.heap.size := ⟨_, rfl⟩
  rw [← hsb] at hs1 ⊢
  have HSB := hid hsb
  have hz1 : sb < w1.heap.size := hs1.lt
  have hY0 := Grow.empty w1.heap.size 2 w1 (Nat.le_refl _)
  have hnY : New w1 (w1.alloc (.cells #[] 2)) := (by repeat (first | with_reducible exact New.refl _ | with_reducible assumption | with_reducible refine New.alloc ?_ _ | with_reducible refine New.drewN ?_ _ | with_reducible refine New.drew ?_ | with_reducible refine New.trans ?_ (by with_reducible assumption)))
  have hsY := hs1.new hnY
  have hWY : Within sb (sb + 1) w1 (w1.alloc (.cells #[] 2)) := Within.of_new hnY _ _
  clear hsb C1
  go_wp2_with fail
  go_loopw [6, 7] (fun ov xv wr => ∃ (x : Nat) (xs : List Int), xv = .int .i64 x ∧ x ≤ M ∧ xs.length ≤ x ∧ SrcAt wr sb n (100 + 2 * x) ∧ Within sb (sb + 1) w1 wr ∧ Grow w1.heap.size 2 wr ov xs ∧ Hid (risTo x xs)) (fun _ xv _ => M - (intOf xv).toNat)
  case atStart => exact ⟨0, [], rfl, Nat.zero_le _, Nat.le_refl _, hsY.mono (by omega), hWY, hY0, hid (risTo_nil 0)⟩
  case round =>
    obtain ⟨x, xs, rfl, hx, hl, hsj, hWj, hYj, hxs⟩ := hrel
    clear hsY hWY hY0 hnY
    obtain ⟨wo, rfl⟩ : ∃ wo : World, wo = wr := ⟨_, rfl⟩
    obtain ⟨AY, cY, rfl⟩ := hYj.form
    by_cases hlt : x < M
    · have b1 : (x : Int) < (M : Int) := by omega
      have hRl : xs.length < 1099511627776 := by omega
      go_wp2_with fail
      refine (HO.out _ sb _ 2 hsj (by omega) (by omega)).mono ?_
      rintro e w5 ⟨b5, rfl, hb5, hs5⟩
      have hW5 := hWj.trans hb5.within1
      have hY5 := hYj.within hb5.within1 (by omega)
      have hz5 : w1.heap.size ≤ w5.heap.size := hW5.2.2.2.1
      cases b5 with
      | false =>
        go_wp2_with fail
        refine ⟨⟨x + 1, xs, by go_num, by omega, by omega, hs5.mono (by omega), hW5, hY5, hid (hxs.out.mono (by omega))⟩, ?_⟩
        simp [intOf]; omega
      | true =>
        go_wp2_with (at_builtin; refine wpList_app (w1 := w5) rfl _ _ _ rfl Try.underlying42 info_i64 (.slice AY xs.length cY) xs rfl hY5 rfl hRl hz5 ?_; intro g9 cap9 w9 ho9 hg9)
        have hWg : Within sb (sb + 1) w1 w9 := Within.of_above hW5 hg9 (fun q hq => (hY5.block q hq).1)
        refine ⟨⟨x + 1, xs ++ [(x : Int)], by go_num, by omega, by simp <;> omega, (hs5.grown9 hg9 (fun q hq => (hY5.block q hq).1) (by omega)).mono (by omega), hWg, by simpa using ho9, hid (hxs.out.snoc)⟩, ?_⟩
        simp [intOf]; omega
    · have e : x = M := by omega
      subst e
      have b1 : ¬ (x : Int) < (x : Int) := by omega
      go_wp2_with fail
      go_ret
      have hz : w1.heap.size ≤ wo.heap.size := hWj.2.2.2.1
      have h0 := hn1.size
      have hsbw := HSB.out
      exact ⟨_, rfl, hn1.within hWj (by omega), xs, (hYj.own (by omega)).widen (by omega) (Nat.le_refl _), hxs.out.set⟩

end Go.Proofs.Ytoeckejcmojeaaa
