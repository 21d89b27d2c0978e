/- The reference's first words that lead to a set. -/
import Derived.Test.YtiflokfinkachaaRows
import Derived.Test.YtiflokfinkachaaCore
import Derived.Test.YtiflokfinkachaaInfos
import Derived.Test.YtiflokfinkachaaPlains
import Derived.Test.YtiflokfinkachaaMaps
import Derived.Test.YtiflokfinkachaaWalkV
import Derived.Test.YtiflokfinkachaaSBase
import Derived.Test.YtiflokfinkachaaSFlk
import Derived.Test.YtiflokfinkachaaSWalk
import Derived.Test.YtiflokfinkachaaSLeast
import Derived.WalkKit
import Derived.WalkSpells
import Derived.WalkLawsBesides
import Derived.Deep.QuietTactic
import Derived.Deep.OwnRows
import Derived.BigQuiet
import Derived.KernelRfl
namespace Go.Proofs.Ytiflokfinkachaa
open Go.RowKit

theorem nth_reverse (xs : List Int) (k : Nat) (h : k < xs.length) : nth xs.reverse k = nth xs (xs.length - 1 - k) := by
  rw [nth_eq _ _ (by simpa using h), nth_eq _ _ (by omega), List.getElem_reverse]
set_option maxRecDepth 20000 in
set_option maxHeartbeats 800000 in
theorem word_any (p : Value) (a : Aut) (t : Tour) (n : Nat) (w : World) (hp : PWalk w p t) (hok : TOk a t) (hn10 : a.n ≤ 10) (hi : n < t.sets.length) :
    Calls Try.prog 199 #[p, .int .i64 n] w fun e w' => ∃ r, e = .returned r ∧ New w w' ∧ OwnInts w.heap.size w'.heap.size w' r (nth t.words n) := by
  obtain ⟨b, s1, s2, s3, rfl, h0, h1, h2, h4, h5, h6⟩ := hp
  obtain ⟨A2, c2, rfl, _, hc2⟩ := h5
  obtain ⟨A3, c3, rfl, _, hc3⟩ := h6
  have HOK := hid hok
  have hlen := hok.len hn10
  have HWL := hid (hok.wl n hi)
  have hlb := hok.lb
  have hll := hok.ll
  have HC2 := hid hc2
  have HC3 := hid hc3
  clear hok hc2 hc3 h0 h4
  go_enter Try.func199, Try.ntmps199
  go_wp2
  go_loopw [1, 5] (fun i q wr => ∃ (j : Nat) (xs : List Int), j < t.sets.length ∧ i = .int .i64 j ∧ Grow w.heap.size 2 wr q xs ∧ New w wr ∧ Hid (nth t.words n = nth t.words j ++ xs.reverse)) (fun i _ _ => (intOf i).toNat)
  case atStart => exact ⟨n, [], hi, rfl, Grow.empty _ _ _ (Nat.le_refl _), (by repeat (first | with_reducible exact New.refl _ | with_reducible assumption | with_reducible refine New.alloc ?_ _ | with_reducible refine New.drew ?_ | with_reducible refine New.drewN ?_ _ | with_reducible refine New.setCell ?_ (by simp <;> omega) _)), hid (by simp)⟩
  case round =>
    obtain ⟨j, xs, hj, rfl, ho, hn, hw⟩ := hrel
    obtain ⟨wo, rfl⟩ : ∃ wo : World, wo = wr := ⟨_, rfl⟩
    obtain ⟨b2, off2, rfl, hx2⟩ := HC2.out j (by omega)
    have hx2' := hn.cell hx2
    have h1' := hn.cell h1
    have h2' := hn.cell h2
    have hzr := hn.size
    have kb : (j : Int) < (t.before.length : Int) := by omega
    have kl : (j : Int) < (t.letters.length : Int) := by omega
    have hxl : xs.length ≤ 1024 := by
      have := HWL.out
      rw [hw.out] at this
      simp at this; omega
    rcases HOK.out.chain j hj with ⟨e1, e2⟩ | ⟨j', j1, j2, j3⟩
    · rw [e1] at hx2'
      clear h1 h2 hx2
      have hw' : nth t.words n = xs.reverse := by rw [hw.out, e2]; simp
      have HW := hid hw'
      clear e1 e2 hw'
      obtain ⟨Ao, co, rfl⟩ := ho.form
      have hol := (ho.own (by omega)).at
      obtain ⟨A, c, e5, _, hcx⟩ := id hol
      cases e5
      have HCX := hid hcx
      clear hcx ho
      go_wp2
      go_loopw [6, 7] (fun q i wr => ∃ (k : Nat) (z : Int), k ≤ xs.length ∧ i = .int .i64 z ∧ z = xs.length - 1 - k ∧ Grow wo.heap.size 2 wr q (xs.reverse.take k) ∧ New wo wr) (fun _ i _ => ((intOf i) + 1).toNat)
      case atStart => exact ⟨0, _, Nat.zero_le _, rfl, by omega, Grow.empty _ _ _ (Nat.le_refl _), (by repeat (first | with_reducible exact New.refl _ | with_reducible assumption | with_reducible refine New.alloc ?_ _ | with_reducible refine New.drew ?_ | with_reducible refine New.drewN ?_ _ | with_reducible refine New.setCell ?_ (by simp <;> omega) _))⟩
      case round =>
        obtain ⟨k, z, hk, rfl, hz, ho2, hn2⟩ := hrel
        by_cases hlt : k < xs.length
        · have z0 : 0 ≤ z := by omega
          have zl : z < (xs.length : Int) := by omega
          obtain ⟨b3, off3, rfl, hx3⟩ := HCX.out z.toNat (by omega)
          replace hx3 := hn2.cell hx3
          have hkl : (xs.reverse.take k).length = k := by simp; omega
          have HZ := hid (show nth xs.reverse k = nth xs z.toNat by rw [nth_reverse _ _ hlt, show xs.length - 1 - k = z.toNat by omega])
          have HT := hid (take_succ_nth xs.reverse k (by simpa using hlt))
          have hz2 := hn2.size
          have HZE := hid hz
          clear hz
          go_wp2_with (at_builtin; refine wpList_app rfl _ _ _ rfl Try.underlying26 info_i64 _ (xs.reverse.take k) rfl ho2 rfl (by omega) (by omega) ?_; intro g cap w3 ho3 hg3)
          go_roundw
          case rel => exact ⟨k + 1, z - 1, by omega, rfl, by have := HZE.out; omega, by rw [HT.out, HZ.out]; rw [hkl] at ho3; exact ho3, hn2.app hg3 ho2 (Nat.le_refl _)⟩
          case measure => simp [intOf]; omega
        · have e : k = xs.length := by omega
          have z0 : z < 0 := by omega
          have z1 : decide (0 ≤ z) = false := by simp; omega
          have z2 : z = -1 := by omega
          have ho3 := ho2
          rw [List.take_of_length_le (by simp; omega)] at ho3
          clear hz e hlt ho2
          subst z2
          go_wp2
          go_ret
          have hz2 := hn2.size
          exact ⟨_, rfl, hn.trans hn2, by rw [HW.out]; exact (ho3.own (by simp; omega)).widen (by omega) (Nat.le_refl _)⟩
    · rw [j2] at hx2 hx2'
      obtain ⟨Ao, co, rfl⟩ := ho.form
      obtain ⟨b3, off3, rfl, hx3⟩ := HC3.out j (by omega)
      have hx3' := hn.cell hx3
      have HJ := hid j3
      clear j2 j3
      go_wp2_with (at_builtin; refine wpList_app rfl _ _ _ rfl Try.underlying26 info_i64 _ xs rfl ho rfl (by omega) (by omega) ?_; intro g cap w3 ho3 hg3; have hn3 := hn.app hg3 ho (Nat.le_refl _); have y1 := hn3.cell h1; have y2 := hn3.cell hx2)
      go_roundw
      case rel => exact ⟨j', _, by omega, rfl, ho3, hn3, hid (by rw [hw.out, HJ.out]; simp)⟩
      case measure => simp [intOf]; omega
set_option maxRecDepth 20000 in
set_option maxHeartbeats 400000 in
theorem l02Shrink_any (p : Value) (a : Aut) (f : Nat) (w : World) (hp : PAut w p a) (ha : autOk a = true) (hf : f < 2 ^ a.n.toNat) :
    Calls Try.prog 104 #[p, .int .i64 f] w fun e w' => ∃ r, e = .returned (.tuple #[r, .bool (firstWord smallB (tourOf a.nx f)).2]) ∧ New w w' ∧ OwnInts w.heap.size w'.heap.size w' r (firstWord smallB (tourOf a.nx f)).1 := by
  have hok := tourOk ha f hf
  have han := autOk_n ha
  have hlen := hok.len han.2
  have HOK := hid hok
  have HN := hid han.2
  have HLT := hid (fun i (hi : i < (tourOf a.nx f).sets.length) => lt_10 (hok.lt _ (nth_mem _ _ hi)) (show a.n.toNat ≤ 10 by omega))
  have C1 := l02From_any p a f w hp ha hf
  obtain ⟨T, hT⟩ : ∃ T, T = tourOf a.nx f := ⟨_, rfl⟩
  rw [← hT] at hlen HOK HLT C1 ⊢
  clear hok hT ha
  go_enter Try.func104, Try.ntmps104
  go_wp2_with fail
  refine C1.mono ?_
  rintro e w1 ⟨v, he, hn1, hv⟩
  obtain ⟨b, s1, s2, s3, rfl, h0, h1, h2, h4, h5, h6⟩ := id hv
  obtain ⟨A, c, rfl, _, hc⟩ := h4
  subst he
  have HC := hid hc
  have HV := hid hv
  clear hc h5 h6 hv C1
  go_wp2
  go_loopw [7] (fun i wr => ∃ k : Nat, k ≤ T.sets.length ∧ i = .int .i64 k ∧ Hid (∀ j, j < k → smallB (nth T.sets j) = false) ∧ New w1 wr) (fun i _ => T.sets.length - (intOf i).toNat)
  case atStart => exact ⟨0, Nat.zero_le _, rfl, fun j hj => absurd hj (by omega), New.refl _⟩
  case round =>
    obtain ⟨k, hk, rfl, he, hn⟩ := hrel
    replace h0 := hn.cell h0
    by_cases hlt : k < T.sets.length
    · obtain ⟨b', off', rfl, hx⟩ := HC.out k hlt
      have b1 : (k : Int) < (T.sets.length : Int) := by omega
      replace hx := hn.cell hx
      have C := l02Single_any (nth T.sets k)
      cases hq : smallB (nth T.sets k) with
      | true =>
        rw [hq] at C
        have HQ := hid hq
        have HC2 := hid (fun w2 (hm : New w1 w2) => word_any _ a T k w2 (HV.out.new hm) HOK.out HN.out hlt)
        clear hq
        go_wp2_with (first
          | (go_at_call 198; refine (C _ (HLT.out k hlt)).mono ?_; rintro e w' ⟨rfl, rfl⟩)
          | (go_at_call 199; refine (HC2.out _ hn).mono ?_; rintro e w3 ⟨r, rfl, hn3, ho⟩))
        go_ret2
        have hs := (hn1.trans hn).size
        rw [firstWord_hit smallB T k hlt HQ.out he.out]
        exact ⟨_, rfl, (hn1.trans hn).trans hn3, ho.widen hs (Nat.le_refl _)⟩
      | false =>
        rw [hq] at C
        have HQ := hid hq
        clear hq
        go_wp2_with (go_at_call 198; refine (C _ (HLT.out k hlt)).mono ?_; rintro e w' ⟨rfl, rfl⟩)
        go_roundw
        case rel => exact ⟨k + 1, by omega, by go_num, fun i hi => by
            rcases Nat.lt_succ_iff_lt_or_eq.1 hi with h | h
            · exact he.out i h
            · subst h; exact HQ.out, hn⟩
        case measure => simp [intOf]; omega
    · have e : k = T.sets.length := by omega
      have HF := hid (firstWord_none smallB T (fun j hj => he.out j (by omega)))
      subst e
      go_wp2
      go_ret2
      rw [HF.out]
      have hs := (hn1.trans hn).size
      exact ⟨_, rfl, (by repeat (first | with_reducible exact New.refl _ | with_reducible assumption | with_reducible refine New.alloc ?_ _ | with_reducible refine New.drewN ?_ _ | with_reducible refine New.drew ?_ | with_reducible refine New.trans ?_ (by with_reducible assumption))), OwnInts.none' _ (by (try simp only [sizes]) <;> omega) (by (try simp only [sizes]) <;> omega)⟩
set_option maxHeartbeats 400000 in
theorem l02Told_any (r : Value) (p : List Int × Bool) (B E : Nat) (w : World) (ho : OwnInts B E w r p.1) (hE : E ≤ w.heap.size) :
    Calls Try.prog 124 #[r, .bool p.2] w fun e w' => ∃ r, e = .returned (.tuple #[r, .int .i64 (told p).2]) ∧ New w w' ∧ OwnInts (min B w.heap.size) w'.heap.size w' r (told p).1 := by
  obtain ⟨xs, b⟩ := p
  cases b with
  | true =>
    have e : told (xs, true) = (xs, 0) := rfl
    rw [e]
    go_enter Try.func124, Try.ntmps124
    go_wp2
    go_ret2
    exact ⟨_, rfl, New.refl _, ho.widen (Nat.min_le_left _ _) hE⟩
  | false =>
    have e : told (xs, false) = ([], 6) := rfl
    rw [e]
    go_enter Try.func124, Try.ntmps124
    go_wp2
    go_ret2
    exact ⟨_, rfl, (by repeat (first | with_reducible exact New.refl _ | with_reducible assumption | with_reducible refine New.alloc ?_ _ | with_reducible refine New.drewN ?_ _ | with_reducible refine New.drew ?_ | with_reducible refine New.trans ?_ (by with_reducible assumption))), OwnInts.none' _ (Nat.min_le_right _ _) (by (try simp only [sizes]) <;> omega)⟩

end Go.Proofs.Ytiflokfinkachaa
