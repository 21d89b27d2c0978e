/- The reference's preimage of a set. -/
import Derived.Test.YtjchopnglcjnnaaRows
import Derived.Test.YtjchopnglcjnnaaBase
import Derived.Test.YtjchopnglcjnnaaAut
import Derived.Test.YtjchopnglcjnnaaApp
import Derived.Test.YtjchopnglcjnnaaInfo
import Derived.Test.YtjchopnglcjnnaaPlain1
import Derived.Test.YtjchopnglcjnnaaPlainRun
import Derived.Test.YtjchopnglcjnnaaPlainSet
import Derived.Test.YtjchopnglcjnnaaS00b
import Derived.Test.YtjchopnglcjnnaaS01a
import Derived.Test.YtjchopnglcjnnaaS01b
import Derived.WalkKit
import Derived.WalkSpells
import Derived.WalkLawsBesides
import Derived.Deep.QuietTactic
import Derived.Deep.OwnRows
import Derived.BigQuiet
import Derived.KernelRfl
namespace Go.Proofs.Ytjchopnglcjnnaa
open Go.RowKit

theorem filter_snoc {α : Type} (p : α → Bool) (xs : List α) (x : α) : (xs ++ [x]).filter p = xs.filter p ++ if p x = true then [x] else [] := by
  rw [List.filter_append]; congr 1; simp [List.filter_cons]
set_option maxHeartbeats 1000000 in
theorem l01Back_any (p v1 v2 : Value) (a : Aut) (set ws : List Int) (w : World) (hp : PAut w p a) (h1 : IntsAt w v1 set) (h2 : IntsAt w v2 ws) (ha : autOk a = true) (hw : letters a ws) :
    Calls Try.prog 94 #[p, v1, v2] w fun e w' => ∃ r, e = .returned r ∧ New w w' ∧ OwnInts w.heap.size w'.heap.size w' r (preOf a set ws) := by
  obtain ⟨pb, rv, rfl, hp0, hp1, hpr⟩ := id hp
  have HA := hid ha
  have HW := hid hw
  clear ha hw
  go_enter Try.func94, Try.ntmps94
  go_wp2
  go_loopw [7, 8] (fun q i wr => ∃ k : Nat, (k : Int) ≤ a.n ∧ i = .int .i64 k ∧ Grow w.heap.size 2 wr q ((iota 0 k).filter fun s => hasB set (runOf a.nx s ws)) ∧ New w wr) (fun _ i _ => a.n.toNat - (intOf i).toNat)
  case atStart => exact ⟨0, by have := autOk_n HA.out; omega, rfl, Grow.empty _ _ _ (Nat.le_refl _), (by repeat (first | with_reducible exact New.refl _ | with_reducible assumption | with_reducible refine New.alloc ?_ _ | with_reducible refine New.drew ?_ | with_reducible refine New.drewN ?_ _ | with_reducible refine New.setCell ?_ (by simp <;> omega) _))⟩
  case round =>
    obtain ⟨k, hk, rfl, ho, hn⟩ := hrel
    have hn10 := (autOk_n HA.out).2
    replace hp0 := hn.cell hp0
    by_cases hlt : (k : Int) < a.n
    · have HT := hid (fun w1 (hm : New wr w1) => l01To_any _ _ a k ws w1 (hp.new (hn.trans hm)) (h2.new (hn.trans hm)) HA.out HW.out ⟨by omega, hlt⟩)
      have hlen : ((iota 0 k).filter fun s => hasB set (runOf a.nx s ws)).length ≤ k := by
        have := List.length_filter_le (fun s => hasB set (runOf a.nx s ws)) (iota 0 k)
        rw [iota_length] at this; exact this
      cases hq : hasB set (runOf a.nx k ws) with
      | true =>
        have HQ := hid hq
        have C : ∀ w1, New w w1 → Calls Try.prog 165 #[v1, .int .i64 (runOf a.nx k ws)] w1 fun e w' => e = .returned (.bool true) ∧ w' = w1 := fun w1 hm => by have := l00Has_any v1 set (runOf a.nx k ws) w1 (h1.new hm); rw [HQ.out] at this; exact this
        have HC := hid C
        have HL := hid hlen
        clear hq C hlen
        go_wp2_with (first
          | (go_at_call 162; refine (HT.out _ (New.refl _)).mono ?_; rintro e w1 ⟨rfl, hn1⟩)
          | (go_at_call 165; refine (HC.out _ (hn.trans hn1)).mono ?_; rintro e w' ⟨rfl, rfl⟩)
          | (at_builtin; refine wpList_app rfl _ _ _ rfl Try.underlying25 info_i64 _ _ rfl (ho.new hn1) rfl (by have := HL.out; omega) (by have := hn1.size; have := hn.size; omega) ?_; intro g cap w2 ho2 hg2))
        go_roundw
        case rel =>
          refine ⟨k + 1, by omega, by go_num, ?_, (hn.trans hn1).app hg2 (ho.new hn1) (Nat.le_refl _)⟩
          rw [iota_snoc, filter_snoc, Int.zero_add, if_pos HQ.out]
          exact ho2
        case measure => simp [intOf]; omega
      | false =>
        have HQ := hid hq
        have C : ∀ w1, New w w1 → Calls Try.prog 165 #[v1, .int .i64 (runOf a.nx k ws)] w1 fun e w' => e = .returned (.bool false) ∧ w' = w1 := fun w1 hm => by have := l00Has_any v1 set (runOf a.nx k ws) w1 (h1.new hm); rw [HQ.out] at this; exact this
        have HC := hid C
        clear hq C hlen
        go_wp2_with (first
          | (go_at_call 162; refine (HT.out _ (New.refl _)).mono ?_; rintro e w1 ⟨rfl, hn1⟩)
          | (go_at_call 165; refine (HC.out _ (hn.trans hn1)).mono ?_; rintro e w' ⟨rfl, rfl⟩))
        go_roundw
        case rel =>
          refine ⟨k + 1, by omega, by go_num, ?_, hn.trans hn1⟩
          rw [iota_snoc, filter_snoc, Int.zero_add, if_neg (by rw [HQ.out]; simp), List.append_nil]
          exact ho.new hn1
        case measure => simp [intOf]; omega
    · have e : (k : Int) = a.n := by omega
      go_wp2
      go_ret
      have e2 : (iota 0 k).filter (fun s => hasB set (runOf a.nx s ws)) = preOf a set ws := by rw [preOf, ← e]; simp
      rw [e2] at ho
      refine ⟨_, rfl, hn, ho.own ?_⟩
      have := List.length_filter_le (fun s => hasB set (runOf a.nx s ws)) (iota 0 a.n.toNat)
      rw [iota_length] at this
      unfold preOf; omega

theorem preOf_len (a : Aut) (set ws : List Int) : (preOf a set ws).length ≤ a.n.toNat := by
  have := List.length_filter_le (fun s => hasB set (runOf a.nx s ws)) (iota 0 a.n.toNat)
  rw [iota_length] at this; exact this
set_option maxHeartbeats 1000000 in
theorem specPreimageOf_any (v1 v2 v3 : Value) (a : Aut) (set ws : List Int) (w : World) (h1 : AutAt w v1 a) (h2 : IntsAt w v2 set) (h3 : IntsAt w v3 ws) :
    Calls Try.prog 33 #[v1, v2, v3] w fun e w' => ∃ r, e = .returned (.tuple #[r, .int .i64 (PreimageOf a set ws).2]) ∧ New w w' ∧ OwnInts w.heap.size w'.heap.size w' r (PreimageOf a set ws).1 := by
  obtain ⟨rv, rfl, hr⟩ := h1
  obtain ⟨A, c, rfl⟩ := hr.form
  have hp := PAut.box hr 37
  have hn0 : New w (w.alloc (.cells #[.int .i64 a.n, .slice A a.nx.length c] 37)) := (by repeat (first | with_reducible exact New.refl _ | with_reducible assumption | with_reducible refine New.alloc ?_ _ | with_reducible refine New.drew ?_ | with_reducible refine New.drewN ?_ _ | with_reducible refine New.setCell ?_ (by simp <;> omega) _))
  have hz0 := hn0.size
  obtain ⟨R, hR⟩ : ∃ R, R = PreimageOf a set ws := ⟨_, rfl⟩
  rw [← hR]
  unfold PreimageOf at hR
  go_enter Try.func33, Try.ntmps33
  go_wp2_with (first
    | (go_at_call 77; refine (l01Ok_any _ a _ hp).mono ?_; rintro e w1 ⟨rfl, hn1⟩; obtain ⟨hc_hn1, hf_hn1⟩ := New.both hn1; have hz_hn1 := New.size hn1; try simp only [size_alloc, size_drew, size_drewN, size_setCell] at hz_hn1)
    | (go_at_call 93; refine (l01Set_any _ _ a set _ (hp.new (by repeat (first | with_reducible exact New.refl _ | with_reducible assumption | with_reducible refine New.alloc ?_ _ | with_reducible refine New.drewN ?_ _ | with_reducible refine New.drew ?_ | with_reducible refine New.trans ?_ (by with_reducible assumption)))) (h2.new (by repeat (first | with_reducible exact New.refl _ | with_reducible assumption | with_reducible refine New.alloc ?_ _ | with_reducible refine New.drewN ?_ _ | with_reducible refine New.drew ?_ | with_reducible refine New.trans ?_ (by with_reducible assumption)))) (by have := autOk_n (a := a) (by simpa using ‹(!autOk a) = false›); omega) (by have := autOk_n (a := a) (by simpa using ‹(!autOk a) = false›); omega)).mono ?_; rintro e w2 ⟨rfl, hn2⟩; obtain ⟨hc_hn2, hf_hn2⟩ := New.both hn2; have hz_hn2 := New.size hn2; try simp only [size_alloc, size_drew, size_drewN, size_setCell] at hz_hn2)
    | (go_at_call 66; refine (l01Word_any _ _ a ws _ (hp.new (by repeat (first | with_reducible exact New.refl _ | with_reducible assumption | with_reducible refine New.alloc ?_ _ | with_reducible refine New.drewN ?_ _ | with_reducible refine New.drew ?_ | with_reducible refine New.trans ?_ (by with_reducible assumption)))) (h3.new (by repeat (first | with_reducible exact New.refl _ | with_reducible assumption | with_reducible refine New.alloc ?_ _ | with_reducible refine New.drewN ?_ _ | with_reducible refine New.drew ?_ | with_reducible refine New.trans ?_ (by with_reducible assumption))))).mono ?_; rintro e w3 ⟨rfl, hn3⟩; obtain ⟨hc_hn3, hf_hn3⟩ := New.both hn3; have hz_hn3 := New.size hn3; try simp only [size_alloc, size_drew, size_drewN, size_setCell] at hz_hn3)
    | (go_at_call 94; refine (l01Back_any _ _ _ a set ws _ (hp.new (by repeat (first | with_reducible exact New.refl _ | with_reducible assumption | with_reducible refine New.alloc ?_ _ | with_reducible refine New.drewN ?_ _ | with_reducible refine New.drew ?_ | with_reducible refine New.trans ?_ (by with_reducible assumption)))) (h2.new (by repeat (first | with_reducible exact New.refl _ | with_reducible assumption | with_reducible refine New.alloc ?_ _ | with_reducible refine New.drewN ?_ _ | with_reducible refine New.drew ?_ | with_reducible refine New.trans ?_ (by with_reducible assumption)))) (h3.new (by repeat (first | with_reducible exact New.refl _ | with_reducible assumption | with_reducible refine New.alloc ?_ _ | with_reducible refine New.drewN ?_ _ | with_reducible refine New.drew ?_ | with_reducible refine New.trans ?_ (by with_reducible assumption)))) (by simp_all) (letters_of (by simp_all))).mono ?_; rintro e w4 ⟨r, rfl, hn4, ho⟩; obtain ⟨hc_hn4, hf_hn4⟩ := New.both hn4; have hz_hn4 := New.size hn4; try simp only [size_alloc, size_drew, size_drewN, size_setCell] at hz_hn4))
  all_goals go_ret2
  all_goals first
    | (have e : R = ([], 1) := by (rw [hR]; simp_all)
       rw [e]; exact ⟨_, rfl, (by repeat (first | with_reducible exact New.refl _ | with_reducible assumption | with_reducible refine New.alloc ?_ _ | with_reducible refine New.drewN ?_ _ | with_reducible refine New.drew ?_ | with_reducible refine New.trans ?_ (by with_reducible assumption))), OwnInts.none' _ (by (try simp only [size_alloc, size_drew, size_drewN, size_setCell]) <;> omega) (by (try simp only [size_alloc, size_drew, size_drewN, size_setCell]) <;> omega)⟩)
    | (have e : R = ([], 2) := by (rw [hR]; simp_all)
       rw [e]; exact ⟨_, rfl, (by repeat (first | with_reducible exact New.refl _ | with_reducible assumption | with_reducible refine New.alloc ?_ _ | with_reducible refine New.drewN ?_ _ | with_reducible refine New.drew ?_ | with_reducible refine New.trans ?_ (by with_reducible assumption))), OwnInts.none' _ (by (try simp only [size_alloc, size_drew, size_drewN, size_setCell]) <;> omega) (by (try simp only [size_alloc, size_drew, size_drewN, size_setCell]) <;> omega)⟩)
    | (have e : R = (preOf a set ws, 0) := by (rw [hR]; simp_all)
       rw [e]; exact ⟨_, rfl, (by repeat (first | with_reducible exact New.refl _ | with_reducible assumption | with_reducible refine New.alloc ?_ _ | with_reducible refine New.drewN ?_ _ | with_reducible refine New.drew ?_ | with_reducible refine New.trans ?_ (by with_reducible assumption))), ho.widen (by (try simp only [size_alloc, size_drew, size_drewN, size_setCell]) <;> omega) (Nat.le_refl _)⟩)

end Go.Proofs.Ytjchopnglcjnnaa
