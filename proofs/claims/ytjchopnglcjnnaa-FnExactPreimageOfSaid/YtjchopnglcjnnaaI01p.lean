/- The program's preimage of a set. -/
import Derived.Test.YtjchopnglcjnnaaRows
import Derived.Test.YtjchopnglcjnnaaBase
import Derived.Test.YtjchopnglcjnnaaAut
import Derived.Test.YtjchopnglcjnnaaApp
import Derived.Test.YtjchopnglcjnnaaInfo
import Derived.Test.YtjchopnglcjnnaaPlain1
import Derived.Test.YtjchopnglcjnnaaPlainRun
import Derived.Test.YtjchopnglcjnnaaPlainSet
import Derived.Test.YtjchopnglcjnnaaI01a
import Derived.Test.YtjchopnglcjnnaaI01b
import Derived.Test.YtjchopnglcjnnaaI01c
import Derived.Test.YtjchopnglcjnnaaIIdx
import Derived.Test.YtjchopnglcjnnaaPre
import Derived.WalkKit
import Derived.WalkSpells
import Derived.WalkLawsBesides
import Derived.Deep.QuietTactic
import Derived.Deep.OwnRows
import Derived.BigQuiet
import Derived.KernelRfl
namespace Go.Proofs.Ytjchopnglcjnnaa
open Go.RowKit

set_option maxHeartbeats 1000000 in
theorem preimage_any (v1 v2 v3 : Value) (a : Aut) (set ws : List Int) (w : World) (h1 : AutAt w v1 a) (h2 : IntsAt w v2 set) (h3 : IntsAt w v3 ws) (ha : autOk a = true) (hw : letters a ws) :
    Calls Try.prog 98 #[v1, v2, v3] w fun e w' => ∃ r, e = .returned r ∧ New w w' ∧ OwnInts w.heap.size w'.heap.size w' r (preOf a set ws) := by
  obtain ⟨rv, rfl, hr⟩ := h1
  obtain ⟨A2, c2, rfl⟩ := hr.form
  have HA := hid ha
  have HW := hid hw
  clear ha hw
  have h1 : AutAt w (.agg #[.int .i64 a.n, .slice A2 a.nx.length c2]) a := ⟨_, rfl, hr⟩
  have hnb : New w (w.alloc (.cells #[.int .i64 a.n, .slice A2 a.nx.length c2] 37)) := (by repeat (first | with_reducible exact New.refl _ | with_reducible assumption | with_reducible refine New.alloc ?_ _ | with_reducible refine New.drew ?_ | with_reducible refine New.drewN ?_ _ | with_reducible refine New.setCell ?_ (by simp <;> omega) _))
  go_enter Try.func98, Try.ntmps98
  go_wp2
  go_loopw [7, 8, 12] (fun q _ i wr => ∃ k : Nat, (k : Int) ≤ a.n ∧ i = .int .i64 k ∧ Grow (w.heap.size + 1) 2 wr q ((iota 0 k).filter fun s => hasB set (runOf a.nx s ws)) ∧ New (w.alloc (.cells #[.int .i64 a.n, .slice A2 a.nx.length c2] 37)) wr) (fun _ _ i _ => a.n.toNat - (intOf i).toNat)
  case atStart => exact ⟨0, by have := autOk_n HA.out; omega, rfl, by have := Grow.empty (w.heap.size + 1) 2 (w.alloc (.cells #[.int .i64 a.n, .slice A2 a.nx.length c2] 37)) (by (try simp only [size_alloc, size_drew, size_drewN, size_setCell]) <;> omega); rw [size_alloc] at this; exact this, (by repeat (first | with_reducible exact New.refl _ | with_reducible assumption | with_reducible refine New.alloc ?_ _ | with_reducible refine New.drew ?_ | with_reducible refine New.drewN ?_ _ | with_reducible refine New.setCell ?_ (by simp <;> omega) _))⟩
  case round =>
    obtain ⟨k, hk, rfl, ho, hn⟩ := hrel
    have hn10 := (autOk_n HA.out).2
    have hn0 : New w wr := New.trans hnb hn
    have hz0 := hn.size
    simp only [size_alloc] at hz0
    by_cases hlt : (k : Int) < a.n
    · have hp0 : wr.cell? ⟨w.heap.size, 0, none⟩ = some (.int .i64 a.n) := hn.cell (by go_simp)
      have hp1 : wr.cell? ⟨w.heap.size, 1, none⟩ = some (.slice A2 a.nx.length c2) := hn.cell (by go_simp)
      have hlen : ((iota 0 k).filter fun s => hasB set (runOf a.nx s ws)).length ≤ k := by
        have := List.length_filter_le (fun s => hasB set (runOf a.nx s ws)) (iota 0 k)
        rw [iota_length] at this; exact this
      have HL := hid hlen
      clear hlen
      cases hq : hasB set (runOf a.nx k ws) with
      | true =>
        have HQ := hid hq
        have HC := hid (fun w1 (hm : New w w1) => show Calls Try.prog 166 #[v2, .int .i64 (runOf a.nx k ws)] w1 (fun e w' => e = .returned (.bool true) ∧ w' = w1) by have := Contains64_any v2 set (runOf a.nx k ws) w1 (h2.new hm); rw [HQ.out] at this; exact this)
        clear hq
        go_wp2_with (first
          | (go_at_call 167; refine (at_any _ _ a _ _ _ (h1.new hn0) (h3.new hn0) HA.out HW.out ⟨by omega, hlt⟩).mono ?_; rintro e w1 ⟨rfl, hn1⟩)
          | (go_at_call 166; refine (HC.out _ (hn0.trans hn1)).mono ?_; rintro e w' ⟨rfl, rfl⟩)
          | (at_builtin; refine wpList_app rfl _ _ _ rfl Try.underlying25 info_i64 _ _ rfl (ho.new hn1) rfl (by have := HL.out; omega) (by have := hn1.size; omega) ?_; intro g cap w2 ho2 hg2))
        go_roundw
        case rel =>
          refine ⟨k + 1, by omega, by go_num, ?_, (hn.trans hn1).app hg2 (ho.new hn1) (by (try simp only [size_alloc, size_drew, size_drewN, size_setCell]) <;> omega)⟩
          rw [iota_snoc, filter_snoc, Int.zero_add, if_pos HQ.out]
          exact ho2
        case measure => simp [intOf]; omega
      | false =>
        have HQ := hid hq
        have HC := hid (fun w1 (hm : New w w1) => show Calls Try.prog 166 #[v2, .int .i64 (runOf a.nx k ws)] w1 (fun e w' => e = .returned (.bool false) ∧ w' = w1) by have := Contains64_any v2 set (runOf a.nx k ws) w1 (h2.new hm); rw [HQ.out] at this; exact this)
        clear hq
        go_wp2_with (first
          | (go_at_call 167; refine (at_any _ _ a _ _ _ (h1.new hn0) (h3.new hn0) HA.out HW.out ⟨by omega, hlt⟩).mono ?_; rintro e w1 ⟨rfl, hn1⟩)
          | (go_at_call 166; refine (HC.out _ (hn0.trans hn1)).mono ?_; rintro e w' ⟨rfl, rfl⟩))
        go_roundw
        case rel =>
          refine ⟨k + 1, by omega, by go_num, ?_, hn.trans hn1⟩
          rw [iota_snoc, filter_snoc, Int.zero_add, if_neg (by rw [HQ.out]; simp), List.append_nil]
          exact ho.new hn1
        case measure => simp [intOf]; omega
    · have e : (k : Int) = a.n := by omega
      go_wp2
      go_ret
      have e2 : (iota 0 k).filter (fun s => hasB set (runOf a.nx s ws)) = preOf a set ws := by rw [preOf, ← e]; simp
      rw [e2] at ho
      exact ⟨_, rfl, hn0, (ho.own (by have := preOf_len a set ws; omega)).widen (by omega) (Nat.le_refl _)⟩
set_option maxHeartbeats 400000 in
theorem PreimageOf1_any (b1 b2 b3 : Nat) (rv v2 v3 : Value) (a : Aut) (set ws : List Int) (w : World) (ha : autOk a = true)
    (hs : w.cell? ⟨b2, 0, none⟩ = some v2) (hsv : IntsAt w v2 set) (h0 : w.cell? ⟨b1, 0, none⟩ = some (.int .i64 a.n)) (h1 : w.cell? ⟨b1, 1, none⟩ = some rv) (hr : RowsAt w rv a.nx)
    (h2 : w.cell? ⟨b3, 0, none⟩ = some v3) (hv : IntsAt w v3 ws) :
    Calls Try.prog 95 #[.pointer (some ⟨b2, 0, none⟩), .pointer (some ⟨b1, 0, none⟩), .pointer (some ⟨b3, 0, none⟩)] w fun e w' => e = .returned (.bool (setB set a.n && wordOk a ws)) ∧ New w w' := by
  have hn := autOk_n ha
  have n0 : 0 ≤ a.n := by omega
  have n1 : a.n ≤ 1048576 := by omega
  clear ha hn
  go_enter Try.func95, Try.ntmps95
  go_wp2_with (first
    | (go_at_call 96; refine (isSet_any _ _ _ _ hsv n0 n1).mono ?_; rintro e w2 ⟨rfl, rfl⟩)
    | (go_at_call 97; refine (isWord_any _ _ a _ _ ⟨_, rfl, hr⟩ hv).mono ?_; rintro e w2 ⟨rfl, hn2⟩))
  all_goals go_ret
  all_goals first
    | exact ⟨ret_bool (by simp_all), (by repeat (first | with_reducible exact New.refl _ | with_reducible assumption | with_reducible refine New.alloc ?_ _ | with_reducible refine New.drewN ?_ _ | with_reducible refine New.drew ?_ | with_reducible refine New.trans ?_ (by with_reducible assumption)))⟩
set_option maxHeartbeats 800000 in
theorem implPreimageOf_any (v1 v2 v3 : Value) (a : Aut) (set ws : List Int) (w : World) (h1 : AutAt w v1 a) (h2 : IntsAt w v2 set) (h3 : IntsAt w v3 ws) :
    Calls Try.prog 34 #[v1, v2, v3] w fun e w' => ∃ r, e = .returned (.tuple #[r, .int .i64 (PreimageOf a set ws).2]) ∧ New w w' ∧ OwnInts w.heap.size w'.heap.size w' r (PreimageOf a set ws).1 := by
  obtain ⟨rv, rfl, hr⟩ := h1
  obtain ⟨A, c, rfl⟩ := hr.form
  obtain ⟨A2, c2, rfl⟩ := h2.form
  obtain ⟨A3, c3, rfl⟩ := h3.form
  have h1 : AutAt w (.agg #[.int .i64 a.n, .slice A a.nx.length c]) a := ⟨_, rfl, hr⟩
  obtain ⟨wb, hwb⟩ : ∃ wb, wb = ((w.alloc (.cells #[.int .i64 a.n, .slice A a.nx.length c] 37)).alloc (.cells #[.slice A2 set.length c2] 25)).alloc (.cells #[.slice A3 ws.length c3] 25) := ⟨_, rfl⟩
  have hnb : New w wb := by rw [hwb]; exact (by repeat (first | with_reducible exact New.refl _ | with_reducible assumption | with_reducible refine New.alloc ?_ _ | with_reducible refine New.drew ?_ | with_reducible refine New.drewN ?_ _ | with_reducible refine New.setCell ?_ (by simp <;> omega) _))
  have hz : w.heap.size + 3 = wb.heap.size := by rw [hwb]; simp only [size_alloc]
  have hb0 : wb.cell? ⟨w.heap.size, 0, none⟩ = some (.int .i64 a.n) := by rw [hwb]; go_simp
  have hb1 : wb.cell? ⟨w.heap.size, 1, none⟩ = some (.slice A a.nx.length c) := by rw [hwb]; go_simp
  have hb2 : wb.cell? ⟨w.heap.size + 1, 0, none⟩ = some (.slice A2 set.length c2) := by rw [hwb]; go_simp
  have hb3 : wb.cell? ⟨w.heap.size + 2, 0, none⟩ = some (.slice A3 ws.length c3) := by rw [hwb]; go_simp
  have HC : Calls Try.prog 80 #[.agg #[.int .i64 a.n, .slice A a.nx.length c], .func (.func 95) #[] #[.pointer (some ⟨w.heap.size + 1, 0, none⟩), .pointer (some ⟨w.heap.size, 0, none⟩), .pointer (some ⟨w.heap.size + 2, 0, none⟩)]] wb
      fun e w' => e = .returned (.int .i64 (codeOf (autOk a) (setB set a.n && wordOk a ws))) ∧ New wb w' := by
    refine code_any _ a _ _ _ _ (h1.new hnb) (enters Try.func95 (by decide) (by simp [Try.f95])) fun ha w' hw => ?_
    exact PreimageOf1_any _ _ _ _ _ _ a set ws _ ha (hw.cell hb2) (h2.new (by repeat (first | with_reducible exact New.refl _ | with_reducible assumption | with_reducible refine New.alloc ?_ _ | with_reducible refine New.drewN ?_ _ | with_reducible refine New.drew ?_ | with_reducible refine New.trans ?_ (by with_reducible assumption)))) (hw.cell hb0) (hw.cell hb1) (hr.new (by repeat (first | with_reducible exact New.refl _ | with_reducible assumption | with_reducible refine New.alloc ?_ _ | with_reducible refine New.drewN ?_ _ | with_reducible refine New.drew ?_ | with_reducible refine New.trans ?_ (by with_reducible assumption)))) (hw.cell hb3) (h3.new (by repeat (first | with_reducible exact New.refl _ | with_reducible assumption | with_reducible refine New.alloc ?_ _ | with_reducible refine New.drewN ?_ _ | with_reducible refine New.drew ?_ | with_reducible refine New.trans ?_ (by with_reducible assumption))))
  obtain ⟨R, hR⟩ : ∃ R, R = PreimageOf a set ws := ⟨_, rfl⟩
  rw [← hR]
  unfold PreimageOf at hR
  have HR := hid hR
  clear hR
  go_enter Try.func34, Try.ntmps34
  go_wp2_with fail
  rw [← hwb]
  refine HC.mono ?_
  rintro e w1 ⟨rfl, hn1⟩
  have hz1 := hn1.size
  replace hb0 := hn1.cell hb0
  replace hb1 := hn1.cell hb1
  replace hb2 := hn1.cell hb2
  replace hb3 := hn1.cell hb3
  clear hwb HC
  cases ha : autOk a with
  | false =>
    have e : codeOf false (setB set a.n && wordOk a ws) = 1 := rfl
    have e2 : R = ([], 1) := by rw [HR.out, ha]; rfl
    rw [e]
    go_wp2
    go_ret2
    rw [e2]
    exact ⟨_, rfl, (by repeat (first | with_reducible exact New.refl _ | with_reducible assumption | with_reducible refine New.alloc ?_ _ | with_reducible refine New.drewN ?_ _ | with_reducible refine New.drew ?_ | with_reducible refine New.trans ?_ (by with_reducible assumption))), OwnInts.nil _ _ _⟩
  | true =>
    cases hs : (setB set a.n && wordOk a ws) with
    | false =>
      have e : codeOf true false = 2 := rfl
      have e2 : R = ([], 2) := by rw [HR.out, ha, hs]; rfl
      rw [e]
      go_wp2
      go_ret2
      rw [e2]
      exact ⟨_, rfl, (by repeat (first | with_reducible exact New.refl _ | with_reducible assumption | with_reducible refine New.alloc ?_ _ | with_reducible refine New.drewN ?_ _ | with_reducible refine New.drew ?_ | with_reducible refine New.trans ?_ (by with_reducible assumption))), OwnInts.nil _ _ _⟩
    | true =>
      have e : codeOf true true = 0 := rfl
      have e2 : R = (preOf a set ws, 0) := by rw [HR.out, ha, hs]; rfl
      rw [e]
      have hw : wordOk a ws = true := by rw [Bool.and_eq_true] at hs; exact hs.2
      go_wp2_with (go_at_call 98; refine (preimage_any _ _ _ a set ws _ (h1.new (by repeat (first | with_reducible exact New.refl _ | with_reducible assumption | with_reducible refine New.alloc ?_ _ | with_reducible refine New.drewN ?_ _ | with_reducible refine New.drew ?_ | with_reducible refine New.trans ?_ (by with_reducible assumption)))) (h2.new (by repeat (first | with_reducible exact New.refl _ | with_reducible assumption | with_reducible refine New.alloc ?_ _ | with_reducible refine New.drewN ?_ _ | with_reducible refine New.drew ?_ | with_reducible refine New.trans ?_ (by with_reducible assumption)))) (h3.new (by repeat (first | with_reducible exact New.refl _ | with_reducible assumption | with_reducible refine New.alloc ?_ _ | with_reducible refine New.drewN ?_ _ | with_reducible refine New.drew ?_ | with_reducible refine New.trans ?_ (by with_reducible assumption)))) ha (letters_of hw)).mono ?_; rintro e w2 ⟨r, rfl, hn2, ho⟩)
      go_ret2
      rw [e2]
      exact ⟨_, rfl, (by repeat (first | with_reducible exact New.refl _ | with_reducible assumption | with_reducible refine New.alloc ?_ _ | with_reducible refine New.drewN ?_ _ | with_reducible refine New.drew ?_ | with_reducible refine New.trans ?_ (by with_reducible assumption))), ho.widen (by omega) (Nat.le_refl _)⟩

end Go.Proofs.Ytjchopnglcjnnaa
