/- The program's swap of two letters. -/
import Derived.Test.YtdaaglfemaoigaaRows
import Derived.Test.YtdaaglfemaoigaaBase
import Derived.Test.YtdaaglfemaoigaaAut
import Derived.Test.YtdaaglfemaoigaaApp
import Derived.Test.YtdaaglfemaoigaaAppRows
import Derived.Test.YtdaaglfemaoigaaAppStep
import Derived.Test.YtdaaglfemaoigaaInfo
import Derived.Test.YtdaaglfemaoigaaPlain1
import Derived.Test.YtdaaglfemaoigaaPlainRun
import Derived.Test.YtdaaglfemaoigaaPlainSet
import Derived.Test.YtdaaglfemaoigaaPlainRen
import Derived.Test.YtdaaglfemaoigaaPlainSwap
import Derived.Test.YtdaaglfemaoigaaOwnC
import Derived.Test.YtdaaglfemaoigaaI01a
import Derived.Test.YtdaaglfemaoigaaI01b
import Derived.Test.YtdaaglfemaoigaaI01c
import Derived.Test.YtdaaglfemaoigaaIMerge
import Derived.Test.YtdaaglfemaoigaaIRen
import Derived.WalkKit
import Derived.WalkSpells
import Derived.WalkLawsBesides
import Derived.Deep.QuietTactic
import Derived.Deep.OwnRows
import Derived.BigQuiet
import Derived.KernelRfl
import Derived.Deep.RegionLaw
import Derived.Deep.RegionHeld3
import Derived.BigRegion
namespace Go.Proofs.Ytdaaglfemaoigaa
open Go.RowKit

theorem IntsAt.two {w : World} {b : Nat} {x y : Int} (h0 : w.cell? ⟨b, 0, none⟩ = some (.int .i64 x)) (h1 : w.cell? ⟨b, 1, none⟩ = some (.int .i64 y)) : IntsAt w (.slice (some ⟨b, 0, none⟩) 2 2) [x, y] := by
  refine ⟨some ⟨b, 0, none⟩, 2, rfl, by simp, fun i hi => ⟨b, 0, rfl, ?_⟩⟩
  have : i = 0 ∨ i = 1 := by simp at hi; omega
  rcases this with rfl | rfl
  · exact h0
  · exact h1
theorem allIn_two (x y lo hi : Int) : allIn [x, y] lo hi = (inB x lo hi && inB y lo hi) := by simp [allIn]
set_option maxRecDepth 20000 in
set_option maxHeartbeats 1000000 in
theorem SwapColours1_any (b1 b2 b3 b4 : Nat) (rv : Value) (a : Aut) (s x y : Int) (w : World) (h0 : w.cell? ⟨b1, 0, none⟩ = some (.int .i64 a.n)) (h1 : w.cell? ⟨b1, 1, none⟩ = some rv) (hr : RowsAt w rv a.nx)
    (h2 : w.cell? ⟨b2, 0, none⟩ = some (.int .i64 s)) (h3 : w.cell? ⟨b3, 0, none⟩ = some (.int .i64 x)) (h4 : w.cell? ⟨b4, 0, none⟩ = some (.int .i64 y)) (ha : autOk a = true) :
    Calls Try.prog 71 #[.pointer (some ⟨b1, 0, none⟩), .pointer (some ⟨b2, 0, none⟩), .pointer (some ⟨b3, 0, none⟩), .pointer (some ⟨b4, 0, none⟩)] w fun e w' => e = .returned (.bool (swapIn a s x y)) ∧ New w w' := by
  have han := autOk_n ha
  have hal := autOk_l ha
  have C1 := hid (fun w1 (hn : New w w1) => isState_any (.agg #[.int .i64 a.n, rv]) a s w1 ⟨rv, rfl, hr.new hn⟩ (by omega) (by omega))
  have C2 := hid (fun w1 (hn : New w w1) => letters_any (.agg #[.int .i64 a.n, rv]) a w1 ⟨rv, rfl, hr.new hn⟩)
  have C3 := hid (fun w1 (b : Nat) lo hi (q0 : w1.cell? ⟨b, 0, none⟩ = some (.int .i64 x)) (q1 : w1.cell? ⟨b, 1, none⟩ = some (.int .i64 y)) => areWithin_any _ _ lo hi w1 (IntsAt.two q0 q1))
  obtain ⟨A, c, rfl⟩ := hr.form
  cases hs : inB s 0 (a.n - 1) with
  | false =>
    have HS := hid hs
    have e : swapIn a s x y = false := by unfold swapIn; rw [hs]; rfl
    rw [e]
    clear ha hs e
    go_enter Try.func71, Try.ntmps71
    go_wp2_with fail
    go_region_law (first
      | (go_simp; go_at_call 72; refine (C1.out _ (by repeat (first | with_reducible exact New.refl _ | with_reducible assumption | with_reducible refine New.alloc ?_ _ | with_reducible refine New.drew ?_ | with_reducible refine New.drewN ?_ _ | with_reducible refine New.setCell ?_ (by simp <;> omega) _))).mono ?_; rw [HS.out]; rintro e w2 ⟨rfl, hn2⟩))
    all_goals
      go_wp2
      go_ret
      exact ⟨rfl, New.trans (by repeat (first | with_reducible exact New.refl _ | with_reducible assumption | with_reducible refine New.alloc ?_ _ | with_reducible refine New.drew ?_ | with_reducible refine New.drewN ?_ _ | with_reducible refine New.setCell ?_ (by simp <;> omega) _)) hn2⟩
  | true =>
    have HS := hid hs
    have e : swapIn a s x y = allIn [x, y] 0 ((a.nx.length : Int) - 1) := by unfold swapIn; rw [hs, allIn_two]; rfl
    have kw : IntKind.i64.wrap ((a.nx.length : Int) - 1) = (a.nx.length : Int) - 1 := IntWalk.i64_in _ (by omega)
    rw [e]
    have HSS := hid (fun (w' : World) (hm : New w w') => (show w'.cell? ⟨b1, 0, none⟩ = some (.int .i64 a.n) ∧ w'.cell? ⟨b1, 1, none⟩ = some (.slice A a.nx.length c) ∧ w'.cell? ⟨b2, 0, none⟩ = some (.int .i64 s) ∧ w'.cell? ⟨b3, 0, none⟩ = some (.int .i64 x) ∧ w'.cell? ⟨b4, 0, none⟩ = some (.int .i64 y) from ⟨hm.cell h0, hm.cell h1, hm.cell h2, hm.cell h3, hm.cell h4⟩))
    clear ha hs e
    go_enter Try.func71, Try.ntmps71
    go_wp2_with fail
    go_region_held3 (fun w' => w'.cell? ⟨b1, 0, none⟩ = some (.int .i64 a.n) ∧ w'.cell? ⟨b1, 1, none⟩ = some (.slice A a.nx.length c) ∧ w'.cell? ⟨b2, 0, none⟩ = some (.int .i64 s) ∧ w'.cell? ⟨b3, 0, none⟩ = some (.int .i64 x) ∧ w'.cell? ⟨b4, 0, none⟩ = some (.int .i64 y))
      (first | exact HSS.out _ hm4 | exact HSS.out _ hm3 | exact HSS.out _ (hm3.alloc _) | exact HSS.out _ hm2 | exact HSS.out _ (hm2.alloc _) | exact HSS.out _ (New.refl _).drew | go_keep)
      (first
      | (go_at_call 72; refine (C1.out _ (by repeat (first | with_reducible exact New.refl _ | with_reducible assumption | with_reducible refine New.alloc ?_ _ | with_reducible refine New.drew ?_ | with_reducible refine New.drewN ?_ _ | with_reducible refine New.setCell ?_ (by simp <;> omega) _))).mono ?_; rw [HS.out]; rintro e w2 ⟨rfl, hn2⟩; have hm2 : New w w2 := New.trans (by repeat (first | with_reducible exact New.refl _ | with_reducible assumption | with_reducible refine New.alloc ?_ _ | with_reducible refine New.drew ?_ | with_reducible refine New.drewN ?_ _ | with_reducible refine New.setCell ?_ (by simp <;> omega) _)) hn2)
      | (go_at_call 74; refine (C2.out _ (hm2.trans (by repeat (first | with_reducible exact New.refl _ | with_reducible assumption | with_reducible refine New.alloc ?_ _ | with_reducible refine New.drew ?_ | with_reducible refine New.drewN ?_ _ | with_reducible refine New.setCell ?_ (by simp <;> omega) _)))).mono ?_; rintro e w3 ⟨rfl, hn3⟩; have hm3 : New w w3 := New.trans (hm2.trans (by repeat (first | with_reducible exact New.refl _ | with_reducible assumption | with_reducible refine New.alloc ?_ _ | with_reducible refine New.drew ?_ | with_reducible refine New.drewN ?_ _ | with_reducible refine New.setCell ?_ (by simp <;> omega) _))) hn3)
      | (go_at_call 73; refine (C3.out _ _ _ _ (by first | (go_simp; done) | exact hn3.cell (by go_simp)) (by first | (go_simp; done) | exact hn3.cell (by go_simp))).mono ?_; rintro e w4 ⟨rfl, hn4⟩; have hm4 : New w w4 := (hm3.trans (by repeat (first | with_reducible exact New.refl _ | with_reducible assumption | with_reducible refine New.alloc ?_ _ | with_reducible refine New.drew ?_ | with_reducible refine New.drewN ?_ _ | with_reducible refine New.setCell ?_ (by simp <;> omega) _))).trans hn4))
    all_goals
      go_wp2
      go_ret
      exact ⟨rfl, hm4⟩
theorem SwapColours_code (a : Aut) (s x y : Int) : codeOf (autOk a) (swapIn a s x y) = (SwapColours a s x y).2 := by
  unfold codeOf SwapColours
  split
  · split <;> rfl
  · rfl

end Go.Proofs.Ytdaaglfemaoigaa
