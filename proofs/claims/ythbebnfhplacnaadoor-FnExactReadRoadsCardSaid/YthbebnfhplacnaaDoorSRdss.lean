/- Parts of the proof that lean on no program: SSort, SRoads, S05a. -/
import Derived.Test.YthbebnfhplacnaaDoorRows
import Derived.Test.YthbebnfhplacnaaDoorCore
import Derived.Test.YthbebnfhplacnaaDoorInfos
import Derived.Test.YthbebnfhplacnaaDoorPlains
import Derived.Test.YthbebnfhplacnaaDoorJoins
import Derived.Test.YthbebnfhplacnaaDoorGapsG
import Derived.Test.YthbebnfhplacnaaDoorSBase
import Derived.WalkKit
import Derived.WalkSpells
import Derived.WalkLawsBesides
import Derived.Deep.QuietTactic
import Derived.Deep.OwnRows
import Derived.BigQuiet
import Derived.KernelRfl
import Derived.Deep.RegionLaw
namespace Go.Proofs.YthbebnfhplacnaaDoor
open Go.RowKit

section
end
section
theorem cell_box (w : World) (z : Value) (T : TypeId) : (w.alloc (.cells #[z] T)).cell? ⟨w.heap.size, 0, none⟩ = some z := by unfold World.cell?; rw [heap_alloc_new]; rfl
end
section
set_option maxRecDepth 20000 in
set_option maxHeartbeats 2000000 in
theorem l05Ok_any (p : Value) (r : Aut) (w : World) (hp : PAut w p r) :
    Calls Tryd.prog 11 #[p] w fun e w' => e = .returned (.bool (roadsOk r)) ∧ New w w' := by
  obtain ⟨pb, rv, rfl, h0, h1, hr⟩ := hp
  obtain ⟨A, c, rfl⟩ := hr.form
  have hl := hr.len
  by_cases hn : inB r.n 1 7 = true
  · have hn' := (inB_iff _ _ _).1 hn
    have hn0 : 1 ≤ r.n := hn'.1
    have hn1 : r.n ≤ 7 := hn'.2
    have HN := hid hn
    have C1 : ∀ w, Calls Tryd.prog 21 #[.int .i64 r.n, .int .i64 1, .int .i64 7] w fun e' w' => e' = .returned (.bool true) ∧ w' = w := fun w => by have := l00In_any r.n 1 7 w; rw [HN.out] at this; exact this
    clear hn hn'
    by_cases hlen : (r.nx.length : Int) = r.n
    · have hb : ((r.nx.length : Int) != r.n) = false := by simp [hlen]
      have HL := hid hlen
      have kl0 : 0 < r.nx.length := by omega
      have kl1 : (0 : Int) < (r.nx.length : Int) := by omega
      obtain ⟨A1, c1, e1, hl1, hc1⟩ := hr
      cases e1
      obtain ⟨b, off, rv0, rfl, hx0, hr0⟩ := hc1 0 kl0
      obtain ⟨A2, c2, rfl, hl2, hc2⟩ := hr0
      rw [Nat.add_zero] at hx0
      clear hlen
      cases hd : inB ((nth r.nx 0).length : Int) 1 3 with
      | true =>
        have HD := hid hd
        have CC : ∀ (x y : Int) (bb : Bool) w, (x = r.n ∧ y = 7 ∧ bb = true) ∨ (x = ((nth r.nx 0).length : Int) ∧ y = 3 ∧ bb = true) → Calls Tryd.prog 21 #[.int .i64 x, .int .i64 1, .int .i64 y] w fun e' w' => e' = .returned (.bool bb) ∧ w' = w := fun x y bb w hh => by
          rcases hh with ⟨rfl, rfl, rfl⟩ | ⟨rfl, rfl, rfl⟩
          · exact C1 w
          · have := l00In_any ((nth r.nx 0).length : Int) 1 3 w; rw [HD.out] at this; exact this
        clear C1
        clear hd hc2
        go_enter Tryd.func11, Tryd.ntmps11
        go_wp2_with fail
        go_quiet ((go_at_call 21; first | exact Calls.quiet_of_same (CC _ _ _ _ (Or.inl ⟨rfl, rfl, rfl⟩)) | exact Calls.quiet_of_same (CC _ _ _ _ (Or.inr ⟨rfl, rfl, rfl⟩))))
        have hN : New w (w.drewN nq) := (New.refl _).drewN nq
        clear CC
        go_wp2
        go_loopw [3] (fun i wr => ∃ k : Nat, k ≤ r.nx.length ∧ i = .int .i64 k ∧ Hid (∀ j, j < k → roadRow (nth r.nx 0).length r.n (nth r.nx j) = true) ∧ New w wr) (fun i _ => r.nx.length - (intOf i).toNat)
        case atStart => exact ⟨0, Nat.zero_le _, rfl, fun j hj => absurd hj (by omega), hN⟩
        case round =>
          clear hN
          obtain ⟨s, hs, rfl, he, hw⟩ := hrel
          replace h0 := hw.cell h0
          replace h1 := hw.cell h1
          replace hx0 := hw.cell hx0
          by_cases hlt : s < r.nx.length
          · obtain ⟨b', off', rs, e', hx, hrs⟩ := hc1 s hlt
            cases e'
            have kb1 : (s : Int) < (r.nx.length : Int) := by omega
            replace hx := hw.cell hx
            replace hrs := hrs.new hw
            obtain ⟨A3, c3, rfl, hl3, hc3⟩ := hrs
            clear hc1
            by_cases hlen2 : (nth r.nx s).length = (nth r.nx 0).length
            · have hb2 : (((nth r.nx s).length : Int) != (nth r.nx 0).length) = false := by simp [hlen2]
              have HL2 := hid hlen2
              clear hlen2
              go_wp2_with fail
              go_quiet (fail)
              have hw2 : New w (wr.drewN nq) := hw.drewN nq
              have g0 : (wr.drewN nq).cell? ⟨pb, 0, none⟩ = some (.int .i64 r.n) := h0
              have g1 : (wr.drewN nq).cell? ⟨pb, 1, none⟩ = some (.slice (some ⟨b, off, none⟩) r.nx.length c) := h1
              have gx : (wr.drewN nq).cell? ⟨b, off + s, none⟩ = some (.slice A3 (nth r.nx s).length c3) := hx
              have g3 : ∀ i, i < (nth r.nx s).length → ∃ b off, A3 = some ⟨b, off, none⟩ ∧ (wr.drewN nq).cell? ⟨b, off + i, none⟩ = some (.int .i64 (nth (nth r.nx s) i)) := hc3
              clear h0 h1 hx hx0 hw hc3
              generalize wr.drewN nq = wo at hw2 g0 g1 g3 gx ⊢
              go_wp2
              go_loopw [4] (fun i wr => ∃ k : Nat, k ≤ (nth r.nx s).length ∧ i = .int .i64 k ∧ Hid (∀ j, j < k → upAt (nth r.nx s) r.n j = true) ∧ New wo wr) (fun i _ => (nth r.nx s).length - (intOf i).toNat)
              case atStart => exact ⟨0, Nat.zero_le _, rfl, fun j hj => absurd hj (by omega), New.refl _⟩
              case round =>
                obtain ⟨k, hk, rfl, hf, hv⟩ := hrel
                replace g0 := hv.cell g0
                replace g1 := hv.cell g1
                replace gx := hv.cell gx
                by_cases hlk : k < (nth r.nx s).length
                · obtain ⟨b6, off6, rfl, hy⟩ := g3 k hlk
                  replace hy := hv.cell hy
                  have kb2 : (k : Int) < ((nth r.nx s).length : Int) := by omega
                  cases hin : inB (nth (nth r.nx s) k) 0 (r.n - 1) with
                  | true =>
                    have HIN := hid hin
                    have C3 : ∀ w, Calls Tryd.prog 21 #[.int .i64 (nth (nth r.nx s) k), .int .i64 0, .int .i64 (r.n - 1)] w fun e' w' => e' = .returned (.bool true) ∧ w' = w := fun w => by have := l00In_any (nth (nth r.nx s) k) 0 (r.n - 1) w; rw [HIN.out] at this; exact this
                    clear hin
                    by_cases hk0 : k = 0
                    · subst hk0
                      rw [Nat.add_zero] at hy
                      clear g3
                      go_wp2_with fail
                      go_quiet ((go_at_call 21; exact Calls.quiet_of_same (C3 _)))
                      go_wp2
                      go_roundw
                      case rel => exact ⟨0 + 1, by omega, by go_num, fun i hi => by
                          have : i = 0 := by omega
                          subst this; unfold upAt; rw [HIN.out]; rfl, hv.drewN nq⟩
                      case measure => simp [intOf]; omega
                    · obtain ⟨b', off', e', hz⟩ := g3 (k - 1) (by omega)
                      cases e'
                      replace hz := hv.cell hz
                      have kb3 : decide ((0 : Int) < (k : Int)) = true := by simp; omega
                      have kb4 : (0 : Int) < (k : Int) := by omega
                      have kb5 : 0 < k := by omega
                      clear g3
                      have kn : (0 : Int) ≤ (k : Int) - 1 := by omega
                      have kn1 : (1 : Int) ≤ (k : Int) := by omega
                      have kl : (k : Int) - 1 < ((nth r.nx s).length : Int) := by omega
                      have kt : ((k : Int) - 1).toNat = k - 1 := by omega
                      have kw : IntKind.i64.wrap ((k : Int) - 1) = (k : Int) - 1 := IntWalk.i64_in _ (by omega)
                      by_cases hr' : nth (nth r.nx s) (k - 1) ≤ nth (nth r.nx s) k
                      · have hr2 : decide (nth (nth r.nx s) k < nth (nth r.nx s) (k - 1)) = false := by simp; omega
                        go_wp2_with fail
                        go_quiet ((go_at_call 21; exact Calls.quiet_of_same (C3 _)))
                        go_wp2
                        have HR := hid hr'
                        go_roundw
                        case rel => exact ⟨k + 1, by omega, by go_num, fun i hi => by
                            rcases Nat.lt_succ_iff_lt_or_eq.1 hi with h | h
                            · exact hf.out i h
                            · subst h; unfold upAt; rw [HIN.out, decide_eq_true HR.out]; simp, hv.drewN nq⟩
                        case measure => simp [intOf]; omega
                      · have hr2 : decide (nth (nth r.nx s) k < nth (nth r.nx s) (k - 1)) = true := by simp; omega
                        go_wp2_with fail
                        go_quiet ((go_at_call 21; exact Calls.quiet_of_same (C3 _)))
                        go_wp2
                        go_ret
                        refine ⟨ret_bool (roadsOk_row hlt (roadRow_at hlk ?_)).symm, hw2.trans (hv.drewN nq)⟩
                        unfold upAt
                        rw [HIN.out, decide_eq_false (by omega)]
                        simp; omega
                  | false =>
                    have HIN := hid hin
                    have C3 : ∀ w, Calls Tryd.prog 21 #[.int .i64 (nth (nth r.nx s) k), .int .i64 0, .int .i64 (r.n - 1)] w fun e' w' => e' = .returned (.bool false) ∧ w' = w := fun w => by have := l00In_any (nth (nth r.nx s) k) 0 (r.n - 1) w; rw [HIN.out] at this; exact this
                    clear hin g3
                    go_wp2_with fail
                    go_quiet ((go_at_call 21; exact Calls.quiet_of_same (C3 _)))
                    go_wp2
                    go_ret
                    exact ⟨ret_bool (roadsOk_row hlt (roadRow_at hlk (by unfold upAt; rw [HIN.out]; rfl))).symm, hw2.trans (hv.drewN nq)⟩
                · have e : k = (nth r.nx s).length := by omega
                  subst e
                  go_wp2
                  go_roundw
                  case rel =>
                    refine ⟨s + 1, by omega, by go_num, fun i hi => ?_, hw2.trans hv⟩
                    rcases Nat.lt_succ_iff_lt_or_eq.1 hi with h | h
                    · exact he.out i h
                    · subst h
                      exact (roadRow_iff _ _ _).2 ⟨HL2.out, fun j hj => hf.out j hj⟩
                  case measure => simp [intOf]; omega
            · have hb2 : (((nth r.nx s).length : Int) != (nth r.nx 0).length) = true := by simp; omega
              go_wp2_with fail
              go_quiet (fail)
              go_wp2
              go_ret
              exact ⟨ret_bool (roadsOk_row hlt (roadRow_len hlen2)).symm, hw.drewN nq⟩
          · have e : s = r.nx.length := by omega
            subst e
            go_wp2
            go_ret
            have hd3 := (inB_iff _ _ _).1 HD.out
            exact ⟨ret_bool ((roadsOk_iff r).2 ⟨⟨hn0, hn1⟩, HL.out, by omega, fun i hi => he.out i hi⟩).symm, hw⟩
      | false =>
        have HD := hid hd
        have CC : ∀ (x y : Int) (bb : Bool) w, (x = r.n ∧ y = 7 ∧ bb = true) ∨ (x = ((nth r.nx 0).length : Int) ∧ y = 3 ∧ bb = false) → Calls Tryd.prog 21 #[.int .i64 x, .int .i64 1, .int .i64 y] w fun e' w' => e' = .returned (.bool bb) ∧ w' = w := fun x y bb w hh => by
          rcases hh with ⟨rfl, rfl, rfl⟩ | ⟨rfl, rfl, rfl⟩
          · exact C1 w
          · have := l00In_any ((nth r.nx 0).length : Int) 1 3 w; rw [HD.out] at this; exact this
        clear C1
        have HM : roadsOk r = false := by unfold roadsOk; rw [hd]; simp
        rw [HM]
        clear hd hc1 hc2
        go_enter Tryd.func11, Tryd.ntmps11
        go_wp2_with fail
        go_quiet ((go_at_call 21; first | exact Calls.quiet_of_same (CC _ _ _ _ (Or.inl ⟨rfl, rfl, rfl⟩)) | exact Calls.quiet_of_same (CC _ _ _ _ (Or.inr ⟨rfl, rfl, rfl⟩))))
        go_wp2
        go_ret
        exact ⟨rfl, (New.refl _).drewN nq⟩
    · have hb : ((r.nx.length : Int) != r.n) = true := by simp [hlen]
      have HM : roadsOk r = false := by unfold roadsOk; simp [hlen]
      rw [HM]
      go_enter Tryd.func11, Tryd.ntmps11
      go_wp2_with fail
      go_quiet ((go_at_call 21; exact Calls.quiet_of_same (C1 _)))
      go_wp2
      go_ret
      exact ⟨rfl, (New.refl _).drewN nq⟩
  · have HN := hid (show inB r.n 1 7 = false by simpa using hn)
    have C1 : ∀ w, Calls Tryd.prog 21 #[.int .i64 r.n, .int .i64 1, .int .i64 7] w fun e' w' => e' = .returned (.bool false) ∧ w' = w := fun w => by have := l00In_any r.n 1 7 w; rw [HN.out] at this; exact this
    have HM : roadsOk r = false := by unfold roadsOk; rw [HN.out]; rfl
    rw [HM]
    clear hn
    go_enter Tryd.func11, Tryd.ntmps11
    go_wp2_with fail
    go_quiet ((go_at_call 21; exact Calls.quiet_of_same (C1 _)))
    go_wp2
    go_ret
    exact ⟨rfl, (New.refl _).drewN nq⟩
end

end Go.Proofs.YthbebnfhplacnaaDoor
