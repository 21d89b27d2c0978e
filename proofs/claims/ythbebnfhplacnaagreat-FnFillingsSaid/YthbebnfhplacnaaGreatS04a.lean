/- The reference's partial automata, and where words lead in them. -/
import Derived.Test.YthbebnfhplacnaaGreatRows
import Derived.Test.YthbebnfhplacnaaGreatCore
import Derived.Test.YthbebnfhplacnaaGreatInfos
import Derived.Test.YthbebnfhplacnaaGreatPlains
import Derived.Test.YthbebnfhplacnaaGreatSBase
import Derived.Test.YthbebnfhplacnaaGreatSWalks
import Derived.WalkKit
import Derived.WalkSpells
import Derived.WalkLawsBesides
import Derived.Deep.QuietTactic
import Derived.Deep.OwnRows
import Derived.BigQuiet
import Derived.KernelRfl
namespace Go.Proofs.YthbebnfhplacnaaGreat
open Go.RowKit

set_option maxHeartbeats 400000 in
theorem l04Size_any (n l : Int) (w : World) :
    Calls Tryz.prog 49 #[.int .i64 n, .int .i64 l] w fun e w' => e = .returned (.bool (inB n 1 10 && inB l 1 3)) ∧ w' = w := by
  have C := l00In_any n 1 10
  cases h : inB n 1 10 with
  | false =>
    simp only [h] at C
    go_enter Tryz.func49, Tryz.ntmps49
    go_wp2_with fail
    refine (C _).mono ?_
    rintro e w' ⟨rfl, rfl⟩
    go_wp2
    go_ret
    exact ⟨rfl, rfl⟩
  | true =>
    simp only [h] at C
    go_enter Tryz.func49, Tryz.ntmps49
    go_wp2_with fail
    refine (C _).mono ?_
    rintro e w' ⟨rfl, rfl⟩
    go_wp2_with fail
    refine (l00In_any _ _ _ _).mono ?_
    rintro e w' ⟨rfl, rfl⟩
    go_wp2
    go_ret
    exact ⟨rfl, rfl⟩
set_option maxHeartbeats 2000000 in
theorem l04Ok_any (p : Value) (a : Aut) (w : World) (hp : PAut w p a) :
    Calls Tryz.prog 20 #[p] w fun e w' => e = .returned (.bool (partOk a)) ∧ New w w' := by
  obtain ⟨pb, rv, rfl, h0, h1, hr⟩ := hp
  obtain ⟨A2, c2, rfl⟩ := hr.form
  have hl2 := hr.len
  have C0 := l04Size_any a.n a.nx.length
  cases hs : (inB a.n 1 10 && inB a.nx.length 1 3) with
  | false =>
    simp only [hs] at C0
    go_enter Tryz.func20, Tryz.ntmps20
    go_wp2_with fail
    go_quiet ((go_at_call 49; exact Calls.quiet_of_same (C0 _)))
    go_wp2
    go_ret
    refine ⟨ret_bool ?_, (New.refl w).drewN nq⟩
    unfold partOk; rw [← Bool.and_assoc, hs]; rfl
  | true =>
    simp only [hs] at C0
    have hok : partOk a = partRows a.nx a.n := by unfold partOk; rw [← Bool.and_assoc, hs]; rfl
    rw [hok]
    rw [Bool.and_eq_true] at hs
    have hn := (inB_iff _ _ _).1 hs.1
    have n1 : 1 ≤ a.n := hn.1
    have n2 : a.n ≤ 10 := hn.2
    clear hs hok hn
    go_enter Tryz.func20, Tryz.ntmps20
    go_wp2_with fail
    go_quiet ((go_at_call 49; exact Calls.quiet_of_same (C0 _)))
    have hN : New w (w.drewN nq) := (New.refl w).drewN nq
    generalize w.drewN nq = ws at hN ⊢
    go_wp2
    go_loopw [3] (fun i wr => ∃ k : Nat, k ≤ a.nx.length ∧ i = .int .i64 k ∧ Hid (∀ j, j < k → partRow (nth a.nx j) a.n = true) ∧ New w wr) (fun i _ => a.nx.length - (intOf i).toNat)
    case atStart => exact ⟨0, Nat.zero_le _, rfl, fun j hj => absurd hj (by omega), hN⟩
    case round =>
      clear hN
      obtain ⟨k, hk, rfl, he, hw⟩ := hrel
      replace h0 := hw.cell h0
      replace h1 := hw.cell h1
      by_cases hlt : k < a.nx.length
      · obtain ⟨A4, c4, e4, hl4, hc4⟩ := hr
        cases e4
        obtain ⟨b, off, rv, rfl, hx, hr⟩ := hc4 k hlt
        have kb1 : (k : Int) < (a.nx.length : Int) := by omega
        replace hx := hw.cell hx
        replace hr := hr.new hw
        obtain ⟨A5, c5, rfl, hl5, hc5⟩ := hr
        clear hc4
        by_cases hlen2 : ((nth a.nx k).length : Int) = a.n
        · have hb2 : (((nth a.nx k).length : Int) != a.n) = false := by simp [hlen2]
          have HL2 := hid hlen2
          clear hlen2
          go_wp2_with fail
          go_quiet (fail)
          have hw2 : New w (wr.drewN nq) := hw.drewN nq
          have g0 : (wr.drewN nq).cell? ⟨pb, 0, none⟩ = some (.int .i64 a.n) := h0
          have g3 : (wr.drewN nq).cell? ⟨pb, 1, none⟩ = some (.slice (some ⟨b, off, none⟩) a.nx.length c2) := h1
          have gx : (wr.drewN nq).cell? ⟨b, off + k, none⟩ = some (.slice A5 (nth a.nx k).length c5) := hx
          have g5 : ∀ i, i < (nth a.nx k).length → ∃ b off, A5 = some ⟨b, off, none⟩ ∧ (wr.drewN nq).cell? ⟨b, off + i, none⟩ = some (.int .i64 (nth (nth a.nx k) i)) := hc5
          clear h0 h1 hx hw hc5
          generalize wr.drewN nq = wo at hw2 g0 g3 gx g5 ⊢
          go_wp2
          go_loopw [4] (fun i wr => ∃ q : Nat, q ≤ (nth a.nx k).length ∧ i = .int .i64 q ∧ Hid (∀ j, j < q → inB (nth (nth a.nx k) j) (-1) (a.n - 1) = true) ∧ New wo wr) (fun i _ => (nth a.nx k).length - (intOf i).toNat)
          case atStart => exact ⟨0, Nat.zero_le _, rfl, fun j hj => absurd hj (by omega), New.refl _⟩
          case round =>
            rename_i wi _
            obtain ⟨q, hq, rfl, hf, hv⟩ := hrel
            have g0 := hv.cell g0
            have g3 := hv.cell g3
            have gx := hv.cell gx
            by_cases hlq : q < (nth a.nx k).length
            · obtain ⟨b6, off6, rfl, hy⟩ := g5 q hlq
              have hy := hv.cell hy
              have kb2 : (q : Int) < ((nth a.nx k).length : Int) := by omega
              cases hin : inB (nth (nth a.nx k) q) (-1) (a.n - 1) with
              | true =>
                have HIN := hid hin
                have C3 : ∀ w, Calls Tryz.prog 50 #[.int .i64 (nth (nth a.nx k) q), .int .i64 (-1), .int .i64 (a.n - 1)] w fun e' w' => e' = .returned (.bool true) ∧ w' = w := fun w => by have := l00In_any (nth (nth a.nx k) q) (-1) (a.n - 1) w; rw [HIN.out] at this; exact this
                clear hin g5
                go_wp2_with fail
                go_quiet ((go_at_call 50; exact Calls.quiet_of_same (C3 _)))
                go_wp2
                go_roundw
                case rel => exact ⟨q + 1, by omega, by go_num, fun i hi => by
                    rcases Nat.lt_succ_iff_lt_or_eq.1 hi with h | h
                    · exact hf.out i h
                    · subst h; exact HIN.out, hv.drewN nq⟩
                case measure => simp [intOf]; omega
              | false =>
                have HIN := hid hin
                have C3 : ∀ w, Calls Tryz.prog 50 #[.int .i64 (nth (nth a.nx k) q), .int .i64 (-1), .int .i64 (a.n - 1)] w fun e' w' => e' = .returned (.bool false) ∧ w' = w := fun w => by have := l00In_any (nth (nth a.nx k) q) (-1) (a.n - 1) w; rw [HIN.out] at this; exact this
                clear hin g5
                go_wp2_with fail
                go_quiet ((go_at_call 50; exact Calls.quiet_of_same (C3 _)))
                go_wp2
                go_ret
                refine ⟨ret_bool ?_, hw2.trans (hv.drewN nq)⟩
                have hf : partRow (nth a.nx k) a.n = false := by unfold partRow; rw [allIn_false _ _ _ q hlq HIN.out, Bool.and_false]
                rw [partRows_false _ _ k hlt hf]
            · have e : q = (nth a.nx k).length := by omega
              subst e
              go_wp2
              go_roundw
              case rel =>
                refine ⟨k + 1, by omega, by go_num, fun i hi => ?_, hw2.trans hv⟩
                rcases Nat.lt_succ_iff_lt_or_eq.1 hi with h | h
                · exact he.out i h
                · subst h
                  unfold partRow
                  rw [(allIn_iff _ _ _).2 fun j hj => hf.out j hj]
                  simp [HL2.out]
              case measure => simp [intOf]; omega
        · have hb2 : (((nth a.nx k).length : Int) != a.n) = true := by simp [hlen2]
          go_wp2_with fail
          go_quiet (fail)
          go_wp2
          go_ret
          refine ⟨ret_bool ?_, hw.drewN nq⟩
          rw [partRows_false _ _ k hlt (by unfold partRow; simp [hlen2])]
      · have e : k = a.nx.length := by omega
        subst e
        go_wp2
        go_ret
        exact ⟨ret_bool ((partRows_iff _ _).2 fun i hi => he.out i hi).symm, hw⟩

end Go.Proofs.YthbebnfhplacnaaGreat
