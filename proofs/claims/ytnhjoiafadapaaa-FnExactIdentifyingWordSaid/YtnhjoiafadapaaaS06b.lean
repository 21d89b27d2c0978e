/- The reference's test of machines. -/
import Derived.Test.YtnhjoiafadapaaaRows
import Derived.Test.YtnhjoiafadapaaaCore
import Derived.Test.YtnhjoiafadapaaaPlains
import Derived.Test.YtnhjoiafadapaaaSBase
import Derived.WalkKit
import Derived.WalkSpells
import Derived.WalkLawsBesides
import Derived.Deep.QuietTactic
import Derived.Deep.OwnRows
import Derived.BigQuiet
import Derived.KernelRfl
import Derived.StillTailTactics
namespace Go.Proofs.Ytnhjoiafadapaaa
open Go.RowKit

set_option maxHeartbeats 800000 in
theorem l06Plain_any (p : Value) (m : Mach) (w : World) (hp : PMach w p m) :
    Calls Try.prog 123 #[p] w fun e w' => ∃ rv, e = .returned (.agg #[.int .i64 m.n, rv]) ∧ New w w' ∧ RowsAt w' rv m.nx := by
  obtain ⟨b, r1, r2, rfl, h0, h1, h2, h3, hr1, hr2⟩ := hp
  obtain ⟨A1, c1, rfl⟩ := hr1.form
  have lb := World.block_lt_of_cell? w _ h0
  go_enter Try.func123, Try.ntmps123
  go_wp2_with fail
  go_region
  go_wp2_with fail
  refine bodyPost_ret (v := .agg #[.int .i64 m.n, .slice A1 m.nx.length c1]) (by simp [results, Try.results123, go_sem]) rfl ⟨_, rfl, (by repeat (first | with_reducible exact New.refl _ | with_reducible assumption | with_reducible refine New.alloc ?_ _ | with_reducible refine New.drew ?_ | with_reducible refine New.drewN ?_ _ | with_reducible refine New.setCell ?_ (by simp <;> omega) _)), hr1.new (by repeat (first | with_reducible exact New.refl _ | with_reducible assumption | with_reducible refine New.alloc ?_ _ | with_reducible refine New.drew ?_ | with_reducible refine New.drewN ?_ _ | with_reducible refine New.setCell ?_ (by simp <;> omega) _))⟩
theorem ext_PMach {W : World} {v : Value} {m : Mach} (h : PMach W v m) (e : Ext) : PMach (ext W e) v m := h.new (ext_new W e)
set_option maxHeartbeats 2000000 in
theorem l06Ok_any (p : Value) (m : Mach) (w : World) (hp : PMach w p m) :
    Calls Try.prog 53 #[p] w fun e w' => e = .returned (.bool (machOk m)) ∧ New w w' := by
  obtain ⟨pb, r1, r2, rfl, h0, h1, h2, h3, hr1, hr2⟩ := id hp
  obtain ⟨A1, c1, rfl⟩ := hr1.form
  obtain ⟨A2, c2, rfl⟩ := hr2.form
  have hl1 := hr1.len
  have hl2 := hr2.len
  by_cases ha : autOk m.aut = true
  · have HA := hid ha
    clear ha
    by_cases ho : inB m.o 1 3 = true
    · have HO := hid ho
      clear ho
      by_cases hlen : m.out.length = m.nx.length
      · have hne : ((m.out.length : Int) != m.nx.length) = false := by simp [hlen]
        have HL := hid hlen
        have ho1 := (inB_iff _ _ _).1 HO.out
        have o1 : 1 ≤ m.o := ho1.1
        have o2 : m.o ≤ 3 := ho1.2
        clear hlen ho1
        go_enter Try.func53, Try.ntmps53
        go_wp2_with fail
        refine (l06Plain_any _ m _ hp).mono ?_
        rintro e w1 ⟨rv, rfl, hn1, hrv⟩
        obtain ⟨A3, c3, rfl⟩ := hrv.form
        have hn0 : New w (w1.alloc (.cells #[.int .i64 m.n, .slice A3 m.nx.length c3] 29)) := hn1.alloc _
        have hpa : PAut (w1.alloc (.cells #[.int .i64 m.n, .slice A3 m.nx.length c3] 29)) (.pointer (some ⟨w1.heap.size, 0, none⟩)) m.aut := PAut.box (a := m.aut) hrv _
        have e0 := ext_cell (hn0.cell h0)
        have e1 := ext_cell (hn0.cell h1)
        have e2 := ext_cell (hn0.cell h2)
        have e3 := ext_cell (hn0.cell h3)
        have C1 : ∀ e, Calls Try.prog 45 #[.pointer (some ⟨w1.heap.size, 0, none⟩)] (ext (w1.alloc (.cells #[.int .i64 m.n, .slice A3 m.nx.length c3] 29)) e) fun e' w'' => e' = .returned (.bool true) ∧ New (ext (w1.alloc (.cells #[.int .i64 m.n, .slice A3 m.nx.length c3] 29)) e) w'' :=
          fun e => by have := l01Ok_any _ m.aut _ (hpa.new (ext_new _ e)); rw [HA.out] at this; exact this
        have C2 : ∀ w, Calls Try.prog 105 #[.int .i64 m.o, .int .i64 1, .int .i64 3] w fun e' w' => e' = .returned (.bool true) ∧ w' = w := fun w => by have := l00In_any m.o 1 3 w; rw [HO.out] at this; exact this
        go_wp2_with fail
        refine wp_region_quiet_new (by kernel_rfl) (by kernel_rfl) ?_; (repeat (go_big_quiet_step ((first | (go_at_call 45; exact quiet_new (C1 _)) | (go_at_call 105; exact quiet_same (C2 _)))))); refine wpQuiet_nil ?_; intro wq hq; have hnq := new_of_ext hq; clear hq
        have hN := hn0.trans hnq
        clear hnq hn0 hn1 hpa hrv e0 e1 e2 e3 C1 C2
        go_wp2
        go_loopw [4] (fun i wr => ∃ k : Nat, k ≤ m.out.length ∧ i = .int .i64 k ∧ Hid (∀ j, j < k → outOk (nth m.out j) m.n m.o = true) ∧ New w wr) (fun i _ => m.out.length - (intOf i).toNat)
        case atStart => exact ⟨0, Nat.zero_le _, rfl, fun j hj => absurd hj (by omega), hN⟩
        case round =>
          clear hN
          obtain ⟨k, hk, rfl, he, hw⟩ := hrel
          replace h0 := hw.cell h0
          replace h1 := hw.cell h1
          replace h3 := hw.cell h3
          by_cases hlt : k < m.out.length
          · obtain ⟨A4, c4, e4, hl4, hc4⟩ := hr2
            cases e4
            obtain ⟨b, off, rv, rfl, hx, hr⟩ := hc4 k hlt
            have kb1 : (k : Int) < (m.out.length : Int) := by omega
            replace hx := hw.cell hx
            replace hr := hr.new hw
            obtain ⟨A5, c5, rfl, hl5, hc5⟩ := hr
            clear hc4
            by_cases hlen2 : ((nth m.out k).length : Int) = m.n
            · have hb2 : (((nth m.out k).length : Int) != m.n) = false := by simp [hlen2]
              have HL2 := hid hlen2
              clear hlen2
              go_wp2_with fail
              go_quiet (fail)
              have hw2 : New w (wr.drewN nq) := hw.drewN nq
              have g0 : (wr.drewN nq).cell? ⟨pb, 0, none⟩ = some (.int .i64 m.n) := h0
              have g1 : (wr.drewN nq).cell? ⟨pb, 1, none⟩ = some (.int .i64 m.o) := h1
              have g3 : (wr.drewN nq).cell? ⟨pb, 3, none⟩ = some (.slice (some ⟨b, off, none⟩) m.out.length c2) := h3
              have gx : (wr.drewN nq).cell? ⟨b, off + k, none⟩ = some (.slice A5 (nth m.out k).length c5) := hx
              have g5 : ∀ i, i < (nth m.out k).length → ∃ b off, A5 = some ⟨b, off, none⟩ ∧ (wr.drewN nq).cell? ⟨b, off + i, none⟩ = some (.int .i64 (nth (nth m.out k) i)) := hc5
              clear h0 h1 h3 hx hw hc5
              generalize wr.drewN nq = wo at hw2 g0 g1 g3 gx g5 ⊢
              go_wp2
              go_loopw [5] (fun i wr => ∃ q : Nat, q ≤ (nth m.out k).length ∧ i = .int .i64 q ∧ Hid (∀ j, j < q → inB (nth (nth m.out k) j) 0 (m.o - 1) = true) ∧ New wo wr) (fun i _ => (nth m.out k).length - (intOf i).toNat)
              case atStart => exact ⟨0, Nat.zero_le _, rfl, fun j hj => absurd hj (by omega), New.refl _⟩
              case round =>
                rename_i wi _
                obtain ⟨q, hq, rfl, hf, hv⟩ := hrel
                have g0 := hv.cell g0
                have g1 := hv.cell g1
                have g3 := hv.cell g3
                have gx := hv.cell gx
                by_cases hlq : q < (nth m.out k).length
                · obtain ⟨b6, off6, rfl, hy⟩ := g5 q hlq
                  have hy := hv.cell hy
                  have kb2 : (q : Int) < ((nth m.out k).length : Int) := by omega
                  cases hin : inB (nth (nth m.out k) q) 0 (m.o - 1) with
                  | true =>
                    have HIN := hid hin
                    have C3 : ∀ w, Calls Try.prog 105 #[.int .i64 (nth (nth m.out k) q), .int .i64 0, .int .i64 (m.o - 1)] w fun e' w' => e' = .returned (.bool true) ∧ w' = w := fun w => by have := l00In_any (nth (nth m.out k) q) 0 (m.o - 1) w; rw [HIN.out] at this; exact this
                    clear hin g5
                    go_wp2_with fail
                    go_quiet ((go_at_call 105; exact Calls.quiet_of_same (C3 _)))
                    go_wp2
                    go_roundw
                    case rel => exact ⟨q + 1, by omega, by go_num, fun i hi => by
                        rcases Nat.lt_succ_iff_lt_or_eq.1 hi with h | h
                        · exact hf.out i h
                        · subst h; exact HIN.out, hv.drewN nq⟩
                    case measure => simp [intOf]; omega
                  | false =>
                    have HIN := hid hin
                    have C3 : ∀ w, Calls Try.prog 105 #[.int .i64 (nth (nth m.out k) q), .int .i64 0, .int .i64 (m.o - 1)] w fun e' w' => e' = .returned (.bool false) ∧ w' = w := fun w => by have := l00In_any (nth (nth m.out k) q) 0 (m.o - 1) w; rw [HIN.out] at this; exact this
                    clear hin g5
                    go_wp2_with fail
                    go_quiet ((go_at_call 105; exact Calls.quiet_of_same (C3 _)))
                    go_wp2
                    go_ret
                    refine ⟨ret_bool ?_, hw2.trans (hv.drewN nq)⟩
                    have hf : outOk (nth m.out k) m.n m.o = false := by unfold outOk; rw [allIn_false _ _ _ q hlq HIN.out, Bool.and_false]
                    unfold machOk; rw [outsOk_false m k hlt hf]; simp
                · have e : q = (nth m.out k).length := by omega
                  subst e
                  go_wp2
                  go_roundw
                  case rel =>
                    refine ⟨k + 1, by omega, by go_num, fun i hi => ?_, hw2.trans hv⟩
                    rcases Nat.lt_succ_iff_lt_or_eq.1 hi with h | h
                    · exact he.out i h
                    · subst h
                      unfold outOk
                      rw [(allIn_iff _ _ _).2 fun j hj => hf.out j hj]
                      simp [HL2.out]
                  case measure => simp [intOf]; omega
            · have hb2 : (((nth m.out k).length : Int) != m.n) = true := by simp [hlen2]
              go_wp2_with fail
              go_quiet (fail)
              go_wp2
              go_ret
              refine ⟨ret_bool ?_, hw.drewN nq⟩
              unfold machOk; rw [outsOk_false m k hlt (by unfold outOk; simp [hlen2])]; simp
          · have e : k = m.out.length := by omega
            subst e
            go_wp2
            go_ret
            refine ⟨ret_bool ?_, hw⟩
            unfold machOk; rw [HA.out, HO.out, (outsOk_iff m).2 fun i hi => he.out i hi]; simp [HL.out]
      · have hne : ((m.out.length : Int) != m.nx.length) = true := by simp; omega
        have HM : machOk m = false := by unfold machOk; rw [HA.out, HO.out]; simp [hlen]
        rw [HM]
        go_enter Try.func53, Try.ntmps53
        go_wp2_with fail
        refine (l06Plain_any _ m _ hp).mono ?_
        rintro e w1 ⟨rv, rfl, hn1, hrv⟩
        obtain ⟨A3, c3, rfl⟩ := hrv.form
        have hn0 : New w (w1.alloc (.cells #[.int .i64 m.n, .slice A3 m.nx.length c3] 29)) := hn1.alloc _
        have hpa : PAut (w1.alloc (.cells #[.int .i64 m.n, .slice A3 m.nx.length c3] 29)) (.pointer (some ⟨w1.heap.size, 0, none⟩)) m.aut := PAut.box (a := m.aut) hrv _
        have e0 := ext_cell (hn0.cell h0)
        have e1 := ext_cell (hn0.cell h1)
        have e2 := ext_cell (hn0.cell h2)
        have e3 := ext_cell (hn0.cell h3)
        have C1 : ∀ e, Calls Try.prog 45 #[.pointer (some ⟨w1.heap.size, 0, none⟩)] (ext (w1.alloc (.cells #[.int .i64 m.n, .slice A3 m.nx.length c3] 29)) e) fun e' w'' => e' = .returned (.bool true) ∧ New (ext (w1.alloc (.cells #[.int .i64 m.n, .slice A3 m.nx.length c3] 29)) e) w'' :=
          fun e => by have := l01Ok_any _ m.aut _ (hpa.new (ext_new _ e)); rw [HA.out] at this; exact this
        have C2 : ∀ w, Calls Try.prog 105 #[.int .i64 m.o, .int .i64 1, .int .i64 3] w fun e' w' => e' = .returned (.bool true) ∧ w' = w := fun w => by have := l00In_any m.o 1 3 w; rw [HO.out] at this; exact this
        go_wp2_with fail
        refine wp_region_quiet_new (by kernel_rfl) (by kernel_rfl) ?_; (repeat (go_big_quiet_step ((first | (go_at_call 45; exact quiet_new (C1 _)) | (go_at_call 105; exact quiet_same (C2 _)))))); refine wpQuiet_nil ?_; intro wq hq; have hnq := new_of_ext hq; clear hq
        go_wp2
        go_ret
        exact ⟨rfl, hn0.trans hnq⟩
    · have HO := hid (show inB m.o 1 3 = false by simpa using ho)
      clear ho
      have HM : machOk m = false := by unfold machOk; rw [HA.out, HO.out]; rfl
      rw [HM]
      go_enter Try.func53, Try.ntmps53
      go_wp2_with fail
      refine (l06Plain_any _ m _ hp).mono ?_
      rintro e w1 ⟨rv, rfl, hn1, hrv⟩
      obtain ⟨A3, c3, rfl⟩ := hrv.form
      have hn0 : New w (w1.alloc (.cells #[.int .i64 m.n, .slice A3 m.nx.length c3] 29)) := hn1.alloc _
      have hpa : PAut (w1.alloc (.cells #[.int .i64 m.n, .slice A3 m.nx.length c3] 29)) (.pointer (some ⟨w1.heap.size, 0, none⟩)) m.aut := PAut.box (a := m.aut) hrv _
      have e0 := ext_cell (hn0.cell h0)
      have e1 := ext_cell (hn0.cell h1)
      have e2 := ext_cell (hn0.cell h2)
      have e3 := ext_cell (hn0.cell h3)
      have C1 : ∀ e, Calls Try.prog 45 #[.pointer (some ⟨w1.heap.size, 0, none⟩)] (ext (w1.alloc (.cells #[.int .i64 m.n, .slice A3 m.nx.length c3] 29)) e) fun e' w'' => e' = .returned (.bool true) ∧ New (ext (w1.alloc (.cells #[.int .i64 m.n, .slice A3 m.nx.length c3] 29)) e) w'' :=
        fun e => by have := l01Ok_any _ m.aut _ (hpa.new (ext_new _ e)); rw [HA.out] at this; exact this
      have C2 : ∀ w, Calls Try.prog 105 #[.int .i64 m.o, .int .i64 1, .int .i64 3] w fun e' w' => e' = .returned (.bool false) ∧ w' = w := fun w => by have := l00In_any m.o 1 3 w; rw [HO.out] at this; exact this
      go_wp2_with fail
      refine wp_region_quiet_new (by kernel_rfl) (by kernel_rfl) ?_; (repeat (go_big_quiet_step ((first | (go_at_call 45; exact quiet_new (C1 _)) | (go_at_call 105; exact quiet_same (C2 _)))))); refine wpQuiet_nil ?_; intro wq hq; have hnq := new_of_ext hq; clear hq
      go_wp2
      go_ret
      exact ⟨rfl, hn0.trans hnq⟩
  · have HA := hid (show autOk m.aut = false by simpa using ha)
    clear ha
    have HM : machOk m = false := by unfold machOk; rw [HA.out]; rfl
    rw [HM]
    go_enter Try.func53, Try.ntmps53
    go_wp2_with fail
    refine (l06Plain_any _ m _ hp).mono ?_
    rintro e w1 ⟨rv, rfl, hn1, hrv⟩
    obtain ⟨A3, c3, rfl⟩ := hrv.form
    have hn0 : New w (w1.alloc (.cells #[.int .i64 m.n, .slice A3 m.nx.length c3] 29)) := hn1.alloc _
    have hpa : PAut (w1.alloc (.cells #[.int .i64 m.n, .slice A3 m.nx.length c3] 29)) (.pointer (some ⟨w1.heap.size, 0, none⟩)) m.aut := PAut.box (a := m.aut) hrv _
    have e0 := ext_cell (hn0.cell h0)
    have e1 := ext_cell (hn0.cell h1)
    have e2 := ext_cell (hn0.cell h2)
    have e3 := ext_cell (hn0.cell h3)
    have C1 : ∀ e, Calls Try.prog 45 #[.pointer (some ⟨w1.heap.size, 0, none⟩)] (ext (w1.alloc (.cells #[.int .i64 m.n, .slice A3 m.nx.length c3] 29)) e) fun e' w'' => e' = .returned (.bool false) ∧ New (ext (w1.alloc (.cells #[.int .i64 m.n, .slice A3 m.nx.length c3] 29)) e) w'' :=
      fun e => by have := l01Ok_any _ m.aut _ (hpa.new (ext_new _ e)); rw [HA.out] at this; exact this
    go_wp2_with fail
    refine wp_region_quiet_new (by kernel_rfl) (by kernel_rfl) ?_; (repeat (go_big_quiet_step (((go_at_call 45; exact quiet_new (C1 _)))))); refine wpQuiet_nil ?_; intro wq hq; have hnq := new_of_ext hq; clear hq
    go_wp2
    go_ret
    exact ⟨rfl, hn0.trans hnq⟩

end Go.Proofs.Ytnhjoiafadapaaa
