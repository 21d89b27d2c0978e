/- The reference's partial automata, and where words lead in them. -/
import Derived.Test.YtaaaeekdfmfooaaRows
import Derived.Test.YtaaaeekdfmfooaaBase
import Derived.Test.YtaaaeekdfmfooaaAut
import Derived.Test.YtaaaeekdfmfooaaApp
import Derived.Test.YtaaaeekdfmfooaaInfo
import Derived.Test.YtaaaeekdfmfooaaPlain1
import Derived.Test.YtaaaeekdfmfooaaPlainRun
import Derived.Test.YtaaaeekdfmfooaaPlainSet
import Derived.Test.YtaaaeekdfmfooaaPlainBits
import Derived.Test.YtaaaeekdfmfooaaPlainPart
import Derived.Test.YtaaaeekdfmfooaaS01a
import Derived.Test.YtaaaeekdfmfooaaSFlk
import Derived.WalkKit
import Derived.WalkSpells
import Derived.WalkLawsBesides
import Derived.Deep.QuietTactic
import Derived.Deep.OwnRows
import Derived.BigQuiet
import Derived.KernelRfl
namespace Go.Proofs.Ytaaaeekdfmfooaa
open Go.RowKit

set_option maxHeartbeats 400000 in
theorem l04Size_any (n l : Int) (w : World) :
    Calls Try.prog 154 #[.int .i64 n, .int .i64 l] w fun e w' => e = .returned (.bool (inB n 1 10 && inB l 1 3)) ∧ w' = w := by
  have C := l00In_any n 1 10
  cases h : inB n 1 10 with
  | false =>
    simp only [h] at C
    go_enter Try.func154, Try.ntmps154
    go_wp2_with fail
    refine (C _).mono ?_
    rintro e w' ⟨rfl, rfl⟩
    go_wp2
    go_ret
    exact ⟨rfl, rfl⟩
  | true =>
    simp only [h] at C
    go_enter Try.func154, Try.ntmps154
    go_wp2_with fail
    refine (C _).mono ?_
    rintro e w' ⟨rfl, rfl⟩
    go_wp2_with fail
    refine (l00In_any _ _ _ _).mono ?_
    rintro e w' ⟨rfl, rfl⟩
    go_wp2
    go_ret
    exact ⟨rfl, rfl⟩
set_option maxHeartbeats 2000000 in
theorem l04Ok_any (p : Value) (a : Aut) (w : World) (hp : PAut w p a) :
    Calls Try.prog 74 #[p] w fun e w' => e = .returned (.bool (partOk a)) ∧ New w w' := by
  obtain ⟨pb, rv, rfl, h0, h1, hr⟩ := hp
  obtain ⟨A2, c2, rfl⟩ := hr.form
  have hl2 := hr.len
  have C0 := l04Size_any a.n a.nx.length
  cases hs : (inB a.n 1 10 && inB a.nx.length 1 3) with
  | false =>
    simp only [hs] at C0
    go_enter Try.func74, Try.ntmps74
    go_wp2_with fail
    go_quiet ((go_at_call 154; exact Calls.quiet_of_same (C0 _)))
    go_wp2
    go_ret
    refine ⟨ret_bool ?_, (New.refl w).drewN nq⟩
    unfold partOk; rw [← Bool.and_assoc, hs]; rfl
  | true =>
    simp only [hs] at C0
    have hok : partOk a = partRows a.nx a.n := by unfold partOk; rw [← Bool.and_assoc, hs]; rfl
    rw [hok]
    rw [Bool.and_eq_true] at hs
    have hn := (inB_iff _ _ _).1 hs.1
    have n1 : 1 ≤ a.n := hn.1
    have n2 : a.n ≤ 10 := hn.2
    clear hs hok hn
    go_enter Try.func74, Try.ntmps74
    go_wp2_with fail
    go_quiet ((go_at_call 154; exact Calls.quiet_of_same (C0 _)))
    have hN : New w (w.drewN nq) := (New.refl w).drewN nq
    generalize w.drewN nq = ws at hN ⊢
    go_wp2
    go_loopw [3] (fun i wr => ∃ k : Nat, k ≤ a.nx.length ∧ i = .int .i64 k ∧ Hid (∀ j, j < k → partRow (nth a.nx j) a.n = true) ∧ New w wr) (fun i _ => a.nx.length - (intOf i).toNat)
    case atStart => exact ⟨0, Nat.zero_le _, rfl, fun j hj => absurd hj (by omega), hN⟩
    case round =>
      clear hN
      obtain ⟨k, hk, rfl, he, hw⟩ := hrel
      replace h0 := hw.cell h0
      replace h1 := hw.cell h1
      by_cases hlt : k < a.nx.length
      · obtain ⟨A4, c4, e4, hl4, hc4⟩ := hr
        cases e4
        obtain ⟨b, off, rv, rfl, hx, hr⟩ := hc4 k hlt
        have kb1 : (k : Int) < (a.nx.length : Int) := by omega
        replace hx := hw.cell hx
        replace hr := hr.new hw
        obtain ⟨A5, c5, rfl, hl5, hc5⟩ := hr
        clear hc4
        by_cases hlen2 : ((nth a.nx k).length : Int) = a.n
        · have hb2 : (((nth a.nx k).length : Int) != a.n) = false := by simp [hlen2]
          have HL2 := hid hlen2
          clear hlen2
          go_wp2_with fail
          go_quiet (fail)
          have hw2 : New w (wr.drewN nq) := hw.drewN nq
          have g0 : (wr.drewN nq).cell? ⟨pb, 0, none⟩ = some (.int .i64 a.n) := h0
          have g3 : (wr.drewN nq).cell? ⟨pb, 1, none⟩ = some (.slice (some ⟨b, off, none⟩) a.nx.length c2) := h1
          have gx : (wr.drewN nq).cell? ⟨b, off + k, none⟩ = some (.slice A5 (nth a.nx k).length c5) := hx
          have g5 : ∀ i, i < (nth a.nx k).length → ∃ b off, A5 = some ⟨b, off, none⟩ ∧ (wr.drewN nq).cell? ⟨b, off + i, none⟩ = some (.int .i64 (nth (nth a.nx k) i)) := hc5
          clear h0 h1 hx hw hc5
          generalize wr.drewN nq = wo at hw2 g0 g3 gx g5 ⊢
          go_wp2
          go_loopw [4] (fun i wr => ∃ q : Nat, q ≤ (nth a.nx k).length ∧ i = .int .i64 q ∧ Hid (∀ j, j < q → inB (nth (nth a.nx k) j) (-1) (a.n - 1) = true) ∧ New wo wr) (fun i _ => (nth a.nx k).length - (intOf i).toNat)
          case atStart => exact ⟨0, Nat.zero_le _, rfl, fun j hj => absurd hj (by omega), New.refl _⟩
          case round =>
            rename_i wi _
            obtain ⟨q, hq, rfl, hf, hv⟩ := hrel
            have g0 := hv.cell g0
            have g3 := hv.cell g3
            have gx := hv.cell gx
            by_cases hlq : q < (nth a.nx k).length
            · obtain ⟨b6, off6, rfl, hy⟩ := g5 q hlq
              have hy := hv.cell hy
              have kb2 : (q : Int) < ((nth a.nx k).length : Int) := by omega
              cases hin : inB (nth (nth a.nx k) q) (-1) (a.n - 1) with
              | true =>
                have HIN := hid hin
                have C3 : ∀ w, Calls Try.prog 85 #[.int .i64 (nth (nth a.nx k) q), .int .i64 (-1), .int .i64 (a.n - 1)] w fun e' w' => e' = .returned (.bool true) ∧ w' = w := fun w => by have := l00In_any (nth (nth a.nx k) q) (-1) (a.n - 1) w; rw [HIN.out] at this; exact this
                clear hin g5
                go_wp2_with fail
                go_quiet ((go_at_call 85; exact Calls.quiet_of_same (C3 _)))
                go_wp2
                go_roundw
                case rel => exact ⟨q + 1, by omega, by go_num, fun i hi => by
                    rcases Nat.lt_succ_iff_lt_or_eq.1 hi with h | h
                    · exact hf.out i h
                    · subst h; exact HIN.out, hv.drewN nq⟩
                case measure => simp [intOf]; omega
              | false =>
                have HIN := hid hin
                have C3 : ∀ w, Calls Try.prog 85 #[.int .i64 (nth (nth a.nx k) q), .int .i64 (-1), .int .i64 (a.n - 1)] w fun e' w' => e' = .returned (.bool false) ∧ w' = w := fun w => by have := l00In_any (nth (nth a.nx k) q) (-1) (a.n - 1) w; rw [HIN.out] at this; exact this
                clear hin g5
                go_wp2_with fail
                go_quiet ((go_at_call 85; exact Calls.quiet_of_same (C3 _)))
                go_wp2
                go_ret
                refine ⟨ret_bool ?_, hw2.trans (hv.drewN nq)⟩
                have hf : partRow (nth a.nx k) a.n = false := by unfold partRow; rw [allIn_false _ _ _ q hlq HIN.out, Bool.and_false]
                rw [partRows_false _ _ k hlt hf]
            · have e : q = (nth a.nx k).length := by omega
              subst e
              go_wp2
              go_roundw
              case rel =>
                refine ⟨k + 1, by omega, by go_num, fun i hi => ?_, hw2.trans hv⟩
                rcases Nat.lt_succ_iff_lt_or_eq.1 hi with h | h
                · exact he.out i h
                · subst h
                  unfold partRow
                  rw [(allIn_iff _ _ _).2 fun j hj => hf.out j hj]
                  simp [HL2.out]
              case measure => simp [intOf]; omega
        · have hb2 : (((nth a.nx k).length : Int) != a.n) = true := by simp [hlen2]
          go_wp2_with fail
          go_quiet (fail)
          go_wp2
          go_ret
          refine ⟨ret_bool ?_, hw.drewN nq⟩
          rw [partRows_false _ _ k hlt (by unfold partRow; simp [hlen2])]
      · have e : k = a.nx.length := by omega
        subst e
        go_wp2
        go_ret
        exact ⟨ret_bool ((partRows_iff _ _).2 fun i hi => he.out i hi).symm, hw⟩
set_option maxRecDepth 20000 in
set_option maxHeartbeats 1000000 in
theorem l04Step_any (p : Value) (a : Aut) (F : Nat) (l : Int) (w : World) (hp : PAut w p a) (ha : partOk a = true) (hl : 0 ≤ l ∧ l < a.nx.length) (hF : F < 2 ^ a.n.toNat) :
    Calls Try.prog 155 #[p, .int .i64 F, .int .i64 l] w fun e w' => e = .returned (.tuple #[.int .i64 ((pstep (nth a.nx l.toNat) F).getD 0 : Nat), .bool (pstep (nth a.nx l.toNat) F).isSome]) ∧ w' = w := by
  obtain ⟨pb, rv, rfl, h0, h1, hr⟩ := hp
  obtain ⟨A2, c2, rfl, hl2, hc2⟩ := hr
  obtain ⟨⟨n1, n2⟩, _, hrows⟩ := partOk_parts ha
  obtain ⟨b2, off2, rv, rfl, hx2, hr2⟩ := hc2 l.toNat (by omega)
  obtain ⟨A3, c3, rfl, hl3, hc3⟩ := hr2
  obtain ⟨r1, r2⟩ := hrows l.toNat (by omega)
  have hF10 : F < 1024 := lt_10 hF (by omega)
  obtain ⟨l0, l1⟩ := hl
  have HR := hid r2
  obtain ⟨n, hnn⟩ : ∃ n : Nat, a.n = (n : Int) := ⟨a.n.toNat, by omega⟩
  rw [hnn] at h0 hF r1
  rw [Int.toNat_natCast] at hF
  obtain ⟨R, hRR⟩ : ∃ R, R = pstep (nth a.nx l.toNat) F := ⟨_, rfl⟩
  rw [← hRR]
  have HRR := hid (show R = if badB (nth a.nx l.toNat) F n = true then none else some (moveB (nth a.nx l.toNat) F n) by rw [hRR, pstep, badB_eq _ hF (by omega), moved_eq _ hF (by omega)])
  clear hc2 r2 hrows hRR
  go_enter Try.func155, Try.ntmps155
  go_wp2
  go_loop [8, 9] (fun q i => ∃ k : Nat, k ≤ n ∧ i = .int .i64 k ∧ q = .int .i64 (moveB (nth a.nx l.toNat) F k) ∧ Hid (badB (nth a.nx l.toNat) F k = false)) (fun _ i => n - (intOf i).toNat)
  case atStart => exact ⟨0, Nat.zero_le _, rfl, rfl, rfl⟩
  case round =>
    obtain ⟨k, hk, rfl, rfl, hb0⟩ := hrel
    by_cases hlt : k < n
    · have b1 : (k : Int) < (n : Int) := by omega
      have hb := bit_i64 F k hF10
      obtain ⟨b3, off3, rfl, hx3⟩ := hc3 k (by omega)
      have k3 : (k : Int) < ((nth a.nx l.toNat).length : Int) := by omega
      have hm : moveB (nth a.nx l.toNat) F k < 1024 := moveB_lt _ _ 10 _ fun i hi _ => by have := HR.out i (by omega); omega
      have HM := hid hm
      clear hm hc3
      cases hq : F.testBit k with
      | true =>
        rw [hq, if_pos rfl] at hb
        have HQ := hid hq
        clear hq
        by_cases hneg : nth (nth a.nx l.toNat) k < 0
        · have HN := hid hneg
          go_wp2
          go_ret2
          have e : R = none := by rw [HRR.out, badB_mono _ _ _ k hlt HQ.out HN.out]; rfl
          exact ⟨by rw [e]; rfl, rfl⟩
        · have x0 : 0 ≤ nth (nth a.nx l.toNat) k := by omega
          have x1 : nth (nth a.nx l.toNat) k < 10 := by have := HR.out k (by omega); omega
          have hd : decide (nth (nth a.nx l.toNat) k < 0) = false := by simpa using hneg
          have HD := hid hd
          go_wp2
          go_round
          case rel => exact ⟨k + 1, by omega, by go_num, by
              rw [moveB_succ, if_pos HQ.out, or_w64 _ _ HM.out (by omega)], by show _ = _; rw [badB_succ, hb0.out, HD.out]; simp⟩
          case measure => simp [intOf]; omega
      | false =>
        rw [hq, if_neg (by simp)] at hb
        have HQ := hid hq
        clear hq
        go_wp2
        go_round
        case rel => exact ⟨k + 1, by omega, by go_num, by rw [moveB_succ, if_neg (by rw [HQ.out]; simp)], by show _ = _; rw [badB_succ, hb0.out, HQ.out]; rfl⟩
        case measure => simp [intOf]; omega
    · have e : k = n := by omega
      subst e
      go_wp2
      go_ret2
      have e : R = some (moveB (nth a.nx l.toNat) F k) := by rw [HRR.out, hb0.out]; rfl
      exact ⟨by rw [e]; rfl, rfl⟩
set_option maxRecDepth 20000 in
set_option maxHeartbeats 1000000 in
theorem l04Moved_any (p v : Value) (a : Aut) (F : Nat) (ws : List Int) (w : World) (hp : PAut w p a) (h : IntsAt w v ws) (ha : partOk a = true) (hw : letters a ws) (hF : F < 2 ^ a.n.toNat) :
    Calls Try.prog 77 #[p, .int .i64 F, v] w fun e w' => e = .returned (.tuple #[.int .i64 ((prun a.nx F ws).getD 0 : Nat), .bool (prun a.nx F ws).isSome]) ∧ w' = w := by
  obtain ⟨A, c, rfl, hl, hc⟩ := h
  have HA := hid ha
  have HW := hid hw
  have HF := hid hF
  have HP := hid hp
  clear ha hw hF hp
  go_enter Try.func77, Try.ntmps77
  go_wp2
  go_loop [1, 8, 9] (fun q ok i => ∃ k : Nat, k ≤ ws.length ∧ i = .int .i64 k ∧ q = .int .i64 ((prun a.nx F (ws.take k)).getD 0 : Nat) ∧ ok = .bool (prun a.nx F (ws.take k)).isSome) (fun _ _ i => ws.length - (intOf i).toNat)
  case atStart => exact ⟨0, Nat.zero_le _, rfl, rfl, rfl⟩
  case round =>
    obtain ⟨k, hk, rfl, rfl, rfl⟩ := hrel
    by_cases hlt : k < ws.length
    · obtain ⟨b, off, rfl, hx⟩ := hc k hlt
      have b1 : (k : Int) < (ws.length : Int) := by omega
      have HL := hid (HW.out k hlt)
      clear hc
      cases hq : prun a.nx F (ws.take k) with
      | none =>
        have HQ := hid (prun_none _ _ _ k hk hq)
        clear hq
        go_wp2
        go_ret2
        exact ⟨by rw [HQ.out]; rfl, rfl⟩
      | some g =>
        have HT := hid (prun_take a.nx F ws k hlt)
        rw [hq] at HT
        have hg := prun_lt HA.out ws HW.out F HF.out k hk g hq
        clear hq
        have C := l04Step_any _ a g (nth ws k) w HP.out HA.out HL.out hg
        go_wp2_with fail
        refine C.mono ?_
        rintro e w' ⟨rfl, rfl⟩
        go_wp2
        go_round
        case rel => exact ⟨k + 1, by omega, by go_num, by rw [HT.out]; rfl, by rw [HT.out]; rfl⟩
        case measure => simp [intOf]; omega
    · have e : k = ws.length := by omega
      subst e
      go_wp2
      go_ret2
      exact ⟨by simp, rfl⟩
set_option maxHeartbeats 400000 in
theorem l04Shape_any (n : Int) (L : Nat) (w : World) (h : L ≤ 1048576) :
    Calls Try.prog 75 #[.int .i64 n, .int .i64 L] w fun e w' => ∃ rv, e = .returned (.agg #[.int .i64 n, rv]) ∧ New w w' ∧ RowsAt w' rv (List.replicate L []) := by
  have hmk := fun w => run_make_row' (P := Try.prog) 22 25 (.slice none 0 0) 24 Try.underlying22 info_ints rfl .i64 .i64 L (by omega) (by omega) w
  obtain ⟨wm, hwm⟩ : ∃ wm, wm = (w.alloc (.cells #[.int .i64 n, .slice (some ⟨w.heap.size + 1, 0, none⟩) L L] 27)).alloc (.cells (madeCells #[.slice none 0 0] L) 25) := ⟨_, rfl⟩
  have hrow : wm.rowIs (w.heap.size + 1) 25 L (fun _ => .slice none 0 0) := by
    have := World.rowIs_made (w.alloc (.cells #[.int .i64 n, .slice (some ⟨w.heap.size + 1, 0, none⟩) L L] 27)) (.slice none 0 0) L 25
    rw [size_alloc] at this
    rw [hwm]; exact this
  have hn : New w wm := by rw [hwm]; exact (by repeat (first | with_reducible exact New.refl _ | with_reducible assumption | with_reducible refine New.alloc ?_ _ | with_reducible refine New.drew ?_ | with_reducible refine New.drewN ?_ _ | with_reducible refine New.setCell ?_ (by simp <;> omega) _))
  have hA : ∀ w', New wm w' → RowsAt w' (.slice (some ⟨w.heap.size + 1, 0, none⟩) L L) (List.replicate L []) := fun w' hw => by
    refine ⟨some ⟨w.heap.size + 1, 0, none⟩, L, by simp, by simp; omega, fun i hi => ?_⟩
    simp at hi
    refine ⟨w.heap.size + 1, 0, .slice none 0 0, rfl, hw.cell (by rw [Nat.zero_add]; exact hrow.cell hi), none, 0, ?_, ?_, ?_⟩
    · rw [nth_eq _ _ (by simpa using hi)]; simp
    · rw [nth_eq _ _ (by simpa using hi)]; simp
    · intro j hj; rw [nth_eq _ _ (by simpa using hi)] at hj; simp at hj
  have HA := hid hA
  have HN := hid hn
  clear hA hn hrow
  go_enter Try.func75, Try.ntmps75
  go_wp2_with fail
  refine bodyPost_ret (v := .agg #[.int .i64 n, .slice (some ⟨w.heap.size + 1, 0, none⟩) L L]) (by simp [results, Try.results75, go_sem]) rfl ?_
  rw [← hwm]
  exact ⟨_, rfl, HN.out, HA.out _ (New.refl _)⟩

end Go.Proofs.Ytaaaeekdfmfooaa
