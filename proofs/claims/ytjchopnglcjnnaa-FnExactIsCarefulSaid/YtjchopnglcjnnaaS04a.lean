/- The reference's partial automata, and where words lead in them. -/
import Derived.Test.YtjchopnglcjnnaaRows
import Derived.Test.YtjchopnglcjnnaaBase
import Derived.Test.YtjchopnglcjnnaaAut
import Derived.Test.YtjchopnglcjnnaaApp
import Derived.Test.YtjchopnglcjnnaaInfo
import Derived.Test.YtjchopnglcjnnaaPlain1
import Derived.Test.YtjchopnglcjnnaaPlainRun
import Derived.Test.YtjchopnglcjnnaaPlainSet
import Derived.Test.YtjchopnglcjnnaaPlainBits
import Derived.Test.YtjchopnglcjnnaaPlainPart
import Derived.Test.YtjchopnglcjnnaaS01a
import Derived.Test.YtjchopnglcjnnaaSFlk
import Derived.WalkKit
import Derived.WalkSpells
import Derived.WalkLawsBesides
import Derived.Deep.QuietTactic
import Derived.Deep.OwnRows
import Derived.BigQuiet
import Derived.KernelRfl
namespace Go.Proofs.Ytjchopnglcjnnaa
open Go.RowKit

set_option maxHeartbeats 400000 in
theorem l04Size_any (n l : Int) (w : World) :
    Calls Try.prog 149 #[.int .i64 n, .int .i64 l] w fun e w' => e = .returned (.bool (inB n 1 10 && inB l 1 3)) ∧ w' = w := by
  have C := l00In_any n 1 10
  cases h : inB n 1 10 with
  | false =>
    simp only [h] at C
    go_enter Try.func149, Try.ntmps149
    go_wp2_with fail
    refine (C _).mono ?_
    rintro e w' ⟨rfl, rfl⟩
    go_wp2
    go_ret
    exact ⟨rfl, rfl⟩
  | true =>
    simp only [h] at C
    go_enter Try.func149, Try.ntmps149
    go_wp2_with fail
    refine (C _).mono ?_
    rintro e w' ⟨rfl, rfl⟩
    go_wp2_with fail
    refine (l00In_any _ _ _ _).mono ?_
    rintro e w' ⟨rfl, rfl⟩
    go_wp2
    go_ret
    exact ⟨rfl, rfl⟩
set_option maxHeartbeats 2000000 in
theorem l04Ok_any (p : Value) (a : Aut) (w : World) (hp : PAut w p a) :
    Calls Try.prog 64 #[p] w fun e w' => e = .returned (.bool (partOk a)) ∧ New w w' := by
  obtain ⟨pb, rv, rfl, h0, h1, hr⟩ := hp
  obtain ⟨A2, c2, rfl⟩ := hr.form
  have hl2 := hr.len
  have C0 := l04Size_any a.n a.nx.length
  cases hs : (inB a.n 1 10 && inB a.nx.length 1 3) with
  | false =>
    simp only [hs] at C0
    go_enter Try.func64, Try.ntmps64
    go_wp2_with fail
    go_quiet ((go_at_call 149; exact Calls.quiet_of_same (C0 _)))
    go_wp2
    go_ret
    refine ⟨ret_bool ?_, (New.refl w).drewN nq⟩
    unfold partOk; rw [← Bool.and_assoc, hs]; rfl
  | true =>
    simp only [hs] at C0
    have hok : partOk a = partRows a.nx a.n := by unfold partOk; rw [← Bool.and_assoc, hs]; rfl
    rw [hok]
    rw [Bool.and_eq_true] at hs
    have hn := (inB_iff _ _ _).1 hs.1
    have n1 : 1 ≤ a.n := hn.1
    have n2 : a.n ≤ 10 := hn.2
    clear hs hok hn
    go_enter Try.func64, Try.ntmps64
    go_wp2_with fail
    go_quiet ((go_at_call 149; exact Calls.quiet_of_same (C0 _)))
    have hN : New w (w.drewN nq) := (New.refl w).drewN nq
    generalize w.drewN nq = ws at hN ⊢
    go_wp2
    go_loopw [3] (fun i wr => ∃ k : Nat, k ≤ a.nx.length ∧ i = .int .i64 k ∧ Hid (∀ j, j < k → partRow (nth a.nx j) a.n = true) ∧ New w wr) (fun i _ => a.nx.length - (intOf i).toNat)
    case atStart => exact ⟨0, Nat.zero_le _, rfl, fun j hj => absurd hj (by omega), hN⟩
    case round =>
      clear hN
      obtain ⟨k, hk, rfl, he, hw⟩ := hrel
      replace h0 := hw.cell h0
      replace h1 := hw.cell h1
      by_cases hlt : k < a.nx.length
      · obtain ⟨A4, c4, e4, hl4, hc4⟩ := hr
        cases e4
        obtain ⟨b, off, rv, rfl, hx, hr⟩ := hc4 k hlt
        have kb1 : (k : Int) < (a.nx.length : Int) := by omega
        replace hx := hw.cell hx
        replace hr := hr.new hw
        obtain ⟨A5, c5, rfl, hl5, hc5⟩ := hr
        clear hc4
        by_cases hlen2 : ((nth a.nx k).length : Int) = a.n
        · have hb2 : (((nth a.nx k).length : Int) != a.n) = false := by simp [hlen2]
          have HL2 := hid hlen2
          clear hlen2
          go_wp2_with fail
          go_quiet (fail)
          have hw2 : New w (wr.drewN nq) := hw.drewN nq
          have g0 : (wr.drewN nq).cell? ⟨pb, 0, none⟩ = some (.int .i64 a.n) := h0
          have g3 : (wr.drewN nq).cell? ⟨pb, 1, none⟩ = some (.slice (some ⟨b, off, none⟩) a.nx.length c2) := h1
          have gx : (wr.drewN nq).cell? ⟨b, off + k, none⟩ = some (.slice A5 (nth a.nx k).length c5) := hx
          have g5 : ∀ i, i < (nth a.nx k).length → ∃ b off, A5 = some ⟨b, off, none⟩ ∧ (wr.drewN nq).cell? ⟨b, off + i, none⟩ = some (.int .i64 (nth (nth a.nx k) i)) := hc5
          clear h0 h1 hx hw hc5
          generalize wr.drewN nq = wo at hw2 g0 g3 gx g5 ⊢
          go_wp2
          go_loopw [4] (fun i wr => ∃ q : Nat, q ≤ (nth a.nx k).length ∧ i = .int .i64 q ∧ Hid (∀ j, j < q → inB (nth (nth a.nx k) j) (-1) (a.n - 1) = true) ∧ New wo wr) (fun i _ => (nth a.nx k).length - (intOf i).toNat)
          case atStart => exact ⟨0, Nat.zero_le _, rfl, fun j hj => absurd hj (by omega), New.refl _⟩
          case round =>
            rename_i wi _
            obtain ⟨q, hq, rfl, hf, hv⟩ := hrel
            have g0 := hv.cell g0
            have g3 := hv.cell g3
            have gx := hv.cell gx
            by_cases hlq : q < (nth a.nx k).length
            · obtain ⟨b6, off6, rfl, hy⟩ := g5 q hlq
              have hy := hv.cell hy
              have kb2 : (q : Int) < ((nth a.nx k).length : Int) := by omega
              cases hin : inB (nth (nth a.nx k) q) (-1) (a.n - 1) with
              | true =>
                have HIN := hid hin
                have C3 : ∀ w, Calls Try.prog 78 #[.int .i64 (nth (nth a.nx k) q), .int .i64 (-1), .int .i64 (a.n - 1)] w fun e' w' => e' = .returned (.bool true) ∧ w' = w := fun w => by have := l00In_any (nth (nth a.nx k) q) (-1) (a.n - 1) w; rw [HIN.out] at this; exact this
                clear hin g5
                go_wp2_with fail
                go_quiet ((go_at_call 78; exact Calls.quiet_of_same (C3 _)))
                go_wp2
                go_roundw
                case rel => exact ⟨q + 1, by omega, by go_num, fun i hi => by
                    rcases Nat.lt_succ_iff_lt_or_eq.1 hi with h | h
                    · exact hf.out i h
                    · subst h; exact HIN.out, hv.drewN nq⟩
                case measure => simp [intOf]; omega
              | false =>
                have HIN := hid hin
                have C3 : ∀ w, Calls Try.prog 78 #[.int .i64 (nth (nth a.nx k) q), .int .i64 (-1), .int .i64 (a.n - 1)] w fun e' w' => e' = .returned (.bool false) ∧ w' = w := fun w => by have := l00In_any (nth (nth a.nx k) q) (-1) (a.n - 1) w; rw [HIN.out] at this; exact this
                clear hin g5
                go_wp2_with fail
                go_quiet ((go_at_call 78; exact Calls.quiet_of_same (C3 _)))
                go_wp2
                go_ret
                refine ⟨ret_bool ?_, hw2.trans (hv.drewN nq)⟩
                have hf : partRow (nth a.nx k) a.n = false := by unfold partRow; rw [allIn_false _ _ _ q hlq HIN.out, Bool.and_false]
                rw [partRows_false _ _ k hlt hf]
            · have e : q = (nth a.nx k).length := by omega
              subst e
              go_wp2
              go_roundw
              case rel =>
                refine ⟨k + 1, by omega, by go_num, fun i hi => ?_, hw2.trans hv⟩
                rcases Nat.lt_succ_iff_lt_or_eq.1 hi with h | h
                · exact he.out i h
                · subst h
                  unfold partRow
                  rw [(allIn_iff _ _ _).2 fun j hj => hf.out j hj]
                  simp [HL2.out]
              case measure => simp [intOf]; omega
        · have hb2 : (((nth a.nx k).length : Int) != a.n) = true := by simp [hlen2]
          go_wp2_with fail
          go_quiet (fail)
          go_wp2
          go_ret
          refine ⟨ret_bool ?_, hw.drewN nq⟩
          rw [partRows_false _ _ k hlt (by unfold partRow; simp [hlen2])]
      · have e : k = a.nx.length := by omega
        subst e
        go_wp2
        go_ret
        exact ⟨ret_bool ((partRows_iff _ _).2 fun i hi => he.out i hi).symm, hw⟩
set_option maxRecDepth 20000 in
set_option maxHeartbeats 1000000 in
theorem l04Step_any (p : Value) (a : Aut) (F : Nat) (l : Int) (w : World) (hp : PAut w p a) (ha : partOk a = true) (hl : 0 ≤ l ∧ l < a.nx.length) (hF : F < 2 ^ a.n.toNat) :
    Calls Try.prog 150 #[p, .int .i64 F, .int .i64 l] w fun e w' => e = .returned (.tuple #[.int .i64 ((pstep (nth a.nx l.toNat) F).getD 0 : Nat), .bool (pstep (nth a.nx l.toNat) F).isSome]) ∧ w' = w := by
  obtain ⟨pb, rv, rfl, h0, h1, hr⟩ := hp
  obtain ⟨A2, c2, rfl, hl2, hc2⟩ := hr
  obtain ⟨⟨n1, n2⟩, _, hrows⟩ := partOk_parts ha
  obtain ⟨b2, off2, rv, rfl, hx2, hr2⟩ := hc2 l.toNat (by omega)
  obtain ⟨A3, c3, rfl, hl3, hc3⟩ := hr2
  obtain ⟨r1, r2⟩ := hrows l.toNat (by omega)
  have hF10 : F < 1024 := lt_10 hF (by omega)
  obtain ⟨l0, l1⟩ := hl
  have HR := hid r2
  obtain ⟨n, hnn⟩ : ∃ n : Nat, a.n = (n : Int) := ⟨a.n.toNat, by omega⟩
  rw [hnn] at h0 hF r1
  rw [Int.toNat_natCast] at hF
  obtain ⟨R, hRR⟩ : ∃ R, R = pstep (nth a.nx l.toNat) F := ⟨_, rfl⟩
  rw [← hRR]
  have HRR := hid (show R = if badB (nth a.nx l.toNat) F n = true then none else some (moveB (nth a.nx l.toNat) F n) by rw [hRR, pstep, badB_eq _ hF (by omega), moved_eq _ hF (by omega)])
  clear hc2 r2 hrows hRR
  go_enter Try.func150, Try.ntmps150
  go_wp2
  go_loop [8, 9] (fun q i => ∃ k : Nat, k ≤ n ∧ i = .int .i64 k ∧ q = .int .i64 (moveB (nth a.nx l.toNat) F k) ∧ Hid (badB (nth a.nx l.toNat) F k = false)) (fun _ i => n - (intOf i).toNat)
  case atStart => exact ⟨0, Nat.zero_le _, rfl, rfl, rfl⟩
  case round =>
    obtain ⟨k, hk, rfl, rfl, hb0⟩ := hrel
    by_cases hlt : k < n
    · have b1 : (k : Int) < (n : Int) := by omega
      have hb := bit_i64 F k hF10
      obtain ⟨b3, off3, rfl, hx3⟩ := hc3 k (by omega)
      have k3 : (k : Int) < ((nth a.nx l.toNat).length : Int) := by omega
      have hm : moveB (nth a.nx l.toNat) F k < 1024 := moveB_lt _ _ 10 _ fun i hi _ => by have := HR.out i (by omega); omega
      have HM := hid hm
      clear hm hc3
      cases hq : F.testBit k with
      | true =>
        rw [hq, if_pos rfl] at hb
        have HQ := hid hq
        clear hq
        by_cases hneg : nth (nth a.nx l.toNat) k < 0
        · have HN := hid hneg
          go_wp2
          go_ret2
          have e : R = none := by rw [HRR.out, badB_mono _ _ _ k hlt HQ.out HN.out]; rfl
          exact ⟨by rw [e]; rfl, rfl⟩
        · have x0 : 0 ≤ nth (nth a.nx l.toNat) k := by omega
          have x1 : nth (nth a.nx l.toNat) k < 10 := by have := HR.out k (by omega); omega
          have hd : decide (nth (nth a.nx l.toNat) k < 0) = false := by simpa using hneg
          have HD := hid hd
          go_wp2
          go_round
          case rel => exact ⟨k + 1, by omega, by go_num, by
              rw [moveB_succ, if_pos HQ.out, or_w64 _ _ HM.out (by omega)], by show _ = _; rw [badB_succ, hb0.out, HD.out]; simp⟩
          case measure => simp [intOf]; omega
      | false =>
        rw [hq, if_neg (by simp)] at hb
        have HQ := hid hq
        clear hq
        go_wp2
        go_round
        case rel => exact ⟨k + 1, by omega, by go_num, by rw [moveB_succ, if_neg (by rw [HQ.out]; simp)], by show _ = _; rw [badB_succ, hb0.out, HQ.out]; rfl⟩
        case measure => simp [intOf]; omega
    · have e : k = n := by omega
      subst e
      go_wp2
      go_ret2
      have e : R = some (moveB (nth a.nx l.toNat) F k) := by rw [HRR.out, hb0.out]; rfl
      exact ⟨by rw [e]; rfl, rfl⟩
set_option maxRecDepth 20000 in
set_option maxHeartbeats 1000000 in
theorem l04Moved_any (p v : Value) (a : Aut) (F : Nat) (ws : List Int) (w : World) (hp : PAut w p a) (h : IntsAt w v ws) (ha : partOk a = true) (hw : letters a ws) (hF : F < 2 ^ a.n.toNat) :
    Calls Try.prog 67 #[p, .int .i64 F, v] w fun e w' => e = .returned (.tuple #[.int .i64 ((prun a.nx F ws).getD 0 : Nat), .bool (prun a.nx F ws).isSome]) ∧ w' = w := by
  obtain ⟨A, c, rfl, hl, hc⟩ := h
  have HA := hid ha
  have HW := hid hw
  have HF := hid hF
  have HP := hid hp
  clear ha hw hF hp
  go_enter Try.func67, Try.ntmps67
  go_wp2
  go_loop [1, 8, 9] (fun q ok i => ∃ k : Nat, k ≤ ws.length ∧ i = .int .i64 k ∧ q = .int .i64 ((prun a.nx F (ws.take k)).getD 0 : Nat) ∧ ok = .bool (prun a.nx F (ws.take k)).isSome) (fun _ _ i => ws.length - (intOf i).toNat)
  case atStart => exact ⟨0, Nat.zero_le _, rfl, rfl, rfl⟩
  case round =>
    obtain ⟨k, hk, rfl, rfl, rfl⟩ := hrel
    by_cases hlt : k < ws.length
    · obtain ⟨b, off, rfl, hx⟩ := hc k hlt
      have b1 : (k : Int) < (ws.length : Int) := by omega
      have HL := hid (HW.out k hlt)
      clear hc
      cases hq : prun a.nx F (ws.take k) with
      | none =>
        have HQ := hid (prun_none _ _ _ k hk hq)
        clear hq
        go_wp2
        go_ret2
        exact ⟨by rw [HQ.out]; rfl, rfl⟩
      | some g =>
        have HT := hid (prun_take a.nx F ws k hlt)
        rw [hq] at HT
        have hg := prun_lt HA.out ws HW.out F HF.out k hk g hq
        clear hq
        have C := l04Step_any _ a g (nth ws k) w HP.out HA.out HL.out hg
        go_wp2_with fail
        refine C.mono ?_
        rintro e w' ⟨rfl, rfl⟩
        go_wp2
        go_round
        case rel => exact ⟨k + 1, by omega, by go_num, by rw [HT.out]; rfl, by rw [HT.out]; rfl⟩
        case measure => simp [intOf]; omega
    · have e : k = ws.length := by omega
      subst e
      go_wp2
      go_ret2
      exact ⟨by simp, rfl⟩
set_option maxHeartbeats 400000 in
theorem l04All_any (n : Nat) (w : World) (h : n ≤ 10) :
    Calls Try.prog 68 #[.int .i64 n] w fun e w' => e = .returned (.int .i64 (full n : Nat)) ∧ w' = w := by
  have hf := full_cast n h
  have hp := pow10' n h
  go_enter Try.func68, Try.ntmps68
  go_wp2
  go_ret
  refine ⟨ret_int ?_, rfl⟩
  rw [hf, cast_pow]
  unfold Go.RowKit.wrap64
  have := Nat.two_pow_pos n
  omega
set_option maxHeartbeats 400000 in
theorem l04Shape_any (n : Int) (L : Nat) (w : World) (h : L ≤ 1048576) :
    Calls Try.prog 65 #[.int .i64 n, .int .i64 L] w fun e w' => ∃ rv, e = .returned (.agg #[.int .i64 n, rv]) ∧ New w w' ∧ RowsAt w' rv (List.replicate L []) := by
  have hmk := fun w => run_make_row' (P := Try.prog) 22 25 (.slice none 0 0) 24 Try.underlying22 info_ints rfl .i64 .i64 L (by omega) (by omega) w
  obtain ⟨wm, hwm⟩ : ∃ wm, wm = (w.alloc (.cells #[.int .i64 n, .slice (some ⟨w.heap.size + 1, 0, none⟩) L L] 37)).alloc (.cells (madeCells #[.slice none 0 0] L) 25) := ⟨_, rfl⟩
  have hrow : wm.rowIs (w.heap.size + 1) 25 L (fun _ => .slice none 0 0) := by
    have := World.rowIs_made (w.alloc (.cells #[.int .i64 n, .slice (some ⟨w.heap.size + 1, 0, none⟩) L L] 37)) (.slice none 0 0) L 25
    rw [size_alloc] at this
    rw [hwm]; exact this
  have hn : New w wm := by rw [hwm]; exact (by repeat (first | with_reducible exact New.refl _ | with_reducible assumption | with_reducible refine New.alloc ?_ _ | with_reducible refine New.drew ?_ | with_reducible refine New.drewN ?_ _ | with_reducible refine New.setCell ?_ (by simp <;> omega) _))
  have hA : ∀ w', New wm w' → RowsAt w' (.slice (some ⟨w.heap.size + 1, 0, none⟩) L L) (List.replicate L []) := fun w' hw => by
    refine ⟨some ⟨w.heap.size + 1, 0, none⟩, L, by simp, by simp; omega, fun i hi => ?_⟩
    simp at hi
    refine ⟨w.heap.size + 1, 0, .slice none 0 0, rfl, hw.cell (by rw [Nat.zero_add]; exact hrow.cell hi), none, 0, ?_, ?_, ?_⟩
    · rw [nth_eq _ _ (by simpa using hi)]; simp
    · rw [nth_eq _ _ (by simpa using hi)]; simp
    · intro j hj; rw [nth_eq _ _ (by simpa using hi)] at hj; simp at hj
  have HA := hid hA
  have HN := hid hn
  clear hA hn hrow
  go_enter Try.func65, Try.ntmps65
  go_wp2_with fail
  refine bodyPost_ret (v := .agg #[.int .i64 n, .slice (some ⟨w.heap.size + 1, 0, none⟩) L L]) (by simp [results, Try.results65, go_sem]) rfl ?_
  rw [← hwm]
  exact ⟨_, rfl, HN.out, HA.out _ (New.refl _)⟩
set_option maxHeartbeats 1000000 in
theorem specIsCareful_any (v1 v2 : Value) (a : Aut) (ws : List Int) (w : World) (h1 : AutAt w v1 a) (h2 : IntsAt w v2 ws) :
    Calls Try.prog 16 #[v1, v2] w fun e w' => e = .returned (.tuple #[.bool (IsCareful a ws).1, .int .i64 (IsCareful a ws).2]) ∧ New w w' := by
  obtain ⟨rv, rfl, hr⟩ := h1
  obtain ⟨A, c, rfl⟩ := hr.form
  obtain ⟨wb, hwb⟩ : ∃ wb, wb = w.alloc (.cells #[.int .i64 a.n, .slice A a.nx.length c] 29) := ⟨_, rfl⟩
  have hp : PAut wb (.pointer (some ⟨w.heap.size, 0, none⟩)) a := by rw [hwb]; exact PAut.box hr _
  have hnb : New w wb := by rw [hwb]; exact (by repeat (first | with_reducible exact New.refl _ | with_reducible assumption | with_reducible refine New.alloc ?_ _ | with_reducible refine New.drew ?_ | with_reducible refine New.drewN ?_ _ | with_reducible refine New.setCell ?_ (by simp <;> omega) _))
  have hb0 : wb.cell? ⟨w.heap.size, 0, none⟩ = some (.int .i64 a.n) := by rw [hwb]; go_simp
  have hb1 : wb.cell? ⟨w.heap.size, 1, none⟩ = some (.slice A a.nx.length c) := by rw [hwb]; go_simp
  have hl := hr.len
  obtain ⟨R, hR⟩ : ∃ R, R = IsCareful a ws := ⟨_, rfl⟩
  rw [← hR]
  have HR := hid (show R = if partOk a = true then (if wordOk a ws = true then ((match prun a.nx (full a.n) ws with | some g => smallB g | none => false), 0) else (false, 2)) else (false, 1) from hR)
  clear hR
  have C1 := l04Ok_any _ a _ hp
  cases ha : partOk a with
  | false =>
    rw [ha] at C1
    go_enter Try.func16, Try.ntmps16
    go_wp2_with fail
    rw [← hwb]
    refine C1.mono ?_
    rintro e w1 ⟨rfl, hn1⟩
    go_wp2
    go_ret2
    exact ⟨by rw [HR.out, ha]; rfl, (by repeat (first | with_reducible exact New.refl _ | with_reducible assumption | with_reducible refine New.alloc ?_ _ | with_reducible refine New.drewN ?_ _ | with_reducible refine New.drew ?_ | with_reducible refine New.trans ?_ (by with_reducible assumption)))⟩
  | true =>
    rw [ha] at C1
    obtain ⟨⟨n1, n2⟩, ⟨l1, l2⟩, _⟩ := partOk_parts ha
    have C2 := fun w => l04Shape_any a.n a.nx.length w (by omega)
    have C4 : ∀ w, Calls Try.prog 68 #[.int .i64 a.n] w fun e w' => e = .returned (.int .i64 (full a.n : Nat)) ∧ w' = w := fun w => by
      obtain ⟨n, hnn⟩ : ∃ n : Nat, a.n = (n : Int) := ⟨a.n.toNat, by omega⟩
      rw [hnn]; exact l04All_any n w (by omega)
    have HA := hid ha
    clear ha
    cases hw : wordOk a ws with
    | false =>
      go_enter Try.func16, Try.ntmps16
      go_wp2_with fail
      rw [← hwb]
      refine C1.mono ?_
      rintro e w1 ⟨rfl, hn1⟩
      replace hb0 := hn1.cell hb0
      replace hb1 := hn1.cell hb1
      go_wp2_with fail
      refine (C2 _).mono ?_
      rintro e w2 ⟨rv, he, hn2, hrv⟩
      obtain ⟨A3, c3, rfl⟩ := hrv.form
      subst he
      have hpa : PAut (w2.alloc (.cells #[.int .i64 a.n, .slice A3 (List.replicate a.nx.length ([] : List Int)).length c3] 37)) (.pointer (some ⟨w2.heap.size, 0, none⟩)) ⟨a.n, List.replicate a.nx.length []⟩ := PAut.box (a := ⟨a.n, List.replicate a.nx.length []⟩) hrv _
      rw [List.length_replicate] at hpa
      rw [List.length_replicate]
      have C3 := fun w1 (hm : New (w2.alloc (.cells #[.int .i64 a.n, .slice A3 a.nx.length c3] 37)) w1) => l01Word_any _ _ _ ws w1 (hpa.new hm) (h2.new (by repeat (first | with_reducible exact New.refl _ | with_reducible assumption | with_reducible refine New.alloc ?_ _ | with_reducible refine New.drewN ?_ _ | with_reducible refine New.drew ?_ | with_reducible refine New.trans ?_ (by with_reducible assumption))))
      rw [wordOk_len _ a ws (by simp), hw] at C3
      go_wp2_with fail
      refine (C3 _ (by repeat (first | with_reducible exact New.refl _ | with_reducible assumption | with_reducible refine New.alloc ?_ _ | with_reducible refine New.drewN ?_ _ | with_reducible refine New.drew ?_ | with_reducible refine New.trans ?_ (by with_reducible assumption)))).mono ?_
      rintro e w3 ⟨rfl, hn3⟩
      go_wp2
      go_ret2
      exact ⟨by rw [HR.out, HA.out, hw]; rfl, (by repeat (first | with_reducible exact New.refl _ | with_reducible assumption | with_reducible refine New.alloc ?_ _ | with_reducible refine New.drewN ?_ _ | with_reducible refine New.drew ?_ | with_reducible refine New.trans ?_ (by with_reducible assumption)))⟩
    | true =>
      have hfl := full_lt a.n
      have hg : ∀ g, prun a.nx (full a.n) ws = some g → g < 1024 := fun g hg => by
        have := prun_lt HA.out ws (letters_of hw) _ hfl ws.length (Nat.le_refl _) g (by rw [List.take_length]; exact hg)
        exact lt_10 this (by omega)
      have C5 := fun w1 (hm : New wb w1) => l04Moved_any _ _ a (full a.n) ws w1 (hp.new hm) (h2.new (hnb.trans hm)) HA.out (letters_of hw) hfl
      have HG := hid hg
      have HC5 := hid C5
      clear hg hfl C5
      go_enter Try.func16, Try.ntmps16
      go_wp2_with fail
      rw [← hwb]
      refine C1.mono ?_
      rintro e w1 ⟨rfl, hn1⟩
      replace hb0 := hn1.cell hb0
      replace hb1 := hn1.cell hb1
      go_wp2_with fail
      refine (C2 _).mono ?_
      rintro e w2 ⟨rv, he, hn2, hrv⟩
      obtain ⟨A3, c3, rfl⟩ := hrv.form
      subst he
      have hpa : PAut (w2.alloc (.cells #[.int .i64 a.n, .slice A3 (List.replicate a.nx.length ([] : List Int)).length c3] 37)) (.pointer (some ⟨w2.heap.size, 0, none⟩)) ⟨a.n, List.replicate a.nx.length []⟩ := PAut.box (a := ⟨a.n, List.replicate a.nx.length []⟩) hrv _
      rw [List.length_replicate] at hpa
      rw [List.length_replicate]
      have C3 := fun w1 (hm : New (w2.alloc (.cells #[.int .i64 a.n, .slice A3 a.nx.length c3] 37)) w1) => l01Word_any _ _ _ ws w1 (hpa.new hm) (h2.new (by repeat (first | with_reducible exact New.refl _ | with_reducible assumption | with_reducible refine New.alloc ?_ _ | with_reducible refine New.drewN ?_ _ | with_reducible refine New.drew ?_ | with_reducible refine New.trans ?_ (by with_reducible assumption))))
      rw [wordOk_len _ a ws (by simp), hw] at C3
      replace hb0 := hn2.cell hb0
      replace hb1 := hn2.cell hb1
      go_wp2_with fail
      refine (C3 _ (by repeat (first | with_reducible exact New.refl _ | with_reducible assumption | with_reducible refine New.alloc ?_ _ | with_reducible refine New.drewN ?_ _ | with_reducible refine New.drew ?_ | with_reducible refine New.trans ?_ (by with_reducible assumption)))).mono ?_
      rintro e w3 ⟨rfl, hn3⟩
      have hn4 : New w2 w3 := (by repeat (first | with_reducible exact New.refl _ | with_reducible assumption | with_reducible refine New.alloc ?_ _ | with_reducible refine New.drewN ?_ _ | with_reducible refine New.drew ?_ | with_reducible refine New.trans ?_ (by with_reducible assumption)))
      replace hb0 := hn4.cell hb0
      replace hb1 := hn4.cell hb1
      go_wp2_with fail
      refine (C4 _).mono ?_
      rintro e w' ⟨rfl, rfl⟩
      go_wp2_with fail
      refine (HC5.out _ (by repeat (first | with_reducible exact New.refl _ | with_reducible assumption | with_reducible refine New.alloc ?_ _ | with_reducible refine New.drewN ?_ _ | with_reducible refine New.drew ?_ | with_reducible refine New.trans ?_ (by with_reducible assumption)))).mono ?_
      cases hq : prun a.nx (full a.n) ws with
      | none =>
        rintro e w' ⟨rfl, rfl⟩
        go_wp2
        go_ret2
        exact ⟨by rw [HR.out, HA.out, hw, hq]; rfl, (by repeat (first | with_reducible exact New.refl _ | with_reducible assumption | with_reducible refine New.alloc ?_ _ | with_reducible refine New.drewN ?_ _ | with_reducible refine New.drew ?_ | with_reducible refine New.trans ?_ (by with_reducible assumption)))⟩
      | some g =>
        rintro e w' ⟨rfl, rfl⟩
        go_wp2_with (go_at_call 69; refine (l02Single_any g _ (HG.out g hq)).mono ?_; rintro e w' ⟨rfl, rfl⟩)
        go_ret2
        exact ⟨by rw [HR.out, HA.out, hw, hq]; rfl, (by repeat (first | with_reducible exact New.refl _ | with_reducible assumption | with_reducible refine New.alloc ?_ _ | with_reducible refine New.drewN ?_ _ | with_reducible refine New.drew ?_ | with_reducible refine New.trans ?_ (by with_reducible assumption)))⟩

end Go.Proofs.Ytjchopnglcjnnaa
