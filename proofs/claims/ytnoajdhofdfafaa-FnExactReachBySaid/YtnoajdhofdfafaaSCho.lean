/- The reference's automata with choices, and where words lead in them. -/
import Derived.Test.YtnoajdhofdfafaaRows
import Derived.Test.YtnoajdhofdfafaaBase
import Derived.Test.YtnoajdhofdfafaaAut
import Derived.Test.YtnoajdhofdfafaaMach
import Derived.Test.YtnoajdhofdfafaaCho
import Derived.Test.YtnoajdhofdfafaaApp
import Derived.Test.YtnoajdhofdfafaaInfo
import Derived.Test.YtnoajdhofdfafaaPlain1
import Derived.Test.YtnoajdhofdfafaaPlainRun
import Derived.Test.YtnoajdhofdfafaaPlainSet
import Derived.Test.YtnoajdhofdfafaaPlainBits
import Derived.Test.YtnoajdhofdfafaaPlainPart
import Derived.Test.YtnoajdhofdfafaaPlainCho
import Derived.Test.YtnoajdhofdfafaaS00b
import Derived.Test.YtnoajdhofdfafaaS01a
import Derived.Test.YtnoajdhofdfafaaSFlk
import Derived.Test.YtnoajdhofdfafaaS04a
import Derived.WalkKit
import Derived.WalkSpells
import Derived.WalkLawsBesides
import Derived.Deep.QuietTactic
import Derived.Deep.OwnRows
import Derived.BigQuiet
import Derived.KernelRfl
namespace Go.Proofs.Ytnoajdhofdfafaa
open Go.RowKit

theorem or_i64n (F G : Nat) (hF : F < 1024) (hG : G < 1024) : bits .or .i64 (F : Int) (G : Int) = ((F ||| G : Nat) : Int) := (bits_nat .i64 63 (by decide) wraps_i64 _ _ (by omega) (by omega)).2
theorem and_i64n (F G : Nat) (hF : F < 1024) (hG : G < 1024) : bits .and .i64 (F : Int) (G : Int) = ((F &&& G : Nat) : Int) := (bits_nat .i64 63 (by decide) wraps_i64 _ _ (by omega) (by omega)).1
/-- A pointer to an automaton with choices. -/
def PCho (w : World) (v : Value) (c : Cho) : Prop := ∃ b rv, v = .pointer (some ⟨b, 0, none⟩) ∧ w.cell? ⟨b, 0, none⟩ = some (.int .i64 c.n) ∧ w.cell? ⟨b, 1, none⟩ = some rv ∧ CubeAt w rv c.nx
theorem PCho.new {w w' : World} {v : Value} {c : Cho} (h : PCho w v c) (hw : New w w') : PCho w' v c :=
  let ⟨b, rv, e, h1, h2, h3⟩ := h; ⟨b, rv, e, hw.cell h1, hw.cell h2, h3.new hw⟩
theorem PCho.box {w : World} {A : Option Addr} {cap : Nat} {c : Cho} (h : CubeAt w (.slice A c.nx.length cap) c.nx) (t : TypeId) : PCho (w.alloc (.cells #[.int .i64 c.n, .slice A c.nx.length cap] t)) (.pointer (some ⟨w.heap.size, 0, none⟩)) c :=
  ⟨_, _, rfl, by unfold World.cell?; rw [heap_alloc_new]; rfl, by unfold World.cell?; rw [heap_alloc_new]; rfl, h.new ((New.refl _).alloc _)⟩
theorem CubeAt.len {w : World} {A : Option Addr} {n cap : Nat} {c : List (List (List Int))} (h : CubeAt w (.slice A n cap) c) : n ≤ 9223372036854775807 := by
  obtain ⟨_, _, e, hl, _⟩ := h; cases e; exact hl
set_option maxHeartbeats 2000000 in
theorem l04Choices_any (p : Value) (c : Cho) (w : World) (hp : PCho w p c) :
    Calls Try.prog 84 #[p] w fun e w' => e = .returned (.bool (choOk c)) ∧ New w w' := by
  obtain ⟨pb, rv, rfl, h0, h1, hr⟩ := hp
  obtain ⟨A2, c2, rfl⟩ := hr.form
  have hl2 := hr.len
  have C0 := l04Size_any c.n c.nx.length
  cases hs : (inB c.n 1 10 && inB c.nx.length 1 3) with
  | false =>
    simp only [hs] at C0
    go_enter Try.func84, Try.ntmps84
    go_wp2_with fail
    go_quiet ((go_at_call 162; exact Calls.quiet_of_same (C0 _)))
    go_wp2
    go_ret
    refine ⟨ret_bool ?_, (New.refl w).drewN nq⟩
    unfold choOk; rw [← Bool.and_assoc, hs]; rfl
  | true =>
    simp only [hs] at C0
    have hok : choOk c = choRows c.nx c.n := by unfold choOk; rw [← Bool.and_assoc, hs]; rfl
    rw [hok]
    rw [Bool.and_eq_true] at hs
    have hn := (inB_iff _ _ _).1 hs.1
    have n1 : 1 ≤ c.n := hn.1
    have n2 : c.n ≤ 10 := hn.2
    clear hs hok hn
    go_enter Try.func84, Try.ntmps84
    go_wp2_with fail
    go_quiet ((go_at_call 162; exact Calls.quiet_of_same (C0 _)))
    have hN : New w (w.drewN nq) := (New.refl w).drewN nq
    generalize w.drewN nq = ws at hN ⊢
    go_wp2
    go_loopw [3] (fun i wr => ∃ k : Nat, k ≤ c.nx.length ∧ i = .int .i64 k ∧ Hid (∀ j, j < k → choRow (nth c.nx j) c.n = true) ∧ New w wr) (fun i _ => c.nx.length - (intOf i).toNat)
    case atStart => exact ⟨0, Nat.zero_le _, rfl, fun j hj => absurd hj (by omega), hN⟩
    case round =>
      clear hN
      obtain ⟨k, hk, rfl, he, hw⟩ := hrel
      replace h0 := hw.cell h0
      replace h1 := hw.cell h1
      by_cases hlt : k < c.nx.length
      · obtain ⟨A4, c4, e4, hl4, hc4⟩ := hr
        cases e4
        obtain ⟨b, off, rv, rfl, hx, hr⟩ := hc4 k hlt
        have kb1 : (k : Int) < (c.nx.length : Int) := by omega
        replace hx := hw.cell hx
        replace hr := hr.new hw
        obtain ⟨A5, c5, rfl, hl5, hc5⟩ := hr
        clear hc4
        by_cases hlen2 : ((nth c.nx k).length : Int) = c.n
        · have hb2 : (((nth c.nx k).length : Int) != c.n) = false := by simp [hlen2]
          have HL2 := hid hlen2
          clear hlen2
          go_wp2_with fail
          go_quiet (fail)
          have hw2 : New w (wr.drewN nq) := hw.drewN nq
          have g0 : (wr.drewN nq).cell? ⟨pb, 0, none⟩ = some (.int .i64 c.n) := h0
          have g3 : (wr.drewN nq).cell? ⟨pb, 1, none⟩ = some (.slice (some ⟨b, off, none⟩) c.nx.length c2) := h1
          have gx : (wr.drewN nq).cell? ⟨b, off + k, none⟩ = some (.slice A5 (nth c.nx k).length c5) := hx
          have g5 : ∀ i, i < (nth c.nx k).length → ∃ b off rv, A5 = some ⟨b, off, none⟩ ∧ (wr.drewN nq).cell? ⟨b, off + i, none⟩ = some rv ∧ IntsAt (wr.drewN nq) rv (nth (nth c.nx k) i) := fun i hi => by
            obtain ⟨b, off, rv, e, q1, q2⟩ := hc5 i hi
            exact ⟨b, off, rv, e, q1, q2.new ((New.refl _).drewN nq)⟩
          clear h0 h1 hx hw hc5
          generalize wr.drewN nq = wo at hw2 g0 g3 gx g5 ⊢
          go_wp2
          go_loopw [4] (fun i wr => ∃ q : Nat, q ≤ (nth c.nx k).length ∧ i = .int .i64 q ∧ Hid (∀ j, j < q → setB (nth (nth c.nx k) j) c.n = true) ∧ New wo wr) (fun i _ => (nth c.nx k).length - (intOf i).toNat)
          case atStart => exact ⟨0, Nat.zero_le _, rfl, fun j hj => absurd hj (by omega), New.refl _⟩
          case round =>

            obtain ⟨q, hq, rfl, hf, hv⟩ := hrel
            have g0 := hv.cell g0
            have g3 := hv.cell g3
            have gx := hv.cell gx
            by_cases hlq : q < (nth c.nx k).length
            · obtain ⟨b6, off6, rv6, rfl, hy, hrv6⟩ := g5 q hlq
              obtain ⟨A6, c6, rfl⟩ := hrv6.form
              have hy := hv.cell hy
              have hrv := hrv6.new hv
              have kb2 : (q : Int) < ((nth c.nx k).length : Int) := by omega
              have C3 := fun w1 (hm : New wr w1) => l00Rises_any _ (nth (nth c.nx k) q) 0 (c.n - 1) w1 (hrv.new hm)
              have kw : IntKind.i64.wrap (c.n - 1) = c.n - 1 := IntWalk.i64_in _ (by omega)
              have d0 := ext_cell g0
              have d3 := ext_cell g3
              have dx := ext_cell gx
              have dy := ext_cell hy
              cases hin : riseB (nth (nth c.nx k) q) 0 (c.n - 1) with
              | true =>
                have HIN := hid hin
                simp only [hin] at C3
                clear hin g5
                go_wp2_with fail
                refine wp_region_quiet_new (by kernel_rfl) (by kernel_rfl) ?_; (repeat (go_big_quiet_step ((go_at_call 163; exact quiet_new (C3 _ (ext_new _ _)))))); refine wpQuiet_nil ?_; intro wq hq; have hnq := new_of_ext hq; clear hq
                go_wp2
                go_roundw
                case rel => exact ⟨q + 1, by omega, by go_num, fun i hi => by
                    rcases Nat.lt_succ_iff_lt_or_eq.1 hi with h | h
                    · exact hf.out i h
                    · subst h; exact HIN.out, hv.trans hnq⟩
                case measure => simp [intOf]; omega
              | false =>
                have HIN := hid hin
                simp only [hin] at C3
                clear hin g5
                go_wp2_with fail
                refine wp_region_quiet_new (by kernel_rfl) (by kernel_rfl) ?_; (repeat (go_big_quiet_step ((go_at_call 163; exact quiet_new (C3 _ (ext_new _ _)))))); refine wpQuiet_nil ?_; intro wq hq; have hnq := new_of_ext hq; clear hq
                go_wp2
                go_ret
                refine ⟨ret_bool ?_, hw2.trans (hv.trans hnq)⟩
                have hf : choRow (nth c.nx k) c.n = false := by unfold choRow; rw [setsOk_false _ _ q hlq HIN.out, Bool.and_false]
                rw [choRows_false _ _ k hlt hf]
            · have e : q = (nth c.nx k).length := by omega
              subst e
              go_wp2
              go_roundw
              case rel =>
                refine ⟨k + 1, by omega, by go_num, fun i hi => ?_, hw2.trans hv⟩
                rcases Nat.lt_succ_iff_lt_or_eq.1 hi with h | h
                · exact he.out i h
                · subst h
                  unfold choRow
                  rw [(setsOk_iff _ _).2 fun j hj => hf.out j hj]
                  simp [HL2.out]
              case measure => simp [intOf]; omega
        · have hb2 : (((nth c.nx k).length : Int) != c.n) = true := by simp [hlen2]
          go_wp2_with fail
          go_quiet (fail)
          go_wp2
          go_ret
          refine ⟨ret_bool ?_, hw.drewN nq⟩
          rw [choRows_false _ _ k hlt (by unfold choRow; simp [hlen2])]
      · have e : k = c.nx.length := by omega
        subst e
        go_wp2
        go_ret
        exact ⟨ret_bool ((choRows_iff _ _).2 fun i hi => he.out i hi).symm, hw⟩
set_option maxRecDepth 20000 in
set_option maxHeartbeats 1000000 in
theorem l04Go_any (p : Value) (c : Cho) (F : Nat) (l : Int) (w : World) (hp : PCho w p c) (ha : choOk c = true) (hl : 0 ≤ l ∧ l < c.nx.length) (hF : F < 2 ^ c.n.toNat) :
    Calls Try.prog 164 #[p, .int .i64 F, .int .i64 l] w fun e w' => e = .returned (.int .i64 (choMove (nth c.nx l.toNat) F : Nat)) ∧ w' = w := by
  obtain ⟨pb, rv, rfl, h0, h1, hr⟩ := hp
  obtain ⟨A2, c2, rfl, hl2, hc2⟩ := hr
  obtain ⟨⟨n1, n2⟩, _, hrows⟩ := choOk_parts ha
  obtain ⟨b2, off2, rv, rfl, hx2, hr2⟩ := hc2 l.toNat (by omega)
  obtain ⟨A3, c3, rfl, hl3, hc3⟩ := hr2
  obtain ⟨r1, r2⟩ := hrows l.toNat (by omega)
  have hF10 : F < 1024 := lt_10 hF (by omega)
  have HB := hid (fun s (hs : s < c.n.toNat) => cho_orB ha l.toNat s (by omega) hs)
  obtain ⟨l0, l1⟩ := hl
  have HR := hid r2
  obtain ⟨n, hnn⟩ : ∃ n : Nat, c.n = (n : Int) := ⟨c.n.toNat, by omega⟩
  rw [choMove_eq _ hF (by omega)]
  rw [hnn] at h0 hF r1 HR HB ⊢
  rw [Int.toNat_natCast] at hF HB ⊢
  have hn10 : n ≤ 10 := by omega
  clear hc2 r2 hrows
  go_enter Try.func164, Try.ntmps164
  go_wp2
  go_loop [7, 8] (fun q i => ∃ k : Nat, k ≤ n ∧ i = .int .i64 k ∧ q = .int .i64 (choB (nth c.nx l.toNat) F k)) (fun _ i => n - (intOf i).toNat)
  case atStart => exact ⟨0, Nat.zero_le _, rfl, rfl⟩
  case round =>
    obtain ⟨k, hk, rfl, rfl⟩ := hrel
    by_cases hlt : k < n
    · have b1 : (k : Int) < (n : Int) := by omega
      have hb := bit_i64 F k hF10
      obtain ⟨b3, off3, rv3, rfl, hx3, hr3⟩ := hc3 k (by omega)
      obtain ⟨A4, c4, rfl⟩ := hr3.form
      have k3 : (k : Int) < ((nth c.nx l.toNat).length : Int) := by omega
      have hm : choB (nth c.nx l.toNat) F k < 1024 := choB_lt _ _ 10 _ fun i hi _ => Nat.lt_of_lt_of_le (HB.out i (by omega)) (pow10' n hn10)
      have ho : orB (nth (nth c.nx l.toNat) k) < 1024 := Nat.lt_of_lt_of_le (HB.out k hlt) (pow10' n hn10)
      have C := l02Bits_any _ (nth (nth c.nx l.toNat) k) w hr3 (fun i hi => by have := setB_in (HR.out k (by omega)) i hi; omega)
      have HM := hid hm
      have HO := hid ho
      clear hm hc3 ho
      cases hq : F.testBit k with
      | true =>
        rw [hq, if_pos rfl] at hb
        have HQ := hid hq
        clear hq
        go_wp2_with (go_at_call 90; refine C.mono ?_; rintro e w' ⟨rfl, rfl⟩)
        go_round
        case rel => exact ⟨k + 1, by omega, by go_num, by
            rw [choB_succ, if_pos HQ.out]
            rw [or_i64n _ _ HM.out HO.out]⟩
        case measure => simp [intOf]; omega
      | false =>
        rw [hq, if_neg (by simp)] at hb
        have HQ := hid hq
        clear hq
        go_wp2
        go_round
        case rel => exact ⟨k + 1, by omega, by go_num, by rw [choB_succ, if_neg (by rw [HQ.out]; simp)]⟩
        case measure => simp [intOf]; omega
    · have e : k = n := by omega
      subst e
      go_wp2
      go_ret
      exact ⟨rfl, rfl⟩
set_option maxRecDepth 20000 in
set_option maxHeartbeats 1000000 in
theorem l04By_any (p v : Value) (c : Cho) (F : Nat) (ws : List Int) (w : World) (hp : PCho w p c) (h : IntsAt w v ws) (ha : choOk c = true) (hw : ∀ i, i < ws.length → 0 ≤ nth ws i ∧ nth ws i < c.nx.length) (hF : F < 2 ^ c.n.toNat) :
    Calls Try.prog 89 #[p, .int .i64 F, v] w fun e w' => e = .returned (.int .i64 (choRun c.nx F ws : Nat)) ∧ w' = w := by
  obtain ⟨A, cap, rfl, hl, hc⟩ := h
  have HA := hid ha
  have HW := hid hw
  have HF := hid hF
  have HP := hid hp
  clear ha hw hF hp
  go_enter Try.func89, Try.ntmps89
  go_wp2
  go_loop [1, 7] (fun q i => ∃ k : Nat, k ≤ ws.length ∧ i = .int .i64 k ∧ q = .int .i64 (choRun c.nx F (ws.take k) : Nat)) (fun _ i => ws.length - (intOf i).toNat)
  case atStart => exact ⟨0, Nat.zero_le _, rfl, rfl⟩
  case round =>
    obtain ⟨k, hk, rfl, rfl⟩ := hrel
    by_cases hlt : k < ws.length
    · obtain ⟨b, off, rfl, hx⟩ := hc k hlt
      have b1 : (k : Int) < (ws.length : Int) := by omega
      have HL := hid (HW.out k hlt)
      clear hc
      have HT := hid (choRun_take c.nx F ws k hlt)
      have hg := choRun_lt HA.out ws HW.out F HF.out k hk
      have C := l04Go_any _ c (choRun c.nx F (ws.take k)) (nth ws k) w HP.out HA.out HL.out hg
      clear hg
      go_wp2_with (go_at_call 164; refine C.mono ?_; rintro e w' ⟨rfl, rfl⟩)
      go_round
      case rel => exact ⟨k + 1, by omega, by go_num, by rw [HT.out]⟩
      case measure => simp [intOf]; omega
    · have e : k = ws.length := by omega
      subst e
      go_wp2
      go_ret
      exact ⟨by simp, rfl⟩
set_option maxHeartbeats 1000000 in
theorem specReachBy_any (v1 v2 v3 : Value) (a : Cho) (set ws : List Int) (w : World) (h1 : ChoAt w v1 a) (h2 : IntsAt w v2 set) (h3 : IntsAt w v3 ws) :
    Calls Try.prog 23 #[v1, v2, v3] w fun e w' => ∃ r, e = .returned (.tuple #[r, .int .i64 (ReachBy a set ws).2]) ∧ New w w' ∧ OwnInts w.heap.size w'.heap.size w' r (ReachBy a set ws).1 := by
  obtain ⟨rv, rfl, hr⟩ := h1
  obtain ⟨A, c, rfl⟩ := hr.form
  obtain ⟨wb, hwb⟩ : ∃ wb, wb = w.alloc (.cells #[.int .i64 a.n, .slice A a.nx.length c] 40) := ⟨_, rfl⟩
  have hp : PCho wb (.pointer (some ⟨w.heap.size, 0, none⟩)) a := by rw [hwb]; exact PCho.box hr _
  have hnb : New w wb := by rw [hwb]; exact (by repeat (first | with_reducible exact New.refl _ | with_reducible assumption | with_reducible refine New.alloc ?_ _ | with_reducible refine New.drew ?_ | with_reducible refine New.drewN ?_ _ | with_reducible refine New.setCell ?_ (by simp <;> omega) _))
  have hzb : wb.heap.size = w.heap.size + 1 := by rw [hwb]; simp only [size_alloc]
  have hb0 : wb.cell? ⟨w.heap.size, 0, none⟩ = some (.int .i64 a.n) := by rw [hwb]; go_simp
  have hb1 : wb.cell? ⟨w.heap.size, 1, none⟩ = some (.slice A a.nx.length c) := by rw [hwb]; go_simp
  have hl := hr.len
  obtain ⟨R, hR⟩ : ∃ R, R = ReachBy a set ws := ⟨_, rfl⟩
  rw [← hR]
  unfold ReachBy at hR
  have HR := hid hR
  clear hR
  have C1 := l04Choices_any _ a _ hp
  cases ha : choOk a with
  | false =>
    rw [ha] at C1
    have e : R = ([], 1) := by rw [HR.out, ha]; rfl
    go_enter Try.func23, Try.ntmps23
    go_wp2_with fail
    rw [← hwb]
    refine C1.mono ?_
    rintro e w1 ⟨rfl, hn1⟩
    have hz1 := hn1.size
    go_wp2
    go_ret2
    rw [e]
    exact ⟨_, rfl, (by repeat (first | with_reducible exact New.refl _ | with_reducible assumption | with_reducible refine New.alloc ?_ _ | with_reducible refine New.drewN ?_ _ | with_reducible refine New.drew ?_ | with_reducible refine New.trans ?_ (by with_reducible assumption))), OwnInts.none' _ (by (try simp only [size_alloc, size_drew, size_drewN, size_setCell] at *) <;> omega) (by (try simp only [size_alloc, size_drew, size_drewN, size_setCell] at *) <;> omega)⟩
  | true =>
    rw [ha] at C1
    obtain ⟨⟨n1, n2⟩, ⟨l1, l2⟩, _⟩ := choOk_parts ha
    have C2 := fun w => l04Shape_any a.n a.nx.length w (by omega)
    have HA := hid ha
    clear ha
    go_enter Try.func23, Try.ntmps23
    go_wp2_with fail
    rw [← hwb]
    refine C1.mono ?_
    rintro e w1 ⟨rfl, hn1⟩
    have hz1 := hn1.size
    replace hb0 := hn1.cell hb0
    replace hb1 := hn1.cell hb1
    go_wp2_with fail
    refine (C2 _).mono ?_
    rintro e w2 ⟨rv, he, hn2, hrv⟩
    have hz2 := hn2.size
    obtain ⟨A3, c3, rfl⟩ := hrv.form
    subst he
    have hpa : PAut (w2.alloc (.cells #[.int .i64 a.n, .slice A3 (List.replicate a.nx.length ([] : List Int)).length c3] 26)) (.pointer (some ⟨w2.heap.size, 0, none⟩)) ⟨a.n, List.replicate a.nx.length []⟩ := PAut.box (a := ⟨a.n, List.replicate a.nx.length []⟩) hrv _
    rw [List.length_replicate] at hpa
    rw [List.length_replicate]
    have C2b := fun w1 (hm : New (w2.alloc (.cells #[.int .i64 a.n, .slice A3 a.nx.length c3] 26)) w1) => l01Set_any _ _ _ set w1 (hpa.new hm) (h2.new (by repeat (first | with_reducible exact New.refl _ | with_reducible assumption | with_reducible refine New.alloc ?_ _ | with_reducible refine New.drewN ?_ _ | with_reducible refine New.drew ?_ | with_reducible refine New.trans ?_ (by with_reducible assumption)))) (by show 0 ≤ a.n; omega) (by show a.n ≤ _; omega)
    have C3 := fun w1 (hm : New (w2.alloc (.cells #[.int .i64 a.n, .slice A3 a.nx.length c3] 26)) w1) => l01Word_any _ _ _ ws w1 (hpa.new hm) (h3.new (by repeat (first | with_reducible exact New.refl _ | with_reducible assumption | with_reducible refine New.alloc ?_ _ | with_reducible refine New.drewN ?_ _ | with_reducible refine New.drew ?_ | with_reducible refine New.trans ?_ (by with_reducible assumption))))
    rw [wordOk_len _ a.shape ws (by simp [Cho.shape])] at C3
    replace C2b := fun w1 hm => show Calls Try.prog 86 _ w1 fun e w' => e = .returned (.bool (setB set a.n)) ∧ New w1 w' from C2b w1 hm
    cases hs : setB set a.n with
    | false =>
      simp only [hs] at C2b
      have e : R = ([], 2) := by rw [HR.out, HA.out, hs]; rfl
      go_wp2_with fail
      refine (C2b _ (by repeat (first | with_reducible exact New.refl _ | with_reducible assumption | with_reducible refine New.alloc ?_ _ | with_reducible refine New.drewN ?_ _ | with_reducible refine New.drew ?_ | with_reducible refine New.trans ?_ (by with_reducible assumption)))).mono ?_
      rintro e w3 ⟨rfl, hn3⟩
      have hz3 := hn3.size
      go_wp2_with fail
      go_ret2
      rw [e]
      exact ⟨_, rfl, (by repeat (first | with_reducible exact New.refl _ | with_reducible assumption | with_reducible refine New.alloc ?_ _ | with_reducible refine New.drewN ?_ _ | with_reducible refine New.drew ?_ | with_reducible refine New.trans ?_ (by with_reducible assumption))), OwnInts.none' _ (by (try simp only [size_alloc, size_drew, size_drewN, size_setCell] at *) <;> omega) (by (try simp only [size_alloc, size_drew, size_drewN, size_setCell] at *) <;> omega)⟩
    | true =>
      simp only [hs] at C2b
      cases hw : wordOk a.shape ws with
      | false =>
        simp only [hw] at C3
        have e : R = ([], 2) := by rw [HR.out, HA.out, hs, hw]; rfl
        go_wp2_with fail
        refine (C2b _ (by repeat (first | with_reducible exact New.refl _ | with_reducible assumption | with_reducible refine New.alloc ?_ _ | with_reducible refine New.drewN ?_ _ | with_reducible refine New.drew ?_ | with_reducible refine New.trans ?_ (by with_reducible assumption)))).mono ?_
        rintro e w3 ⟨rfl, hn3⟩
        have hz3 := hn3.size
        go_wp2_with fail
        refine (C3 _ (by repeat (first | with_reducible exact New.refl _ | with_reducible assumption | with_reducible refine New.alloc ?_ _ | with_reducible refine New.drewN ?_ _ | with_reducible refine New.drew ?_ | with_reducible refine New.trans ?_ (by with_reducible assumption)))).mono ?_
        rintro e w4 ⟨rfl, hn4⟩
        have hz4 := hn4.size
        go_wp2_with fail
        go_ret2
        rw [e]
        exact ⟨_, rfl, (by repeat (first | with_reducible exact New.refl _ | with_reducible assumption | with_reducible refine New.alloc ?_ _ | with_reducible refine New.drewN ?_ _ | with_reducible refine New.drew ?_ | with_reducible refine New.trans ?_ (by with_reducible assumption))), OwnInts.none' _ (by (try simp only [size_alloc, size_drew, size_drewN, size_setCell] at *) <;> omega) (by (try simp only [size_alloc, size_drew, size_drewN, size_setCell] at *) <;> omega)⟩
      | true =>
        simp only [hw] at C3
        have hs10 : ∀ i, i < set.length → 0 ≤ nth set i ∧ nth set i < 10 := fun i hi => by have := setB_in hs i hi; omega
        have hfl : orB set < 2 ^ a.n.toNat := orB_lt _ _ fun x hx => by
          obtain ⟨i, hi, rfl⟩ := mem_nth _ x hx
          have := setB_in hs i hi; omega
        have hlet : ∀ i, i < ws.length → 0 ≤ nth ws i ∧ nth ws i < a.nx.length := fun i hi => by
          have := ((wordOk_iff _ _).1 hw).2 i hi
          simpa [Cho.shape] using this
        have hg : choRun a.nx (orB set) ws < 1024 := by
          have := choRun_lt HA.out ws hlet _ hfl ws.length (Nat.le_refl _)
          rw [List.take_length] at this
          exact lt_10 this (by omega)
        have HG := hid hg
        have HC4 := hid (fun w1 (hm : New wb w1) => l02Bits_any _ set w1 (h2.new (hnb.trans hm)) hs10)
        have HC5 := hid (fun w1 (hm : New wb w1) => l04By_any _ _ a (orB set) ws w1 (hp.new hm) (h3.new (hnb.trans hm)) HA.out hlet hfl)
        have e : R = (setOf (choRun a.nx (orB set) ws), 0) := by rw [HR.out, HA.out, hs, hw]; rfl
        have HE := hid e
        clear hg hfl hs10 hlet e
        go_wp2_with fail
        refine (C2b _ (by repeat (first | with_reducible exact New.refl _ | with_reducible assumption | with_reducible refine New.alloc ?_ _ | with_reducible refine New.drewN ?_ _ | with_reducible refine New.drew ?_ | with_reducible refine New.trans ?_ (by with_reducible assumption)))).mono ?_
        rintro e w3 ⟨rfl, hn3⟩
        have hz3 := hn3.size
        go_wp2_with fail
        refine (C3 _ (by repeat (first | with_reducible exact New.refl _ | with_reducible assumption | with_reducible refine New.alloc ?_ _ | with_reducible refine New.drewN ?_ _ | with_reducible refine New.drew ?_ | with_reducible refine New.trans ?_ (by with_reducible assumption)))).mono ?_
        rintro e w4 ⟨rfl, hn4⟩
        have hz4 := hn4.size
        go_wp2_with fail
        refine (HC4.out _ (by repeat (first | with_reducible exact New.refl _ | with_reducible assumption | with_reducible refine New.alloc ?_ _ | with_reducible refine New.drewN ?_ _ | with_reducible refine New.drew ?_ | with_reducible refine New.trans ?_ (by with_reducible assumption)))).mono ?_
        rintro e w' ⟨rfl, rfl⟩
        go_wp2_with fail
        refine (HC5.out _ (by repeat (first | with_reducible exact New.refl _ | with_reducible assumption | with_reducible refine New.alloc ?_ _ | with_reducible refine New.drewN ?_ _ | with_reducible refine New.drew ?_ | with_reducible refine New.trans ?_ (by with_reducible assumption)))).mono ?_
        rintro e w' ⟨rfl, rfl⟩
        go_wp2_with fail
        refine (l02Set_any _ _ HG.out).mono ?_
        rintro e w5 ⟨r, rfl, hn5, ho⟩
        have hz5 := hn5.size
        go_wp2
        go_ret2
        rw [HE.out]
        exact ⟨_, rfl, (by repeat (first | with_reducible exact New.refl _ | with_reducible assumption | with_reducible refine New.alloc ?_ _ | with_reducible refine New.drewN ?_ _ | with_reducible refine New.drew ?_ | with_reducible refine New.trans ?_ (by with_reducible assumption))), ho.widen (by (try simp only [size_alloc, size_drew, size_drewN, size_setCell] at *) <;> omega) (Nat.le_refl _)⟩
set_option maxHeartbeats 400000 in
theorem l04Kind_any (n : Int) (w : World) :
    Calls Try.prog 100 #[.int .i64 n] w fun e w' => e = .returned (.bool (inB n 1 3)) ∧ w' = w := by
  go_enter Try.func100, Try.ntmps100
  go_wp2_with (go_at_call 70; refine (l00In_any _ _ _ _).mono ?_; rintro e w' ⟨rfl, rfl⟩)
  go_ret
  exact ⟨rfl, rfl⟩
def ints (xs : List Nat) : List Int := xs.map fun (x : Nat) => (x : Int)
theorem ints_len (xs : List Nat) : (ints xs).length = xs.length := by simp [ints]
theorem nats_at (xs : List Nat) (i : Nat) (h : i < xs.length) : nth (ints xs) i = ((nth xs i : Nat) : Int) := nth_map _ _ _ h
theorem meet_take (xs : List Nat) (k : Nat) (h : k < xs.length) (a : Nat) : (xs.take (k + 1)).foldl (fun a x => a &&& x) a = (xs.take k).foldl (fun a x => a &&& x) a &&& nth xs k := by
  rw [take_succ_nth xs k h, List.foldl_append]; rfl
theorem meet_lt (xs : List Nat) (a : Nat) (ha : a < 1024) : xs.foldl (fun a x => a &&& x) a < 1024 := by
  induction xs generalizing a with
  | nil => exact ha
  | cons x r ih => exact ih _ (Nat.lt_of_le_of_lt Nat.and_le_left ha)
theorem meet_one (xs : List Nat) (h : 0 < xs.length) : (xs.take 1).foldl (fun a x => a &&& x) (nth xs 0) = nth xs 0 := by
  rw [take_succ_nth xs 0 h]; simp
theorem same_one (xs : List Nat) (h : 0 < xs.length) : (xs.take 1).all (fun x => x == nth xs 0) = true := by
  rw [take_succ_nth xs 0 h]; simp
theorem same_take (xs : List Nat) (k : Nat) (h : k < xs.length) : (xs.take (k + 1)).all (fun x => x == nth xs 0) = ((xs.take k).all (fun x => x == nth xs 0) && (nth xs k == nth xs 0)) := by
  rw [take_succ_nth xs k h, List.all_append]; simp
theorem natBeq (a b : Nat) : ((a : Int) == (b : Int)) = (a == b) := by rw [Bool.eq_iff_iff, beq_iff_eq, beq_iff_eq]; omega
theorem natBeq0 (a : Nat) : ((a : Int) == 0) = (a == 0) := natBeq a 0
theorem natBne0 (a : Nat) : ((a : Int) != 0) = !(a == 0) := by rw [bne, natBeq0]
set_option maxRecDepth 20000 in
set_option maxHeartbeats 2000000 in
theorem l04Directed_any (v : Value) (xs : List Nat) (kind : Int) (w : World) (h : IntsAt w v (ints xs)) (h0 : 0 < xs.length) (hlt : ∀ x, x ∈ xs → x < 1024) :
    Calls Try.prog 101 #[v, .int .i64 kind] w fun e w' => e = .returned (.bool (directB xs kind)) ∧ New w w' := by
  obtain ⟨A, c, rfl, hl, hc⟩ := h
  rw [ints_len] at hl hc ⊢
  obtain ⟨b, off, rfl, hx0⟩ := hc 0 h0
  rw [nats_at _ _ h0, Nat.add_zero] at hx0
  have hb0 : (0 : Int) < (xs.length : Int) := by omega
  have HC := hid (fun i (hi : i < xs.length) => show w.cell? ⟨b, off + i, none⟩ = some (.int .i64 (nth xs i : Nat)) by
    obtain ⟨b', off', e, hx⟩ := hc i hi
    cases e
    rw [← nats_at _ _ hi]; exact hx)
  have HL := hid (fun i (hi : i < xs.length) => hlt _ (nth_mem xs i hi))
  clear hc hlt
  go_enter Try.func101, Try.ntmps101
  go_wp2
  go_loopw [5, 6, 7] (fun m q i wr => ∃ k : Nat, 1 ≤ k ∧ k ≤ xs.length ∧ i = .int .i64 k ∧ m = .int .i64 ((xs.take k).foldl (fun a x => a &&& x) (nth xs 0) : Nat) ∧ q = .bool ((xs.take k).all (fun x => x == nth xs 0)) ∧ New w wr) (fun _ _ i _ => xs.length - (intOf i).toNat)
  case atStart => exact ⟨1, Nat.le_refl _, h0, rfl, by rw [meet_one xs h0], by rw [same_one xs h0], (by repeat (first | with_reducible exact New.refl _ | with_reducible assumption | with_reducible refine New.alloc ?_ _ | with_reducible refine New.drew ?_ | with_reducible refine New.drewN ?_ _ | with_reducible refine New.setCell ?_ (by simp <;> omega) _))⟩
  case round =>
    obtain ⟨k, hk1, hk, rfl, rfl, rfl, hn⟩ := hrel
    replace hx0 := hn.cell hx0
    by_cases hlt : k < xs.length
    · have b1 : (k : Int) < (xs.length : Int) := by omega
      have hx := hn.cell (HC.out k hlt)
      have hM := meet_lt (xs.take k) (nth xs 0) (HL.out 0 h0)
      have hX := HL.out k hlt
      have HM := hid hM
      have HX := hid hX
      have HT := hid (same_take xs k hlt)
      clear hM hX
      cases hq : (xs.take k).all (fun x => x == nth xs 0) with
      | true =>
        have HQ := hid hq
        clear hq
        go_wp2_with fail
        go_quiet (fail)
        go_wp2
        go_roundw
        case rel => exact ⟨k + 1, by omega, by omega, by go_num, by rw [meet_take xs k hlt, and_i64n _ _ HM.out HX.out], by rw [HT.out, HQ.out, natBeq]; rfl, hn.drewN nq⟩
        case measure => simp [intOf]; omega
      | false =>
        have HQ := hid hq
        clear hq
        go_wp2_with fail
        go_quiet (fail)
        go_wp2
        go_roundw
        case rel => exact ⟨k + 1, by omega, by omega, by go_num, by rw [meet_take xs k hlt, and_i64n _ _ HM.out HX.out], by rw [HT.out, HQ.out]; rfl, hn.drewN nq⟩
        case measure => simp [intOf]; omega
    · have e : k = xs.length := by omega
      subst e
      rw [List.take_length]
      have hs := small_w64 (nth xs 0) (HL.out 0 h0)
      have hsb := smallB_eq (nth xs 0)
      by_cases k1 : kind = 1
      · subst k1
        have e1 : directB xs 1 = ((xs.all fun x => x == nth xs 0) && (!(nth xs 0 == 0) && smallB (nth xs 0))) := by unfold directB; rfl
        have E1 := hid e1
        clear e1
        cases hq : xs.all (fun x => x == nth xs 0) with
        | false =>
          have HQ := hid hq
          clear hq
          go_wp2_with fail
          go_quiet (fail)
          go_wp2
          go_ret
          exact ⟨ret_bool (by rw [E1.out, HQ.out]; rfl), hn.drewN nq⟩
        | true =>
          have hb := natBne0 (nth xs 0)
          have HQ := hid hq
          clear hq
          cases hz : (nth xs 0 == 0) with
          | true =>
            rw [hz] at hb
            have HZ := hid hz
            clear hz
            go_wp2_with fail
            go_quiet (fail)
            go_wp2
            go_ret
            exact ⟨ret_bool (by rw [E1.out, HQ.out, HZ.out]; rfl), hn.drewN nq⟩
          | false =>
            rw [hz] at hb
            have HZ := hid hz
            have HS := hid hs
            have HSB := hid hsb
            clear hz hs hsb
            go_wp2_with fail
            go_quiet (fail)
            go_wp2
            go_ret
            exact ⟨ret_bool (by rw [E1.out, HQ.out, HZ.out, HS.out, HSB.out]; rfl), hn.drewN nq⟩
      · by_cases k2 : kind = 2
        · subst k2
          have e1 : directB xs 2 = xs.all (fun x => x == nth xs 0) := by unfold directB; rfl
          have E1 := hid e1
          clear e1
          go_wp2
          go_ret
          exact ⟨ret_bool (by rw [E1.out]), hn⟩
        · have e1 : directB xs kind = !(xs.foldl (fun a x => a &&& x) (nth xs 0) == 0) := by unfold directB; rw [if_neg k1, if_neg k2]
          have b1 : (kind == 1) = false := by simp [k1]
          have b2 : (kind == 2) = false := by simp [k2]
          have hb := natBne0 (xs.foldl (fun a x => a &&& x) (nth xs 0))
          have E1 := hid e1
          have HB := hid hb
          clear e1 hb
          go_wp2
          go_ret
          exact ⟨ret_bool (by rw [E1.out, ← HB.out]), hn⟩

end Go.Proofs.Ytnoajdhofdfafaa
