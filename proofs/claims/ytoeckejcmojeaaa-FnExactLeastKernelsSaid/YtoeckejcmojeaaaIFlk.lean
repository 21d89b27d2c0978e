/- The program's sets as bits. -/
import Derived.Test.YtoeckejcmojeaaaRows
import Derived.Test.YtoeckejcmojeaaaCore
import Derived.Test.YtoeckejcmojeaaaInfos
import Derived.Test.YtoeckejcmojeaaaPlains
import Derived.Test.YtoeckejcmojeaaaIBase
import Derived.WalkKit
import Derived.WalkSpells
import Derived.WalkLawsBesides
import Derived.Deep.QuietTactic
import Derived.Deep.OwnRows
import Derived.BigQuiet
import Derived.KernelRfl
namespace Go.Proofs.Ytoeckejcmojeaaa
open Go.RowKit

set_option maxHeartbeats 800000 in
theorem flockOf_any (v : Value) (xs : List Int) (w : World) (h : IntsAt w v xs) (hx10 : ∀ i, i < xs.length → 0 ≤ nth xs i ∧ nth xs i < 10) :
    Calls Try.prog 61 #[v] w fun e w' => e = .returned (.int .u64 (orB xs)) ∧ w' = w := by
  obtain ⟨A, c, rfl, hl, hc⟩ := h
  have HX := hid hx10
  clear hx10
  go_enter Try.func61, Try.ntmps61
  go_wp2
  go_loop [3, 8] (fun q i => ∃ k : Nat, k ≤ xs.length ∧ i = .int .i64 k ∧ q = .int .u64 (orB (xs.take k))) (fun _ i => xs.length - (intOf i).toNat)
  case atStart => exact ⟨0, Nat.zero_le _, rfl, rfl⟩
  case round =>
    obtain ⟨k, hk, rfl, rfl⟩ := hrel
    by_cases hlt : k < xs.length
    · obtain ⟨b, off, rfl, hx⟩ := hc k hlt
      have b1 : (k : Int) < (xs.length : Int) := by omega
      obtain ⟨x0, x1⟩ := HX.out k hlt
      clear hc
      go_wp2
      go_round
      case rel => exact ⟨k + 1, by omega, by go_num, by
          rw [or_u64 _ _ (orB_take_lt xs 10 k (fun x hx => by obtain ⟨i, hi, rfl⟩ := mem_nth xs x hx; have := HX.out i hi; omega)) (by omega), orB_take xs k hlt]⟩
      case measure => simp [intOf]; omega
    · have e : k = xs.length := by omega
      subst e
      go_wp2
      go_ret
      exact ⟨by simp, rfl⟩
set_option maxRecDepth 20000 in
set_option maxHeartbeats 800000 in
theorem set_any (F : Nat) (w : World) (hF : F < 1024) :
    Calls Try.prog 65 #[.int .u64 F] w fun e w' => ∃ r, e = .returned r ∧ New w w' ∧ OwnInts w.heap.size w'.heap.size w' r (setOf F) := by
  have HF := hid hF
  go_enter Try.func65, Try.ntmps65
  go_wp2
  go_loopw [3, 4] (fun o i wr => ∃ k : Nat, k ≤ 10 ∧ i = .int .i64 k ∧ Grow w.heap.size 2 wr o (bitsTo F k) ∧ New w wr) (fun _ i _ => 10 - (intOf i).toNat)
  case atStart => exact ⟨0, Nat.zero_le _, rfl, Grow.empty _ _ _ (Nat.le_refl _), (by repeat (first | with_reducible exact New.refl _ | with_reducible assumption | with_reducible refine New.alloc ?_ _ | with_reducible refine New.drew ?_ | with_reducible refine New.drewN ?_ _ | with_reducible refine New.setCell ?_ (by simp <;> omega) _))⟩
  case round =>
    obtain ⟨k, hk, rfl, ho, hn⟩ := hrel
    have hzr := hn.size
    have hlen := bitsTo_len F k
    by_cases hp : 2 ^ k ≤ F
    · have hlt : k < 10 := (Nat.pow_lt_pow_iff_right (a := 2) (by decide)).1 (Nat.lt_of_le_of_lt hp hF)
      have hp' : 0 < (F : Int) / 2 ^ k := (div_pos_iff F k).2 hp
      have hb := bit_u64 F k hF
      cases hq : F.testBit k with
      | true =>
        rw [hq, if_pos rfl] at hb
        have HQ := hid hq
        clear hq hp hF
        go_wp2_with (at_builtin; refine wpList_app rfl _ _ _ rfl Try.underlying42 info_i64 _ (bitsTo F k) rfl ho rfl (by omega) (by omega) ?_; intro g cap w2 ho2 hg2)
        go_roundw
        case rel => exact ⟨k + 1, by omega, by go_num, by rw [bitsTo_succ, if_pos HQ.out]; exact ho2, hn.app hg2 ho (Nat.le_refl _)⟩
        case measure => simp [intOf]; omega
      | false =>
        rw [hq, if_neg (by simp)] at hb
        have HQ := hid hq
        clear hq hp hF
        go_wp2
        go_roundw
        case rel => exact ⟨k + 1, by omega, by go_num, by rw [bitsTo_succ, if_neg (by rw [HQ.out]; simp), List.append_nil]; exact ho, hn⟩
        case measure => simp [intOf]; omega
    · have hp' : ¬ 0 < (F : Int) / 2 ^ k := fun h => hp ((div_pos_iff F k).1 h)
      have hd : decide (0 < (F : Int) / 2 ^ k) = false := by simpa using hp'
      have e : setOf F = bitsTo F k := setOf_eq (by omega) hk
      go_wp2
      go_ret
      exact ⟨_, rfl, hn, ho.own (by omega)⟩
set_option maxHeartbeats 400000 in
theorem count_any (F : Nat) (w : World) (hF : F < 1024) :
    Calls Try.prog 135 #[.int .u64 F] w fun e w' => e = .returned (.int .i64 ((setOf F).length : Nat)) ∧ New w w' := by
  go_enter Try.func135, Try.ntmps135
  go_wp2_with fail
  refine (set_any F _ hF).mono ?_
  rintro e w1 ⟨r, he, hn1, ho⟩
  obtain ⟨A, c, rfl⟩ := ho.form
  subst he
  have := bitsTo_len F 10
  go_wp2_with (go_at_call 99; refine (size64_any _ _ _ _ (by unfold setOf; omega)).mono ?_; rintro e w' ⟨rfl, rfl⟩)
  go_ret
  exact ⟨rfl, hn1⟩
set_option maxHeartbeats 400000 in
theorem isSmall_any (F : Nat) (w : World) (hF : F < 1024) :
    Calls Try.prog 81 #[.int .u64 F] w fun e w' => e = .returned (.bool (smallB F)) ∧ w' = w := by
  have h := small_u64 F hF
  rw [← smallB_eq, ← h]
  clear h
  go_enter Try.func81, Try.ntmps81
  go_wp2
  go_ret
  exact ⟨rfl, rfl⟩
set_option maxHeartbeats 1000000 in
theorem step_any (v1 : Value) (a : Aut) (F : Nat) (l : Int) (w : World) (h1 : AutAt w v1 a) (ha : autOk a = true) (hl : 0 ≤ l ∧ l < a.nx.length) (hF : F < 2 ^ a.n.toNat) :
    Calls Try.prog 80 #[v1, .int .u64 F, .int .i64 l] w fun e w' => e = .returned (.int .u64 (moved (nth a.nx l.toNat) F)) ∧ New w w' := by
  obtain ⟨rv, rfl, hr⟩ := h1
  obtain ⟨A2, c2, rfl, hl2, hc2⟩ := hr
  obtain ⟨b2, off2, rv, rfl, hx2, hr2⟩ := hc2 l.toNat (by omega)
  obtain ⟨A3, c3, rfl, hl3, hc3⟩ := hr2
  obtain ⟨h1, h2⟩ := autOk_row ha l.toNat (by omega)
  have hn10 := autOk_n ha
  have hF10 : F < 1024 := lt_10 hF (by omega)
  obtain ⟨l0, l1⟩ := hl
  have hmem : ∀ i, i < (setOf F).length → 0 ≤ nth (setOf F) i ∧ nth (setOf F) i < a.n := fun i hi => by
    have := (mem_bitsTo F a.n.toNat (nth (setOf F) i)).1 (by rw [← setOf_eq hF (by omega)]; exact nth_mem (setOf F) i hi)
    omega
  have hrow : ∀ i, i < (setOf F).length → 0 ≤ nth (nth a.nx l.toNat) (nth (setOf F) i).toNat ∧ nth (nth a.nx l.toNat) (nth (setOf F) i).toNat < 10 := fun i hi => by
    have := hmem i hi
    have := h2 (nth (setOf F) i).toNat (by omega)
    omega
  have hlen := bitsTo_len F 10
  have HM := hid hmem
  have HR := hid hrow
  have HL := hid (show (setOf F).length ≤ 10 from hlen)
  clear hc2 h2 hmem hrow hlen hF
  go_enter Try.func80, Try.ntmps80
  go_wp2_with fail
  refine (set_any F _ hF10).mono ?_
  rintro e w1 ⟨r, he, hn1, ho⟩
  obtain ⟨A, c, rfl, hl, _, hc⟩ := ho
  subst he
  have hn : New w w1 := (by repeat (first | with_reducible exact New.refl _ | with_reducible assumption | with_reducible refine New.alloc ?_ _ | with_reducible refine New.drewN ?_ _ | with_reducible refine New.drew ?_ | with_reducible refine New.trans ?_ (by with_reducible assumption)))
  have hp1 : w1.cell? ⟨w.heap.size, 1, none⟩ = some (.slice (some ⟨b2, off2, none⟩) a.nx.length c2) := hn1.cell (by go_simp)
  replace hx2 := hn.cell hx2
  go_wp2
  go_loop [7, 13] (fun q i => ∃ k : Nat, k ≤ (setOf F).length ∧ i = .int .i64 k ∧ q = .int .u64 (orB (((setOf F).map fun s => nth (nth a.nx l.toNat) s.toNat).take k))) (fun _ i => (setOf F).length - (intOf i).toNat)
  case atStart => exact ⟨0, Nat.zero_le _, rfl, rfl⟩
  case round =>
    obtain ⟨k, hk, rfl, rfl⟩ := hrel
    by_cases hlt : k < (setOf F).length
    · obtain ⟨b, off, rfl, hx, _⟩ := hc k hlt
      have b1 : (k : Int) < ((setOf F).length : Int) := by omega
      obtain ⟨m0, m1⟩ := HM.out k hlt
      obtain ⟨x0, x1⟩ := HR.out k hlt
      obtain ⟨b3, off3, rfl, hx3⟩ := hc3 (nth (setOf F) k).toNat (by omega)
      replace hx3 := hn.cell hx3
      have k3 : nth (setOf F) k < ((nth a.nx l.toNat).length : Int) := by omega
      have hL := HL.out
      clear hc hc3
      go_wp2
      go_round
      case rel => exact ⟨k + 1, by omega, by go_num, by
          have e1 : nth ((setOf F).map fun s => nth (nth a.nx l.toNat) s.toNat) k = nth (nth a.nx l.toNat) (nth (setOf F) k).toNat := nth_map _ _ _ hlt
          rw [orB_take _ k (by simpa using hlt), e1, or_u64 _ _ (orB_take_lt _ 10 k (fun x hx => by
            obtain ⟨s, hs, rfl⟩ := List.mem_map.1 hx
            obtain ⟨i, hi, rfl⟩ := mem_nth _ s hs
            have := HR.out i hi
            omega)) (by omega)]⟩
      case measure => simp [intOf]; omega
    · have e : k = (setOf F).length := by omega
      subst e
      go_wp2
      go_ret
      have e2 : ((setOf F).map fun s => nth (nth a.nx l.toNat) s.toNat).take (setOf F).length = (setOf F).map fun s => nth (nth a.nx l.toNat) s.toNat := by
        rw [List.take_of_length_le (by simp)]
      exact ⟨by rw [e2, moved, moveB_list]; rfl, hn⟩

end Go.Proofs.Ytoeckejcmojeaaa
