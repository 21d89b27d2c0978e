/- Parts of the proof that lean on no program: I01c, IIdx, IFlk, IClone, ITour, IRen, IFirst, IFor, ILeast, IReset. -/
import Derived.Test.YthbebnfhplacnaaGreatRows
import Derived.Test.YthbebnfhplacnaaGreatCore
import Derived.Test.YthbebnfhplacnaaGreatInfos
import Derived.Test.YthbebnfhplacnaaGreatPlains
import Derived.Test.YthbebnfhplacnaaGreatIBase
import Derived.Test.YthbebnfhplacnaaGreatMaps
import Derived.WalkKit
import Derived.WalkSpells
import Derived.WalkLawsBesides
import Derived.Deep.QuietTactic
import Derived.Deep.OwnRows
import Derived.BigQuiet
import Derived.KernelRfl
import Derived.Carry
import Derived.Deep.RegionHeld3
namespace Go.Proofs.YthbebnfhplacnaaGreat
open Go.RowKit

section
set_option maxHeartbeats 400000 in
theorem at_any (v1 v2 : Value) (a : Aut) (s : Int) (ws : List Int) (w : World) (h1 : AutAt w v1 a) (h2 : IntsAt w v2 ws) (ha : autOk a = true) (hw : letters a ws) (hs : 0 ≤ s ∧ s < a.n) :
    Calls Tryz.prog 100 #[v1, .int .i64 s, v2] w fun e w' => e = .returned (.int .i64 (runOf a.nx s ws)) ∧ New w w' := by
  obtain ⟨rv, rfl, hr⟩ := h1
  obtain ⟨A2, c2, rfl, hl2, hc2⟩ := hr
  obtain ⟨A, c, rfl, hl, hc⟩ := h2
  have HA := hid ha
  have HW := hid hw
  have HS := hid hs
  clear ha hw hs
  have hn0 : New w (w.alloc (.cells #[.int .i64 a.n, .slice A2 a.nx.length c2] 31)) := (by repeat (first | with_reducible exact New.refl _ | with_reducible assumption | with_reducible refine New.alloc ?_ _ | with_reducible refine New.drew ?_ | with_reducible refine New.drewN ?_ _ | with_reducible refine New.setCell ?_ (by simp <;> omega) _))
  go_enter Tryz.func100, Tryz.ntmps100
  go_wp2
  go_loopw [1, 11] (fun q i wr => ∃ (k : Nat) (z : Int), k ≤ ws.length ∧ i = .int .i64 k ∧ q = .int .i64 z ∧ Hid (z = runOf a.nx s (ws.take k)) ∧ New (w.alloc (.cells #[.int .i64 a.n, .slice A2 a.nx.length c2] 31)) wr) (fun _ i _ => ws.length - (intOf i).toNat)
  case atStart => exact ⟨0, _, Nat.zero_le _, rfl, rfl, rfl, New.refl _⟩
  case round =>
    obtain ⟨k, z, hk, rfl, rfl, he, hn⟩ := hrel
    by_cases hlt : k < ws.length
    · obtain ⟨b, off, rfl, hx⟩ := hc k hlt
      have kb1 : (k : Int) < (ws.length : Int) := by omega
      have hz : 0 ≤ z ∧ z < a.n := by rw [he.out]; exact runOf_in HA.out ws HW.out s HS.out k (by omega)
      have hL := HW.out k hlt
      obtain ⟨b2, off2, rv, rfl, hx2, hr⟩ := hc2 (nth ws k).toNat (by omega)
      obtain ⟨h1, h2⟩ := autOk_row HA.out (nth ws k).toNat (by omega)
      obtain ⟨A3, c3, rfl, hl3, hc3⟩ := hr
      obtain ⟨b3, off3, rfl, hx3⟩ := hc3 z.toNat (by omega)
      obtain ⟨hz1, hz2⟩ := hz
      obtain ⟨hL1, hL2⟩ := hL
      have kb2 : z < ((nth a.nx (nth ws k).toNat).length : Int) := by omega
      replace hx := (hn0.trans hn).cell hx
      replace hx2 := (hn0.trans hn).cell hx2
      replace hx3 := (hn0.trans hn).cell hx3
      have hp1 : wr.cell? ⟨w.heap.size, 1, none⟩ = some (.slice (some ⟨b2, off2, none⟩) a.nx.length c2) := hn.cell (by go_simp)
      clear hc hc2 hc3 h1 h2
      go_wp2
      go_roundw
      case rel => exact ⟨k + 1, _, by omega, by go_num, rfl, by show _ = _; rw [runOf_take _ _ _ _ hlt, ← he.out]; rfl, hn⟩
      case measure => simp [intOf]; omega
    · have e : k = ws.length := by omega
      subst e
      go_wp2
      go_ret
      exact ⟨ret_int (by rw [he.out, List.take_length]), hn0.trans hn⟩

set_option maxHeartbeats 400000 in
theorem action_any (v1 v2 : Value) (a : Aut) (ws : List Int) (w : World) (h1 : AutAt w v1 a) (h2 : IntsAt w v2 ws) (ha : autOk a = true) (hw : letters a ws) :
    Calls Tryz.prog 66 #[v1, v2] w fun e w' => ∃ r, e = .returned r ∧ New w w' ∧ OwnInts w.heap.size w'.heap.size w' r (actOf a ws) := by
  obtain ⟨rv, rfl, hr⟩ := h1
  obtain ⟨A2, c2, rfl⟩ := hr.form
  have HA := hid ha
  have HW := hid hw
  clear ha hw
  have h1 : AutAt w (.agg #[.int .i64 a.n, .slice A2 a.nx.length c2]) a := ⟨_, rfl, hr⟩
  go_enter Tryz.func66, Tryz.ntmps66
  go_wp2
  go_loopw [5, 10] (fun q i wr => ∃ k : Nat, (k : Int) ≤ a.n ∧ i = .int .i64 k ∧ Grow (w.heap.size + 1) 2 wr q ((iota 0 k).map fun s => runOf a.nx s ws) ∧ New (w.alloc (.cells #[.int .i64 a.n, .slice A2 a.nx.length c2] 31)) wr) (fun _ i _ => a.n.toNat - (intOf i).toNat)
  case atStart => exact ⟨0, by have := autOk_n HA.out; omega, rfl, by have := Grow.empty (w.heap.size + 1) 2 (w.alloc (.cells #[.int .i64 a.n, .slice A2 a.nx.length c2] 31)) (by (try simp only [sizes]) <;> omega); rw [size_alloc] at this; exact this, (by repeat (first | with_reducible exact New.refl _ | with_reducible assumption | with_reducible refine New.alloc ?_ _ | with_reducible refine New.drew ?_ | with_reducible refine New.drewN ?_ _ | with_reducible refine New.setCell ?_ (by simp <;> omega) _))⟩
  case round =>
    obtain ⟨k, hk, rfl, ho, hn⟩ := hrel
    have hn10 := (autOk_n HA.out).2
    have hn0 : New w wr := New.trans (by repeat (first | with_reducible exact New.refl _ | with_reducible assumption | with_reducible refine New.alloc ?_ _ | with_reducible refine New.drew ?_ | with_reducible refine New.drewN ?_ _ | with_reducible refine New.setCell ?_ (by simp <;> omega) _)) hn
    have hz0 := hn.size
    simp only [size_alloc] at hz0
    by_cases hlt : (k : Int) < a.n
    · have hp0 : wr.cell? ⟨w.heap.size, 0, none⟩ = some (.int .i64 a.n) := hn.cell (by go_simp)
      have hp1 : wr.cell? ⟨w.heap.size, 1, none⟩ = some (.slice A2 a.nx.length c2) := hn.cell (by go_simp)
      go_wp2_with (first
        | (go_at_call 100; refine (at_any _ _ a _ _ _ (h1.new hn0) (h2.new hn0) HA.out HW.out ⟨by omega, hlt⟩).mono ?_; rintro e w1 ⟨rfl, hn1⟩)
        | (at_builtin; refine wpList_app rfl _ _ _ rfl Tryz.underlying34 info_i64 _ _ rfl (ho.new hn1) rfl (by simp [iota]; omega) (by have := hn1.size; omega) ?_; intro g cap w2 ho2 hg2))
      go_roundw
      case rel =>
        refine ⟨k + 1, by omega, by go_num, ?_, (hn.trans hn1).app hg2 (ho.new hn1) (by (try simp only [sizes]) <;> omega)⟩
        rw [iota_snoc, List.map_append]
        simpa using ho2
      case measure => simp [intOf]; omega
    · have e : (k : Int) = a.n := by omega
      go_wp2
      go_ret
      have e2 : (iota 0 k).map (fun s => runOf a.nx s ws) = actOf a ws := by rw [actOf, ← e]; simp
      rw [e2] at ho
      exact ⟨_, rfl, hn0, (ho.own (by simp [actOf, iota_length]; omega)).widen (by omega) (Nat.le_refl _)⟩

def codeOf (ok right : Bool) : Int := if ok = true then (if right = true then 0 else 2) else 1
theorem ActionOf_code (a : Aut) (ws : List Int) : codeOf (autOk a) (wordOk a ws) = (ActionOf a ws).2 := by
  unfold codeOf ActionOf
  split
  · split <;> rfl
  · rfl
end
section
end
section
set_option maxHeartbeats 800000 in
theorem flockOf_any (v : Value) (xs : List Int) (w : World) (h : IntsAt w v xs) (hx10 : ∀ i, i < xs.length → 0 ≤ nth xs i ∧ nth xs i < 10) :
    Calls Tryz.prog 32 #[v] w fun e w' => e = .returned (.int .u64 (orB xs)) ∧ w' = w := by
  obtain ⟨A, c, rfl, hl, hc⟩ := h
  have HX := hid hx10
  clear hx10
  go_enter Tryz.func32, Tryz.ntmps32
  go_wp2
  go_loop [3, 8] (fun q i => ∃ k : Nat, k ≤ xs.length ∧ i = .int .i64 k ∧ q = .int .u64 (orB (xs.take k))) (fun _ i => xs.length - (intOf i).toNat)
  case atStart => exact ⟨0, Nat.zero_le _, rfl, rfl⟩
  case round =>
    obtain ⟨k, hk, rfl, rfl⟩ := hrel
    by_cases hlt : k < xs.length
    · obtain ⟨b, off, rfl, hx⟩ := hc k hlt
      have b1 : (k : Int) < (xs.length : Int) := by omega
      obtain ⟨x0, x1⟩ := HX.out k hlt
      clear hc
      go_wp2
      go_round
      case rel => exact ⟨k + 1, by omega, by go_num, by
          rw [or_u64 _ _ (orB_take_lt xs 10 k (fun x hx => by obtain ⟨i, hi, rfl⟩ := mem_nth xs x hx; have := HX.out i hi; omega)) (by omega), orB_take xs k hlt]⟩
      case measure => simp [intOf]; omega
    · have e : k = xs.length := by omega
      subst e
      go_wp2
      go_ret
      exact ⟨by simp, rfl⟩
set_option maxRecDepth 20000 in
set_option maxHeartbeats 800000 in
theorem set_any (F : Nat) (w : World) (hF : F < 1024) :
    Calls Tryz.prog 67 #[.int .u64 F] w fun e w' => ∃ r, e = .returned r ∧ New w w' ∧ OwnInts w.heap.size w'.heap.size w' r (setOf F) := by
  have HF := hid hF
  go_enter Tryz.func67, Tryz.ntmps67
  go_wp2
  go_loopw [3, 4] (fun o i wr => ∃ k : Nat, k ≤ 10 ∧ i = .int .i64 k ∧ Grow w.heap.size 2 wr o (bitsTo F k) ∧ New w wr) (fun _ i _ => 10 - (intOf i).toNat)
  case atStart => exact ⟨0, Nat.zero_le _, rfl, Grow.empty _ _ _ (Nat.le_refl _), (by repeat (first | with_reducible exact New.refl _ | with_reducible assumption | with_reducible refine New.alloc ?_ _ | with_reducible refine New.drew ?_ | with_reducible refine New.drewN ?_ _ | with_reducible refine New.setCell ?_ (by simp <;> omega) _))⟩
  case round =>
    obtain ⟨k, hk, rfl, ho, hn⟩ := hrel
    have hzr := hn.size
    have hlen := bitsTo_len F k
    by_cases hp : 2 ^ k ≤ F
    · have hlt : k < 10 := (Nat.pow_lt_pow_iff_right (a := 2) (by decide)).1 (Nat.lt_of_le_of_lt hp hF)
      have hp' : 0 < (F : Int) / 2 ^ k := (div_pos_iff F k).2 hp
      have hb := bit_u64 F k hF
      cases hq : F.testBit k with
      | true =>
        rw [hq, if_pos rfl] at hb
        have HQ := hid hq
        clear hq hp hF
        go_wp2_with (at_builtin; refine wpList_app rfl _ _ _ rfl Tryz.underlying34 info_i64 _ (bitsTo F k) rfl ho rfl (by omega) (by omega) ?_; intro g cap w2 ho2 hg2)
        go_roundw
        case rel => exact ⟨k + 1, by omega, by go_num, by rw [bitsTo_succ, if_pos HQ.out]; exact ho2, hn.app hg2 ho (Nat.le_refl _)⟩
        case measure => simp [intOf]; omega
      | false =>
        rw [hq, if_neg (by simp)] at hb
        have HQ := hid hq
        clear hq hp hF
        go_wp2
        go_roundw
        case rel => exact ⟨k + 1, by omega, by go_num, by rw [bitsTo_succ, if_neg (by rw [HQ.out]; simp), List.append_nil]; exact ho, hn⟩
        case measure => simp [intOf]; omega
    · have hp' : ¬ 0 < (F : Int) / 2 ^ k := fun h => hp ((div_pos_iff F k).1 h)
      have hd : decide (0 < (F : Int) / 2 ^ k) = false := by simpa using hp'
      have e : setOf F = bitsTo F k := setOf_eq (by omega) hk
      go_wp2
      go_ret
      exact ⟨_, rfl, hn, ho.own (by omega)⟩
set_option maxHeartbeats 400000 in
theorem isSmall_any (F : Nat) (w : World) (hF : F < 1024) :
    Calls Tryz.prog 35 #[.int .u64 F] w fun e w' => e = .returned (.bool (smallB F)) ∧ w' = w := by
  have h := small_u64 F hF
  rw [← smallB_eq, ← h]
  clear h
  go_enter Tryz.func35, Tryz.ntmps35
  go_wp2
  go_ret
  exact ⟨rfl, rfl⟩
set_option maxHeartbeats 1000000 in
theorem step_any (v1 : Value) (a : Aut) (F : Nat) (l : Int) (w : World) (h1 : AutAt w v1 a) (ha : autOk a = true) (hl : 0 ≤ l ∧ l < a.nx.length) (hF : F < 2 ^ a.n.toNat) :
    Calls Tryz.prog 34 #[v1, .int .u64 F, .int .i64 l] w fun e w' => e = .returned (.int .u64 (moved (nth a.nx l.toNat) F)) ∧ New w w' := by
  obtain ⟨rv, rfl, hr⟩ := h1
  obtain ⟨A2, c2, rfl, hl2, hc2⟩ := hr
  obtain ⟨b2, off2, rv, rfl, hx2, hr2⟩ := hc2 l.toNat (by omega)
  obtain ⟨A3, c3, rfl, hl3, hc3⟩ := hr2
  obtain ⟨h1, h2⟩ := autOk_row ha l.toNat (by omega)
  have hn10 := autOk_n ha
  have hF10 : F < 1024 := lt_10 hF (by omega)
  obtain ⟨l0, l1⟩ := hl
  have hmem : ∀ i, i < (setOf F).length → 0 ≤ nth (setOf F) i ∧ nth (setOf F) i < a.n := fun i hi => by
    have := (mem_bitsTo F a.n.toNat (nth (setOf F) i)).1 (by rw [← setOf_eq hF (by omega)]; exact nth_mem (setOf F) i hi)
    omega
  have hrow : ∀ i, i < (setOf F).length → 0 ≤ nth (nth a.nx l.toNat) (nth (setOf F) i).toNat ∧ nth (nth a.nx l.toNat) (nth (setOf F) i).toNat < 10 := fun i hi => by
    have := hmem i hi
    have := h2 (nth (setOf F) i).toNat (by omega)
    omega
  have hlen := bitsTo_len F 10
  have HM := hid hmem
  have HR := hid hrow
  have HL := hid (show (setOf F).length ≤ 10 from hlen)
  clear hc2 h2 hmem hrow hlen hF
  go_enter Tryz.func34, Tryz.ntmps34
  go_wp2_with fail
  refine (set_any F _ hF10).mono ?_
  rintro e w1 ⟨r, he, hn1, ho⟩
  obtain ⟨A, c, rfl, hl, _, hc⟩ := ho
  subst he
  have hn : New w w1 := (by repeat (first | with_reducible exact New.refl _ | with_reducible assumption | with_reducible refine New.alloc ?_ _ | with_reducible refine New.drewN ?_ _ | with_reducible refine New.drew ?_ | with_reducible refine New.trans ?_ (by with_reducible assumption)))
  have hp1 : w1.cell? ⟨w.heap.size, 1, none⟩ = some (.slice (some ⟨b2, off2, none⟩) a.nx.length c2) := hn1.cell (by go_simp)
  replace hx2 := hn.cell hx2
  go_wp2
  go_loop [7, 13] (fun q i => ∃ k : Nat, k ≤ (setOf F).length ∧ i = .int .i64 k ∧ q = .int .u64 (orB (((setOf F).map fun s => nth (nth a.nx l.toNat) s.toNat).take k))) (fun _ i => (setOf F).length - (intOf i).toNat)
  case atStart => exact ⟨0, Nat.zero_le _, rfl, rfl⟩
  case round =>
    obtain ⟨k, hk, rfl, rfl⟩ := hrel
    by_cases hlt : k < (setOf F).length
    · obtain ⟨b, off, rfl, hx, _⟩ := hc k hlt
      have b1 : (k : Int) < ((setOf F).length : Int) := by omega
      obtain ⟨m0, m1⟩ := HM.out k hlt
      obtain ⟨x0, x1⟩ := HR.out k hlt
      obtain ⟨b3, off3, rfl, hx3⟩ := hc3 (nth (setOf F) k).toNat (by omega)
      replace hx3 := hn.cell hx3
      have k3 : nth (setOf F) k < ((nth a.nx l.toNat).length : Int) := by omega
      have hL := HL.out
      clear hc hc3
      go_wp2
      go_round
      case rel => exact ⟨k + 1, by omega, by go_num, by
          have e1 : nth ((setOf F).map fun s => nth (nth a.nx l.toNat) s.toNat) k = nth (nth a.nx l.toNat) (nth (setOf F) k).toNat := nth_map _ _ _ hlt
          rw [orB_take _ k (by simpa using hlt), e1, or_u64 _ _ (orB_take_lt _ 10 k (fun x hx => by
            obtain ⟨s, hs, rfl⟩ := List.mem_map.1 hx
            obtain ⟨i, hi, rfl⟩ := mem_nth _ s hs
            have := HR.out i hi
            omega)) (by omega)]⟩
      case measure => simp [intOf]; omega
    · have e : k = (setOf F).length := by omega
      subst e
      go_wp2
      go_ret
      have e2 : ((setOf F).map fun s => nth (nth a.nx l.toNat) s.toNat).take (setOf F).length = (setOf F).map fun s => nth (nth a.nx l.toNat) s.toNat := by
        rw [List.take_of_length_le (by simp)]
      exact ⟨by rw [e2, moved, moveB_list]; rfl, hn⟩
end
section
set_option maxRecDepth 20000 in
set_option maxHeartbeats 800000 in
theorem Clone64_any (v : Value) (xs : List Int) (w : World) (h : IntsAt w v xs) (hl : xs.length ≤ 1048576) :
    Calls Tryz.prog 74 #[v] w fun e w' => ∃ r, e = .returned r ∧ New w w' ∧ Grow w.heap.size 2 w' r xs := by
  obtain ⟨A, c, rfl, hl', hc⟩ := id h
  have he := fun (w : World) (a : Option Addr) (n c : Nat) => Lib.run_eql_slice_nil (P := Tryz.prog) w 34 2 a n c 0 0 Tryz.underlying34
  cases A with
  | none =>
    have hx : xs = [] := by
      cases xs with
      | nil => rfl
      | cons x r => obtain ⟨b, off, e, _⟩ := hc 0 (by simp); cases e
    subst hx
    go_enter Tryz.func74, Tryz.ntmps74
    go_wp2
    go_ret
    exact ⟨_, rfl, New.refl _, Grow.nil _ _ _⟩
  | some a =>
    go_enter Tryz.func74, Tryz.ntmps74
    go_wp2_with (at_builtin; refine wpList_appAll rfl _ _ _ rfl Tryz.underlying34 info_i64 (.slice (some ⟨w.heap.size, 0, none⟩) 0 0) _ [] xs w.heap.size rfl (Grow.empty w.heap.size 2 w (Nat.le_refl _)) rfl rfl (h.new (by repeat (first | with_reducible exact New.refl _ | with_reducible assumption | with_reducible refine New.alloc ?_ _ | with_reducible refine New.drewN ?_ _ | with_reducible refine New.drew ?_ | with_reducible refine New.trans ?_ (by with_reducible assumption)))) (by simp; omega) (by (try simp only [sizes]) <;> omega) ?_; intro g cap w2 ho2 hg2 hloc)
    go_ret
    have hn : New w w2 := New.grown (by repeat (first | with_reducible exact New.refl _ | with_reducible assumption | with_reducible refine New.alloc ?_ _ | with_reducible refine New.drewN ?_ _ | with_reducible refine New.drew ?_ | with_reducible refine New.trans ?_ (by with_reducible assumption))) hg2 (fun k hk => by simp [Value.ownBlock] at hk; omega)
    simp only [List.length_nil, Nat.zero_add, List.nil_append] at ho2
    exact ⟨_, rfl, hn, ho2⟩
end
section
theorem info_flock : (Tryz.prog.info? 63).map (fun i => (i.zero, i.size, i.bytes)) = some (some (.int .u64 0), 1, 8) := by kernel_rfl
theorem zero_ints (w : World) : (zeroValue 34).run Tryz.prog w = .ok (.slice none 0 0) w := by kernel_rfl
theorem law_flock : Go.Maps.Keyed Tryz.prog 63 := Go.Maps.int_keyed Tryz.underlying63
theorem key_flock (x : Nat) (h : x < 1024) : keyOf Tryz.prog 63 (.int .u64 (x : Nat)) = some (.int .u64 (x : Nat)) := Go.Maps.keyOf_int_mk Tryz.underlying63 (by simp [Lit.wf, IntKind.min, IntKind.max, IntKind.bits, IntKind.signed]; omega)
set_option maxRecDepth 20000 in
set_option maxHeartbeats 4000000 in
theorem tour_any (v1 : Value) (a : Aut) (f : Nat) (w : World) (h1 : AutAt w v1 a) (ha : autOk a = true) (hf : f < 2 ^ a.n.toNat) :
    Calls Tryz.prog 44 #[v1, .int .u64 f] w fun e w' => ∃ lv mb, e = .returned (.agg #[lv, .map (some mb)]) ∧ New w w' ∧ TLoop Tryz.prog 63 63 w.heap.size w.heap.size w' lv mb (tourOf a.nx f) := by
  obtain ⟨rv, rfl, hr⟩ := h1
  obtain ⟨A2, c2, rfl⟩ := hr.form
  have h1 : AutAt w (.agg #[.int .i64 a.n, .slice A2 a.nx.length c2]) a := ⟨_, rfl, hr⟩
  have hmm := @run_makeMap Tryz.prog
  have hal := autOk_l ha
  have han := autOk_n ha
  have hf10 : f < 1024 := lt_10 hf (by omega)
  have HA := hid ha
  have HF := hid hf
  clear ha hf
  obtain ⟨wi, hwi⟩ : ∃ wi, wi = ((((w.alloc (.cells #[.int .i64 a.n, .slice A2 a.nx.length c2] 31)).alloc (.cells #[.slice none 0 0, .map none] 77)).alloc (.cells #[.int .u64 (f : Nat)] 63)).alloc (.map #[] 0)).alloc (.cells #[] 2) := ⟨_, rfl⟩
  have hni : New w wi := by rw [hwi]; exact (by repeat (first | with_reducible exact New.refl _ | with_reducible assumption | with_reducible refine New.alloc ?_ _ | with_reducible refine New.drew ?_ | with_reducible refine New.drewN ?_ _ | with_reducible refine New.setCell ?_ (by simp <;> omega) _))
  have hzi : wi.heap.size = w.heap.size + 5 := by rw [hwi]; simp only [size_alloc]
  have hMi : MapAt Tryz.prog 63 wi (w.heap.size + 1 + 1 + 1) 0 (fun _ => none) := by
    have := (MapAt.made Tryz.prog 63 (((w.alloc (.cells #[.int .i64 a.n, .slice A2 a.nx.length c2] 31)).alloc (.cells #[.slice none 0 0, .map none] 77)).alloc (.cells #[.int .u64 (f : Nat)] 63))).new ((New.refl _).alloc (.cells #[] 2))
    simp only [size_alloc] at this
    rw [hwi]; exact this
  have hbi : Box2 wi w.heap.size (.int .i64 a.n) (.slice A2 a.nx.length c2) := by rw [hwi]; exact ⟨by go_simp, by go_simp, by go_simp, by go_simp⟩
  have hri : Box2 wi (w.heap.size + 1) (.slice none 0 0) (.map none) := by rw [hwi]; exact ⟨by go_simp, by go_simp, by go_simp, by go_simp⟩
  have hli : GrowK .u64 (w.heap.size + 2) 63 wi (.slice (some ⟨w.heap.size + 1 + 1, 0, none⟩) 1 1) [f] := by
    have := (GrowK.one .u64 (w.heap.size + 2) 63 ((w.alloc (.cells #[.int .i64 a.n, .slice A2 a.nx.length c2] 31)).alloc (.cells #[.slice none 0 0, .map none] 77)) f (by (try simp only [sizes]) <;> omega)).new (((New.refl _).alloc (.map #[] 0)).alloc (.cells #[] 2))
    simp only [size_alloc] at this
    rw [hwi]; exact this
  obtain ⟨w5, hrun, hm5, hg5⟩ := hMi.put_spec (val := .slice (some ⟨w.heap.size + 1 + 1 + 1 + 1, 0, none⟩) 0 0) law_flock Tryz.underlying75 (by decide) (key_flock f hf10)
  have hs5 := hg5.size
  rw [hwi] at hrun
  have hn5 : New w w5 := New.grown hni hg5 (fun k hk => by cases hk; omega)
  have hb5 := hbi.grown hg5 (fun k hk => by cases hk; omega)
  have hr5 := hri.grown hg5 (fun k hk => by cases hk; omega)
  have hl5 : GrowK .u64 (w.heap.size + 2) 63 w5 (.slice (some ⟨w.heap.size + 1 + 1, 0, none⟩) 1 1) [f] := ownsRow_grown hli hg5 (Or.inl (by simp [Value.ownBlock]))
  clear hli hri hbi hMi
  go_enter Tryz.func44, Tryz.ntmps44
  go_wp2
  have hT : TLoop Tryz.prog 63 63 (w.heap.size + 2) w5.heap.size (w5.alloc (.cells #[.slice (some ⟨w.heap.size + 1 + 1, 0, none⟩) 1 1, .map (some (w.heap.size + 1 + 1 + 1))] 77)) (.slice (some ⟨w.heap.size + 1 + 1, 0, none⟩) 1 1) (w.heap.size + 1 + 1 + 1) (tTo a.nx f 0) := by
    have hq : New w5 (w5.alloc (.cells #[.slice (some ⟨w.heap.size + 1 + 1, 0, none⟩) 1 1, .map (some (w.heap.size + 1 + 1 + 1))] 77)) := (by repeat (first | with_reducible exact New.refl _ | with_reducible assumption | with_reducible refine New.alloc ?_ _ | with_reducible refine New.drew ?_ | with_reducible refine New.drewN ?_ _ | with_reducible refine New.setCell ?_ (by simp <;> omega) _))
    refine ⟨_, fun _ => .slice (some ⟨w.heap.size + 1 + 1 + 1 + 1, 0, none⟩) 0 0, hm5.new hq, by omega, by omega, hl5.new hq, by simp [Value.ownBlock]; omega, fun i hi => ?_, fun x hx => ?_⟩
    · have : i = 0 := by simpa [tTo_zero, tStart] using hi
      subst this
      refine ⟨by simp [putF, tTo_zero, tStart, nth], OwnInts.none' _ (by omega) (by (try simp only [sizes]) <;> omega), Or.inl (by simp [Value.ownBlock] <;> omega), by simp [Value.ownBlock] <;> omega⟩
    · have : x ≠ f := by simpa [tTo_zero, tStart] using hx
      simp [putF]
      omega
  have hB : Box2 (w5.alloc (.cells #[.slice (some ⟨w.heap.size + 1 + 1, 0, none⟩) 1 1, .map (some (w.heap.size + 1 + 1 + 1))] 77)) w5.heap.size (.slice (some ⟨w.heap.size + 1 + 1, 0, none⟩) 1 1) (.map (some (w.heap.size + 1 + 1 + 1))) := ⟨by go_simp, by go_simp, by go_simp, by go_simp⟩
  have hn6 : New w5 (w5.alloc (.cells #[.slice (some ⟨w.heap.size + 1 + 1, 0, none⟩) 1 1, .map (some (w.heap.size + 1 + 1 + 1))] 77)) := (by repeat (first | with_reducible exact New.refl _ | with_reducible assumption | with_reducible refine New.alloc ?_ _ | with_reducible refine New.drew ?_ | with_reducible refine New.drewN ?_ _ | with_reducible refine New.setCell ?_ (by simp <;> omega) _))
  have hz6 : w5.heap.size < (w5.alloc (.cells #[.slice (some ⟨w.heap.size + 1 + 1, 0, none⟩) 1 1, .map (some (w.heap.size + 1 + 1 + 1))] 77)).heap.size := (by (try simp only [sizes]) <;> omega)
  have hb6 := hb5.new hn6
  have hr6 := hr5.new hn6
  replace hn6 := hn5.trans hn6
  obtain ⟨bx, hbx⟩ : ∃ bx, bx = w5.heap.size := ⟨_, rfl⟩
  rw [← hbx] at hT hB hz6 ⊢
  have hbx1 : w.heap.size + 5 ≤ bx := by omega
  obtain ⟨mb, hmb⟩ : ∃ mb, mb = w.heap.size + 1 + 1 + 1 := ⟨_, rfl⟩
  rw [← hmb] at hT hB hz6 hb6 hr6 hn6 ⊢
  generalize (w5.alloc (.cells #[.slice (some ⟨w.heap.size + 1 + 1, 0, none⟩) 1 1, .map (some mb)] 77)) = w6 at hT hB hz6 hb6 hr6 hn6 ⊢
  clear hrun hm5 hg5 hs5 hn5 hb5 hr5 hl5 hwi hni hzi hbx hmm hmb
  go_loopw [6] (fun i wr => ∃ (k : Nat) (lv : Value), i = .int .i64 k ∧ k ≤ (tTo a.nx f k).sets.length ∧ New w wr ∧ Box2 wr w.heap.size (.int .i64 a.n) (.slice A2 a.nx.length c2) ∧ Box2 wr (w.heap.size + 1) (.slice none 0 0) (.map none) ∧ Box2 wr bx lv (.map (some mb)) ∧
      TLoop Tryz.prog 63 63 (w.heap.size + 2) bx wr lv mb (tTo a.nx f k)) (fun i _ => 1025 - (intOf i).toNat)
  case atStart => exact ⟨0, _, rfl, Nat.zero_le _, hn6, hb6, hr6, hB, hT⟩
  case round =>
    obtain ⟨k, lv, rfl, hk, hn, hba, hbr, hbt, hT⟩ := hrel
    clear hb6 hr6 hB hn6 hz6
    obtain ⟨wo, rfl⟩ : ∃ wo : World, wo = wr := ⟨_, rfl⟩
    obtain ⟨y0, y1, _, _⟩ := id hba
    obtain ⟨z0, z1, _, _⟩ := id hbt
    obtain ⟨Al, cl, rfl⟩ := hT.form
    have hok := TOk.to HA.out f HF.out k
    have hlen := hok.len han.2
    have HOK := hid hok
    obtain ⟨n, hnn⟩ : ∃ n, n = (tTo a.nx f k).sets.length := ⟨_, rfl⟩
    by_cases hlt : k < (tTo a.nx f k).sets.length
    · have b1 : (k : Int) < ((tTo a.nx f k).sets.length : Int) := by omega
      obtain ⟨A9, c9, e9, _, hc9⟩ := hT.nats (by omega)
      cases e9
      obtain ⟨b, off, rfl, hx⟩ := hc9 k hlt
      clear hc9
      go_wp2_with (go_at_call 75; refine (letters_any _ a _ (h1.new (by repeat (first | with_reducible exact New.refl _ | with_reducible assumption | with_reducible refine New.alloc ?_ _ | with_reducible refine New.drewN ?_ _ | with_reducible refine New.drew ?_ | with_reducible refine New.trans ?_ (by with_reducible assumption))))).mono ?_; rintro e w7 ⟨rfl, hn7⟩)
      have hT7 := hT.new hn7
      have hbt7 := hbt.new hn7
      have hbr7 := hbr.new hn7
      have hba7 := hba.new hn7
      have hF1 : nth (tTo a.nx f k).sets k < 2 ^ a.n.toNat := HOK.out.lt _ (nth_mem _ _ hlt)
      have HFK := hid hF1
      have hFK10 : nth (tTo a.nx f k).sets k < 1024 := lt_10 hF1 (by omega)
      clear hT hbt hbr hba y0 y1 z0 z1 hx hF1
      replace hn := hn.trans hn7
      clear hn7 hok
      go_loopw [33] (fun i wr => ∃ (l : Nat) (lv : Value), i = .int .i64 l ∧ l ≤ a.nx.length ∧ New w wr ∧ Box2 wr w.heap.size (.int .i64 a.n) (.slice A2 a.nx.length c2) ∧ Box2 wr (w.heap.size + 1) (.slice none 0 0) (.map none) ∧ Box2 wr bx lv (.map (some mb)) ∧
        TLoop Tryz.prog 63 63 (w.heap.size + 2) bx wr lv mb (tRow a.nx k (tTo a.nx f k) l)) (fun i _ => a.nx.length - (intOf i).toNat)
      case atStart => exact ⟨0, _, rfl, Nat.zero_le _, hn, hba7, hbr7, hbt7, hT7⟩
      case round =>
        obtain ⟨l, lv, rfl, hl, hn, hba, hbr, hbt, hT⟩ := hrel
        clear hba7 hbr7 hbt7 hT7
        obtain ⟨wo, rfl⟩ : ∃ wo : World, wo = wr := ⟨_, rfl⟩
        obtain ⟨y0, y1, _, _⟩ := id hba
        obtain ⟨z0, z1, zf0, _⟩ := id hbt
        obtain ⟨Al, cl, rfl⟩ := hT.form
        by_cases hltl : l < a.nx.length
        · have b3 : (l : Int) < (a.nx.length : Int) := by omega
          have hok2 := HOK.out.row HA.out k hlt l (by omega)
          have hst := tRow_sets a.nx k (tTo a.nx f k) l
          have HS := hid (hst.2 k hlt)
          have HL2 := hid hst.1
          have hmv := moved_ok HA.out l (nth (tTo a.nx f k).sets k) hltl HFK.out
          have hmv10 : moved (nth a.nx l) (nth (tTo a.nx f k).sets k) < 1024 := lt_10 hmv (by omega)
          have HSUCC := hid (tRow_succ a.nx k (tTo a.nx f k) l)
          have C := step_any (.agg #[.int .i64 a.n, .slice A2 a.nx.length c2]) a (nth (tTo a.nx f k).sets k) l
          rw [Int.toNat_natCast] at C
          have HC := hid (fun w1 (hm : New w w1) => C w1 (h1.new hm) HA.out ⟨by omega, b3⟩ HFK.out)
          clear C hst hmv
          cases hc : (tRow a.nx k (tTo a.nx f k) l).sets.contains (moved (nth a.nx l) (nth (tTo a.nx f k).sets k)) with
          | true =>
            have HCC := hid hc
            go_wp2_with fail
            refine (HC.out _ (by repeat (first | with_reducible exact New.refl _ | with_reducible assumption | with_reducible refine New.alloc ?_ _ | with_reducible refine New.drewN ?_ _ | with_reducible refine New.drew ?_ | with_reducible refine New.trans ?_ (by with_reducible assumption)))).mono ?_
            rintro e w8 ⟨rfl, hn8⟩
            obtain ⟨v8, hlk⟩ := (hT.new hn8).look law_flock Tryz.underlying75 zero_ints key_flock _ hmv10
            rw [hc] at hlk
            replace z0 := hn8.cell z0
            replace z1 := hn8.cell z1
            clear hc
            go_wp2
            go_roundw
            case rel =>
              refine ⟨l + 1, _, by go_num, by omega, (by repeat (first | with_reducible exact New.refl _ | with_reducible assumption | with_reducible refine New.alloc ?_ _ | with_reducible refine New.drewN ?_ _ | with_reducible refine New.drew ?_ | with_reducible refine New.trans ?_ (by with_reducible assumption))), hba.new hn8, hbr.new hn8, hbt.new hn8, ?_⟩
              rw [HSUCC.out, tStep_has _ _ _ _ (by rw [HS.out]; exact HCC.out)]
              exact hT.new hn8
            case measure => simp [intOf]; omega
          | false =>
            have HCC := hid hc
            obtain ⟨Aw, cw, how, hlook⟩ := hT.word law_flock Tryz.underlying75 zero_ints key_flock k (by have := HL2.out; omega) (by rw [HS.out]; exact hFK10)
            rw [HS.out] at hlook
            have HLOOK := hid hlook
            obtain ⟨hmbne, hmbB, hmblt⟩ := hT.mb_ne
            have hFKne : nth (tTo a.nx f k).sets k ≠ moved (nth a.nx l) (nth (tTo a.nx f k).sets k) := by
              intro e
              have h1 : nth (tTo a.nx f k).sets k ∈ (tRow a.nx k (tTo a.nx f k) l).sets := by rw [← HS.out]; exact nth_mem _ _ (by have := HL2.out; omega)
              rw [← contains_iff, e, HCC.out] at h1; cases h1
            have HOW := hid how
            have hwl := hok2.wl k (by have := HL2.out; omega)
            have hslen := hok2.len han.2
            clear hlook how
            go_wp2_with fail
            refine (HC.out _ (by repeat (first | with_reducible exact New.refl _ | with_reducible assumption | with_reducible refine New.alloc ?_ _ | with_reducible refine New.drewN ?_ _ | with_reducible refine New.drew ?_ | with_reducible refine New.trans ?_ (by with_reducible assumption)))).mono ?_
            rintro e w8 ⟨rfl, hn8⟩
            obtain ⟨v8, hlk⟩ := (hT.new hn8).look law_flock Tryz.underlying75 zero_ints key_flock _ hmv10
            rw [hc] at hlk
            replace z0 := hn8.cell z0
            replace z1 := hn8.cell z1
            clear hc
            go_wp2_with fail
            clear hlk
            go_region_held3 (fun w' => w'.cell? ⟨bx, 0, none⟩ = some (.slice Al (tRow a.nx k (tTo a.nx f k) l).sets.length cl) ∧ w'.cell? ⟨bx, 1, none⟩ = some (.map (some mb)) ∧ (Instr.lookup 75 (.map (some mb)) (.int .u64 (nth (tTo a.nx f k).sets k : Nat)) false).run Tryz.prog w' = .ok (.slice Aw (nth (tRow a.nx k (tTo a.nx f k) l).words k).length cw) w')
              (refine ⟨?_, ?_, ?_⟩ <;> first | exact hbt11.1 | exact hbt11.2.1 | exact hn10.cell z0 | exact hn10.cell z1 | exact hn9.cell z0 | exact hn9.cell z1 | (refine HLOOK.out _ ?_; (repeat (first | with_reducible exact New.refl _ | with_reducible assumption | with_reducible refine New.alloc ?_ _ | with_reducible refine New.drewN ?_ _ | with_reducible refine New.drew ?_ | with_reducible refine New.trans ?_ (by with_reducible assumption))); done) | (refine hlks _ _ hFK10 ?_ (HLOOK.out _ ?_) <;> first | exact hFKne | ((repeat (first | with_reducible exact New.refl _ | with_reducible assumption | with_reducible refine New.alloc ?_ _ | with_reducible refine New.drewN ?_ _ | with_reducible refine New.drew ?_ | with_reducible refine New.trans ?_ (by with_reducible assumption))); done)) | go_keep)
              (first
                | (go_at_call 74; refine (Clone64_any _ _ _ (HOW.out.at.new (by repeat (first | with_reducible exact New.refl _ | with_reducible assumption | with_reducible refine New.alloc ?_ _ | with_reducible refine New.drewN ?_ _ | with_reducible refine New.drew ?_ | with_reducible refine New.trans ?_ (by with_reducible assumption)))) (by omega)).mono ?_; rintro e w9 ⟨r, he, hq9, ho9⟩; obtain ⟨Ar, cr, rfl⟩ := ho9.form; subst he; have hn9 : New w8 w9 := (by repeat (first | with_reducible exact New.refl _ | with_reducible assumption | with_reducible refine New.alloc ?_ _ | with_reducible refine New.drewN ?_ _ | with_reducible refine New.drew ?_ | with_reducible refine New.trans ?_ (by with_reducible assumption))); have hz9 := hq9.size; try simp only [size_alloc, size_drew] at hz9)
                | (refine step_app1 rfl _ _ _ rfl Tryz.underlying34 info_i64 _ _ (l : Int) _ rfl (ho9.new (by repeat (first | with_reducible exact New.refl _ | with_reducible assumption | with_reducible refine New.alloc ?_ _ | with_reducible refine New.drewN ?_ _ | with_reducible refine New.drew ?_ | with_reducible refine New.trans ?_ (by with_reducible assumption)))) rfl (by first | (refine hq9.cell ?_; go_simp; done) | (go_simp; done)) (by omega) (by (try simp only [sizes]) <;> omega) ?_; intro g cap w10 ho10 hg10; have hn10 : New w8 w10 := New.app (a := w8) (by repeat (first | with_reducible exact New.refl _ | with_reducible assumption | with_reducible refine New.alloc ?_ _ | with_reducible refine New.drewN ?_ _ | with_reducible refine New.drew ?_ | with_reducible refine New.trans ?_ (by with_reducible assumption))) hg10 (ho9.new (by repeat (first | with_reducible exact New.refl _ | with_reducible assumption | with_reducible refine New.alloc ?_ _ | with_reducible refine New.drewN ?_ _ | with_reducible refine New.drew ?_ | with_reducible refine New.trans ?_ (by with_reducible assumption)))) (by (try simp only [sizes]) <;> omega); obtain ⟨w11, hrun, hg11, hP, hlks⟩ := (hT.new hn8).put hn10 ((ho10.own (by simp; omega)).widen (by (try simp only [sizes]) <;> omega) (Nat.le_refl _)) (by have := hn.size; have := hn8.size; have := hbt.lt; omega) (by have := hbt.lt; have := hn8.size; omega) law_flock Tryz.underlying75 zero_ints key_flock _ hmv10 (by rw [← contains_iff, HCC.out]; simp) (by omega); have hbt11 := ((hbt.new hn8).new hn10).grown hg11 (fun q hq => by cases hq; omega)))
            all_goals obtain ⟨q0, q1, qf0, _⟩ := id hbt11
            all_goals obtain ⟨hgl, hgb⟩ := hP.list
            all_goals have hgbl := hgl.block
            all_goals have hs8 := hn8.size
            all_goals have hs10 := hn10.size
            all_goals have hs11 := hg11.size
            all_goals have hbl := hbt.lt
            all_goals (go_wp2_with (at_builtin; refine wpList_appV rfl _ _ _ rfl (B := w.heap.size + 2) Tryz.underlying74 info_flock rfl (by decide) rfl (.slice Al (tRow a.nx k (tTo a.nx f k) l).sets.length cl) (tRow a.nx k (tTo a.nx f k) l).sets.length _ rfl hgl rfl (by omega) (by omega) ?_; intro g cap w12 ho12 hg12 hloc12; have hbt12 := hbt11.grown hg12 (fun q hq e => hgb (by rw [hq, e])); obtain ⟨u0, u1, uf0, _⟩ := id hbt12))
            all_goals go_roundw
            all_goals first
              | (simp [intOf]; omega)
              | (have hn12 : New w w12 := New.grown (New.grown (hn.trans (hn8.trans hn10)) hg11 (fun q hq => by cases hq; omega)) hg12 (fun q hq => by have := hgbl q hq; omega)
                 refine ⟨l + 1, _, by go_num, by omega, hn12.setCell (by show w.heap.size ≤ bx; omega) _, ?_, ?_, hbt12.set0 _, ?_⟩
                 · exact ((((hba.new hn8).new hn10).grown hg11 (fun q hq => by cases hq; omega)).grown hg12 (fun q hq => by have := hgbl q hq; omega)).other _ (by simp <;> omega) _
                 · exact ((((hbr.new hn8).new hn10).grown hg11 (fun q hq => by cases hq; omega)).grown hg12 (fun q hq => by have := hgbl q hq; omega)).other _ (by simp <;> omega) _
                 · have hT12 := hP.app (bef := (tStep a.nx k l (tRow a.nx k (tTo a.nx f k) l)).before) (let' := (tStep a.nx k l (tRow a.nx k (tTo a.nx f k) l)).letters) hok2.lw (by rw [← contains_iff, HCC.out]; simp) (by omega) ho12 hg12 (by rcases hloc12 with h | h; exact Or.inl h; exact Or.inr (by omega))
                   have hT13 := hT12.box (grown_setCell w12 ⟨bx, 0, none⟩ (.slice (some ⟨g, 0, none⟩) ((tRow a.nx k (tTo a.nx f k) l).sets.length + 1) cap))
                   rw [tStep_new _ _ _ _ (by rw [HS.out]; exact HCC.out)] at hT13
                   rw [HSUCC.out, tStep_new _ _ _ _ (by rw [HS.out]; exact HCC.out), HS.out]
                   exact hT13)
        · have e : l = a.nx.length := by omega
          subst e
          have hst := tRow_sets a.nx k (tTo a.nx f k) a.nx.length
          have HE := hid (show tTo a.nx f (k + 1) = tRow a.nx k (tTo a.nx f k) a.nx.length by rw [tTo_succ, if_pos hlt])
          have hst1 := hst.1
          clear hst
          go_wp2
          go_roundw
          case rel => exact ⟨k + 1, _, by go_num, by rw [HE.out]; omega, hn, hba, hbr, hbt, by rw [HE.out]; exact hT⟩
          case measure => simp [intOf]; omega
    · have e : k = (tTo a.nx f k).sets.length := by omega
      have HE := hid (tour_end HA.out f HF.out k e.symm)
      clear e
      obtain ⟨v0, v1, vf0, vf1⟩ := id hbr
      go_wp2_with fail
      obtain ⟨g0, g1, _, _⟩ := hbr.fill (.slice Al (tTo a.nx f k).sets.length cl) (.map (some mb))
      refine bodyPost_ret (v := .agg #[.slice Al (tTo a.nx f k).sets.length cl, .map (some mb)]) (by simp [results, Tryz.results44, go_sem, g0, g1]) rfl ?_
      have hTw := hT.widen (B' := w.heap.size + 2) (bx' := w.heap.size + 1) (Nat.le_refl _) (by omega)
      have hg : wo.grownBy ((wo.setCell ⟨w.heap.size + 1, 0, none⟩ (.slice Al (tTo a.nx f k).sets.length cl)).setCell ⟨w.heap.size + 1, 1, none⟩ (.map (some mb))) (some (w.heap.size + 1)) :=
        grown_trans (grown_setCell wo ⟨w.heap.size + 1, 0, none⟩ _) (grown_setCell _ ⟨w.heap.size + 1, 1, none⟩ _)
      refine ⟨_, _, rfl, New.fill hn (by omega) _ _, ?_⟩
      rw [HE.out]
      exact (hTw.box hg).widen (by omega) (by omega)
end
section
set_option maxHeartbeats 400000 in
theorem all_any (v : Value) (a : Aut) (w : World) (h : AutAt w v a) (ha : autOk a = true) :
    Calls Tryz.prog 33 #[v] w fun e w' => ∃ r, e = .returned r ∧ New w w' ∧ OwnInts w.heap.size w'.heap.size w' r (iota 0 a.n.toNat) := by
  obtain ⟨rv, rfl, hr⟩ := h
  obtain ⟨A, c, rfl⟩ := hr.form
  have h1 : AutAt w (.agg #[.int .i64 a.n, .slice A a.nx.length c]) a := ⟨_, rfl, hr⟩
  go_enter Tryz.func33, Tryz.ntmps33
  go_wp2_with fail
  refine (action_any _ _ a [] _ (h1.new (by repeat (first | with_reducible exact New.refl _ | with_reducible assumption | with_reducible refine New.alloc ?_ _ | with_reducible refine New.drewN ?_ _ | with_reducible refine New.drew ?_ | with_reducible refine New.trans ?_ (by with_reducible assumption)))) ⟨none, 0, rfl, by simp, by simp⟩ ha (fun i hi => by simp at hi)).mono ?_
  rintro e w1 ⟨r, rfl, hn1, ho⟩
  have hz := hn1.size
  simp only [size_alloc] at hz
  rw [actOf_nil] at ho
  go_wp2
  go_ret
  exact ⟨_, rfl, (by repeat (first | with_reducible exact New.refl _ | with_reducible assumption | with_reducible refine New.alloc ?_ _ | with_reducible refine New.drewN ?_ _ | with_reducible refine New.drew ?_ | with_reducible refine New.trans ?_ (by with_reducible assumption))), ho.widen (by (try simp only [sizes]) <;> omega) (Nat.le_refl _)⟩
theorem idxOf_place (xs : List Int) (n : Int) : idxOf (fun x => decide (x = n)) xs = placeOf xs n := rfl
end
section
set_option maxHeartbeats 400000 in
theorem IndexFuncFlock_any (v : Value) (xs : List Nat) (k : Nat) (cap : Array Value) (p : Nat → Bool) (w : World) (h : NatsAt .u64 w v xs)
    (hent : ∀ args w, Sem.run Tryz.prog (callFunc k args) w = .ok (.enter k args) w)
    (hf : ∀ w', New w w' → ∀ i, i < xs.length → Calls Tryz.prog k (#[.int .u64 (nth xs i : Nat)] ++ cap) w' fun e w'' => e = .returned (.bool (p (nth xs i))) ∧ New w' w'') :
    Calls Tryz.prog 77 #[v, .func (.func k) #[] cap] w fun e w' => e = .returned (.int .i64 (idxOf p xs)) ∧ New w w' := by
  obtain ⟨A, c, rfl, hl, hc⟩ := h
  have HF := hid hf
  clear hf
  go_enter Tryz.func77, Tryz.ntmps77
  go_wp2
  go_loopw [8] (fun i wr => ∃ j : Nat, j ≤ xs.length ∧ i = .int .i64 j ∧ Hid (∀ i, i < j → p (nth xs i) = false) ∧ New w wr) (fun i _ => xs.length - (intOf i).toNat)
  case atStart => exact ⟨0, Nat.zero_le _, rfl, fun j hj => absurd hj (by omega), New.refl _⟩
  case round =>
    obtain ⟨j, hj, rfl, he, hw⟩ := hrel
    by_cases hlt : j < xs.length
    · obtain ⟨b, off, rfl, hx⟩ := hc j hlt
      have b1 : (j : Int) < (xs.length : Int) := by omega
      replace hx := hw.cell hx
      clear hc
      by_cases hq : p (nth xs j) = true
      · go_wp2_with (refine (HF.out _ hw j hlt).mono ?_; rintro e w1 ⟨rfl, hn1⟩)
        go_ret
        exact ⟨ret_int (idxOf_hit p xs j hlt hq he.out).symm, hw.trans hn1⟩
      · have hq' : p (nth xs j) = false := by simpa using hq
        clear hq
        go_wp2_with (refine (HF.out _ hw j hlt).mono ?_; rintro e w1 ⟨rfl, hn1⟩)
        go_roundw
        case rel => exact ⟨j + 1, by omega, by go_num, fun i hi => by
            rcases Nat.lt_succ_iff_lt_or_eq.1 hi with h | h
            · exact he.out i h
            · subst h; exact hq', hw.trans hn1⟩
        case measure => simp [intOf]; omega
    · have e : j = xs.length := by omega
      subst e
      go_wp2
      go_ret
      exact ⟨ret_int (idxOf_none p xs he.out).symm, hw⟩
/-- A tour that a call has made. -/
def TourAt (B : Nat) (w : World) (v : Value) (t : Tour) : Prop := ∃ lv mb B', v = .agg #[lv, .map (some mb)] ∧ B ≤ B' ∧ TLoop Tryz.prog 63 63 B' B' w lv mb t
theorem TourAt.new {B : Nat} {w w' : World} {v : Value} {t : Tour} (h : TourAt B w v t) (hn : New w w') : TourAt B w' v t := let ⟨lv, mb, B', e, hb, h⟩ := h; ⟨lv, mb, B', e, hb, h.new hn⟩
theorem tourAt_any (v1 : Value) (a : Aut) (f : Nat) (w : World) (h1 : AutAt w v1 a) (ha : autOk a = true) (hf : f < 2 ^ a.n.toNat) :
    Calls Tryz.prog 44 #[v1, .int .u64 f] w fun e w' => ∃ lv mb, e = .returned (.agg #[lv, .map (some mb)]) ∧ New w w' ∧ TourAt w.heap.size w' (.agg #[lv, .map (some mb)]) (tourOf a.nx f) :=
  (tour_any v1 a f w h1 ha hf).mono fun _e _w' ⟨lv, mb, he, hn, hT⟩ => ⟨lv, mb, he, hn, lv, mb, _, rfl, Nat.le_refl _, hT⟩
set_option maxRecDepth 20000 in
set_option maxHeartbeats 800000 in
theorem firstN_any (v : Value) (a : Aut) (t : Tour) (B k : Nat) (cap : Array Value) (p : Nat → Bool) (w : World) (hT : TourAt B w v t) (hok : TOk a t) (hn10 : a.n ≤ 10)
    (hent : ∀ args w, Sem.run Tryz.prog (callFunc k args) w = .ok (.enter k args) w)
    (hf : ∀ w', New w w' → ∀ F, F < 2 ^ a.n.toNat → Calls Tryz.prog k (#[.int .u64 (F : Nat)] ++ cap) w' fun e w'' => e = .returned (.bool (p F)) ∧ New w' w'') :
    Calls Tryz.prog 45 #[v, .func (.func k) #[] cap] w fun e w' => ∃ r, e = .returned (.tuple #[r, .int .i64 (told (firstWord p t)).2]) ∧ New w w' ∧ OwnInts B w'.heap.size w' r (told (firstWord p t)).1 ∧ ((told (firstWord p t)).2 ≠ 0 → r = .slice none 0 0) := by
  obtain ⟨lv, mb, B', rfl, hB, hT⟩ := hT
  have hlen := hok.len hn10
  obtain ⟨Al, cl, rfl⟩ := hT.form
  have hnats := hT.nats (by omega)
  obtain ⟨A, c, e9, _, hc⟩ := id hnats
  cases e9
  obtain ⟨wb, hwb⟩ : ∃ wb, wb = w.alloc (.cells #[.slice Al t.sets.length cl, .map (some mb)] 77) := ⟨_, rfl⟩
  have hnb : New w wb := by rw [hwb]; exact (by repeat (first | with_reducible exact New.refl _ | with_reducible assumption | with_reducible refine New.alloc ?_ _ | with_reducible refine New.drew ?_ | with_reducible refine New.drewN ?_ _ | with_reducible refine New.setCell ?_ (by simp <;> omega) _))
  have hb0 : wb.cell? ⟨w.heap.size, 0, none⟩ = some (.slice Al t.sets.length cl) := by rw [hwb]; go_simp
  have hb1 : wb.cell? ⟨w.heap.size, 1, none⟩ = some (.map (some mb)) := by rw [hwb]; go_simp
  have HC := hid hc
  have HT := hid hT
  have HOK := hid hok
  have HI := IndexFuncFlock_any _ t.sets k cap p wb (hnats.new hnb) hent (fun w' hw i hi => hf w' (hnb.trans hw) _ (hok.lt _ (nth_mem _ _ hi)))
  clear hc hT hok hf hnats
  cases hfi : t.sets.findIdx? p with
  | none =>
    have e1 : idxOf p t.sets = -1 := by simp [idxOf, hfi]
    have e2 : firstWord p t = ([], false) := by simp [firstWord, hfi]
    rw [e1] at HI
    rw [e2]
    have e3 : told ([], false) = ([], 6) := rfl
    rw [e3]
    clear e1 e2 e3 hfi
    go_enter Tryz.func45, Tryz.ntmps45
    go_wp2_with fail
    rw [← hwb]
    refine HI.mono ?_
    rintro e w1 ⟨rfl, hn1⟩
    go_wp2
    go_ret2
    exact ⟨_, rfl, hnb.trans hn1, OwnInts.nil _ _ _, fun _ => rfl⟩
  | some i =>
    have e1 : idxOf p t.sets = i := by simp [idxOf, hfi]
    have e2 : firstWord p t = (nth t.words i, true) := by simp [firstWord, hfi]
    rw [e1] at HI
    rw [e2]
    have e3 : told (nth t.words i, true) = (nth t.words i, 0) := rfl
    rw [e3]
    have hi : i < t.sets.length := by rw [List.findIdx?_eq_some_iff_getElem] at hfi; exact hfi.1
    have hlt := lt_10 (HOK.out.lt _ (nth_mem _ _ hi)) (show a.n.toNat ≤ 10 by omega)
    obtain ⟨Aw, cw, how, hlook⟩ := HT.out.word law_flock Tryz.underlying75 zero_ints key_flock i hi hlt
    obtain ⟨b, off, rfl, hx⟩ := HC.out i hi
    have b1 : (i : Int) < (t.sets.length : Int) := by omega
    have HOW := hid how
    have HLK := hid hlook
    clear e1 e2 e3 how hlook hi hfi
    go_enter Tryz.func45, Tryz.ntmps45
    go_wp2_with fail
    rw [← hwb]
    refine HI.mono ?_
    rintro e w1 ⟨rfl, hn1⟩
    replace hb0 := hn1.cell hb0
    replace hb1 := hn1.cell hb1
    replace hx := (hnb.trans hn1).cell hx
    have hlk := fun n => HLK.out (w1.drewN n) ((hnb.trans hn1).drewN n)
    go_wp2_with fail
    go_quiet (fail)
    go_wp2
    go_ret2
    have hs := (hnb.trans hn1).size
    exact ⟨_, rfl, (hnb.trans hn1).drewN _, (HOW.out.new ((hnb.trans hn1).drewN _)).widen hB hs, fun h => absurd rfl h⟩
theorem first_any (v : Value) (a : Aut) (t : Tour) (B k : Nat) (cap : Array Value) (p : Nat → Bool) (w : World) (hT : TourAt B w v t) (hok : TOk a t) (hn10 : a.n ≤ 10)
    (hent : ∀ args w, Sem.run Tryz.prog (callFunc k args) w = .ok (.enter k args) w)
    (hf : ∀ w', New w w' → ∀ F, F < 2 ^ a.n.toNat → Calls Tryz.prog k (#[.int .u64 (F : Nat)] ++ cap) w' fun e w'' => e = .returned (.bool (p F)) ∧ New w' w'') :
    Calls Tryz.prog 45 #[v, .func (.func k) #[] cap] w fun e w' => ∃ r, e = .returned (.tuple #[r, .int .i64 (told (firstWord p t)).2]) ∧ New w w' ∧ OwnInts B w'.heap.size w' r (told (firstWord p t)).1 :=
  (firstN_any v a t B k cap p w hT hok hn10 hent hf).mono fun _ _ ⟨r, h1, h2, h3, _⟩ => ⟨r, h1, h2, h3⟩
theorem full_iota (n : Int) (_h : 0 ≤ n) : orB (iota 0 n.toNat) = full n := by
  apply Nat.eq_of_testBit_eq
  intro i
  unfold full
  rw [Nat.testBit_two_pow_sub_one, Bool.eq_iff_iff, testBit_orB]
  simp only [decide_eq_true_eq]
  constructor
  · rintro ⟨x, hx, rfl⟩
    rw [mem_iota] at hx; omega
  · intro hi
    exact ⟨(i : Int), by rw [mem_iota]; omega, by omega⟩
theorem sIota (a : Aut) (ha : autOk a = true) : ∀ i, i < (iota 0 a.n.toNat).length → 0 ≤ nth (iota 0 a.n.toNat) i ∧ nth (iota 0 a.n.toNat) i < 10 := fun i hi => by
  have := autOk_n ha
  rw [iota_length] at hi
  rw [nth_iota _ _ _ hi]; omega
end
section
end
section
end
section
def ShortestReset (a : Aut) : List Int × Int := if autOk a = true then told (firstWord smallB (tourOf a.nx (full a.n))) else ([], 1)
set_option maxRecDepth 20000 in
set_option maxHeartbeats 1000000 in
theorem implShortestReset_any (v1 : Value) (a : Aut) (w : World) (h1 : AutAt w v1 a) :
    Calls Tryz.prog 16 #[v1] w fun e w' => ∃ r, e = .returned (.tuple #[r, .int .i64 (ShortestReset a).2]) ∧ New w w' ∧ OwnInts w.heap.size w'.heap.size w' r (ShortestReset a).1 := by
  obtain ⟨rv, rfl, hr⟩ := h1
  obtain ⟨A, c, rfl⟩ := hr.form
  have h1 : AutAt w (.agg #[.int .i64 a.n, .slice A a.nx.length c]) a := ⟨_, rfl, hr⟩
  obtain ⟨wb, hwb⟩ : ∃ wb, wb = w.alloc (.cells #[.int .i64 a.n, .slice A a.nx.length c] 31) := ⟨_, rfl⟩
  have hnb : New w wb := by rw [hwb]; exact (by repeat (first | with_reducible exact New.refl _ | with_reducible assumption | with_reducible refine New.alloc ?_ _ | with_reducible refine New.drew ?_ | with_reducible refine New.drewN ?_ _ | with_reducible refine New.setCell ?_ (by simp <;> omega) _))
  have hzb : wb.heap.size = w.heap.size + 1 := by rw [hwb]; simp only [size_alloc]
  have hb0 : wb.cell? ⟨w.heap.size, 0, none⟩ = some (.int .i64 a.n) := by rw [hwb]; go_simp
  have hb1 : wb.cell? ⟨w.heap.size, 1, none⟩ = some (.slice A a.nx.length c) := by rw [hwb]; go_simp
  have C1 := ValidAutomaton_any _ a wb (h1.new hnb)
  obtain ⟨R, hR⟩ : ∃ R, R = ShortestReset a := ⟨_, rfl⟩
  rw [← hR]
  unfold ShortestReset at hR
  have HR := hid hR
  clear hR
  cases ha : autOk a with
  | false =>
    rw [ha] at C1
    have e : R = ([], 1) := by rw [HR.out, ha]; rfl
    rw [e]
    go_enter Tryz.func16, Tryz.ntmps16
    go_wp2_with fail
    rw [← hwb]
    go_wp2_with fail
    refine C1.mono ?_
    rintro e w1 ⟨rfl, hn1⟩
    go_wp2
    go_ret2
    exact ⟨_, rfl, hnb.trans hn1, OwnInts.nil _ _ _⟩
  | true =>
    rw [ha] at C1
    have han := autOk_n ha
    have HA := hid ha
    have HOK := hid (tourOk HA.out (full a.n) (full_lt a.n))
    have HC1 := hid (fun w1 (hm : New w w1) => all_any _ a w1 (h1.new hm) HA.out)
    have HC2 := hid (fun v w1 (h : IntsAt w1 v (iota 0 a.n.toNat)) => flockOf_any v _ w1 h (sIota a HA.out))
    rw [full_iota a.n (by omega)] at HC2
    have HC3 := hid (fun w1 (hm : New w w1) => tourAt_any _ a (full a.n) w1 (h1.new hm) HA.out (full_lt a.n))
    have HC4 := hid (fun B v w1 (hT : TourAt B w1 v (tourOf a.nx (full a.n))) => first_any v a _ B 35 #[] smallB w1 hT HOK.out han.2 (enters Tryz.func35 (by decide) (by simp [Tryz.f35]))
      (fun w' _ F hF => (isSmall_any F w' (lt_10 hF (by omega))).mono fun e w'' ⟨h1, h2⟩ => ⟨h1, New.of_eq h2⟩))
    have e : R = told (firstWord smallB (tourOf a.nx (full a.n))) := by rw [HR.out, if_pos HA.out]
    rw [← e] at HC4
    clear e ha han
    go_enter Tryz.func16, Tryz.ntmps16
    go_wp2_with fail
    rw [← hwb]
    go_wp2_with fail
    refine C1.mono ?_
    rintro e w1 ⟨rfl, hn1⟩
    replace hb0 := hn1.cell hb0
    replace hb1 := hn1.cell hb1
    have hs1 := hn1.size
    go_wp2_with fail
    go_region_held3 (fun w' => w'.cell? ⟨w.heap.size, 0, none⟩ = some (.int .i64 a.n) ∧ w'.cell? ⟨w.heap.size, 1, none⟩ = some (.slice A a.nx.length c))
      (first | go_keep | exact ⟨hq2.cell hb0, hq2.cell hb1⟩ | exact ⟨hq3.cell hb0, hq3.cell hb1⟩ | exact ⟨hq4.cell hb0, hq4.cell hb1⟩)
      (first
        | (go_at_call 33; refine (HC1.out _ ((hnb.trans hn1).trans (New.refl _).drew)).mono ?_; rintro e w2 ⟨q, rfl, hr2, ho2⟩; have hq2 : New w1 w2 := New.trans (New.refl _).drew hr2; have hz2 := hr2.size)
        | (go_at_call 32; refine (HC2.out _ _ ho2.at).mono ?_; rintro e w' ⟨rfl, rfl⟩)
        | (go_at_call 44; refine (HC3.out _ ((hnb.trans hn1).trans hq2)).mono ?_; rintro e w3 ⟨lv, mb, rfl, hr3, hT⟩; have hq3 : New w1 w3 := hq2.trans hr3; have hz3 := hr3.size)
        | (go_at_call 45; refine (HC4.out _ _ _ hT).mono ?_; rintro e w4 ⟨r, rfl, hr4, ho⟩; have hq4 : New w1 w4 := hq3.trans hr4; have hz4 := hr4.size))
    all_goals go_wp2
    all_goals go_ret2
    all_goals exact ⟨_, rfl, (hnb.trans hn1).trans hq4, ho.widen (by simp only [size_drew] at *; omega) (Nat.le_refl _)⟩
end

end Go.Proofs.YthbebnfhplacnaaGreat
