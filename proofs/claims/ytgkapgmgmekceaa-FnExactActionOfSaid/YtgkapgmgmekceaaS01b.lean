/- The reference's action of a word. -/
import Derived.Test.YtgkapgmgmekceaaRows
import Derived.Test.YtgkapgmgmekceaaBase
import Derived.Test.YtgkapgmgmekceaaAut
import Derived.Test.YtgkapgmgmekceaaApp
import Derived.Test.YtgkapgmgmekceaaPlain1
import Derived.Test.YtgkapgmgmekceaaPlainRun
import Derived.Test.YtgkapgmgmekceaaS01a
import Derived.Test.YtgkapgmgmekceaaInfo
import Derived.WalkKit
import Derived.WalkSpells
import Derived.WalkLawsBesides
import Derived.Deep.QuietTactic
import Derived.Deep.OwnRows
import Derived.BigQuiet
import Derived.KernelRfl
namespace Go.Proofs.Ytgkapgmgmekceaa
open Go.RowKit

set_option maxHeartbeats 400000 in
theorem l01To_any (p v : Value) (a : Aut) (s : Int) (ws : List Int) (w : World) (hp : PAut w p a) (h : IntsAt w v ws) (ha : autOk a = true) (hw : letters a ws) (hs : 0 ≤ s ∧ s < a.n) :
    Calls Try.prog 67 #[p, .int .i64 s, v] w fun e w' => e = .returned (.int .i64 (runOf a.nx s ws)) ∧ New w w' := by
  obtain ⟨pb, rv, rfl, hp0, hp1, hpr⟩ := hp
  obtain ⟨A2, c2, rfl, hl2, hc2⟩ := hpr
  obtain ⟨A, c, rfl, hl, hc⟩ := h
  have HA := hid ha
  have HW := hid hw
  have HS := hid hs
  clear ha hw hs
  go_enter Try.func67, Try.ntmps67
  go_wp2
  go_loopw [1, 7] (fun q i wr => ∃ (k : Nat) (z : Int), k ≤ ws.length ∧ i = .int .i64 k ∧ q = .int .i64 z ∧ Hid (z = runOf a.nx s (ws.take k)) ∧ New w wr) (fun _ i _ => ws.length - (intOf i).toNat)
  case atStart => exact ⟨0, _, Nat.zero_le _, rfl, rfl, rfl, New.refl _⟩
  case round =>
    obtain ⟨k, z, hk, rfl, rfl, he, hn⟩ := hrel
    by_cases hlt : k < ws.length
    · obtain ⟨b, off, rfl, hx⟩ := hc k hlt
      have b1 : (k : Int) < (ws.length : Int) := by omega
      have hz : 0 ≤ z ∧ z < a.n := by rw [he.out]; exact runOf_in HA.out ws HW.out s HS.out k (by omega)
      have hL := HW.out k hlt
      obtain ⟨b2, off2, rv, rfl, hx2, hr⟩ := hc2 (nth ws k).toNat (by omega)
      obtain ⟨h1, h2⟩ := autOk_row HA.out (nth ws k).toNat (by omega)
      obtain ⟨A3, c3, rfl, hl3, hc3⟩ := hr
      obtain ⟨b3, off3, rfl, hx3⟩ := hc3 z.toNat (by omega)
      obtain ⟨hz1, hz2⟩ := hz
      obtain ⟨hL1, hL2⟩ := hL
      have b2 : z < ((nth a.nx (nth ws k).toNat).length : Int) := by omega
      replace hx := hn.cell hx
      replace hx2 := hn.cell hx2
      replace hx3 := hn.cell hx3
      replace hp0 := hn.cell hp0
      replace hp1 := hn.cell hp1
      clear hc hc2 hc3 h1 h2
      go_wp2_with fail
      go_quiet (fail)
      go_wp2
      go_roundw
      case rel => exact ⟨k + 1, _, by omega, by go_num, rfl, by show _ = _; rw [runOf_take _ _ _ _ hlt, ← he.out]; rfl, hn.drewN nq⟩
      case measure => simp [intOf]; omega
    · have e : k = ws.length := by omega
      subst e
      go_wp2
      go_ret
      exact ⟨ret_int (by rw [he.out, List.take_length]), hn⟩

set_option maxHeartbeats 400000 in
theorem l01Action_any (p v : Value) (a : Aut) (ws : List Int) (w : World) (hp : PAut w p a) (h : IntsAt w v ws) (ha : autOk a = true) (hw : letters a ws) :
    Calls Try.prog 51 #[p, v] w fun e w' => ∃ r, e = .returned r ∧ New w w' ∧ OwnInts w.heap.size w'.heap.size w' r (actOf a ws) := by
  obtain ⟨pb, rv, rfl, hp0, hp1, hpr⟩ := id hp
  obtain ⟨A, c, rfl⟩ := h.form
  have HA := hid ha
  have HW := hid hw
  clear ha hw
  go_enter Try.func51, Try.ntmps51
  go_wp2
  go_loopw [5, 6] (fun q i wr => ∃ k : Nat, (k : Int) ≤ a.n ∧ i = .int .i64 k ∧ Grow w.heap.size 2 wr q ((iota 0 k).map fun s => runOf a.nx s ws) ∧ New w wr) (fun _ i _ => a.n.toNat - (intOf i).toNat)
  case atStart => exact ⟨0, by have := autOk_n HA.out; omega, rfl, Grow.empty _ _ _ (Nat.le_refl _), (by repeat (first | exact New.refl _ | assumption | refine New.alloc ?_ _ | refine New.drew ?_ | refine New.drewN ?_ _ | refine New.setCell ?_ (by simp <;> omega) _))⟩
  case round =>
    obtain ⟨k, hk, rfl, ho, hn⟩ := hrel
    have hn10 := (autOk_n HA.out).2
    replace hp0 := hn.cell hp0
    by_cases hlt : (k : Int) < a.n
    · go_wp2_with (first
        | (go_at_call 67; refine (l01To_any _ _ _ _ _ _ (hp.new hn) (h.new hn) HA.out HW.out ⟨by omega, hlt⟩).mono ?_; rintro e w1 ⟨rfl, hn1⟩)
        | (at_builtin; refine wpList_app rfl _ _ _ rfl Try.underlying25 info_i64 _ _ rfl (ho.new hn1) rfl (by simp [iota]; omega) (by have := hn1.size; have := hn.size; omega) ?_; intro g cap w2 ho2 hg2))
      go_roundw
      case rel => 
        refine ⟨k + 1, by omega, by go_num, ?_, (hn.trans hn1).app hg2 (ho.new hn1) (Nat.le_refl _)⟩
        rw [iota_snoc, List.map_append]
        simpa using ho2
      case measure => simp [intOf]; omega
    · have e : (k : Int) = a.n := by omega
      go_wp2
      go_ret
      have e2 : (iota 0 k).map (fun s => runOf a.nx s ws) = actOf a ws := by rw [actOf, ← e]; simp
      rw [e2] at ho
      exact ⟨_, rfl, hn, ho.own (by simp [actOf, iota_length]; omega)⟩

set_option maxHeartbeats 400000 in
theorem specActionOf_any (v1 v2 : Value) (a : Aut) (ws : List Int) (w : World) (h1 : AutAt w v1 a) (h2 : IntsAt w v2 ws) :
    Calls Try.prog 24 #[v1, v2] w fun e w' => ∃ r, e = .returned (.tuple #[r, .int .i64 (ActionOf a ws).2]) ∧ New w w' ∧ OwnInts w.heap.size w'.heap.size w' r (ActionOf a ws).1 := by
  obtain ⟨rv, rfl, hr⟩ := h1
  obtain ⟨A, c, rfl⟩ := hr.form
  have hp := PAut.box hr 28
  have hn0 : New w (w.alloc (.cells #[.int .i64 a.n, .slice A a.nx.length c] 28)) := (by repeat (first | exact New.refl _ | assumption | refine New.alloc ?_ _ | refine New.drew ?_ | refine New.drewN ?_ _ | refine New.setCell ?_ (by simp <;> omega) _))
  by_cases h : autOk a = true
  · by_cases hw : wordOk a ws = true
    · have e : ActionOf a ws = (actOf a ws, 0) := by rw [ActionOf, if_pos h, if_pos hw]
      rw [e]
      clear e
      go_enter Try.func24, Try.ntmps24
      go_wp2_with fail
      refine (l01Ok_any _ _ _ hp).mono ?_
      rintro e w1 ⟨rfl, hn1⟩
      go_wp2_with fail
      refine (l01Word_any _ _ _ _ _ (hp.new hn1) (h2.new (hn0.trans hn1))).mono ?_
      rintro e w2 ⟨rfl, hn2⟩
      go_wp2_with fail
      refine (l01Action_any _ _ _ _ _ (hp.new (hn1.trans hn2)) (h2.new ((hn0.trans hn1).trans hn2)) h (letters_of hw)).mono ?_
      rintro e w3 ⟨r, rfl, hn3, ho⟩
      have hs := ((hn0.trans hn1).trans hn2).size
      go_wp2_with fail
      go_ret2
      exact ⟨_, rfl, ((hn0.trans hn1).trans hn2).trans hn3, ho.widen hs (Nat.le_refl _)⟩
    · have hw' : wordOk a ws = false := by simpa using hw
      have e : ActionOf a ws = ([], 2) := by rw [ActionOf, if_pos h, if_neg hw]
      rw [e]
      clear e hw
      go_enter Try.func24, Try.ntmps24
      go_wp2_with fail
      refine (l01Ok_any _ _ _ hp).mono ?_
      rintro e w1 ⟨rfl, hn1⟩
      go_wp2_with fail
      refine (l01Word_any _ _ _ _ _ (hp.new hn1) (h2.new (hn0.trans hn1))).mono ?_
      rintro e w2 ⟨rfl, hn2⟩
      go_wp2_with fail
      go_ret2
      have hs := ((hn0.trans hn1).trans hn2).size
      exact ⟨_, rfl, ((hn0.trans hn1).trans hn2).alloc _, OwnInts.none' _ hs (by (try simp only [size_alloc, size_drew, size_drewN, size_setCell]) <;> omega)⟩
  · have h' : autOk a = false := by simpa using h
    have e : ActionOf a ws = ([], 1) := by rw [ActionOf, if_neg h]
    rw [e]
    clear e h
    go_enter Try.func24, Try.ntmps24
    go_wp2_with fail
    refine (l01Ok_any _ _ _ hp).mono ?_
    rintro e w1 ⟨rfl, hn1⟩
    go_wp2_with fail
    go_ret2
    have hs := (hn0.trans hn1).size
    exact ⟨_, rfl, (hn0.trans hn1).alloc _, OwnInts.none' _ hs (by (try simp only [size_alloc, size_drew, size_drewN, size_setCell]) <;> omega)⟩

end Go.Proofs.Ytgkapgmgmekceaa
