/- The program's outputs of a machine for a word. -/
import Derived.Test.YtjchopnglcjnnaaRows
import Derived.Test.YtjchopnglcjnnaaBase
import Derived.Test.YtjchopnglcjnnaaAut
import Derived.Test.YtjchopnglcjnnaaMach
import Derived.Test.YtjchopnglcjnnaaApp
import Derived.Test.YtjchopnglcjnnaaInfo
import Derived.Test.YtjchopnglcjnnaaPlain1
import Derived.Test.YtjchopnglcjnnaaPlainRun
import Derived.Test.YtjchopnglcjnnaaPMach
import Derived.Test.YtjchopnglcjnnaaPlainOut
import Derived.Test.YtjchopnglcjnnaaI01a
import Derived.Test.YtjchopnglcjnnaaI01b
import Derived.Test.YtjchopnglcjnnaaI01c
import Derived.Test.YtjchopnglcjnnaaI06a
import Derived.WalkKit
import Derived.WalkSpells
import Derived.WalkLawsBesides
import Derived.Deep.QuietTactic
import Derived.Deep.OwnRows
import Derived.BigQuiet
import Derived.KernelRfl
namespace Go.Proofs.Ytjchopnglcjnnaa
open Go.RowKit

set_option maxHeartbeats 400000 in
theorem MisState_any (v : Value) (m : Mach) (s : Int) (w : World) (h : MachAt w v m) (h0 : 0 ≤ m.n) (h1 : m.n ≤ 1048576) :
    Calls Try.prog 111 #[v, .int .i64 s] w fun e w' => e = .returned (.bool (inB s 0 (m.n - 1))) ∧ New w w' := by
  obtain ⟨r1, r2, rfl, hr1, hr2⟩ := h
  obtain ⟨A1, c1, rfl⟩ := hr1.form
  obtain ⟨A2, c2, rfl⟩ := hr2.form
  go_enter Try.func111, Try.ntmps111
  go_wp2_with (go_at_call 103; refine (within_any _ _ _ _).mono ?_; rintro e w' ⟨rfl, rfl⟩)
  go_ret
  exact ⟨rfl, (by repeat (first | with_reducible exact New.refl _ | with_reducible assumption | with_reducible refine New.alloc ?_ _ | with_reducible refine New.drewN ?_ _ | with_reducible refine New.drew ?_ | with_reducible refine New.trans ?_ (by with_reducible assumption)))⟩
set_option maxHeartbeats 400000 in
theorem MisWord_any (v1 v2 : Value) (m : Mach) (ws : List Int) (w : World) (h1 : MachAt w v1 m) (h2 : IntsAt w v2 ws) :
    Calls Try.prog 112 #[v1, v2] w fun e w' => e = .returned (.bool (wordOk m.aut ws)) ∧ New w w' := by
  obtain ⟨r1, r2, rfl, hr1, hr2⟩ := h1
  obtain ⟨A1, c1, rfl⟩ := hr1.form
  obtain ⟨A2, c2, rfl⟩ := hr2.form
  have h1 : MachAt w (.agg #[.int .i64 m.n, .int .i64 m.o, .slice A1 m.nx.length c1, .slice A2 m.out.length c2]) m := ⟨_, _, rfl, hr1, hr2⟩
  go_enter Try.func112, Try.ntmps112
  go_wp2_with fail
  refine (forget_any _ m _ (h1.new (by repeat (first | with_reducible exact New.refl _ | with_reducible assumption | with_reducible refine New.alloc ?_ _ | with_reducible refine New.drewN ?_ _ | with_reducible refine New.drew ?_ | with_reducible refine New.trans ?_ (by with_reducible assumption))))).mono ?_
  rintro e w1 ⟨rv, rfl, hn1, hrv⟩
  obtain ⟨A3, c3, rfl⟩ := hrv.form
  go_wp2_with (go_at_call 97; refine (isWord_any _ _ m.aut ws _ ⟨_, rfl, hrv⟩ (h2.new (by repeat (first | with_reducible exact New.refl _ | with_reducible assumption | with_reducible refine New.alloc ?_ _ | with_reducible refine New.drewN ?_ _ | with_reducible refine New.drew ?_ | with_reducible refine New.trans ?_ (by with_reducible assumption))))).mono ?_; rintro e w2 ⟨rfl, hn2⟩)
  go_ret
  exact ⟨rfl, (by repeat (first | with_reducible exact New.refl _ | with_reducible assumption | with_reducible refine New.alloc ?_ _ | with_reducible refine New.drewN ?_ _ | with_reducible refine New.drew ?_ | with_reducible refine New.trans ?_ (by with_reducible assumption)))⟩
set_option maxHeartbeats 400000 in
theorem Mcode_any (v : Value) (m : Mach) (k : Nat) (cap : Array Value) (r : Bool) (w : World) (h : MachAt w v m)
    (hent : ∀ args w, Sem.run Try.prog (callFunc k args) w = .ok (.enter k args) w)
    (hf : machOk m = true → ∀ w', New w w' → Calls Try.prog k cap w' fun e w'' => e = .returned (.bool r) ∧ New w' w'') :
    Calls Try.prog 109 #[v, .func (.func k) #[] cap] w fun e w' => e = .returned (.int .i64 (codeOf (machOk m) r)) ∧ New w w' := by
  obtain ⟨r1, r2, rfl, hr1, hr2⟩ := h
  obtain ⟨A1, c1, rfl⟩ := hr1.form
  obtain ⟨A2, c2, rfl⟩ := hr2.form
  have HF := hid hf
  clear hf
  have h1 : MachAt w (.agg #[.int .i64 m.n, .int .i64 m.o, .slice A1 m.nx.length c1, .slice A2 m.out.length c2]) m := ⟨_, _, rfl, hr1, hr2⟩
  have hn0 : New w (w.alloc (.cells #[.int .i64 m.n, .int .i64 m.o, .slice A1 m.nx.length c1, .slice A2 m.out.length c2] 58)) := (by repeat (first | with_reducible exact New.refl _ | with_reducible assumption | with_reducible refine New.alloc ?_ _ | with_reducible refine New.drew ?_ | with_reducible refine New.drewN ?_ _ | with_reducible refine New.setCell ?_ (by simp <;> omega) _))
  have HC := implValidMachine_any _ m _ (h1.new hn0)
  cases ha : machOk m with
  | true =>
    have HA := hid ha
    rw [ha] at HC
    clear ha
    go_enter Try.func109, Try.ntmps109
    go_wp2_with fail
    refine HC.mono ?_
    rintro e w1 ⟨rfl, hn1⟩
    cases r with
    | true =>
      go_wp2_with (refine (HF.out HA.out _ (hn0.trans hn1)).mono ?_; rintro e w2 ⟨rfl, hn2⟩)
      go_ret
      exact ⟨rfl, (hn0.trans hn1).trans hn2⟩
    | false =>
      go_wp2_with (refine (HF.out HA.out _ (hn0.trans hn1)).mono ?_; rintro e w2 ⟨rfl, hn2⟩)
      go_ret
      exact ⟨rfl, (hn0.trans hn1).trans hn2⟩
  | false =>
    rw [ha] at HC
    clear ha
    go_enter Try.func109, Try.ntmps109
    go_wp2_with fail
    refine HC.mono ?_
    rintro e w1 ⟨rfl, hn1⟩
    go_wp2_with fail
    go_ret
    exact ⟨rfl, hn0.trans hn1⟩
set_option maxRecDepth 20000 in
set_option maxHeartbeats 2000000 in
theorem outputs_any (v1 v : Value) (m : Mach) (s : Int) (ws : List Int) (w : World) (h1 : MachAt w v1 m) (h : IntsAt w v ws) (hm : machOk m = true) (hw : letters m.aut ws) (hs : 0 ≤ s ∧ s < m.n) (hlen : ws.length ≤ 400) :
    Calls Try.prog 113 #[v1, .int .i64 s, v] w fun e w' => ∃ r, e = .returned (.tuple #[r, .int .i64 (runOf m.nx s ws)]) ∧ New w w' ∧ OwnInts w.heap.size w'.heap.size w' r (outsOf m s ws) := by
  obtain ⟨r1, r2, rfl, hr1, hr2⟩ := h1
  obtain ⟨A1, c1, rfl, hl1, hc1⟩ := hr1
  obtain ⟨A2, c2, rfl, hl2, hc2⟩ := hr2
  obtain ⟨A, c, rfl, hl, hc⟩ := h
  obtain ⟨ha, _, hol, hou⟩ := machOk_parts hm
  have HA := hid ha
  have HO := hid hou
  have HW := hid hw
  have HS := hid hs
  have HL := hid hlen
  have HOL := hid hol
  clear ha hou hw hs hm hol hlen
  have hnb : New w (w.alloc (.cells #[.int .i64 m.n, .int .i64 m.o, .slice A1 m.nx.length c1, .slice A2 m.out.length c2] 58)) := (by repeat (first | with_reducible exact New.refl _ | with_reducible assumption | with_reducible refine New.alloc ?_ _ | with_reducible refine New.drew ?_ | with_reducible refine New.drewN ?_ _ | with_reducible refine New.setCell ?_ (by simp <;> omega) _))
  go_enter Try.func113, Try.ntmps113
  go_wp2
  go_loopw [1, 8, 14] (fun q o i wr => ∃ (k : Nat) (z : Int), k ≤ ws.length ∧ i = .int .i64 k ∧ q = .int .i64 z ∧ Hid (z = runOf m.nx s (ws.take k)) ∧ Grow (w.heap.size + 1) 2 wr o (outsTo m s ws k) ∧ New (w.alloc (.cells #[.int .i64 m.n, .int .i64 m.o, .slice A1 m.nx.length c1, .slice A2 m.out.length c2] 58)) wr) (fun _ _ i _ => ws.length - (intOf i).toNat)
  case atStart => exact ⟨0, _, Nat.zero_le _, rfl, rfl, rfl, by have := Grow.empty (w.heap.size + 1) 2 (w.alloc (.cells #[.int .i64 m.n, .int .i64 m.o, .slice A1 m.nx.length c1, .slice A2 m.out.length c2] 58)) (by (try simp only [size_alloc, size_drew, size_drewN, size_setCell]) <;> omega); rw [size_alloc] at this; exact this, (by repeat (first | with_reducible exact New.refl _ | with_reducible assumption | with_reducible refine New.alloc ?_ _ | with_reducible refine New.drew ?_ | with_reducible refine New.drewN ?_ _ | with_reducible refine New.setCell ?_ (by simp <;> omega) _))⟩
  case round =>
    obtain ⟨k, z, hk, rfl, rfl, he, ho, hn⟩ := hrel
    have hn0 : New w wr := New.trans hnb hn
    have hz0 := hn.size
    simp only [size_alloc] at hz0
    by_cases hlt : k < ws.length
    · obtain ⟨b, off, rfl, hx⟩ := hc k hlt
      have b1 : (k : Int) < (ws.length : Int) := by omega
      have hz : 0 ≤ z ∧ z < m.n := by rw [he.out]; exact runOf_in HA.out ws HW.out s HS.out k (by omega)
      have hL : 0 ≤ nth ws k ∧ nth ws k < m.nx.length := HW.out k hlt
      have hLo : nth ws k < (m.out.length : Int) := by have := HOL.out; omega
      obtain ⟨b2, off2, rv, rfl, hx2, hr⟩ := hc1 (nth ws k).toNat (by omega)
      obtain ⟨h1, h2⟩ := autOk_row HA.out (nth ws k).toNat (by have := hL.2; show _ < m.nx.length; omega)
      obtain ⟨A3, c3, rfl, hl3, hc3⟩ := hr
      obtain ⟨b3, off3, rfl, hx3⟩ := hc3 z.toNat (by have := h1; have e : (nth m.aut.nx (nth ws k).toNat) = nth m.nx (nth ws k).toNat := rfl; rw [e] at this; have e2 : m.aut.n = m.n := rfl; omega)
      obtain ⟨b4, off4, rv2, rfl, hx4, hr'⟩ := hc2 (nth ws k).toNat (by omega)
      obtain ⟨A5, c5, rfl, hl5, hc5⟩ := hr'
      obtain ⟨g1, g2⟩ := HO.out (nth ws k).toNat (by omega)
      obtain ⟨b5, off5, rfl, hx5⟩ := hc5 z.toNat (by omega)
      obtain ⟨hz1, hz2⟩ := hz
      obtain ⟨hL1, hL2⟩ := hL
      have k2 : z < ((nth m.nx (nth ws k).toNat).length : Int) := by have e : (nth m.aut.nx (nth ws k).toNat) = nth m.nx (nth ws k).toNat := rfl; rw [e] at h1; have e2 : m.aut.n = m.n := rfl; omega
      have k3 : z < ((nth m.out (nth ws k).toNat).length : Int) := by omega
      clear hc hc1 hc2 hc3 hc5 h1 h2 g1 g2
      have hp2 : wr.cell? ⟨w.heap.size, 2, none⟩ = some (.slice (some ⟨b2, off2, none⟩) m.nx.length c1) := hn.cell (by go_simp)
      have hp3 : wr.cell? ⟨w.heap.size, 3, none⟩ = some (.slice (some ⟨b4, off4, none⟩) m.out.length c2) := hn.cell (by go_simp)
      have y4 := hn0.cell hx
      have y5 := hn0.cell hx4
      have y6 := hn0.cell hx5
      go_wp2_with (at_builtin; refine wpList_app rfl _ _ _ rfl Try.underlying25 info_i64 _ _ rfl ho rfl (by have := HL.out; rw [outsTo_len]; omega) (by omega) ?_; intro g cap w2 ho2 hg2; have hn2 := hn.app hg2 ho (by (try simp only [size_alloc, size_drew, size_drewN, size_setCell]) <;> omega); clear y4 y5 y6; have y4 := (hnb.trans hn2).cell hx; have y5 := (hnb.trans hn2).cell hx2; have y6 := (hnb.trans hn2).cell hx3; have hq2 : w2.cell? ⟨w.heap.size, 2, none⟩ = some (.slice (some ⟨b2, off2, none⟩) m.nx.length c1) := hn2.cell (by go_simp))
      go_roundw
      case rel => exact ⟨k + 1, _, by omega, by go_num, rfl, by show _ = _; rw [runOf_take _ _ _ _ hlt, ← he.out]; rfl, by rw [outsTo_succ, ← he.out]; rw [outsTo_len] at ho2 ⊢; exact ho2, hn2⟩
      case measure => simp [intOf]; omega
    · have e : k = ws.length := by omega
      subst e
      go_wp2
      go_ret2
      rw [List.take_length] at he
      obtain rfl := he.out
      exact ⟨_, rfl, hn0, (ho.own (by have := HL.out; rw [outsTo_len]; omega)).widen (by omega) (Nat.le_refl _)⟩
set_option maxHeartbeats 400000 in
theorem OutputsOf1_any (b1 b2 b3 : Nat) (r1 r2 v3 : Value) (m : Mach) (s : Int) (ws : List Int) (w : World) (hm : machOk m = true)
    (h0 : w.cell? ⟨b1, 0, none⟩ = some (.int .i64 m.n)) (h1 : w.cell? ⟨b1, 1, none⟩ = some (.int .i64 m.o)) (h2 : w.cell? ⟨b1, 2, none⟩ = some r1) (h3 : w.cell? ⟨b1, 3, none⟩ = some r2) (hr1 : RowsAt w r1 m.nx) (hr2 : RowsAt w r2 m.out)
    (hs : w.cell? ⟨b2, 0, none⟩ = some (.int .i64 s)) (h5 : w.cell? ⟨b3, 0, none⟩ = some v3) (hv : IntsAt w v3 ws) :
    Calls Try.prog 110 #[.pointer (some ⟨b1, 0, none⟩), .pointer (some ⟨b2, 0, none⟩), .pointer (some ⟨b3, 0, none⟩)] w fun e w' => e = .returned (.bool (inB s 0 (m.n - 1) && wordOk m.aut ws)) ∧ New w w' := by
  have hn10 := autOk_n (machOk_parts hm).1
  have en : m.aut.n = m.n := rfl
  rw [en] at hn10
  obtain ⟨n1, n2⟩ := hn10
  have hM : MachAt w (.agg #[.int .i64 m.n, .int .i64 m.o, r1, r2]) m := ⟨_, _, rfl, hr1, hr2⟩
  clear hm en
  have lb1 : b1 < w.heap.size := World.block_lt_of_cell? w _ h0
  have lb2 : b3 < w.heap.size := World.block_lt_of_cell? w _ h5
  have C := MisState_any _ m s _ hM (by omega) (by omega)
  cases hs' : inB s 0 (m.n - 1) with
  | false =>
    rw [hs'] at C
    go_enter Try.func110, Try.ntmps110
    go_wp2_with (go_at_call 111; refine C.mono ?_; rintro e w1 ⟨rfl, hn1⟩)
    go_ret
    exact ⟨rfl, (by repeat (first | with_reducible exact New.refl _ | with_reducible assumption | with_reducible refine New.alloc ?_ _ | with_reducible refine New.drewN ?_ _ | with_reducible refine New.drew ?_ | with_reducible refine New.trans ?_ (by with_reducible assumption)))⟩
  | true =>
    rw [hs'] at C
    go_enter Try.func110, Try.ntmps110
    go_wp2_with (first
      | (go_at_call 111; refine C.mono ?_; rintro e w1 ⟨rfl, hn1⟩; replace h0 := hn1.cell h0; replace h1 := hn1.cell h1; replace h2 := hn1.cell h2; replace h3 := hn1.cell h3; replace h5 := hn1.cell h5)
      | (go_at_call 112; refine (MisWord_any _ _ m _ _ (hM.new (by repeat (first | with_reducible exact New.refl _ | with_reducible assumption | with_reducible refine New.alloc ?_ _ | with_reducible refine New.drewN ?_ _ | with_reducible refine New.drew ?_ | with_reducible refine New.trans ?_ (by with_reducible assumption)))) (hv.new (by repeat (first | with_reducible exact New.refl _ | with_reducible assumption | with_reducible refine New.alloc ?_ _ | with_reducible refine New.drewN ?_ _ | with_reducible refine New.drew ?_ | with_reducible refine New.trans ?_ (by with_reducible assumption))))).mono ?_; rintro e w2 ⟨rfl, hn2⟩))
    go_ret
    exact ⟨rfl, (by repeat (first | with_reducible exact New.refl _ | with_reducible assumption | with_reducible refine New.alloc ?_ _ | with_reducible refine New.drewN ?_ _ | with_reducible refine New.drew ?_ | with_reducible refine New.trans ?_ (by with_reducible assumption)))⟩
set_option maxHeartbeats 800000 in
theorem implOutputsOf_any (v1 v3 : Value) (m : Mach) (s : Int) (ws : List Int) (w : World) (h1 : MachAt w v1 m) (h3 : IntsAt w v3 ws) :
    Calls Try.prog 40 #[v1, .int .i64 s, v3] w fun e w' => ∃ r, e = .returned (.tuple #[r, .int .i64 (OutputsOf m s ws).2.1, .int .i64 (OutputsOf m s ws).2.2]) ∧ New w w' ∧ OwnInts w.heap.size w'.heap.size w' r (OutputsOf m s ws).1 := by
  obtain ⟨r1, r2, rfl, hr1, hr2⟩ := h1
  obtain ⟨A1, c1, rfl⟩ := hr1.form
  obtain ⟨A2, c2, rfl⟩ := hr2.form
  obtain ⟨A3, c3, rfl⟩ := h3.form
  have h1 : MachAt w (.agg #[.int .i64 m.n, .int .i64 m.o, .slice A1 m.nx.length c1, .slice A2 m.out.length c2]) m := ⟨_, _, rfl, hr1, hr2⟩
  obtain ⟨wb, hwb⟩ : ∃ wb, wb = ((w.alloc (.cells #[.int .i64 m.n, .int .i64 m.o, .slice A1 m.nx.length c1, .slice A2 m.out.length c2] 58)).alloc (.cells #[.int .i64 s] 2)).alloc (.cells #[.slice A3 ws.length c3] 25) := ⟨_, rfl⟩
  have hnb : New w wb := by rw [hwb]; exact (by repeat (first | with_reducible exact New.refl _ | with_reducible assumption | with_reducible refine New.alloc ?_ _ | with_reducible refine New.drew ?_ | with_reducible refine New.drewN ?_ _ | with_reducible refine New.setCell ?_ (by simp <;> omega) _))
  have hz : w.heap.size + 3 = wb.heap.size := by rw [hwb]; simp only [size_alloc]
  have hb0 : wb.cell? ⟨w.heap.size, 0, none⟩ = some (.int .i64 m.n) := by rw [hwb]; go_simp
  have hb1 : wb.cell? ⟨w.heap.size, 1, none⟩ = some (.int .i64 m.o) := by rw [hwb]; go_simp
  have hb2 : wb.cell? ⟨w.heap.size, 2, none⟩ = some (.slice A1 m.nx.length c1) := by rw [hwb]; go_simp
  have hb3 : wb.cell? ⟨w.heap.size, 3, none⟩ = some (.slice A2 m.out.length c2) := by rw [hwb]; go_simp
  have hb4 : wb.cell? ⟨w.heap.size + 1, 0, none⟩ = some (.int .i64 s) := by rw [hwb]; go_simp
  have hb5 : wb.cell? ⟨w.heap.size + 2, 0, none⟩ = some (.slice A3 ws.length c3) := by rw [hwb]; go_simp
  have HC : Calls Try.prog 109 #[.agg #[.int .i64 m.n, .int .i64 m.o, .slice A1 m.nx.length c1, .slice A2 m.out.length c2], .func (.func 110) #[] #[.pointer (some ⟨w.heap.size, 0, none⟩), .pointer (some ⟨w.heap.size + 1, 0, none⟩), .pointer (some ⟨w.heap.size + 2, 0, none⟩)]] wb
      fun e w' => e = .returned (.int .i64 (codeOf (machOk m) (inB s 0 (m.n - 1) && wordOk m.aut ws))) ∧ New wb w' := by
    refine Mcode_any _ m _ _ _ _ (h1.new hnb) (enters Try.func110 (by decide) (by simp [Try.f110])) fun hm w' hw => ?_
    exact OutputsOf1_any _ _ _ _ _ _ m s ws _ hm (hw.cell hb0) (hw.cell hb1) (hw.cell hb2) (hw.cell hb3) (hr1.new (by repeat (first | with_reducible exact New.refl _ | with_reducible assumption | with_reducible refine New.alloc ?_ _ | with_reducible refine New.drewN ?_ _ | with_reducible refine New.drew ?_ | with_reducible refine New.trans ?_ (by with_reducible assumption)))) (hr2.new (by repeat (first | with_reducible exact New.refl _ | with_reducible assumption | with_reducible refine New.alloc ?_ _ | with_reducible refine New.drewN ?_ _ | with_reducible refine New.drew ?_ | with_reducible refine New.trans ?_ (by with_reducible assumption)))) (hw.cell hb4) (hw.cell hb5) (h3.new (by repeat (first | with_reducible exact New.refl _ | with_reducible assumption | with_reducible refine New.alloc ?_ _ | with_reducible refine New.drewN ?_ _ | with_reducible refine New.drew ?_ | with_reducible refine New.trans ?_ (by with_reducible assumption))))
  obtain ⟨R, hR⟩ : ∃ R, R = OutputsOf m s ws := ⟨_, rfl⟩
  rw [← hR]
  unfold OutputsOf at hR
  have HR := hid hR
  clear hR
  go_enter Try.func40, Try.ntmps40
  go_wp2_with fail
  rw [← hwb]
  refine HC.mono ?_
  rintro e w1 ⟨rfl, hn1⟩
  have hz1 := hn1.size
  replace hb0 := hn1.cell hb0
  replace hb1 := hn1.cell hb1
  replace hb2 := hn1.cell hb2
  replace hb3 := hn1.cell hb3
  replace hb4 := hn1.cell hb4
  replace hb5 := hn1.cell hb5
  clear hwb HC
  cases ha : machOk m with
  | false =>
    have e : codeOf false (inB s 0 (m.n - 1) && wordOk m.aut ws) = 1 := rfl
    have e2 : R = ([], 0, 1) := by rw [HR.out, ha]; rfl
    rw [e]
    go_wp2
    go_ret3
    rw [e2]
    exact ⟨_, rfl, (by repeat (first | with_reducible exact New.refl _ | with_reducible assumption | with_reducible refine New.alloc ?_ _ | with_reducible refine New.drewN ?_ _ | with_reducible refine New.drew ?_ | with_reducible refine New.trans ?_ (by with_reducible assumption))), OwnInts.nil _ _ _⟩
  | true =>
    cases hs : (inB s 0 (m.n - 1) && wordOk m.aut ws) with
    | false =>
      have e : codeOf true false = 2 := rfl
      have e2 : R = ([], 0, 2) := by rw [HR.out, ha, hs]; rfl
      rw [e]
      go_wp2
      go_ret3
      rw [e2]
      exact ⟨_, rfl, (by repeat (first | with_reducible exact New.refl _ | with_reducible assumption | with_reducible refine New.alloc ?_ _ | with_reducible refine New.drewN ?_ _ | with_reducible refine New.drew ?_ | with_reducible refine New.trans ?_ (by with_reducible assumption))), OwnInts.nil _ _ _⟩
    | true =>
      have e : codeOf true true = 0 := rfl
      have e2 : R = (outsOf m s ws, runOf m.nx s ws, 0) := by rw [HR.out, ha, hs]; rfl
      rw [e]
      have hw : wordOk m.aut ws = true := by rw [Bool.and_eq_true] at hs; exact hs.2
      have hin := (inB_iff s 0 (m.n - 1)).1 (by rw [Bool.and_eq_true] at hs; exact hs.1)
      have HI := hid hin
      have HL := hid ((wordOk_iff _ _).1 hw).1
      clear hin
      go_wp2_with (go_at_call 113; refine (outputs_any _ _ m s ws _ (h1.new (by repeat (first | with_reducible exact New.refl _ | with_reducible assumption | with_reducible refine New.alloc ?_ _ | with_reducible refine New.drewN ?_ _ | with_reducible refine New.drew ?_ | with_reducible refine New.trans ?_ (by with_reducible assumption)))) (h3.new (by repeat (first | with_reducible exact New.refl _ | with_reducible assumption | with_reducible refine New.alloc ?_ _ | with_reducible refine New.drewN ?_ _ | with_reducible refine New.drew ?_ | with_reducible refine New.trans ?_ (by with_reducible assumption)))) ha (letters_of hw) (by have := HI.out; omega) HL.out).mono ?_; rintro e w2 ⟨r, rfl, hn2, ho⟩)
      go_ret3
      rw [e2]
      exact ⟨_, rfl, (by repeat (first | with_reducible exact New.refl _ | with_reducible assumption | with_reducible refine New.alloc ?_ _ | with_reducible refine New.drewN ?_ _ | with_reducible refine New.drew ?_ | with_reducible refine New.trans ?_ (by with_reducible assumption))), ho.widen (by omega) (Nat.le_refl _)⟩

end Go.Proofs.Ytjchopnglcjnnaa
