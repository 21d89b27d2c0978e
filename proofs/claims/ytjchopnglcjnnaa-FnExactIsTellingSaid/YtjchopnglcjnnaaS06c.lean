/- The reference's outputs of a machine for a word. -/
import Derived.Test.YtjchopnglcjnnaaRows
import Derived.Test.YtjchopnglcjnnaaBase
import Derived.Test.YtjchopnglcjnnaaAut
import Derived.Test.YtjchopnglcjnnaaMach
import Derived.Test.YtjchopnglcjnnaaApp
import Derived.Test.YtjchopnglcjnnaaAppRows
import Derived.Test.YtjchopnglcjnnaaAppStep
import Derived.Test.YtjchopnglcjnnaaInfo
import Derived.Test.YtjchopnglcjnnaaPlain1
import Derived.Test.YtjchopnglcjnnaaPlainRun
import Derived.Test.YtjchopnglcjnnaaPMach
import Derived.Test.YtjchopnglcjnnaaPlainOut
import Derived.Test.YtjchopnglcjnnaaS01a
import Derived.Test.YtjchopnglcjnnaaS06b
import Derived.WalkKit
import Derived.WalkSpells
import Derived.WalkLawsBesides
import Derived.Deep.QuietTactic
import Derived.Deep.OwnRows
import Derived.BigQuiet
import Derived.KernelRfl
import Derived.Deep.RegionHeld3
namespace Go.Proofs.Ytjchopnglcjnnaa
open Go.RowKit

set_option maxHeartbeats 400000 in
theorem l06State_any (p : Value) (m : Mach) (s : Int) (w : World) (hp : PMach w p m) (h0 : 0 ≤ m.n) (h1 : m.n ≤ 1048576) :
    Calls Try.prog 106 #[p, .int .i64 s] w fun e w' => e = .returned (.bool (inB s 0 (m.n - 1))) ∧ w' = w := by
  obtain ⟨b, r1, r2, rfl, c0, c1, c2, c3, hr1, hr2⟩ := hp
  go_enter Try.func106, Try.ntmps106
  go_wp2_with (go_at_call 78; refine (l00In_any _ _ _ _).mono ?_; rintro e w' ⟨rfl, rfl⟩)
  go_ret
  exact ⟨rfl, rfl⟩
set_option maxHeartbeats 400000 in
theorem l06Word_any (p v : Value) (m : Mach) (ws : List Int) (w : World) (hp : PMach w p m) (h : IntsAt w v ws) :
    Calls Try.prog 107 #[p, v] w fun e w' => e = .returned (.bool (wordOk m.aut ws)) ∧ New w w' := by
  go_enter Try.func107, Try.ntmps107
  go_wp2_with fail
  refine (l06Plain_any _ m _ hp).mono ?_
  rintro e w1 ⟨rv, rfl, hn1, hrv⟩
  obtain ⟨A3, c3, rfl⟩ := hrv.form
  have hpa : PAut (w1.alloc (.cells #[.int .i64 m.n, .slice A3 m.nx.length c3] 37)) (.pointer (some ⟨w1.heap.size, 0, none⟩)) m.aut := PAut.box (a := m.aut) hrv _
  go_wp2_with (go_at_call 66; refine (l01Word_any _ _ m.aut ws _ hpa (h.new (by repeat (first | with_reducible exact New.refl _ | with_reducible assumption | with_reducible refine New.alloc ?_ _ | with_reducible refine New.drewN ?_ _ | with_reducible refine New.drew ?_ | with_reducible refine New.trans ?_ (by with_reducible assumption))))).mono ?_; rintro e w2 ⟨rfl, hn2⟩)
  go_ret
  exact ⟨rfl, (by repeat (first | with_reducible exact New.refl _ | with_reducible assumption | with_reducible refine New.alloc ?_ _ | with_reducible refine New.drewN ?_ _ | with_reducible refine New.drew ?_ | with_reducible refine New.trans ?_ (by with_reducible assumption)))⟩
set_option maxRecDepth 20000 in
set_option maxHeartbeats 2000000 in
theorem l06Run_any (p v : Value) (m : Mach) (s : Int) (ws : List Int) (w : World) (hp : PMach w p m) (h : IntsAt w v ws) (hm : machOk m = true) (hw : letters m.aut ws) (hs : 0 ≤ s ∧ s < m.n) (hlen : ws.length ≤ 400) :
    Calls Try.prog 108 #[p, .int .i64 s, v] w fun e w' => ∃ r, e = .returned (.tuple #[r, .int .i64 (runOf m.nx s ws)]) ∧ New w w' ∧ OwnInts w.heap.size w'.heap.size w' r (outsOf m s ws) := by
  obtain ⟨pb, r1, r2, rfl, hp0, hp1, hp2, hp3, hr1, hr2⟩ := hp
  obtain ⟨A1, c1, rfl, hl1, hc1⟩ := hr1
  obtain ⟨A2, c2, rfl, hl2, hc2⟩ := hr2
  obtain ⟨A, c, rfl, hl, hc⟩ := h
  obtain ⟨ha, _, hol, hou⟩ := machOk_parts hm
  have HA := hid ha
  have HO := hid hou
  have HW := hid hw
  have HS := hid hs
  have HL := hid hlen
  have HOL := hid hol
  clear ha hou hw hs hm hol hlen
  go_enter Try.func108, Try.ntmps108
  go_wp2
  go_loopw [1, 8, 9] (fun q o i wr => ∃ (k : Nat) (z : Int), k ≤ ws.length ∧ i = .int .i64 k ∧ q = .int .i64 z ∧ Hid (z = runOf m.nx s (ws.take k)) ∧ Grow w.heap.size 2 wr o (outsTo m s ws k) ∧ New w wr) (fun _ _ i _ => ws.length - (intOf i).toNat)
  case atStart => exact ⟨0, _, Nat.zero_le _, rfl, rfl, rfl, Grow.empty _ _ _ (Nat.le_refl _), (by repeat (first | with_reducible exact New.refl _ | with_reducible assumption | with_reducible refine New.alloc ?_ _ | with_reducible refine New.drew ?_ | with_reducible refine New.drewN ?_ _ | with_reducible refine New.setCell ?_ (by simp <;> omega) _))⟩
  case round =>
    obtain ⟨k, z, hk, rfl, rfl, he, ho, hn⟩ := hrel
    by_cases hlt : k < ws.length
    · obtain ⟨b, off, rfl, hx⟩ := hc k hlt
      have b1 : (k : Int) < (ws.length : Int) := by omega
      have hz : 0 ≤ z ∧ z < m.n := by rw [he.out]; exact runOf_in HA.out ws HW.out s HS.out k (by omega)
      have hL : 0 ≤ nth ws k ∧ nth ws k < m.nx.length := HW.out k hlt
      have hLo : nth ws k < (m.out.length : Int) := by have := HOL.out; omega
      obtain ⟨b2, off2, rv, rfl, hx2, hr⟩ := hc1 (nth ws k).toNat (by omega)
      obtain ⟨h1, h2⟩ := autOk_row HA.out (nth ws k).toNat (by have := hL.2; show _ < m.nx.length; omega)
      obtain ⟨A3, c3, rfl, hl3, hc3⟩ := hr
      obtain ⟨b3, off3, rfl, hx3⟩ := hc3 z.toNat (by have := h1; have e : (nth m.aut.nx (nth ws k).toNat) = nth m.nx (nth ws k).toNat := rfl; rw [e] at this; have e2 : m.aut.n = m.n := rfl; omega)
      obtain ⟨b4, off4, rv2, rfl, hx4, hr'⟩ := hc2 (nth ws k).toNat (by omega)
      obtain ⟨A5, c5, rfl, hl5, hc5⟩ := hr'
      obtain ⟨g1, g2⟩ := HO.out (nth ws k).toNat (by omega)
      obtain ⟨b5, off5, rfl, hx5⟩ := hc5 z.toNat (by omega)
      obtain ⟨hz1, hz2⟩ := hz
      obtain ⟨hL1, hL2⟩ := hL
      have k2 : z < ((nth m.nx (nth ws k).toNat).length : Int) := by have e : (nth m.aut.nx (nth ws k).toNat) = nth m.nx (nth ws k).toNat := rfl; rw [e] at h1; have e2 : m.aut.n = m.n := rfl; omega
      have k3 : z < ((nth m.out (nth ws k).toNat).length : Int) := by omega
      clear hc hc1 hc2 hc3 hc5 h1 h2 g1 g2
      have hzr := hn.size
      have y3 := hn.cell hp3
      have y4 := hn.cell hx
      have y5 := hn.cell hx4
      have y6 := hn.cell hx5
      go_wp2_with fail
      go_region_held3 (fun w' => w'.cell? ⟨pb, 3, none⟩ = some (.slice (some ⟨b4, off4, none⟩) m.out.length c2) ∧ w'.cell? ⟨b, off + k, none⟩ = some (.int .i64 (nth ws k)) ∧ w'.cell? ⟨b4, off4 + (nth ws k).toNat, none⟩ = some (.slice (some ⟨b5, off5, none⟩) (nth m.out (nth ws k).toNat).length c5) ∧ w'.cell? ⟨b5, off5 + z.toNat, none⟩ = some (.int .i64 (nth (nth m.out (nth ws k).toNat) z.toNat)))
        (first | go_keep | exact ⟨hn2.cell hp3, hn2.cell hx, hn2.cell hx4, hn2.cell hx5⟩)
        (first
          | (refine step_app1 rfl _ _ _ rfl Try.underlying25 info_i64 _ (outsTo m s ws k) (nth (nth m.out (nth ws k).toNat) z.toNat) wr.heap.size rfl (ho.new (by repeat (first | with_reducible exact New.refl _ | with_reducible assumption | with_reducible refine New.alloc ?_ _ | with_reducible refine New.drewN ?_ _ | with_reducible refine New.drew ?_ | with_reducible refine New.trans ?_ (by with_reducible assumption)))) rfl (by go_simp) (by have := HL.out; rw [outsTo_len]; omega) (by (try simp only [size_alloc, size_drew, size_drewN, size_setCell]) <;> omega) ?_; intro g cap w2 ho2 hg2; have hn2 : New w w2 := New.app (a := w) (by repeat (first | with_reducible exact New.refl _ | with_reducible assumption | with_reducible refine New.alloc ?_ _ | with_reducible refine New.drewN ?_ _ | with_reducible refine New.drew ?_ | with_reducible refine New.trans ?_ (by with_reducible assumption))) hg2 (ho.new (by repeat (first | with_reducible exact New.refl _ | with_reducible assumption | with_reducible refine New.alloc ?_ _ | with_reducible refine New.drewN ?_ _ | with_reducible refine New.drew ?_ | with_reducible refine New.trans ?_ (by with_reducible assumption)))) (Nat.le_refl _)))
      clear y3 y4 y5 y6
      have y0 := hn2.cell hp0
      have y2 := hn2.cell hp2
      have y3 := hn2.cell hp3
      have y4 := hn2.cell hx
      have y5 := hn2.cell hx2
      have y6 := hn2.cell hx3
      go_wp2_with fail
      go_quiet (fail)
      go_wp2
      go_roundw
      case rel => exact ⟨k + 1, _, by omega, by go_num, rfl, by show _ = _; rw [runOf_take _ _ _ _ hlt, ← he.out]; rfl, by rw [outsTo_succ, ← he.out]; rw [outsTo_len] at ho2 ⊢; exact ho2.new ((New.refl _).drewN _), hn2.drewN nq⟩
      case measure => simp [intOf]; omega
    · have e : k = ws.length := by omega
      subst e
      go_wp2
      go_ret2
      rw [List.take_length] at he
      obtain rfl := he.out
      exact ⟨_, rfl, hn, ho.own (by have := HL.out; rw [outsTo_len]; omega)⟩
set_option maxHeartbeats 1000000 in
theorem specOutputsOf_any (v1 v3 : Value) (m : Mach) (s : Int) (ws : List Int) (w : World) (h1 : MachAt w v1 m) (h3 : IntsAt w v3 ws) :
    Calls Try.prog 38 #[v1, .int .i64 s, v3] w fun e w' => ∃ r, e = .returned (.tuple #[r, .int .i64 (OutputsOf m s ws).2.1, .int .i64 (OutputsOf m s ws).2.2]) ∧ New w w' ∧ OwnInts w.heap.size w'.heap.size w' r (OutputsOf m s ws).1 := by
  obtain ⟨r1, r2, rfl, hr1, hr2⟩ := h1
  obtain ⟨A1, c1, rfl⟩ := hr1.form
  obtain ⟨A2, c2, rfl⟩ := hr2.form
  have hp := PMach.box hr1 hr2 58
  have hn0 : New w (w.alloc (.cells #[.int .i64 m.n, .int .i64 m.o, .slice A1 m.nx.length c1, .slice A2 m.out.length c2] 58)) := (by repeat (first | with_reducible exact New.refl _ | with_reducible assumption | with_reducible refine New.alloc ?_ _ | with_reducible refine New.drew ?_ | with_reducible refine New.drewN ?_ _ | with_reducible refine New.setCell ?_ (by simp <;> omega) _))
  have HN := hid (fun (h : machOk m = true) => autOk_n (machOk_parts h).1)
  obtain ⟨R, hR⟩ : ∃ R, R = OutputsOf m s ws := ⟨_, rfl⟩
  rw [← hR]
  unfold OutputsOf at hR
  go_enter Try.func38, Try.ntmps38
  go_wp2_with (first
    | (go_at_call 105; refine (l06Ok_any _ m _ hp).mono ?_; rintro e w1 ⟨rfl, hn1⟩; obtain ⟨hc_hn1, hf_hn1⟩ := New.both hn1; have hz_hn1 := New.size hn1; try simp only [size_alloc, size_drew, size_drewN, size_setCell] at hz_hn1)
    | (go_at_call 106; refine (l06State_any _ m _ _ (hp.new (by repeat (first | with_reducible exact New.refl _ | with_reducible assumption | with_reducible refine New.alloc ?_ _ | with_reducible refine New.drewN ?_ _ | with_reducible refine New.drew ?_ | with_reducible refine New.trans ?_ (by with_reducible assumption)))) (by have := HN.out (by simpa using ‹(!machOk m) = false›); have e : m.aut.n = m.n := rfl; omega) (by have := HN.out (by simpa using ‹(!machOk m) = false›); have e : m.aut.n = m.n := rfl; omega)).mono ?_; rintro e w2 ⟨rfl, rfl⟩)
    | (go_at_call 107; refine (l06Word_any _ _ m ws _ (hp.new (by repeat (first | with_reducible exact New.refl _ | with_reducible assumption | with_reducible refine New.alloc ?_ _ | with_reducible refine New.drewN ?_ _ | with_reducible refine New.drew ?_ | with_reducible refine New.trans ?_ (by with_reducible assumption)))) (h3.new (by repeat (first | with_reducible exact New.refl _ | with_reducible assumption | with_reducible refine New.alloc ?_ _ | with_reducible refine New.drewN ?_ _ | with_reducible refine New.drew ?_ | with_reducible refine New.trans ?_ (by with_reducible assumption))))).mono ?_; rintro e w3 ⟨rfl, hn3⟩; obtain ⟨hc_hn3, hf_hn3⟩ := New.both hn3; have hz_hn3 := New.size hn3; try simp only [size_alloc, size_drew, size_drewN, size_setCell] at hz_hn3)
    | (go_at_call 108; refine (l06Run_any _ _ m s ws _ (hp.new (by repeat (first | with_reducible exact New.refl _ | with_reducible assumption | with_reducible refine New.alloc ?_ _ | with_reducible refine New.drewN ?_ _ | with_reducible refine New.drew ?_ | with_reducible refine New.trans ?_ (by with_reducible assumption)))) (h3.new (by repeat (first | with_reducible exact New.refl _ | with_reducible assumption | with_reducible refine New.alloc ?_ _ | with_reducible refine New.drewN ?_ _ | with_reducible refine New.drew ?_ | with_reducible refine New.trans ?_ (by with_reducible assumption)))) (by simp_all) (letters_of (by simp_all)) (by have : inB s 0 (m.n - 1) = true := (by simp_all); have := (inB_iff _ _ _).1 this; omega) (by have : wordOk m.aut ws = true := (by simp_all); exact ((wordOk_iff _ _).1 this).1)).mono ?_; rintro e w4 ⟨r, rfl, hn4, ho⟩; obtain ⟨hc_hn4, hf_hn4⟩ := New.both hn4; have hz_hn4 := New.size hn4; try simp only [size_alloc, size_drew, size_drewN, size_setCell] at hz_hn4))
  all_goals go_ret3
  all_goals first
    | (have e : R = ([], 0, 1) := by (rw [hR]; simp_all)
       rw [e]; exact ⟨_, rfl, (by repeat (first | with_reducible exact New.refl _ | with_reducible assumption | with_reducible refine New.alloc ?_ _ | with_reducible refine New.drewN ?_ _ | with_reducible refine New.drew ?_ | with_reducible refine New.trans ?_ (by with_reducible assumption))), OwnInts.none' _ (by (try simp only [size_alloc, size_drew, size_drewN, size_setCell]) <;> omega) (by (try simp only [size_alloc, size_drew, size_drewN, size_setCell]) <;> omega)⟩)
    | (have e : R = ([], 0, 2) := by (rw [hR]; simp_all)
       rw [e]; exact ⟨_, rfl, (by repeat (first | with_reducible exact New.refl _ | with_reducible assumption | with_reducible refine New.alloc ?_ _ | with_reducible refine New.drewN ?_ _ | with_reducible refine New.drew ?_ | with_reducible refine New.trans ?_ (by with_reducible assumption))), OwnInts.none' _ (by (try simp only [size_alloc, size_drew, size_drewN, size_setCell]) <;> omega) (by (try simp only [size_alloc, size_drew, size_drewN, size_setCell]) <;> omega)⟩)
    | (have e : R = (outsOf m s ws, runOf m.nx s ws, 0) := by (rw [hR]; simp_all)
       rw [e]; exact ⟨_, rfl, (by repeat (first | with_reducible exact New.refl _ | with_reducible assumption | with_reducible refine New.alloc ?_ _ | with_reducible refine New.drewN ?_ _ | with_reducible refine New.drew ?_ | with_reducible refine New.trans ?_ (by with_reducible assumption))), ho.widen (by (try simp only [size_alloc, size_drew, size_drewN, size_setCell]) <;> omega) (Nat.le_refl _)⟩)

end Go.Proofs.Ytjchopnglcjnnaa
