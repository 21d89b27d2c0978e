/- The program's test whether roads lead from each town to each one. -/
import Derived.Test.YtiflokfinkachaaRows
import Derived.Test.YtiflokfinkachaaCore
import Derived.Test.YtiflokfinkachaaInfo
import Derived.Test.YtiflokfinkachaaPlains
import Derived.Test.YtiflokfinkachaaJoins
import Derived.Test.YtiflokfinkachaaMaps
import Derived.Test.YtiflokfinkachaaCho
import Derived.Test.YtiflokfinkachaaSolid
import Derived.Test.YtiflokfinkachaaArrSt
import Derived.Test.YtiflokfinkachaaBox3
import Derived.Test.YtiflokfinkachaaIArr
import Derived.Test.YtiflokfinkachaaIArr2
import Derived.Test.YtiflokfinkachaaIPaint
import Derived.Test.YtiflokfinkachaaIAt
import Derived.Test.YtiflokfinkachaaIReached2
import Derived.Test.YtiflokfinkachaaI05a
import Derived.WalkKit
import Derived.WalkSpells
import Derived.WalkLawsBesides
import Derived.Deep.QuietTactic
import Derived.Deep.OwnRows
import Derived.BigQuiet
import Derived.KernelRfl
namespace Go.Proofs.Ytiflokfinkachaa
open Go.RowKit

/-- The first colouring of right roads. -/
theorem firstPaint_any (v : Value) (r : Aut) (w : World) (h : AutAt w v r) (hf : RoadsFacts r) :
    Calls Try.prog 108 #[v] w fun e w' => ∃ pv, e = .returned pv ∧ New w w' ∧ ∀ (N : Nat), N ≤ 4611686018427387904 → ∀ w1, New w' w1 → Calls Try.prog 109 #[pv, .int .i64 N] w1 fun e w2 => ∃ r2, e = .returned r2 ∧ New w1 w2 ∧ OwnAut w1.heap.size w2.heap.size w2 r2 ⟨r.nx.length, atRows (choicesOf r) N (nth r.nx 0).length⟩ := by
  refine (newPaint_any v r w h hf.n7 (fun i hi => by rw [hf.row i hi]; exact hf.l3)).mono ?_
  rintro e w' ⟨rv, rc, rfl, hn, hr, hc⟩
  refine ⟨_, rfl, hn, fun N hN w1 hn1 => ?_⟩
  rw [← hf.n]
  have hc1 : ListAt RowsAt w1 rc (choicesOf r) := by
    obtain ⟨A, c, e, hl, hx⟩ := hc
    exact ⟨A, c, e, hl, fun i hi => let ⟨b, off, q, h1, h2, h3⟩ := hx i hi; ⟨b, off, q, h1, hn1.cell h2, h3.new hn1⟩⟩
  exact paintAt_any rv rc r.nx (choicesOf r) (nth r.nx 0).length N w1 (hr.new hn1) hc1 (choices_len r) hf.n1 hf.n7 rfl ⟨hf.l1, hf.l3⟩ (fun p hp => choices_pos p hp) (fun p hp i hi => choices_row hf p hp i hi) hN
set_option maxRecDepth 20000 in
set_option maxHeartbeats 1000000 in
theorem implIsJoined_any (v : Value) (r : Aut) (w : World) (h : AutAt w v r) :
    Calls Try.prog 44 #[v] w fun e w' => e = .returned (.tuple #[.bool (IsJoined r).1, .int .i64 (IsJoined r).2]) ∧ New w w' := by
  obtain ⟨rv, rfl, hr⟩ := h
  obtain ⟨A, c, rfl⟩ := hr.form
  obtain ⟨wb, hwb⟩ : ∃ wb, wb = w.alloc (.cells #[.int .i64 r.n, .slice A r.nx.length c] 59) := ⟨_, rfl⟩
  have hnb : New w wb := by rw [hwb]; exact (by repeat (first | with_reducible exact New.refl _ | with_reducible assumption | with_reducible refine New.alloc ?_ _ | with_reducible refine New.drewN ?_ _ | with_reducible refine New.drew ?_ | with_reducible refine New.trans ?_ (by with_reducible assumption)))
  have hb0 : wb.cell? ⟨w.heap.size, 0, none⟩ = some (.int .i64 r.n) := by rw [hwb]; go_simp
  have hb1 : wb.cell? ⟨w.heap.size, 1, none⟩ = some (.slice A r.nx.length c) := by rw [hwb]; go_simp
  have h1 : AutAt w (.agg #[.int .i64 r.n, .slice A r.nx.length c]) r := ⟨_, rfl, hr⟩
  have C1 := ValidRoads_any _ r _ (h1.new hnb)
  obtain ⟨R, hR⟩ : ∃ R, R = IsJoined r := ⟨_, rfl⟩
  rw [← hR]
  unfold IsJoined at hR
  have HR := hid hR
  clear hR
  cases hm : roadsOk r with
  | false =>
    rw [hm] at C1
    have HE := hid (show R = (false, 1) by rw [HR.out, hm]; rfl)
    go_enter Try.func44, Try.ntmps44
    go_wp2_with fail
    rw [← hwb]
    go_wp2_with fail
    refine C1.mono ?_
    rintro e w1 ⟨rfl, hn1⟩
    go_wp2_with fail
    go_ret2
    rw [HE.out]
    exact ⟨rfl, hnb.trans hn1⟩
  | true =>
    rw [hm] at C1
    have hf := roads_facts hm
    have HF := hid hf
    have HE := hid (show R = (joinedB (firstOf r), 0) by rw [HR.out, hm]; rfl)
    have HC := hid (fun w1 (hn : New wb w1) => firstPaint_any _ r w1 (h1.new (hnb.trans hn)) hf)
    clear hf
    go_enter Try.func44, Try.ntmps44
    go_wp2_with fail
    rw [← hwb]
    go_wp2_with fail
    refine C1.mono ?_
    rintro e w1 ⟨rfl, hn1⟩
    have z0 := hn1.cell hb0
    have z1 := hn1.cell hb1
    go_wp2_with fail
    refine (HC.out _ hn1).mono ?_
    rintro e w2 ⟨pv, rfl, hn2, hat⟩
    go_wp2_with fail
    refine (hat 0 (by decide) w2 (New.refl _)).mono ?_
    rintro e w3 ⟨r3, rfl, hn3, ho3⟩
    go_wp2_with fail
    refine (isConnected_any _ _ w3 ho3.at (colour_ok HF.out 0)).mono ?_
    rintro e w4 ⟨rfl, hn4⟩
    go_wp2_with fail
    go_ret2
    rw [HE.out]
    exact ⟨rfl, (((hnb.trans hn1).trans hn2).trans hn3).trans hn4⟩

end Go.Proofs.Ytiflokfinkachaa
