/- The reference's test whether roads lead from each town to each one. -/
import Derived.Test.YtiflokfinkachaaRows
import Derived.Test.YtiflokfinkachaaCore
import Derived.Test.YtiflokfinkachaaInfo
import Derived.Test.YtiflokfinkachaaPlains
import Derived.Test.YtiflokfinkachaaJoins
import Derived.Test.YtiflokfinkachaaMaps
import Derived.Test.YtiflokfinkachaaCho
import Derived.Test.YtiflokfinkachaaSolid
import Derived.Test.YtiflokfinkachaaBox3
import Derived.Test.YtiflokfinkachaaQRow
import Derived.Test.YtiflokfinkachaaS00a
import Derived.Test.YtiflokfinkachaaS00b
import Derived.Test.YtiflokfinkachaaS05a
import Derived.Test.YtiflokfinkachaaSArr
import Derived.Test.YtiflokfinkachaaSChoices
import Derived.Test.YtiflokfinkachaaSAt
import Derived.Test.YtiflokfinkachaaSReached
import Derived.Test.YtiflokfinkachaaSJoined
import Derived.WalkKit
import Derived.WalkSpells
import Derived.WalkLawsBesides
import Derived.Deep.QuietTactic
import Derived.Deep.OwnRows
import Derived.BigQuiet
import Derived.KernelRfl
namespace Go.Proofs.Ytiflokfinkachaa
open Go.RowKit

/-- Roads whose rows are not longer than their capacities. -/
def CapAut (w : World) (v : Value) (r : Aut) : Prop := ∃ rv, v = .agg #[.int .i64 r.n, rv] ∧ CapRows w rv r.nx
theorem CapAut.at {w : World} {v : Value} {r : Aut} (h : CapAut w v r) : AutAt w v r := let ⟨rv, e, h⟩ := h; ⟨rv, e, h.rows⟩
theorem CapAut.new {w w' : World} {v : Value} {r : Aut} (h : CapAut w v r) (hn : New w w') : CapAut w' v r := let ⟨rv, e, h⟩ := h; ⟨rv, e, h.new hn⟩
theorem choices_small {r : Aut} (hr : RoadsFacts r) (p : Nat) (h : p < (choicesOf r).length) : (nth (choicesOf r) p).length ≤ 1000 := by
  rw [choices_len] at h
  rw [nth_choices _ _ h]
  have h1 := arr_len (nth r.nx p).length (nth r.nx p)
  have h2 : ∀ n, n ≤ 3 → arrB n ≤ 6 := by decide
  have h3 := h2 (nth r.nx p).length (by rw [hr.row p h]; exact hr.l3)
  show (arrF (nth r.nx p).length (nth r.nx p)).length ≤ 1000
  omega
/-- The reference's colouring of right roads with a number. -/
theorem refAt_any (cv : Value) (r : Aut) (N : Nat) (w : World) (hc : ListAt RowsAt w cv (choicesOf r)) (hf : RoadsFacts r) (hN : N ≤ 4611686018427387904) :
    Calls Try.prog 103 #[cv, .int .i64 N] w fun e w' => ∃ r2, e = .returned r2 ∧ New w w' ∧ OwnAut w.heap.size w'.heap.size w' r2 ⟨r.nx.length, atRows (choicesOf r) N (nth r.nx 0).length⟩ := by
  have hl := choices_len r
  have h := l05At_any cv (choicesOf r) (nth r.nx 0).length N w hc (by rw [hl]; exact hf.n1) (by rw [hl]; exact hf.n7) ⟨hf.l1, hf.l3⟩ (fun p hp => choices_pos p hp) (fun p hp i hi => choices_row hf p hp i hi) (fun p hp => choices_small hf p hp) hN
  have e : (((choicesOf r).length : Nat) : Int) = ((r.nx.length : Nat) : Int) := by rw [hl]
  rw [e] at h
  exact h
set_option maxRecDepth 20000 in
set_option maxHeartbeats 1000000 in
theorem specIsJoined_any (v : Value) (r : Aut) (w : World) (h : CapAut w v r) :
    Calls Try.prog 43 #[v] w fun e w' => e = .returned (.tuple #[.bool (IsJoined r).1, .int .i64 (IsJoined r).2]) ∧ New w w' := by
  obtain ⟨rv, rfl, hcr⟩ := h
  have hr := hcr.rows
  obtain ⟨A, c, rfl⟩ := hr.form
  obtain ⟨wb, hwb⟩ : ∃ wb, wb = w.alloc (.cells #[.int .i64 r.n, .slice A r.nx.length c] 59) := ⟨_, rfl⟩
  have hnb : New w wb := by rw [hwb]; exact (by repeat (first | with_reducible exact New.refl _ | with_reducible assumption | with_reducible refine New.alloc ?_ _ | with_reducible refine New.drewN ?_ _ | with_reducible refine New.drew ?_ | with_reducible refine New.trans ?_ (by with_reducible assumption)))
  have hp : PAut wb (.pointer (some ⟨w.heap.size, 0, none⟩)) r := by rw [hwb]; exact PAut.box hr _
  have hb1 : wb.cell? ⟨w.heap.size, 1, none⟩ = some (.slice A r.nx.length c) := by rw [hwb]; go_simp
  have C1 := l05Ok_any _ r _ hp
  obtain ⟨R, hR⟩ : ∃ R, R = IsJoined r := ⟨_, rfl⟩
  rw [← hR]
  unfold IsJoined at hR
  have HR := hid hR
  clear hR
  cases hm : roadsOk r with
  | false =>
    rw [hm] at C1
    have HE := hid (show R = (false, 1) by rw [HR.out, hm]; rfl)
    go_enter Try.func43, Try.ntmps43
    go_wp2_with fail
    rw [← hwb]
    refine C1.mono ?_
    rintro e w1 ⟨rfl, hn1⟩
    go_wp2_with fail
    go_ret2
    rw [HE.out]
    exact ⟨rfl, hnb.trans (by repeat (first | with_reducible exact New.refl _ | with_reducible assumption | with_reducible refine New.alloc ?_ _ | with_reducible refine New.drewN ?_ _ | with_reducible refine New.drew ?_ | with_reducible refine New.trans ?_ (by with_reducible assumption)))⟩
  | true =>
    rw [hm] at C1
    have hf := roads_facts hm
    have HF := hid hf
    have HE := hid (show R = (joinedB (firstOf r), 0) by rw [HR.out, hm]; rfl)
    have HC := hid (fun w1 (hn : New wb w1) => l05Choices_any w.heap.size (.slice A r.nx.length c) r.nx w1 (hn.cell hb1) (hcr.new (hnb.trans hn)) hf.n7 (fun i hi => by rw [hf.row i hi]; exact hf.l3))
    clear hf
    go_enter Try.func43, Try.ntmps43
    go_wp2_with fail
    rw [← hwb]
    refine C1.mono ?_
    rintro e w1 ⟨rfl, hn1⟩
    go_wp2_with fail
    refine (HC.out _ (by repeat (first | with_reducible exact New.refl _ | with_reducible assumption | with_reducible refine New.alloc ?_ _ | with_reducible refine New.drewN ?_ _ | with_reducible refine New.drew ?_ | with_reducible refine New.trans ?_ (by with_reducible assumption)))).mono ?_
    rintro e w2 ⟨rc, rfl, hn2, hc2⟩
    go_wp2_with fail
    refine (refAt_any _ r 0 w2 hc2 HF.out (by decide)).mono ?_
    rintro e w3 ⟨r3, rfl, hn3, ho3⟩
    obtain ⟨rv3, rfl, ho4⟩ := ho3
    obtain ⟨A3, c3, rfl⟩ := ho4.form
    have hp3 := PAut.box (a := ⟨r.nx.length, atRows (choicesOf r) 0 (nth r.nx 0).length⟩) ho4.at 40
    go_wp2_with fail
    refine (l01Joined_any _ _ _ hp3 (colour_ok HF.out 0)).mono ?_
    rintro e w4 ⟨rfl, hn4⟩
    go_wp2_with fail
    go_ret2
    rw [HE.out]
    exact ⟨rfl, (((hnb.trans (by repeat (first | with_reducible exact New.refl _ | with_reducible assumption | with_reducible refine New.alloc ?_ _ | with_reducible refine New.drewN ?_ _ | with_reducible refine New.drew ?_ | with_reducible refine New.trans ?_ (by with_reducible assumption)))).trans hn2).trans hn3).trans ((show New w3 _ from (by repeat (first | with_reducible exact New.refl _ | with_reducible assumption | with_reducible refine New.alloc ?_ _ | with_reducible refine New.drewN ?_ _ | with_reducible refine New.drew ?_ | with_reducible refine New.trans ?_ (by with_reducible assumption)))).trans hn4)⟩

end Go.Proofs.Ytiflokfinkachaa
