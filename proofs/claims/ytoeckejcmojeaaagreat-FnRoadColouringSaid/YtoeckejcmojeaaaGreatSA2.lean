/- The roads that a law draws out of its bytes. -/
import Derived.Test.YtoeckejcmojeaaaGreatRows
import Derived.Test.YtoeckejcmojeaaaGreatCore
import Derived.Test.YtoeckejcmojeaaaGreatInfos
import Derived.Test.YtoeckejcmojeaaaGreatArrs
import Derived.Test.YtoeckejcmojeaaaGreatPlains
import Derived.Test.YtoeckejcmojeaaaGreatDrawT
import Derived.Test.YtoeckejcmojeaaaGreatMaps
import Derived.Test.YtoeckejcmojeaaaGreatSDraw
import Derived.Test.YtoeckejcmojeaaaGreatSDrawA
import Derived.Test.YtoeckejcmojeaaaGreatSDrawB
import Derived.Test.YtoeckejcmojeaaaGreatRowsC
import Derived.Test.YtoeckejcmojeaaaGreatSRoadsC
import Derived.Test.YtoeckejcmojeaaaGreatSDrawC
import Derived.WalkKit
import Derived.WalkSpells
import Derived.WalkLawsBesides
import Derived.Deep.QuietTactic
import Derived.Deep.OwnRows
import Derived.BigQuiet
import Derived.KernelRfl
import Derived.Carry
namespace Go.Proofs.YtoeckejcmojeaaaGreat
open Go.RowKit

set_option maxRecDepth 20000 in
set_option maxHeartbeats 1000000 in
theorem A2Roads_any (v : Value) (n : Nat) (w : World) (h : BytesAt w v n) :
    Calls Tryz.prog 20 #[v] w fun e w' => ∃ r a, e = .returned r ∧ New w w' ∧ OwnAut w.heap.size w'.heap.size w' r (roadsOf a) ∧ CapAut w' r (roadsOf a) ∧ autOk a = true ∧ a.n ≤ 6 := by
  obtain ⟨W0, hW0⟩ : ∃ W0, W0 = w.alloc (.cells #[.int .i64 0, .slice none 0 0] 47) := ⟨_, rfl⟩
  have hn0 : New w W0 := by rw [hW0]; exact (by repeat (first | with_reducible exact New.refl _ | with_reducible assumption | with_reducible refine New.alloc ?_ _ | with_reducible refine New.drewN ?_ _ | with_reducible refine New.drew ?_ | with_reducible refine New.trans ?_ (by with_reducible assumption)))
  have hz0 : W0.heap.size = w.heap.size + 1 := by rw [hW0]; simp only [size_alloc]
  have hR0 : Box2 W0 w.heap.size (.int .i64 0) (.slice none 0 0) := by rw [hW0]; exact ⟨by go_simp, by go_simp, by go_simp, by go_simp⟩
  have C1 := from_any v n W0 (h.new hn0)
  go_enter Tryz.func20, Tryz.ntmps20
  go_wp2_with fail
  rw [← hW0]
  clear hW0
  refine C1.mono ?_
  rintro e w1 ⟨rfl, hn1, hs1⟩
  have hR1 := hR0.new hn1
  obtain ⟨sb, hsb⟩ : ∃ sb, sb = W0.heap.size := ⟨_, rfl⟩
  rw [← hsb] at hs1 ⊢
  have HZ0 := hid hz0
  have HSB := hid hsb
  have hsb2 : w.heap.size ≤ sb := by omega
  have hz1 : w.heap.size + 1 ≤ w1.heap.size := by have := hn1.size; omega
  have hsb3 : w.heap.size < sb := by omega
  clear hz0 hsb
  obtain ⟨K, hK⟩ : ∃ K : Nat, K = 0 := ⟨_, rfl⟩
  rw [← hK] at hs1
  have C2 := hid (l05Drawn_any sb n K w1 hs1 (by omega))
  go_wp2_with fail
  refine C2.out.mono ?_
  rintro e w2 ⟨r2, a, rfl, hW2, _, ho2, hc2, ha, ha6⟩
  obtain ⟨rv2, rfl, ho3⟩ := ho2
  obtain ⟨A2, c2, rfl⟩ := ho3.form
  have hR2 := hR1.within hW2 (Or.inl (by omega))
  have hn2 : New w w2 := (hn0.trans hn1).within hW2 (by omega)
  obtain ⟨RR, hRR⟩ : ∃ RR, RR = roadsOf a := ⟨_, rfl⟩
  have HRR := hid hRR
  rw [← hRR] at ho3 hc2 ⊢
  clear hRR
  obtain ⟨q0, q1, qf0, qf1⟩ := id hR2
  obtain ⟨g0, g1, _⟩ := hR2.fill (.int .i64 RR.n) (.slice A2 RR.nx.length c2)
  have HW := hid (Within.fill w2 w.heap.size (.int .i64 RR.n) (.slice A2 RR.nx.length c2))
  have HA := hid ha
  have HO := hid ho3
  have HC := hid hc2
  clear ha ho3 hc2
  go_wp2_with fail
  refine bodyPost_ret (v := .agg #[.int .i64 RR.n, .slice A2 RR.nx.length c2]) (by simp [results, Tryz.results20, go_sem, g0, g1]) rfl ?_
  obtain ⟨rv9, e9, hc9⟩ := HC.out
  cases e9
  have hOF := HO.out.within HW.out (Or.inr hz1)
  exact ⟨_, a, rfl, hn2.within HW.out (Nat.le_refl _), by rw [← HRR.out]; exact ⟨_, rfl, hOF.widen (by omega) HW.out.2.2.2.1⟩, by rw [← HRR.out]; exact ⟨_, rfl, hc9.keep HO.out HW.out (Or.inr hz1)⟩, HA.out, ha6⟩

end Go.Proofs.YtoeckejcmojeaaaGreat
