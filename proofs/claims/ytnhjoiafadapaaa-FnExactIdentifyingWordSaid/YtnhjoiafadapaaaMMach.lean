/- The laws' own marks on machines. -/
import Derived.Test.YtnhjoiafadapaaaRows
import Derived.Test.YtnhjoiafadapaaaCore
import Derived.Test.YtnhjoiafadapaaaLLaws
import Derived.Test.YtnhjoiafadapaaaMLaws
import Derived.Test.YtnhjoiafadapaaaLMach
import Derived.WalkKit
import Derived.WalkSpells
import Derived.WalkLawsBesides
import Derived.Deep.QuietTactic
import Derived.Deep.OwnRows
import Derived.BigQuiet
import Derived.KernelRfl
namespace Go.Proofs.Ytnhjoiafadapaaa
open Go.RowKit

set_option maxHeartbeats 800000 in
theorem markMachine_any {B E : Nat} (v : Value) (a : Mach) (k : Int) (w : World) (h : OwnMach B E w v a) (hk0 : 0 ≤ k) (hk1 : k + a.size ≤ 1099511627776) (hEw : E ≤ w.heap.size) :
    Calls Try.prog 22 #[v, .int .i64 k] w fun e w' => e = .returned (.int .i64 (k + a.size)) ∧ OwnMach B E w' v ⟨a.n, a.o, iotaRows k a.nx, iotaRows (k + total a.nx) a.out⟩ ∧ Within B E w w' := by
  obtain ⟨r1, r2, rfl, hr1, hr2, hap⟩ := h
  obtain ⟨A1, c1, rfl⟩ := hr1.form
  obtain ⟨A2, c2, rfl⟩ := hr2.form
  have HAP := hid hap
  have hl1 := hr1.foot_lt
  have hl2 := hr2.foot_lt
  have HL1 := hid hl1
  have HL2 := hid hl2
  have HR1 := hid hr1
  have HR2 := hid hr2
  unfold Mach.size at hk1 ⊢
  clear hap hl1 hl2
  go_enter Try.func22, Try.ntmps22
  go_wp2_with fail
  have hnA : New w (w.alloc (.cells #[.int .i64 a.n, .int .i64 a.o, .slice A1 a.nx.length c1, .slice A2 a.out.length c2] 40)) := (by repeat (first | with_reducible exact New.refl _ | with_reducible assumption | with_reducible refine New.alloc ?_ _ | with_reducible refine New.drew ?_ | with_reducible refine New.drewN ?_ _ | with_reducible refine New.setCell ?_ (by simp <;> omega) _))
  refine (markInt64SSF_any _ a.nx _ _ (hr1.new (by repeat (first | with_reducible exact New.refl _ | with_reducible assumption | with_reducible refine New.alloc ?_ _ | with_reducible refine New.drew ?_ | with_reducible refine New.drewN ?_ _ | with_reducible refine New.setCell ?_ (by simp <;> omega) _))) hk0 (by omega)).mono ?_
  rintro e w1 ⟨rfl, ho1, hW, hF⟩
  have hz := hW.2.2.2.1
  simp only [size_alloc] at hz
  have cb : w1.cell? ⟨w.heap.size, 3, none⟩ = some (.slice A2 a.out.length c2) := hW.cell (by go_simp) (by simp <;> omega)
  -- what has not turned, from the start on
  have hS : ∀ q, q < w.heap.size → ¬ RowFoot w (.slice A1 a.nx.length c1) q → w1.heap[q]? = w.heap[q]? := fun q hq hnf => by
    rw [hF q (by rw [size_alloc]; omega) (fun hf => hnf (hf.back HR1.out fun b hb hlt => hnA.block b hlt)), hnA.block q hq]
  replace hW : Within B E w w1 := Within.trans (Within.of_new (by repeat (first | with_reducible exact New.refl _ | with_reducible assumption | with_reducible refine New.alloc ?_ _ | with_reducible refine New.drew ?_ | with_reducible refine New.drewN ?_ _ | with_reducible refine New.setCell ?_ (by simp <;> omega) _)) _ _) hW
  have ho2 : OwnRows B E w1 (.slice A2 a.out.length c2) a.out := HR2.out.still fun q hq hlt => hS q hlt (fun hf => HAP.out q (Or.inr hf) hq)
  go_wp2_with fail
  refine (markInt64SSF_any _ a.out _ _ ho2 (by omega) (by omega)).mono ?_
  rintro e w2 ⟨rfl, ho3, hW2, hF2⟩
  go_wp2_with fail
  go_ret
  -- the frames stand throughout
  have fr1 : ∀ b, (Value.slice A1 a.nx.length c1).ownBlock = some b → b < w.heap.size → w1.heap[b]? = w.heap[b]? := fun b hb hlt => hS b hlt (fun hf => by
    obtain ⟨A', c', rv, e, _, _, hc, _⟩ := HR1.out
    cases e
    obtain ⟨b2, off2, n2, c2', i2, r2, e2, hi2, hx2, hb2⟩ := hf
    cases e2
    obtain ⟨⟨b3, off3, e3, hx3, hb3⟩, _⟩ := hc i2 hi2
    cases e3
    rw [hx2] at hx3
    cases hx3
    simp [Value.ownBlock] at hb
    subst hb
    exact hb3 hb2)
  have fr2 : ∀ b, (Value.slice A2 a.out.length c2).ownBlock = some b → b < w.heap.size → w1.heap[b]? = w.heap[b]? := fun b hb hlt => hS b hlt (fun hf => HAP.out b (Or.inr hf) (Or.inl hb))
  have f2b : ∀ q, Foot w1 (.slice A2 a.out.length c2) q → Foot w (.slice A2 a.out.length c2) q := fun q hq => hq.back HR2.out fr2
  have f1b : ∀ q, Foot w1 (.slice A1 a.nx.length c1) q → Foot w (.slice A1 a.nx.length c1) q := fun q hq => hq.back HR1.out fr1
  have hs1 : w.heap.size ≤ w1.heap.size := hW.2.2.2.1
  have k1 : OwnRows B E w2 (.slice A1 a.nx.length c1) (iotaRows k a.nx) := ho1.still fun q hq hlt => hF2 q hlt (fun hf => HAP.out q (f1b q hq) (f2b q (Or.inr hf)))
  have g1 : ∀ q, Foot w2 (.slice A1 a.nx.length c1) q → Foot w (.slice A1 a.nx.length c1) q := fun q hq => f1b q (hq.back ho1 fun b hb hlt => hF2 b hlt (fun hf => HAP.out b (f1b b (Or.inl hb)) (f2b b (Or.inr hf))))
  have g2 : ∀ q, Foot w2 (.slice A2 a.out.length c2) q → Foot w (.slice A2 a.out.length c2) q := fun q hq => f2b q (hq.back ho2 fun b hb hlt => hF2 b hlt (fun hf => by
    obtain ⟨A', c', rv, e, _, _, hc, _⟩ := ho2
    cases e
    obtain ⟨b2, off2, n2, c2', i2, r2, e2, hi2, hx2, hb2⟩ := hf
    cases e2
    obtain ⟨⟨b3, off3, e3, hx3, hb3⟩, _⟩ := hc i2 hi2
    cases e3
    rw [hx2] at hx3
    cases hx3
    simp [Value.ownBlock] at hb
    subst hb
    exact hb3 hb2))
  have e1 := iotaRows_length k a.nx
  have e2 := iotaRows_length (k + total a.nx) a.out
  refine ⟨ret_int (by omega), ⟨.slice A1 a.nx.length c1, .slice A2 a.out.length c2, rfl, k1, ho3, fun q q1 q2 => HAP.out q (g1 q q1) (g2 q q2)⟩, hW.trans hW2⟩

end Go.Proofs.Ytnhjoiafadapaaa
