/- The laws' own marks on machines. -/
import Derived.Test.YtcjmcpfdpnakkaaRows
import Derived.Test.YtcjmcpfdpnakkaaBase
import Derived.Test.YtcjmcpfdpnakkaaMach
import Derived.Test.YtcjmcpfdpnakkaaLInts
import Derived.Test.YtcjmcpfdpnakkaaMInts
import Derived.Test.YtcjmcpfdpnakkaaMRows
import Derived.Test.YtcjmcpfdpnakkaaLMach
import Derived.WalkKit
import Derived.WalkSpells
import Derived.WalkLawsBesides
import Derived.Deep.QuietTactic
import Derived.Deep.OwnRows
import Derived.BigQuiet
import Derived.KernelRfl
namespace Go.Proofs.Ytcjmcpfdpnakkaa
open Go.RowKit

set_option maxHeartbeats 800000 in
theorem markMachine_any {B E : Nat} (v : Value) (a : Mach) (k : Int) (w : World) (h : OwnMach B E w v a) (hk0 : 0 ≤ k) (hk1 : k + a.size ≤ 1099511627776) (hEw : E ≤ w.heap.size) :
    Calls Try.prog 21 #[v, .int .i64 k] w fun e w' => e = .returned (.int .i64 (k + a.size)) ∧ OwnMach B E w' v ⟨a.n, a.o, iotaRows k a.nx, iotaRows (k + total a.nx) a.out⟩ ∧ Within B E w w' := by
  obtain ⟨r1, r2, M, rfl, hB, hE, hr1, hr2⟩ := h
  obtain ⟨A1, c1, rfl⟩ := hr1.form
  obtain ⟨A2, c2, rfl⟩ := hr2.form
  unfold Mach.size at hk1 ⊢
  go_enter Try.func21, Try.ntmps21
  go_wp2_with fail
  refine (markInt64SS_any _ a.nx _ _ (hr1.new (by repeat (first | with_reducible exact New.refl _ | with_reducible assumption | with_reducible refine New.alloc ?_ _ | with_reducible refine New.drew ?_ | with_reducible refine New.drewN ?_ _ | with_reducible refine New.setCell ?_ (by simp <;> omega) _))) hk0 (by omega)).mono ?_
  rintro e w1 ⟨rfl, ho1, hW⟩
  have hz := hW.2.2.2.1
  simp only [size_alloc] at hz
  have cb : w1.cell? ⟨w.heap.size, 3, none⟩ = some (.slice A2 a.out.length c2) := hW.cell (by go_simp) (by simp <;> omega)
  replace hW : Within B M w w1 := Within.trans (Within.of_new (by repeat (first | with_reducible exact New.refl _ | with_reducible assumption | with_reducible refine New.alloc ?_ _ | with_reducible refine New.drew ?_ | with_reducible refine New.drewN ?_ _ | with_reducible refine New.setCell ?_ (by simp <;> omega) _)) _ _) hW
  have ho2 := hr2.within hW (Or.inr (Nat.le_refl _))
  go_wp2_with fail
  refine (markInt64SS_any _ a.out _ _ ho2 (by omega) (by omega)).mono ?_
  rintro e w2 ⟨rfl, ho3, hW2⟩
  go_wp2_with fail
  go_ret
  refine ⟨ret_int (by omega), ⟨_, _, M, rfl, hB, hE, ho1.within hW2 (Or.inl (Nat.le_refl _)), ho3⟩, Within.trans (hW.widen (Nat.le_refl _) hE) (hW2.widen hB (Nat.le_refl _))⟩
set_option maxHeartbeats 800000 in
theorem heldMachine_any (v : Value) (a : Mach) (k : Int) (w : World) (h : MachAt w v ⟨a.n, a.o, iotaRows k a.nx, iotaRows (k + total a.nx) a.out⟩) (hk0 : 0 ≤ k) (hk1 : k + a.size ≤ 1099511627776) :
    Calls Try.prog 37 #[v, .int .i64 k] w fun e w' => e = .returned (.int .i64 (k + a.size)) ∧ New w w' := by
  obtain ⟨r1, r2, rfl, hr1, hr2⟩ := h
  obtain ⟨A1, c1, rfl⟩ := hr1.form
  obtain ⟨A2, c2, rfl⟩ := hr2.form
  unfold Mach.size at hk1 ⊢
  go_enter Try.func37, Try.ntmps37
  go_wp2_with fail
  refine (heldInt64SS_any _ a.nx _ _ (hr1.new (by repeat (first | with_reducible exact New.refl _ | with_reducible assumption | with_reducible refine New.alloc ?_ _ | with_reducible refine New.drew ?_ | with_reducible refine New.drewN ?_ _ | with_reducible refine New.setCell ?_ (by simp <;> omega) _))) hk0 (by omega)).mono ?_
  rintro e w1 ⟨rfl, rfl⟩
  have b1 : ¬ k + total a.nx < 0 := by omega
  go_wp2_with fail
  refine (heldInt64SS_any _ a.out _ _ (hr2.new (by repeat (first | with_reducible exact New.refl _ | with_reducible assumption | with_reducible refine New.alloc ?_ _ | with_reducible refine New.drew ?_ | with_reducible refine New.drewN ?_ _ | with_reducible refine New.setCell ?_ (by simp <;> omega) _))) (by omega) (by omega)).mono ?_
  rintro e w2 ⟨rfl, rfl⟩
  have b2 : ¬ k + total a.nx + total a.out < 0 := by omega
  go_wp2_with fail
  go_ret
  exact ⟨ret_int (by omega), (by repeat (first | with_reducible exact New.refl _ | with_reducible assumption | with_reducible refine New.alloc ?_ _ | with_reducible refine New.drew ?_ | with_reducible refine New.drewN ?_ _ | with_reducible refine New.setCell ?_ (by simp <;> omega) _))⟩

end Go.Proofs.Ytcjmcpfdpnakkaa
