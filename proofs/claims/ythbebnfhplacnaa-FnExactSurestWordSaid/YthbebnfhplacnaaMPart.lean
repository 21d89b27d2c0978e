/- The laws' own marks on Partial. -/
import Derived.Test.YthbebnfhplacnaaRows
import Derived.Test.YthbebnfhplacnaaCore
import Derived.Test.YthbebnfhplacnaaLLaws
import Derived.Test.YthbebnfhplacnaaMLaws
import Derived.Test.YthbebnfhplacnaaLPart
import Derived.WalkKit
import Derived.WalkSpells
import Derived.WalkLawsBesides
import Derived.Deep.QuietTactic
import Derived.Deep.OwnRows
import Derived.BigQuiet
import Derived.KernelRfl
namespace Go.Proofs.Ythbebnfhplacnaa
open Go.RowKit

set_option maxHeartbeats 400000 in
theorem markPartial_any {B E : Nat} (v : Value) (a : Aut) (k : Int) (w : World) (h : OwnAut B E w v a) (hk0 : 0 ≤ k) (hk1 : k + total a.nx ≤ 1099511627776) :
    Calls Try.prog 10 #[v, .int .i64 k] w fun e w' => e = .returned (.int .i64 (k + total a.nx)) ∧ OwnAut B E w' v ⟨a.n, iotaRows k a.nx⟩ ∧ Within B E w w' := by
  obtain ⟨rv, rfl, hr⟩ := h
  obtain ⟨A1, c1, rfl⟩ := hr.form
  go_enter Try.func10, Try.ntmps10
  go_wp2_with fail
  refine (markInt64SS_any _ a.nx _ _ (hr.new (by repeat (first | with_reducible exact New.refl _ | with_reducible assumption | with_reducible refine New.alloc ?_ _ | with_reducible refine New.drew ?_ | with_reducible refine New.drewN ?_ _ | with_reducible refine New.setCell ?_ (by simp <;> omega) _))) hk0 hk1).mono ?_
  rintro e w1 ⟨rfl, ho, hW⟩
  go_wp2_with fail
  go_ret
  exact ⟨rfl, ⟨_, rfl, ho⟩, Within.trans (Within.of_new (by repeat (first | with_reducible exact New.refl _ | with_reducible assumption | with_reducible refine New.alloc ?_ _ | with_reducible refine New.drew ?_ | with_reducible refine New.drewN ?_ _ | with_reducible refine New.setCell ?_ (by simp <;> omega) _)) _ _) hW⟩

end Go.Proofs.Ythbebnfhplacnaa
