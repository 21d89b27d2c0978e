/- FnExactIdentifyingWord answers true for every input, and leaves its arguments as they were. -/
import Derived.Test.YtnhjoiafadapaaaRows
import Derived.Test.YtnhjoiafadapaaaCore
import Derived.Test.YtnhjoiafadapaaaOpen
import Derived.Test.YtnhjoiafadapaaaAIdentifyingWord
import Derived.Test.YtnhjoiafadapaaaFacts
import Derived.WalkKit
import Derived.WalkSpells
import Derived.WalkLawsBesides
import Derived.Deep.QuietTactic
import Derived.Deep.OwnRows
import Derived.BigQuiet
import Derived.KernelRfl
import Derived.ProofKit
namespace Go.Proofs.Ytnhjoiafadapaaa
open Go.RowKit

open Go.ChangeShapes Go.WideShapes Go.ChangeAt
theorem own_knob : ownKnob Try.prog.godebug = none := by kernel_rfl
theorem laid_out : laidOutB Try.prog = true := by kernel_rfl
set_option maxRecDepth 100000 in
theorem FnExactIdentifyingWord_lifted (os : Os) (started : os.Started) (H : Type) (enc : TypeId × Value → H) :
    ReturnsInHanded {} Try.checked os 4 .any (Rows.fnExactIdentifyingWordSpec.pre6 enc Try.prog Try.f4 Rows.fnExactIdentifyingWordRow.domain false) (Rows.fnExactIdentifyingWordSpec.post enc Try.prog Try.f4 false true false false) := by
  refine returnsInHanded_of_change (C := Try.checked) own_knob started (by kernel_rfl) Try.func4
    (ChangeSpec.witness6 (enc := enc) (C := Try.checked) false ⟨#[], #[.agg #[.int .i64 0, .int .i64 0, .slice none 0 0, .slice none 0 0], .int .i64 0], []⟩ 8 (by kernel_rfl) (by kernel_rfl) (by kernel_rfl) (by kernel_rfl)) ?_
  intro W base args ds gs before hval0 hW _ _
  have hval : ∀ (j : Nat) t v, Try.f4.params[j]? = some t → args[j]? = some v → Value.okWide Try.prog W .any base t v := hval0
  have hW' := hW
  obtain ⟨p, q, hA0, hV, rfl, _, _⟩ := hW
  have hA : DataW.TrodAll enc Try.prog W 0 (fun _ => true) true Try.f4.params.toList args.toList ds p := hA0
  rw [Try.params4] at hA hval
  obtain ⟨v0, v1, d0, d1, p0, p1, rfl, rfl, rfl, h0, h1⟩ := trodAll_two hA
  obtain ⟨rfl, rfl⟩ := trodVars_none hV
  simp only [List.append_nil] at hW'
  have hlt : ∀ x ∈ p0 ++ p1, x.block < W.heap.size := fun x hx => by simpa using hW'.lt x hx
  have g0 := h0
  have g1 := h1
  obtain ⟨a0, k0⟩ := open_machAt Try.underlying37 (by kernel_rfl) (by kernel_rfl) rfl rfl rfl rfl Try.underlying2 Try.underlying22 Try.underlying26 Try.underlying2 (by kernel_rfl) (by kernel_rfl) (hval 0 _ v0 rfl rfl) h0
  obtain ⟨z1, rfl, rfl, rfl, _⟩ := open_int Try.underlying2 (hval 1 _ v1 rfl rfl) h1
  refine (FnExactIdentifyingWord_any _ a0 z1 W k0).mono fun e W' ⟨he, hn⟩ => ?_
  subst he
  have hb : Below W.heap.size W W' := hn
  exact ⟨_, rfl, _, _, _, [], p0 ++ [], [], hW', trodAll_mk1 (shut_bool Try.underlying4 _), trodAll_mk2 (Below.trod laid_out (by kernel_rfl) (of_decide_eq_true (by kernel_rfl)) g0 hb fun x hx => hlt x (by simp [hx])) (Below.trod laid_out (by kernel_rfl) (of_decide_eq_true (by kernel_rfl)) g1 hb fun x hx => absurd hx (by simp)), rfl, hb.frame _, fun h => by cases h⟩
theorem FnExactIdentifyingWord_closed : joinedFacts Try.prog 4 Try.f4 Rows.fnExactIdentifyingWordSpec Rows.fnExactIdentifyingWordRow = true := by
  unfold joinedFacts
  rw [may_enter, lifts_final, make_is]
  kernel_rfl
theorem FnExactIdentifyingWord_holds : Rows.FnExactIdentifyingWordSaid :=
  OpenClaim.holds_of_wide 4 Try.f4 rfl rfl rfl rfl rfl rfl rfl ⟨rfl, rfl, rfl, rfl, rfl⟩ rfl rfl rfl rfl rfl (by kernel_rfl) Try.func4 FnExactIdentifyingWord_closed
    (of_decide_eq_true (by kernel_rfl)) (by unfold Func.isWrapper; rw [if_neg (by decide +kernel)]; exact ⟨rfl, rfl⟩)
    (fun os started H enc _ => FnExactIdentifyingWord_lifted os started H enc)

end Go.Proofs.Ytnhjoiafadapaaa
