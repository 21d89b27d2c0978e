/- FnExactDistinguishingWord answers true for every input, and leaves its arguments as they were. -/
import Derived.Test.YtcjmcpfdpnakkaaRows
import Derived.Test.YtcjmcpfdpnakkaaBase
import Derived.Test.YtcjmcpfdpnakkaaAut
import Derived.Test.YtcjmcpfdpnakkaaMach
import Derived.Test.YtcjmcpfdpnakkaaOpen
import Derived.Test.YtcjmcpfdpnakkaaADistinguishingWord
import Derived.Test.YtcjmcpfdpnakkaaFacts1
import Derived.Test.YtcjmcpfdpnakkaaFacts2
import Derived.Test.YtcjmcpfdpnakkaaFacts3
import Derived.WalkKit
import Derived.WalkSpells
import Derived.WalkLawsBesides
import Derived.Deep.QuietTactic
import Derived.Deep.OwnRows
import Derived.BigQuiet
import Derived.KernelRfl
import Derived.ProofKit
namespace Go.Proofs.Ytcjmcpfdpnakkaa
open Go.RowKit

open Go.ChangeShapes Go.WideShapes Go.ChangeAt
theorem own_knob : ownKnob Try.prog.godebug = none := by kernel_rfl
theorem laid_out : laidOutB Try.prog = true := by kernel_rfl
set_option maxRecDepth 100000 in
theorem FnExactDistinguishingWord_lifted (os : Os) (started : os.Started) (H : Type) (enc : TypeId × Value → H) :
    ReturnsInHanded {} Try.checked os 6 .any (Rows.fnExactDistinguishingWordSpec.pre6 enc Try.prog Try.f6 Rows.fnExactDistinguishingWordRow.domain false) (Rows.fnExactDistinguishingWordSpec.post enc Try.prog Try.f6 false true false false) := by
  refine returnsInHanded_of_change (C := Try.checked) own_knob started (by kernel_rfl) Try.func6
    (ChangeSpec.witness6 (enc := enc) (C := Try.checked) false ⟨#[], #[.agg #[.int .i64 0, .int .i64 0, .slice none 0 0, .slice none 0 0], .int .i64 0, .int .i64 0], []⟩ 8 (by kernel_rfl) (by kernel_rfl) (by kernel_rfl) (by kernel_rfl)) ?_
  intro W base args ds gs before hval0 hW _ _
  have hval : ∀ (j : Nat) t v, Try.f6.params[j]? = some t → args[j]? = some v → Value.okWide Try.prog W .any base t v := hval0
  have hW' := hW
  obtain ⟨p, q, hA0, hV, rfl, _, _⟩ := hW
  have hA : DataW.TrodAll enc Try.prog W 0 (fun _ => true) true Try.f6.params.toList args.toList ds p := hA0
  rw [Try.params6] at hA hval
  obtain ⟨v0, v1, v2, d0, d1, d2, p0, p1, p2, rfl, rfl, rfl, h0, h1, h2⟩ := trodAll_three hA
  obtain ⟨rfl, rfl⟩ := trodVars_none hV
  simp only [List.append_nil] at hW'
  have hlt : ∀ x ∈ p0 ++ p1 ++ p2, x.block < W.heap.size := fun x hx => by simpa using hW'.lt x hx
  have g0 := h0
  have g1 := h1
  have g2 := h2
  obtain ⟨a0, k0⟩ := open_machAt Try.underlying24 (by kernel_rfl) (by kernel_rfl) rfl rfl rfl rfl Try.underlying2 Try.underlying22 Try.underlying26 Try.underlying2 (by kernel_rfl) (by kernel_rfl) (hval 0 _ v0 rfl rfl) h0
  obtain ⟨z1, rfl, rfl, rfl, _⟩ := open_int Try.underlying2 (hval 1 _ v1 rfl rfl) h1
  obtain ⟨z2, rfl, rfl, rfl, _⟩ := open_int Try.underlying2 (hval 2 _ v2 rfl rfl) h2
  refine (FnExactDistinguishingWord_any _ a0 z1 z2 W k0).mono fun e W' ⟨he, hn⟩ => ?_
  subst he
  have hb : Below W.heap.size W W' := hn
  exact ⟨_, rfl, _, _, _, [], p0 ++ [] ++ [], [], hW', trodAll_mk1 (shut_bool Try.underlying4 _), (by rw [List.append_assoc]; exact trodAll_mk3 (Below.trod laid_out (by kernel_rfl) (of_decide_eq_true (by kernel_rfl)) g0 hb fun x hx => hlt x (by simp [hx])) (Below.trod laid_out (by kernel_rfl) (of_decide_eq_true (by kernel_rfl)) g1 hb fun x hx => absurd hx (by simp)) (Below.trod laid_out (by kernel_rfl) (of_decide_eq_true (by kernel_rfl)) g2 hb fun x hx => absurd hx (by simp))), rfl, hb.frame _, fun h => by cases h⟩
theorem FnExactDistinguishingWord_closed : joinedFacts Try.prog 6 Try.f6 Rows.fnExactDistinguishingWordSpec Rows.fnExactDistinguishingWordRow = true := by
  unfold joinedFacts
  rw [may_enter, lifts_final, make_is]
  kernel_rfl
theorem FnExactDistinguishingWord_holds : Rows.FnExactDistinguishingWordSaid :=
  OpenClaim.holds_of_wide 6 Try.f6 rfl rfl rfl rfl rfl rfl rfl ⟨rfl, rfl, rfl, rfl, rfl⟩ rfl rfl rfl rfl rfl (by kernel_rfl) Try.func6 FnExactDistinguishingWord_closed
    (of_decide_eq_true (by kernel_rfl)) (by unfold Func.isWrapper; rw [if_neg (by decide +kernel)]; exact ⟨rfl, rfl⟩)
    (fun os started H enc _ => FnExactDistinguishingWord_lifted os started H enc)

end Go.Proofs.Ytcjmcpfdpnakkaa
