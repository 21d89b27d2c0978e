/- The reference's divisions with their classes numbered in order; the kernel of a word. -/
import Derived.Test.YtoeckejcmojeaaaGreatRows
import Derived.Test.YtoeckejcmojeaaaGreatCore
import Derived.Test.YtoeckejcmojeaaaGreatInfos
import Derived.Test.YtoeckejcmojeaaaGreatPlains
import Derived.Test.YtoeckejcmojeaaaGreatPers
import Derived.Test.YtoeckejcmojeaaaGreatSBase
import Derived.Test.YtoeckejcmojeaaaGreatS01b
import Derived.WalkKit
import Derived.WalkSpells
import Derived.WalkLawsBesides
import Derived.Deep.QuietTactic
import Derived.Deep.OwnRows
import Derived.BigQuiet
import Derived.KernelRfl
namespace Go.Proofs.YtoeckejcmojeaaaGreat
open Go.RowKit

set_option maxRecDepth 20000 in
set_option maxHeartbeats 1000000 in
theorem l01Tidied_any (v : Value) (xs : List Int) (w : World) (h : IntsAt w v xs) (hl : xs.length ≤ 1000) :
    Calls Tryz.prog 145 #[v] w fun e w' => ∃ r, e = .returned r ∧ New w w' ∧ OwnInts w.heap.size w'.heap.size w' r (tidyOf xs) := by
  obtain ⟨A, c, rfl, hl', hc⟩ := h
  go_enter Tryz.func145, Tryz.ntmps145
  go_wp2
  go_loopw [3, 4, 5] (fun o q i wr => ∃ k : Nat, k ≤ xs.length ∧ i = .int .i64 k ∧ q = .int .i64 ((firsts (xs.take k)).length : Nat) ∧ Grow w.heap.size 2 wr o (tidyTo xs k) ∧ New w wr) (fun _ _ i _ => xs.length - (intOf i).toNat)
  case atStart => exact ⟨0, Nat.zero_le _, rfl, rfl, Grow.empty _ _ _ (Nat.le_refl _), (by repeat (first | with_reducible exact New.refl _ | with_reducible assumption | with_reducible refine New.alloc ?_ _ | with_reducible refine New.drew ?_ | with_reducible refine New.drewN ?_ _ | with_reducible refine New.setCell ?_ (by simp <;> omega) _))⟩
  case round =>
    obtain ⟨k, hk, rfl, rfl, ho, hn⟩ := hrel
    obtain ⟨wo, rfl⟩ : ∃ wo : World, wo = wr := ⟨_, rfl⟩
    by_cases hlt : k < xs.length
    · have b1 : (k : Int) < (xs.length : Int) := by omega
      obtain ⟨bk, offk, rfl, hxk⟩ := hc k hlt
      obtain ⟨Ao, co, hof⟩ := ho.form
      rw [tidyTo_len] at hof
      subst hof
      have HC := hid hc
      have HO := hid (ho.own (by rw [tidyTo_len]; omega)).at
      have HG := hid ho
      clear hc ho
      go_wp2
      go_loopw [6, 7] (fun q i wr => ∃ (j : Nat) (z : Int), j ≤ k ∧ i = .int .i64 j ∧ q = .int .i64 z ∧ Hid (z = if hasB (xs.take j) (nth xs k) = true then placeOf (firsts (xs.take k)) (nth xs k) else -1) ∧ New wo wr) (fun _ i _ => k - (intOf i).toNat)
      case atStart => exact ⟨0, _, Nat.zero_le _, rfl, rfl, rfl, New.refl _⟩
      case round =>
        obtain ⟨j, z, hj, rfl, rfl, hzz, hn2⟩ := hrel
        by_cases hltj : j < k
        · have b3 : (j : Int) < (k : Int) := by omega
          have b4 : (j : Int) < (xs.length : Int) := by omega
          obtain ⟨b, off, e, hx⟩ := HC.out j (by omega)
          cases e
          have hnn := hn.trans hn2
          replace hx := hnn.cell hx
          replace hxk := hnn.cell hxk
          by_cases hq : nth xs j = nth xs k
          · have hq' : (nth xs j == nth xs k) = true := by simp [hq]
            obtain ⟨A', c', e', _, hco⟩ := HO.out
            have he'' := e'
            rw [tidyTo_len] at e' hco
            cases e'
            obtain ⟨b5, off5, rfl, hx5⟩ := hco j hltj
            replace hx5 := hn2.cell hx5
            have hval : nth (tidyTo xs k) j = placeOf (firsts (xs.take k)) (nth xs k) := by
              rw [nth_tidyTo _ _ _ hltj, hq]
              have := placeOf_firsts xs (nth xs k) (j + 1) (by rw [← hq]; exact nth_mem_take _ _ _ (by omega) (by omega)) (k - (j + 1)) (by omega)
              rw [show j + 1 + (k - (j + 1)) = k by omega] at this
              exact this.symm
            rw [hval] at hx5
            have hhas : hasB (xs.take (j + 1)) (nth xs k) = true := (hasB_iff _ _).2 (by rw [← hq]; exact nth_mem_take _ _ _ (by omega) (by omega))
            have HH := hid hhas
            clear hco he'' hval hq hhas
            go_wp2_with fail
            go_quiet (fail)
            go_wp2
            go_roundw
            case rel => exact ⟨j + 1, _, by omega, by go_num, rfl, by show _ = _; rw [if_pos HH.out], hn2.drewN nq⟩
            case measure => simp [intOf]; omega
          · have hq' : (nth xs j == nth xs k) = false := by simp [hq]
            have hhas : hasB (xs.take (j + 1)) (nth xs k) = hasB (xs.take j) (nth xs k) := by
              rw [take_succ_nth xs j (by omega), Bool.eq_iff_iff, hasB_iff, hasB_iff]
              simp; intro e; exact absurd e.symm hq
            have HH := hid hhas
            clear hq hhas
            go_wp2_with fail
            go_quiet (fail)
            go_wp2
            go_roundw
            case rel => exact ⟨j + 1, _, by omega, by go_num, rfl, by show _ = _; rw [HH.out]; exact hzz.out, hn2.drewN nq⟩
            case measure => simp [intOf]; omega
        · have e : j = k := by omega
          subst e
          have hfl := firsts_len (xs.take j)
          rw [List.length_take, Nat.min_eq_left hk] at hfl
          have hzr := hn2.size
          have hzo := hn.size
          have hpl := placeOf_le (firsts (xs.take j)) (nth xs j)
          have HT := hid (tidyTo_succ xs j)
          have HF := hid (firsts_take xs j hlt)
          have hgl := tidyTo_len xs j
          cases hh : hasB (xs.take j) (nth xs j) with
          | true =>
            have hm : nth xs j ∈ firsts (xs.take j) := by rw [mem_firsts]; exact (hasB_iff _ _).1 hh
            have hp0 := placeOf_nonneg _ _ hm
            have hF : firsts (xs.take (j + 1)) = firsts (xs.take j) := by rw [HF.out, addNew, if_pos ((hasB_iff _ _).2 hm)]
            have HF2 := hid hF
            have hz := hzz.out
            rw [hh, if_pos rfl] at hz
            subst hz
            clear hh hm hF hzz
            have hd : decide (placeOf (firsts (xs.take j)) (nth xs j) < 0) = false := by simp; omega
            go_wp2_with (at_builtin; refine wpList_app rfl _ _ _ rfl Tryz.underlying34 info_i64 _ (tidyTo xs j) rfl (HG.out.new hn2) rfl (by omega) (by omega) ?_; intro g cap w2 ho2 hg2)
            go_roundw
            case rel => exact ⟨j + 1, by omega, by go_num, by rw [HF2.out], by rw [HT.out, HF2.out]; rw [hgl] at ho2; exact ho2, (hn.trans hn2).app hg2 (HG.out.new hn2) (Nat.le_refl _)⟩
            case measure => simp [intOf]; omega
          | false =>
            have hm : nth xs j ∉ firsts (xs.take j) := by rw [mem_firsts, ← hasB_iff, hh]; simp
            have hF : firsts (xs.take (j + 1)) = firsts (xs.take j) ++ [nth xs j] := by rw [HF.out, addNew, if_neg (by rw [hasB_iff]; exact hm)]
            have HF2 := hid hF
            have HP := hid (placeOf_new _ _ hm)
            have hz := hzz.out
            rw [hh, if_neg (by simp)] at hz
            subst hz
            clear hh hm hF hzz
            go_wp2_with (at_builtin; refine wpList_app rfl _ _ _ rfl Tryz.underlying34 info_i64 _ (tidyTo xs j) rfl (HG.out.new hn2) rfl (by omega) (by omega) ?_; intro g cap w2 ho2 hg2)
            go_roundw
            case rel => exact ⟨j + 1, by omega, by go_num, by rw [HF2.out, List.length_append]; go_num, by rw [HT.out, HF2.out, HP.out]; rw [hgl] at ho2; exact ho2, (hn.trans hn2).app hg2 (HG.out.new hn2) (Nat.le_refl _)⟩
            case measure => simp [intOf]; omega
    · have e : k = xs.length := by omega
      subst e
      go_wp2
      go_ret
      exact ⟨_, rfl, hn, ho.own (by rw [tidyTo_len]; omega)⟩

end Go.Proofs.YtoeckejcmojeaaaGreat
