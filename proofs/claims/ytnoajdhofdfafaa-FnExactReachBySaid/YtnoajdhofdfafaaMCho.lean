/- The laws' own marks on automata with choices. -/
import Derived.Test.YtnoajdhofdfafaaRows
import Derived.Test.YtnoajdhofdfafaaBase
import Derived.Test.YtnoajdhofdfafaaAut
import Derived.Test.YtnoajdhofdfafaaCho
import Derived.Test.YtnoajdhofdfafaaLInts
import Derived.Test.YtnoajdhofdfafaaMInts
import Derived.Test.YtnoajdhofdfafaaMRows
import Derived.Test.YtnoajdhofdfafaaLCho
import Derived.WalkKit
import Derived.WalkSpells
import Derived.WalkLawsBesides
import Derived.Deep.QuietTactic
import Derived.Deep.OwnRows
import Derived.BigQuiet
import Derived.KernelRfl
namespace Go.Proofs.Ytnoajdhofdfafaa
open Go.RowKit

set_option maxHeartbeats 400000 in
theorem markInt64SSS_any {B E : Nat} (v : Value) (c : List (List (List Int))) (k : Int) (w : World) (h : OwnCube B E w v c) (hk0 : 0 ≤ k) (hk1 : k + totalCho c ≤ 1099511627776) :
    Calls Try.prog 99 #[v, .int .i64 k] w fun e w' => e = .returned (.int .i64 (k + totalCho c)) ∧ OwnCube B E w' v (iotaCube k c) ∧ Within B E w w' := by
  obtain ⟨A, cap, rfl⟩ := h.form
  have hl : c.length ≤ 1099511627776 := let ⟨_, _, _, _, _, h, _⟩ := h; h
  have HH := hid h
  clear h
  go_enter Try.func99, Try.ntmps99
  go_wp2
  go_loopw [1, 5] (fun q i wr => ∃ (j : Nat) (kk : Int), j ≤ c.length ∧ i = .int .i64 j ∧ q = .int .i64 kk ∧ Hid (kk = k + totalCho (c.take j)) ∧ Hid (OwnCube B E wr (.slice A c.length cap) (iotaCube k (c.take j) ++ c.drop j)) ∧ Hid (Within B E w wr)) (fun _ i _ => c.length - (intOf i).toNat)
  case atStart => exact ⟨0, _, Nat.zero_le _, rfl, rfl, by show _ = _; simp [totalCho], by simpa [iotaCube] using HH, Within.of_new (New.refl _) _ _⟩
  case round =>
    obtain ⟨j, kk, hj, rfl, rfl, hkk, ho, hg⟩ := hrel
    by_cases hlt : j < c.length
    · have hlen : (iotaCube k (c.take j)).length = j := by simp [iotaCube_length]; omega
      have hnth : nth (iotaCube k (c.take j) ++ c.drop j) j = nth c j := by
        simp [nth, List.getElem?_append, hlen]
      obtain ⟨-, b, off, rv, M1, M2, rfl, hx, hr, hstep⟩ := ho.out.row j (by simp [hlen]; omega)
      rw [hnth] at hr
      have b1 : (j : Int) < (c.length : Int) := by omega
      have hk2 : 0 ≤ kk := by rw [hkk.out]; omega
      have hk3 : kk + total (nth c j) ≤ 1099511627776 := by rw [hkk.out]; have := totalCho_take_le c (j + 1); have := totalCho_take_succ c j hlt; omega
      have HSTEP := hid hstep
      clear hlen hnth hstep
      go_wp2_with (go_at_call 81; refine (markInt64SS_any _ _ _ _ hr hk2 hk3).mono ?_; rintro e w1 ⟨rfl, hr1, hg1⟩)
      go_roundw
      case rel =>
        obtain ⟨h1, h2⟩ := HSTEP.out w1 _ hr1 hg1
        refine ⟨j + 1, _, by omega, by go_num, rfl, ?_, ?_, hg.out.trans h2⟩
        · show _ = _
          rw [hkk.out, totalCho_take_succ c j hlt]; omega
        · rw [hkk.out, iotaCube_step k c j hlt] at h1
          exact h1
      case measure => simp [intOf]; omega
    · have e : j = c.length := by omega
      subst e
      go_wp2
      go_ret
      refine ⟨ret_int (by rw [hkk.out, List.take_length]), ?_, hg.out⟩
      have := ho.out
      simpa using this
set_option maxHeartbeats 400000 in
theorem markChoice_any {B E : Nat} (v : Value) (a : Cho) (k : Int) (w : World) (h : OwnCho B E w v a) (hk0 : 0 ≤ k) (hk1 : k + totalCho a.nx ≤ 1099511627776) :
    Calls Try.prog 29 #[v, .int .i64 k] w fun e w' => e = .returned (.int .i64 (k + totalCho a.nx)) ∧ OwnCho B E w' v ⟨a.n, iotaCube k a.nx⟩ ∧ Within B E w w' := by
  obtain ⟨rv, rfl, hr⟩ := h
  obtain ⟨A1, c1, rfl⟩ := hr.form
  go_enter Try.func29, Try.ntmps29
  go_wp2_with fail
  refine (markInt64SSS_any _ a.nx _ _ (hr.new (by repeat (first | with_reducible exact New.refl _ | with_reducible assumption | with_reducible refine New.alloc ?_ _ | with_reducible refine New.drew ?_ | with_reducible refine New.drewN ?_ _ | with_reducible refine New.setCell ?_ (by simp <;> omega) _))) hk0 hk1).mono ?_
  rintro e w1 ⟨rfl, ho, hW⟩
  go_wp2_with fail
  go_ret
  exact ⟨rfl, ⟨_, rfl, ho⟩, Within.trans (Within.of_new (by repeat (first | with_reducible exact New.refl _ | with_reducible assumption | with_reducible refine New.alloc ?_ _ | with_reducible refine New.drew ?_ | with_reducible refine New.drewN ?_ _ | with_reducible refine New.setCell ?_ (by simp <;> omega) _)) _ _) hW⟩

end Go.Proofs.Ytnoajdhofdfafaa
