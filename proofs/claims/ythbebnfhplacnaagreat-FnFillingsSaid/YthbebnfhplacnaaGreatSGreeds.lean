/- Parts of the proof that lean on no program: SNear, SImage, SGreedy, SGreedy2. -/
import Derived.Test.YthbebnfhplacnaaGreatRows
import Derived.Test.YthbebnfhplacnaaGreatCore
import Derived.Test.YthbebnfhplacnaaGreatInfos
import Derived.Test.YthbebnfhplacnaaGreatPlains
import Derived.Test.YthbebnfhplacnaaGreatMaps
import Derived.Test.YthbebnfhplacnaaGreatArrs
import Derived.Test.YthbebnfhplacnaaGreatPMerg
import Derived.Test.YthbebnfhplacnaaGreatJoins
import Derived.Test.YthbebnfhplacnaaGreatPlainGreeds
import Derived.Test.YthbebnfhplacnaaGreatSBase
import Derived.Test.YthbebnfhplacnaaGreatSMergs
import Derived.Test.YthbebnfhplacnaaGreatSWalks
import Derived.WalkKit
import Derived.WalkSpells
import Derived.WalkLawsBesides
import Derived.Deep.QuietTactic
import Derived.Deep.OwnRows
import Derived.BigQuiet
import Derived.KernelRfl
namespace Go.Proofs.YthbebnfhplacnaaGreat
open Go.RowKit

section
theorem nRow_succ (nx : List (List Int)) (xs : List Int) (i : Nat) (s : Int × Int × Int) (d : Nat) : nRow nx xs i s (d + 1) = nStep nx xs i (i + 1 + d) (nRow nx xs i s d) := rfl
theorem nAll_succ (nx : List (List Int)) (xs : List Int) (i : Nat) : nAll nx xs (i + 1) = nRow nx xs i (nAll nx xs i) (xs.length - (i + 1)) := rfl
end
section
set_option maxHeartbeats 400000 in
theorem l01Image_any (p v2 v3 : Value) (a : Aut) (xs ws : List Int) (w : World) (hp : PAut w p a) (h2 : IntsAt w v2 xs) (h3 : IntsAt w v3 ws) (ha : autOk a = true) (hw : letters a ws)
    (hx : ∀ s, s ∈ xs → 0 ≤ s ∧ s < a.n) (hl : xs.length ≤ 12) :
    Calls Tryz.prog 79 #[p, v2, v3] w fun e w' => ∃ r, e = .returned r ∧ New w w' ∧ OwnInts w.heap.size w'.heap.size w' r (imgOf a.nx xs ws) := by
  obtain ⟨A2, c2, rfl, hl2, hc2⟩ := h2
  have HA := hid ha
  have HW := hid hw
  have HX := hid hx
  have HC := hid hc2
  clear ha hw hx hc2
  have hle : ∀ k, (imgL ((xs.take k).map fun s => runOf a.nx s ws)).length ≤ k := fun k => Nat.le_trans (imgL_len _) (by rw [List.length_map, List.length_take]; omega)
  have HLE := hid hle
  clear hle
  go_enter Tryz.func79, Tryz.ntmps79
  go_wp2_with fail
  go_loopw [7, 8] (fun q i wr => ∃ k : Nat, k ≤ xs.length ∧ i = .int .i64 k ∧ OwnInts w.heap.size wr.heap.size wr q (imgL ((xs.take k).map fun s => runOf a.nx s ws)) ∧ New w wr) (fun _ i _ => xs.length - (intOf i).toNat)
  case atStart => exact ⟨0, Nat.zero_le _, rfl, by have := Grow.empty w.heap.size 2 w (Nat.le_refl _); exact (this.own (by simp)), (by repeat (first | with_reducible exact New.refl _ | with_reducible assumption | with_reducible refine New.alloc ?_ _ | with_reducible refine New.drew ?_ | with_reducible refine New.drewN ?_ _ | with_reducible refine New.setCell ?_ (by simp <;> omega) _))⟩
  case round =>
    obtain ⟨k, hk, rfl, ho, hn⟩ := hrel
    have hz0 := hn.size
    by_cases hlt : k < xs.length
    · obtain ⟨b, off, rfl, hx⟩ := HC.out k hlt
      replace hx := hn.cell hx
      have hb := HX.out _ (nth_mem xs k hlt)
      have b1 : (k : Int) < (xs.length : Int) := by omega
      obtain ⟨X, hX⟩ : ∃ X, X = nth xs k := ⟨_, rfl⟩
      rw [← hX] at hx hb
      have HXX := hid hX
      have hlk := HLE.out k
      obtain ⟨Y, hY⟩ : ∃ Y, Y = imgL ((xs.take k).map fun s => runOf a.nx s ws) := ⟨_, rfl⟩
      rw [← hY] at ho hlk
      have HYY := hid hY
      obtain ⟨Aq, cq, hf⟩ := ho.form
      subst hf
      have HO := hid ho
      clear hX hY ho
      go_wp2_with (first
        | (go_at_call 70; refine (l01To_any _ _ _ _ _ _ (hp.new hn) (h3.new hn) HA.out HW.out hb).mono ?_; rintro e w1 ⟨rfl, hn1⟩)
        | (go_at_call 102; refine (l00Put_any _ Y _ w1 (HO.out.new hn1).at (by omega)).mono ?_; rintro e w2 ⟨r, rfl, hn2, ho2⟩))
      go_roundw
      case rel =>
        refine ⟨k + 1, by omega, by go_num, ?_, (hn.trans hn1).trans hn2⟩
        rw [take_succ_nth xs k hlt, List.map_append, ← HXX.out, List.map_cons, List.map_nil, imgL_snoc, ← HYY.out]
        exact ho2.widen (by have := hn1.size; omega) (Nat.le_refl _)
      case measure => simp [intOf]; omega
    · have e : k = xs.length := by omega
      have b1 : ¬ (k : Int) < (xs.length : Int) := by omega
      rw [e, List.take_length] at ho
      have HO := hid ho
      obtain ⟨A4, c4, hf⟩ := ho.form
      subst hf
      clear ho
      go_wp2_with fail
      go_ret
      exact ⟨_, rfl, hn, HO.out⟩
end
section
def lenW : Value → Nat
  | .slice _ n _ => n
  | _ => 0
end
section
end

end Go.Proofs.YthbebnfhplacnaaGreat
