/- The reference's numbers put into lists in order. -/
import Derived.Test.YtoeckejcmojeaaaRows
import Derived.Test.YtoeckejcmojeaaaCore
import Derived.Test.YtoeckejcmojeaaaInfos
import Derived.Test.YtoeckejcmojeaaaPlains
import Derived.Test.YtoeckejcmojeaaaJoins
import Derived.WalkKit
import Derived.WalkSpells
import Derived.WalkLawsBesides
import Derived.Deep.QuietTactic
import Derived.Deep.OwnRows
import Derived.BigQuiet
import Derived.KernelRfl
namespace Go.Proofs.Ytoeckejcmojeaaa
open Go.RowKit

set_option maxRecDepth 20000 in
set_option maxHeartbeats 4000000 in
theorem l00Put_any (v : Value) (xs : List Int) (n : Int) (w : World) (h : IntsAt w v xs) (hxl : xs.length ≤ 1000000) :
    Calls Try.prog 107 #[v, .int .i64 n] w fun e w' => ∃ r, e = .returned r ∧ New w w' ∧ OwnInts w.heap.size w'.heap.size w' r (putI xs n) := by
  obtain ⟨A, c, rfl, hl, hc⟩ := h
  have HC := hid hc
  have HLE := hid (fun k hk => pTo_len n xs k hk)
  clear hc
  have hG0 : Grow w.heap.size 2 (w.alloc (.cells #[] 2)) (.slice (some ⟨w.heap.size, 0, none⟩) 0 0) (pTo n xs 0).1 := Grow.empty _ _ _ (Nat.le_refl _)
  have hn0 : New w (w.alloc (.cells #[] 2)) := (by repeat (first | with_reducible exact New.refl _ | with_reducible assumption | with_reducible refine New.alloc ?_ _ | with_reducible refine New.drewN ?_ _ | with_reducible refine New.drew ?_ | with_reducible refine New.trans ?_ (by with_reducible assumption)))
  go_enter Try.func107, Try.ntmps107
  go_wp2_with fail
  generalize (w.alloc (.cells #[] 2)) = w0 at hG0 hn0 ⊢
  go_loopw [5, 6, 7] (fun ov dv i wr => ∃ k : Nat, k ≤ xs.length ∧ i = .int .i64 k ∧ dv = .bool (pTo n xs k).2 ∧ New w wr ∧ Grow w.heap.size 2 wr ov (pTo n xs k).1) (fun _ _ i _ => xs.length - (intOf i).toNat)
  case atStart => exact ⟨0, Nat.zero_le _, rfl, rfl, hn0, hG0⟩
  case round =>
    obtain ⟨k, hk, rfl, rfl, hn, hG⟩ := hrel
    clear hn0 hG0
    obtain ⟨wo, rfl⟩ : ∃ wo : World, wo = wr := ⟨_, rfl⟩
    have hTl := HLE.out k hk
    obtain ⟨T, hT⟩ : ∃ T, T = pTo n xs k := ⟨_, rfl⟩
    rw [← hT] at hG hTl ⊢
    obtain ⟨D, d, hDf⟩ := hG.form
    subst hDf
    have hzo := hn.size
    by_cases hlt : k < xs.length
    · have b1 : (k : Int) < (xs.length : Int) := by omega
      obtain ⟨ab, ao, rfl, hx⟩ := HC.out k hlt
      obtain ⟨Y, hY⟩ : ∃ Y, Y = nth xs k := ⟨_, rfl⟩
      rw [← hY] at hx
      have HXW := hid hx
      replace hx := hn.cell hx
      have HS := hid (show pTo n xs (k + 1) = pStep n T Y by rw [pTo_succ n xs k hlt, ← hT, ← hY])
      obtain ⟨TL, TB⟩ := T
      simp only at hG hTl ⊢
      clear hT hY
      have hTlt : TL.length < 1099511627776 := by omega
      have hcase : (TB = true ∨ (TB = false ∧ Y < n)) ∨ (TB = false ∧ Y = n) ∨ (TB = false ∧ n < Y) := by
        cases TB with
        | true => exact Or.inl (Or.inl rfl)
        | false =>
          rcases Int.lt_trichotomy Y n with q | q | q
          · exact Or.inl (Or.inr ⟨rfl, q⟩)
          · exact Or.inr (Or.inl ⟨rfl, q⟩)
          · exact Or.inr (Or.inr ⟨rfl, q⟩)
      have hGh := hid hG
      rcases hcase with (rfl | ⟨rfl, q⟩) | ⟨rfl, q⟩ | ⟨rfl, q⟩
      · have HS2 := hid (show pTo n xs (k + 1) = (TL ++ [Y], true) by rw [HS.out]; simp [pStep])
        go_wp2_with (at_builtin; refine wpList_app (w1 := wo) rfl _ _ _ rfl Try.underlying42 info_i64 (.slice D TL.length d) TL rfl hGh.out rfl hTlt hzo ?_; intro g cap w1 ho1 hg1)
        refine ⟨⟨k + 1, by omega, by go_num, by rw [HS2.out], New.app hn hg1 hGh.out (Nat.le_refl _), by rw [HS2.out]; exact ho1⟩, ?_⟩
        simp [intOf]; omega
      · have b2 : ¬ n ≤ Y := by omega
        have HS2 := hid (show pTo n xs (k + 1) = (TL ++ [Y], false) by rw [HS.out]; simp [pStep, b2])
        go_wp2_with (at_builtin; refine wpList_app (w1 := wo) rfl _ _ _ rfl Try.underlying42 info_i64 (.slice D TL.length d) TL rfl hGh.out rfl hTlt hzo ?_; intro g cap w1 ho1 hg1)
        refine ⟨⟨k + 1, by omega, by go_num, by rw [HS2.out], New.app hn hg1 hGh.out (Nat.le_refl _), by rw [HS2.out]; exact ho1⟩, ?_⟩
        simp [intOf]; omega
      · have b2 : n ≤ Y := by omega
        have b4 : ¬ n < Y := by omega
        have HS2 := hid (show pTo n xs (k + 1) = (TL ++ [Y], true) by rw [HS.out]; simp [pStep, b2, b4])
        clear q
        go_wp2_with (at_builtin; refine wpList_app (w1 := wo) rfl _ _ _ rfl Try.underlying42 info_i64 (.slice D TL.length d) TL rfl hGh.out rfl hTlt hzo ?_; intro g cap w1 ho1 hg1)
        refine ⟨⟨k + 1, by omega, by go_num, by rw [HS2.out], New.app hn hg1 hGh.out (Nat.le_refl _), by rw [HS2.out]; exact ho1⟩, ?_⟩
        simp [intOf]; omega
      · have b2 : n ≤ Y := by omega
        have HS2 := hid (show pTo n xs (k + 1) = (TL ++ [n] ++ [Y], true) by rw [HS.out]; simp [pStep, b2, q])
        have hTlt2 : (TL ++ [n]).length < 1099511627776 := by simp; omega
        have HL1 := hid (show (TL ++ [n]).length = TL.length + 1 by simp)
        go_wp2_with (first
          | (at_builtin; refine wpList_app (w1 := wo) rfl _ _ _ rfl Try.underlying42 info_i64 (.slice D TL.length d) TL rfl hGh.out rfl hTlt hzo ?_; intro g cap w1 ho1 hg1; have hn1 : New w w1 := New.app hn hg1 hGh.out (Nat.le_refl _); have hz1 := hn1.size; have hx1 : w1.cell? ⟨ab, ao + k, none⟩ = some (.int .i64 Y) := hn1.cell HXW.out)
          | (at_builtin; refine wpList_app (w1 := w1) rfl _ _ _ rfl Try.underlying42 info_i64 (.slice (some ⟨g, 0, none⟩) (TL.length + 1) cap) (TL ++ [n]) rfl ho1 rfl hTlt2 hz1 ?_; intro g2 cap2 w2 ho2 hg2))
        have hn1 : New w w1 := New.app hn hg1 hGh.out (Nat.le_refl _)
        refine ⟨⟨k + 1, by omega, by go_num, by rw [HS2.out], New.app hn1 hg2 ho1 (Nat.le_refl _), by rw [HS2.out]; simpa [Grow] using ho2⟩, ?_⟩
        simp [intOf]; omega
    · have e : k = xs.length := by omega
      subst e
      have b1 : ¬ (xs.length : Int) < (xs.length : Int) := by omega
      have HT := hid (show putI xs n = if T.2 = true then T.1 else T.1 ++ [n] by rw [hT]; rfl)
      obtain ⟨TL, TB⟩ := T
      simp only at hG hTl ⊢
      clear hT
      have hTlt : TL.length < 1099511627776 := by omega
      have hGh := hid hG
      cases TB with
      | true =>
        have HE := hid (show putI xs n = TL by rw [HT.out, if_pos rfl])
        go_wp2_with fail
        go_ret
        rw [HE.out]
        exact ⟨_, rfl, hn, hGh.out.own (by omega)⟩
      | false =>
        have HE := hid (show putI xs n = TL ++ [n] by rw [HT.out, if_neg (by simp)])
        go_wp2_with (at_builtin; refine wpList_app (w1 := wo) rfl _ _ _ rfl Try.underlying42 info_i64 (.slice D TL.length d) TL rfl hGh.out rfl hTlt hzo ?_; intro g cap w1 ho1 hg1)
        go_ret
        rw [HE.out]
        have ho2 : Grow w.heap.size 2 w1 (.slice (some ⟨g, 0, none⟩) (TL.length + 1) cap) (TL ++ [n]) := by simpa [Grow] using ho1
        exact ⟨_, rfl, New.app hn hg1 hGh.out (Nat.le_refl _), ho2.own (by simp; omega)⟩

end Go.Proofs.Ytoeckejcmojeaaa
