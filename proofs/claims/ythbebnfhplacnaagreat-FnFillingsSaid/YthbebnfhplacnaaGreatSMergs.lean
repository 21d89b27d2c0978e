/- Parts of the proof that lean on no program: S01b, SMerge, STable, S01g, SPut0. -/
import Derived.Test.YthbebnfhplacnaaGreatRows
import Derived.Test.YthbebnfhplacnaaGreatCore
import Derived.Test.YthbebnfhplacnaaGreatPlains
import Derived.Test.YthbebnfhplacnaaGreatSBase
import Derived.Test.YthbebnfhplacnaaGreatInfos
import Derived.Test.YthbebnfhplacnaaGreatMaps
import Derived.Test.YthbebnfhplacnaaGreatSWalks
import Derived.Test.YthbebnfhplacnaaGreatArrs
import Derived.Test.YthbebnfhplacnaaGreatPMerg
import Derived.Test.YthbebnfhplacnaaGreatJoins
import Derived.WalkKit
import Derived.WalkSpells
import Derived.WalkLawsBesides
import Derived.Deep.QuietTactic
import Derived.Deep.OwnRows
import Derived.BigQuiet
import Derived.KernelRfl
import Derived.Carry
namespace Go.Proofs.YthbebnfhplacnaaGreat
open Go.RowKit

section
set_option maxHeartbeats 400000 in
theorem l01To_any (p v : Value) (a : Aut) (s : Int) (ws : List Int) (w : World) (hp : PAut w p a) (h : IntsAt w v ws) (ha : autOk a = true) (hw : letters a ws) (hs : 0 ≤ s ∧ s < a.n) :
    Calls Tryz.prog 70 #[p, .int .i64 s, v] w fun e w' => e = .returned (.int .i64 (runOf a.nx s ws)) ∧ New w w' := by
  obtain ⟨pb, rv, rfl, hp0, hp1, hpr⟩ := hp
  obtain ⟨A2, c2, rfl, hl2, hc2⟩ := hpr
  obtain ⟨A, c, rfl, hl, hc⟩ := h
  have HA := hid ha
  have HW := hid hw
  have HS := hid hs
  clear ha hw hs
  go_enter Tryz.func70, Tryz.ntmps70
  go_wp2
  go_loopw [1, 7] (fun q i wr => ∃ (k : Nat) (z : Int), k ≤ ws.length ∧ i = .int .i64 k ∧ q = .int .i64 z ∧ Hid (z = runOf a.nx s (ws.take k)) ∧ New w wr) (fun _ i _ => ws.length - (intOf i).toNat)
  case atStart => exact ⟨0, _, Nat.zero_le _, rfl, rfl, rfl, New.refl _⟩
  case round =>
    obtain ⟨k, z, hk, rfl, rfl, he, hn⟩ := hrel
    by_cases hlt : k < ws.length
    · obtain ⟨b, off, rfl, hx⟩ := hc k hlt
      have b1 : (k : Int) < (ws.length : Int) := by omega
      have hz : 0 ≤ z ∧ z < a.n := by rw [he.out]; exact runOf_in HA.out ws HW.out s HS.out k (by omega)
      have hL := HW.out k hlt
      obtain ⟨b2, off2, rv, rfl, hx2, hr⟩ := hc2 (nth ws k).toNat (by omega)
      obtain ⟨h1, h2⟩ := autOk_row HA.out (nth ws k).toNat (by omega)
      obtain ⟨A3, c3, rfl, hl3, hc3⟩ := hr
      obtain ⟨b3, off3, rfl, hx3⟩ := hc3 z.toNat (by omega)
      obtain ⟨hz1, hz2⟩ := hz
      obtain ⟨hL1, hL2⟩ := hL
      have b2 : z < ((nth a.nx (nth ws k).toNat).length : Int) := by omega
      replace hx := hn.cell hx
      replace hx2 := hn.cell hx2
      replace hx3 := hn.cell hx3
      replace hp0 := hn.cell hp0
      replace hp1 := hn.cell hp1
      clear hc hc2 hc3 h1 h2
      go_wp2_with fail
      go_quiet (fail)
      go_wp2
      go_roundw
      case rel => exact ⟨k + 1, _, by omega, by go_num, rfl, by show _ = _; rw [runOf_take _ _ _ _ hlt, ← he.out]; rfl, hn.drewN nq⟩
      case measure => simp [intOf]; omega
    · have e : k = ws.length := by omega
      subst e
      go_wp2
      go_ret
      exact ⟨ret_int (by rw [he.out, List.take_length]), hn⟩

end
section
theorem pair_lt (s t n : Int) (h1 : 0 ≤ s ∧ s < n) (h2 : 0 ≤ t ∧ t < n) : pairOf s t < 2 ^ n.toNat :=
  Nat.or_lt_two_pow (Nat.pow_lt_pow_right (by decide) (by omega)) (Nat.pow_lt_pow_right (by decide) (by omega))
theorem pair_w64 (s t : Nat) (hs : s < 10) (ht : t < 10) : bits .or .i64 (Go.RowKit.wrap64 ((2 : Int) ^ s)) (Go.RowKit.wrap64 ((2 : Int) ^ t)) = ((2 ^ s ||| 2 ^ t : Nat) : Int) := by
  rw [two_pow_wrap s (by omega), or_w64 _ _ (pow10 s hs) ht]
end
section
end
section
set_option maxHeartbeats 400000 in
theorem l01All_any (n : Int) (w : World) (h0 : 0 ≤ n) (h1 : n ≤ 1048576) :
    Calls Tryz.prog 80 #[.int .i64 n] w fun e w' => ∃ r, e = .returned r ∧ New w w' ∧ OwnInts w.heap.size w'.heap.size w' r (iota 0 n.toNat) := by
  go_enter Tryz.func80, Tryz.ntmps80
  go_wp2
  go_loopw [3, 4] (fun o i wr => ∃ k : Nat, (k : Int) ≤ n ∧ i = .int .i64 k ∧ Grow w.heap.size 2 wr o (iota 0 k) ∧ New w wr) (fun _ i _ => n.toNat - (intOf i).toNat)
  case atStart => exact ⟨0, by omega, rfl, Grow.empty _ _ _ (Nat.le_refl _), (by repeat (first | with_reducible exact New.refl _ | with_reducible assumption | with_reducible refine New.alloc ?_ _ | with_reducible refine New.drew ?_ | with_reducible refine New.drewN ?_ _ | with_reducible refine New.setCell ?_ (by simp <;> omega) _))⟩
  case round =>
    obtain ⟨k, hk, rfl, ho, hn⟩ := hrel
    have hzr := hn.size
    have hl := iota_length 0 k
    by_cases hlt : (k : Int) < n
    · go_wp2_with (at_builtin; refine wpList_app rfl _ _ _ rfl Tryz.underlying34 info_i64 _ (iota 0 k) rfl ho rfl (by omega) (by omega) ?_; intro g cap w2 ho2 hg2)
      go_roundw
      case rel => exact ⟨k + 1, by omega, by go_num, by rw [iota_snoc, Int.zero_add]; rw [hl] at ho2; exact ho2, hn.app hg2 ho (Nat.le_refl _)⟩
      case measure => simp [intOf]; omega
    · have e : (k : Int) = n := by omega
      subst e
      go_wp2
      go_ret
      exact ⟨_, rfl, hn, by simpa using ho.own (by omega)⟩
end
section
set_option maxRecDepth 20000 in
set_option maxHeartbeats 4000000 in
theorem l00Put_any (v : Value) (xs : List Int) (n : Int) (w : World) (h : IntsAt w v xs) (hxl : xs.length ≤ 1000000) :
    Calls Tryz.prog 102 #[v, .int .i64 n] w fun e w' => ∃ r, e = .returned r ∧ New w w' ∧ OwnInts w.heap.size w'.heap.size w' r (putI xs n) := by
  obtain ⟨A, c, rfl, hl, hc⟩ := h
  have HC := hid hc
  have HLE := hid (fun k hk => pTo_len n xs k hk)
  clear hc
  have hG0 : Grow w.heap.size 2 (w.alloc (.cells #[] 2)) (.slice (some ⟨w.heap.size, 0, none⟩) 0 0) (pTo n xs 0).1 := Grow.empty _ _ _ (Nat.le_refl _)
  have hn0 : New w (w.alloc (.cells #[] 2)) := (by repeat (first | with_reducible exact New.refl _ | with_reducible assumption | with_reducible refine New.alloc ?_ _ | with_reducible refine New.drewN ?_ _ | with_reducible refine New.drew ?_ | with_reducible refine New.trans ?_ (by with_reducible assumption)))
  go_enter Tryz.func102, Tryz.ntmps102
  go_wp2_with fail
  generalize (w.alloc (.cells #[] 2)) = w0 at hG0 hn0 ⊢
  go_loopw [5, 6, 7] (fun ov dv i wr => ∃ k : Nat, k ≤ xs.length ∧ i = .int .i64 k ∧ dv = .bool (pTo n xs k).2 ∧ New w wr ∧ Grow w.heap.size 2 wr ov (pTo n xs k).1) (fun _ _ i _ => xs.length - (intOf i).toNat)
  case atStart => exact ⟨0, Nat.zero_le _, rfl, rfl, hn0, hG0⟩
  case round =>
    obtain ⟨k, hk, rfl, rfl, hn, hG⟩ := hrel
    clear hn0 hG0
    obtain ⟨wo, rfl⟩ : ∃ wo : World, wo = wr := ⟨_, rfl⟩
    have hTl := HLE.out k hk
    obtain ⟨T, hT⟩ : ∃ T, T = pTo n xs k := ⟨_, rfl⟩
    rw [← hT] at hG hTl ⊢
    obtain ⟨D, d, hDf⟩ := hG.form
    subst hDf
    have hzo := hn.size
    by_cases hlt : k < xs.length
    · have b1 : (k : Int) < (xs.length : Int) := by omega
      obtain ⟨ab, ao, rfl, hx⟩ := HC.out k hlt
      obtain ⟨Y, hY⟩ : ∃ Y, Y = nth xs k := ⟨_, rfl⟩
      rw [← hY] at hx
      have HXW := hid hx
      replace hx := hn.cell hx
      have HS := hid (show pTo n xs (k + 1) = pStep n T Y by rw [pTo_succ n xs k hlt, ← hT, ← hY])
      obtain ⟨TL, TB⟩ := T
      simp only at hG hTl ⊢
      clear hT hY
      have hTlt : TL.length < 1099511627776 := by omega
      have hcase : (TB = true ∨ (TB = false ∧ Y < n)) ∨ (TB = false ∧ Y = n) ∨ (TB = false ∧ n < Y) := by
        cases TB with
        | true => exact Or.inl (Or.inl rfl)
        | false =>
          rcases Int.lt_trichotomy Y n with q | q | q
          · exact Or.inl (Or.inr ⟨rfl, q⟩)
          · exact Or.inr (Or.inl ⟨rfl, q⟩)
          · exact Or.inr (Or.inr ⟨rfl, q⟩)
      have hGh := hid hG
      rcases hcase with (rfl | ⟨rfl, q⟩) | ⟨rfl, q⟩ | ⟨rfl, q⟩
      · have HS2 := hid (show pTo n xs (k + 1) = (TL ++ [Y], true) by rw [HS.out]; simp [pStep])
        go_wp2_with (at_builtin; refine wpList_app (w1 := wo) rfl _ _ _ rfl Tryz.underlying34 info_i64 (.slice D TL.length d) TL rfl hGh.out rfl hTlt hzo ?_; intro g cap w1 ho1 hg1)
        refine ⟨⟨k + 1, by omega, by go_num, by rw [HS2.out], New.app hn hg1 hGh.out (Nat.le_refl _), by rw [HS2.out]; exact ho1⟩, ?_⟩
        simp [intOf]; omega
      · have b2 : ¬ n ≤ Y := by omega
        have HS2 := hid (show pTo n xs (k + 1) = (TL ++ [Y], false) by rw [HS.out]; simp [pStep, b2])
        go_wp2_with (at_builtin; refine wpList_app (w1 := wo) rfl _ _ _ rfl Tryz.underlying34 info_i64 (.slice D TL.length d) TL rfl hGh.out rfl hTlt hzo ?_; intro g cap w1 ho1 hg1)
        refine ⟨⟨k + 1, by omega, by go_num, by rw [HS2.out], New.app hn hg1 hGh.out (Nat.le_refl _), by rw [HS2.out]; exact ho1⟩, ?_⟩
        simp [intOf]; omega
      · have b2 : n ≤ Y := by omega
        have b4 : ¬ n < Y := by omega
        have HS2 := hid (show pTo n xs (k + 1) = (TL ++ [Y], true) by rw [HS.out]; simp [pStep, b2, b4])
        clear q
        go_wp2_with (at_builtin; refine wpList_app (w1 := wo) rfl _ _ _ rfl Tryz.underlying34 info_i64 (.slice D TL.length d) TL rfl hGh.out rfl hTlt hzo ?_; intro g cap w1 ho1 hg1)
        refine ⟨⟨k + 1, by omega, by go_num, by rw [HS2.out], New.app hn hg1 hGh.out (Nat.le_refl _), by rw [HS2.out]; exact ho1⟩, ?_⟩
        simp [intOf]; omega
      · have b2 : n ≤ Y := by omega
        have HS2 := hid (show pTo n xs (k + 1) = (TL ++ [n] ++ [Y], true) by rw [HS.out]; simp [pStep, b2, q])
        have hTlt2 : (TL ++ [n]).length < 1099511627776 := by simp; omega
        have HL1 := hid (show (TL ++ [n]).length = TL.length + 1 by simp)
        go_wp2_with (first
          | (at_builtin; refine wpList_app (w1 := wo) rfl _ _ _ rfl Tryz.underlying34 info_i64 (.slice D TL.length d) TL rfl hGh.out rfl hTlt hzo ?_; intro g cap w1 ho1 hg1; have hn1 : New w w1 := New.app hn hg1 hGh.out (Nat.le_refl _); have hz1 := hn1.size; have hx1 : w1.cell? ⟨ab, ao + k, none⟩ = some (.int .i64 Y) := hn1.cell HXW.out)
          | (at_builtin; refine wpList_app (w1 := w1) rfl _ _ _ rfl Tryz.underlying34 info_i64 (.slice (some ⟨g, 0, none⟩) (TL.length + 1) cap) (TL ++ [n]) rfl ho1 rfl hTlt2 hz1 ?_; intro g2 cap2 w2 ho2 hg2))
        have hn1 : New w w1 := New.app hn hg1 hGh.out (Nat.le_refl _)
        refine ⟨⟨k + 1, by omega, by go_num, by rw [HS2.out], New.app hn1 hg2 ho1 (Nat.le_refl _), by rw [HS2.out]; simpa [Grow] using ho2⟩, ?_⟩
        simp [intOf]; omega
    · have e : k = xs.length := by omega
      subst e
      have b1 : ¬ (xs.length : Int) < (xs.length : Int) := by omega
      have HT := hid (show putI xs n = if T.2 = true then T.1 else T.1 ++ [n] by rw [hT]; rfl)
      obtain ⟨TL, TB⟩ := T
      simp only at hG hTl ⊢
      clear hT
      have hTlt : TL.length < 1099511627776 := by omega
      have hGh := hid hG
      cases TB with
      | true =>
        have HE := hid (show putI xs n = TL by rw [HT.out, if_pos rfl])
        go_wp2_with fail
        go_ret
        rw [HE.out]
        exact ⟨_, rfl, hn, hGh.out.own (by omega)⟩
      | false =>
        have HE := hid (show putI xs n = TL ++ [n] by rw [HT.out, if_neg (by simp)])
        go_wp2_with (at_builtin; refine wpList_app (w1 := wo) rfl _ _ _ rfl Tryz.underlying34 info_i64 (.slice D TL.length d) TL rfl hGh.out rfl hTlt hzo ?_; intro g cap w1 ho1 hg1)
        go_ret
        rw [HE.out]
        have ho2 : Grow w.heap.size 2 w1 (.slice (some ⟨g, 0, none⟩) (TL.length + 1) cap) (TL ++ [n]) := by simpa [Grow] using ho1
        exact ⟨_, rfl, New.app hn hg1 hGh.out (Nat.le_refl _), ho2.own (by simp; omega)⟩
end

end Go.Proofs.YthbebnfhplacnaaGreat
