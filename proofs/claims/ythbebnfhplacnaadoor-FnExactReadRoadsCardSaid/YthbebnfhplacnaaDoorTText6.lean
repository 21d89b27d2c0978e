/- The reference reads the numbers of a line. -/
import Derived.Test.YthbebnfhplacnaaDoorRows
import Derived.Test.YthbebnfhplacnaaDoorCore
import Derived.Test.YthbebnfhplacnaaDoorInfos
import Derived.Test.YthbebnfhplacnaaDoorPlains
import Derived.Test.YthbebnfhplacnaaDoorJoins
import Derived.Test.YthbebnfhplacnaaDoorPlainText
import Derived.Test.YthbebnfhplacnaaDoorShelfText
import Derived.Test.YthbebnfhplacnaaDoorTText1
import Derived.Test.YthbebnfhplacnaaDoorTText2
import Derived.Test.YthbebnfhplacnaaDoorTText4
import Derived.Test.YthbebnfhplacnaaDoorTText5
import Derived.Test.YthbebnfhplacnaaDoorMaps
import Derived.WalkKit
import Derived.WalkSpells
import Derived.WalkLawsBesides
import Derived.Deep.QuietTactic
import Derived.Deep.OwnRows
import Derived.BigQuiet
import Derived.KernelRfl
import Derived.Deep.RegionHeld3
import Derived.Deep.RegionLaw
namespace Go.Proofs.YthbebnfhplacnaaDoor
open Go.RowKit

theorem numsS_some {x : List UInt8} {n : Int} (r : List (List UInt8)) (h : numS x = some n) : numsS (x :: r) = (numsS r).map fun t => n :: t := by
  conv => lhs; unfold numsS
  rw [h]
theorem numsS_none {x : List UInt8} (r : List (List UInt8)) (h : numS x = none) : numsS (x :: r) = none := by
  unfold numsS; rw [h]
theorem numsS_app : ∀ (a b : List (List UInt8)) (xs : List Int), numsS a = some xs → numsS (a ++ b) = (numsS b).map (xs ++ ·)
  | [], b, xs, h => by
    have : xs = [] := by simpa [numsS] using h.symm
    subst this
    simp
  | x :: a, b, xs, h => by
    cases e : numS x with
    | none => rw [numsS_none a e] at h; cases h
    | some n =>
      rw [numsS_some a e] at h
      cases e2 : numsS a with
      | none => rw [e2] at h; cases h
      | some t =>
        rw [e2] at h
        have hx : n :: t = xs := by simpa using h
        subst hx
        have ih := numsS_app a b t e2
        rw [List.cons_append, numsS_some _ e, ih]
        generalize numsS b = z
        cases z <;> rfl
theorem numR_some {w : List UInt8} {n : Int} {b : Bool} (h : numR w = (n, b)) : numS w = if b = true then some n else none := by
  unfold numR at h
  cases e : numS w with
  | none => rw [e] at h; cases h; rfl
  | some m => rw [e] at h; cases h; rfl
theorem numsS_bad {a c : List (List UInt8)} {x : List UInt8} {xs : List Int} (h : numsS a = some xs) (hx : numS x = none) : numsS (a ++ x :: c) = none := by
  rw [numsS_app _ _ _ h]
  have : numsS (x :: c) = none := by unfold numsS; rw [hx]
  rw [this]; rfl
theorem numsS_good {a : List (List UInt8)} {x : List UInt8} {xs : List Int} {n : Int} (h : numsS a = some xs) (hx : numS x = some n) : numsS (a ++ [x]) = some (xs ++ [n]) := by
  rw [numsS_app _ _ _ h]
  have : numsS [x] = some [n] := by unfold numsS; rw [hx]; rfl
  rw [this]; rfl
theorem numsS_len : ∀ {a : List (List UInt8)} {xs : List Int}, numsS a = some xs → xs.length = a.length
  | [], xs, h => by
    have : xs = [] := by simpa [numsS] using h.symm
    subst this; rfl
  | x :: a, xs, h => by
    unfold numsS at h
    cases e : numS x with
    | none => rw [e] at h; cases h
    | some n =>
      rw [e] at h
      cases e2 : numsS a with
      | none => rw [e2] at h; cases h
      | some t =>
        rw [e2] at h
        have hx : n :: t = xs := by simpa using h
        subst hx
        simp [numsS_len e2]
set_option maxHeartbeats 1000000 in
theorem l01Numbers_any (WS : List ByteArray) (b : Nat) (c : Nat) (w : World) (hs : StrsAt w b WS) (h0 : 0 < WS.length) (hn : WS.length ≤ 100000) (hS : ∀ x, x ∈ WS → x.size ≤ 100000) :
    Calls Tryd.prog 10 #[.slice (some ⟨b, 0, none⟩) WS.length c, .int .i64 1] w fun e w' => ∃ r ok, e = .returned (.tuple #[r, .bool ok]) ∧ New w w' ∧ ∃ xs, OwnInts w.heap.size w'.heap.size w' r xs ∧ numsS (WS.tail.map (·.data.toList)) = if ok = true then some xs else none := by
  obtain ⟨T, hT⟩ : ∃ T, T = WS.tail.map (·.data.toList) := ⟨_, rfl⟩
  have hTl : T.length + 1 = WS.length := by rw [hT, List.length_map, List.length_tail]; omega
  have HTI := hid (fun i (hi : i + 1 < WS.length) (hj : i < T.length) => (show T[i] = (WS[i + 1]).data.toList from by subst hT; simp))
  rw [← hT]
  clear hT
  obtain ⟨M, hM⟩ : ∃ M, M = WS.length := ⟨_, rfl⟩
  rw [← hM]
  have HM := hid hM
  have HTM := hid (show T.length + 1 = M by omega)
  have HSS := hid hS
  have hM0 : 0 < M := by omega
  have hMb : M ≤ 100000 := by omega
  clear hM hTl h0 hn hS
  have hY0 := Grow.empty w.heap.size 2 w (Nat.le_refl _)
  have hnY : New w (w.alloc (.cells #[] 2)) := (by repeat (first | with_reducible exact New.refl _ | with_reducible assumption | with_reducible refine New.alloc ?_ _ | with_reducible refine New.drewN ?_ _ | with_reducible refine New.drew ?_ | with_reducible refine New.trans ?_ (by with_reducible assumption)))
  have hbw := hid (show b < w.heap.size from World.block_lt_of_cell? w _ (hs 0 (by rw [← HM.out]; exact hM0)))
  have HS0 := hid hs
  clear hs
  go_enter Tryd.func10, Tryd.ntmps10
  go_wp2_with fail
  go_loopw [6, 7] (fun ov iv wr => ∃ (i : Nat) (xs : List Int), 1 ≤ i ∧ i ≤ M ∧ iv = .int .i64 i ∧ New w wr ∧ Grow w.heap.size 2 wr ov xs ∧ Hid (numsS (T.take (i - 1)) = some xs)) (fun _ iv _ => M - (intOf iv).toNat)
  case atStart => exact ⟨1, [], Nat.le_refl _, hM0, rfl, hnY, hY0, hid rfl⟩
  case round =>
    obtain ⟨i, xs, hi1, hi, rfl, hN, hG, HX⟩ := hrel
    clear hY0 hnY
    obtain ⟨wo, rfl⟩ : ∃ wo : World, wo = wr := ⟨_, rfl⟩
    obtain ⟨AG, cG, rfl⟩ := hG.form
    have hzo := hN.size
    have hxl : xs.length ≤ 100000 := by have := numsS_len HX.out; rw [List.length_take] at this; omega
    by_cases hlt : i < M
    · have b1 : (i : Int) < (M : Int) := by omega
      have hiW : i < WS.length := by rw [← HM.out]; exact hlt
      have hx := hN.cell (HS0.out i hiW)
      have hiT : i - 1 < T.length := by have := HTM.out; omega
      have HTE := hid (show T[i - 1] = (WS[i]).data.toList by
        rw [HTI.out (i - 1) (by omega) hiT]
        simp only [show i - 1 + 1 = i from by omega])
      have hXs := HSS.out WS[i] (List.getElem_mem hiW)
      obtain ⟨X, hX⟩ : ∃ X, X = WS[i] := ⟨_, rfl⟩
      rw [← hX] at hx HTE hXs
      clear hX
      obtain ⟨n, ok, hno⟩ : ∃ n ok, numR X.data.toList = (n, ok) := ⟨_, _, rfl⟩
      have CN0 := l01Number_any X wo hXs
      rw [hno] at CN0
      have HNO := hid (numR_some hno)
      have HTK := hid (show T.take (i + 1 - 1) = T.take (i - 1) ++ [T[i - 1]] by
        rw [← List.take_succ_eq_append_getElem hiT]
        congr 1; omega)
      clear hno
      cases ok with
      | false =>
        have HB := hid (show numsS T = none by
          have e : T = T.take (i - 1) ++ T[i - 1] :: T.drop (i - 1 + 1) := by rw [← List.drop_eq_getElem_cons hiT, List.take_append_drop]
          rw [e]
          exact numsS_bad HX.out (by rw [HTE.out, HNO.out]; rfl))
        go_wp2_with (go_at_call 20; refine CN0.mono ?_; rintro e w2 ⟨rfl, hn2⟩)
        go_ret2
        exact ⟨_, false, rfl, New.trans hN hn2, xs, (hG.new hn2).own (by omega), HB.out⟩
      | true =>
        have HB := hid (show numsS (T.take (i + 1 - 1)) = some (xs ++ [n]) by
          rw [HTK.out]
          exact numsS_good HX.out (by rw [HTE.out, HNO.out]; rfl))
        go_wp2_with (first
          | (go_at_call 20; refine CN0.mono ?_; rintro e w2 ⟨rfl, hn2⟩; have hz2 : w.heap.size ≤ w2.heap.size := (hN.trans hn2).size; have hG2 := hG.new hn2)
          | (at_builtin; refine wpList_appV rfl _ _ _ rfl (B := w.heap.size) Tryd.underlying32 info_i64 rfl (by decide) rfl (.slice AG xs.length cG) xs.length _ rfl hG2 rfl (by omega) hz2 ?_; intro g9 cap9 w9 ho9 hg9 hl9))
        refine ⟨⟨i + 1, xs ++ [n], by omega, by omega, by go_num, New.app (a := w) (hN.trans hn2) hg9 hG2 (Nat.le_refl _), by unfold Grow; simpa using ho9, HB⟩, by simp [intOf]; omega⟩
    · have e : i = M := by omega
      have HE := hid e
      have b1 : ¬ (i : Int) < (M : Int) := by omega
      clear e
      go_wp2_with fail
      go_ret2
      refine ⟨_, .inr ⟨rfl, hN, xs, hG.own (by omega), ?_⟩⟩
      have e2 : T.take (i - 1) = T := by
        rw [List.take_of_length_le]
        have := HTM.out; have := HE.out; omega
      rw [← e2]
      exact HX.out

end Go.Proofs.YthbebnfhplacnaaDoor
