/- The program's texts of roads. -/
import Derived.Test.YthbebnfhplacnaaDoorRows
import Derived.Test.YthbebnfhplacnaaDoorCore
import Derived.Test.YthbebnfhplacnaaDoorPlains
import Derived.Test.YthbebnfhplacnaaDoorJoins
import Derived.Test.YthbebnfhplacnaaDoorPlainText
import Derived.Test.YthbebnfhplacnaaDoorShelfText
import Derived.Test.YthbebnfhplacnaaDoorIBase
import Derived.Test.YthbebnfhplacnaaDoorIRdss
import Derived.WalkKit
import Derived.WalkSpells
import Derived.WalkLawsBesides
import Derived.Deep.QuietTactic
import Derived.Deep.OwnRows
import Derived.BigQuiet
import Derived.KernelRfl
import Derived.Deep.RegionHeld3
namespace Go.Proofs.YthbebnfhplacnaaDoor
open Go.RowKit

theorem data_app (a b : ByteArray) : (a ++ b).data.toList = a.data.toList ++ b.data.toList := by simp
theorem size_data (a : ByteArray) : a.size = a.data.toList.length := (Array.length_toList (xs := a.data)).symm
set_option maxHeartbeats 400000 in
theorem decimal_any (n : Nat) (w : World) (h : n < 10) : Calls Tryd.prog 44 #[.int .i64 n] w fun e w' => ∃ r : ByteArray, e = .returned (.string r) ∧ r.data.toList = [UInt8.ofNat (48 + n)] ∧ w' = w := by
  have C := strconv_FormatInt_at n (by omega) w
  rw [Go.Lib.decDigits_one h] at C
  obtain ⟨D, hD⟩ : ∃ D : ByteArray, D = ⟨[UInt8.ofNat (48 + n)].toArray⟩ := ⟨_, rfl⟩
  rw [← hD] at C
  have HD := hid hD
  clear hD
  go_enter Tryd.func44, Tryd.ntmps44
  go_wp2_with fail
  refine C.mono ?_
  rintro e w' ⟨rfl, hww⟩
  rw [hww]
  clear hww w'
  go_wp2_with fail
  go_ret
  exact ⟨D, rfl, by rw [HD.out], rfl⟩
set_option maxHeartbeats 1000000 in
theorem line_any (v : Value) (xs : List Int) (w : World) (h : IntsAt w v xs) (hf : few xs) (hl : xs.length ≤ 1000) :
    Calls Tryd.prog 30 #[.string ⟨#[116, 111, 119, 110]⟩, v] w fun e w' => ∃ r : ByteArray, e = .returned (.string r) ∧ r.data.toList = lineT xs ∧ w' = w := by
  obtain ⟨A, c, rfl, hlm, hc⟩ := h
  have HC := hid hc
  have HF := hid hf
  have HTB := hid (show (⟨#[116, 111, 119, 110]⟩ : ByteArray).data.toList = townB from rfl)
  have hts : (⟨#[116, 111, 119, 110]⟩ : ByteArray).size ≤ 4 := Nat.le_refl _
  obtain ⟨TB, hTB⟩ : ∃ z : ByteArray, z = ⟨#[116, 111, 119, 110]⟩ := ⟨_, rfl⟩
  rw [← hTB] at HTB hts ⊢
  clear hc hf hTB
  go_enter Tryd.func30, Tryd.ntmps30
  go_wp2_with fail
  go_loopw [0, 9] (fun tv iv wr => ∃ (i : Nat) (P : ByteArray), i ≤ xs.length ∧ iv = .int .i64 i ∧ tv = .string P ∧ wr = w ∧ P.size ≤ 4 + 2 * i ∧ Hid (P.data.toList = lineP (xs.take i))) (fun _ iv _ => xs.length - (intOf iv).toNat)
  case atStart => exact ⟨0, TB, Nat.zero_le _, rfl, rfl, rfl, hts, hid (by rw [HTB.out]; rfl)⟩
  case round =>
    obtain ⟨i, P, hi, rfl, rfl, hwr, hps, HP⟩ := hrel
    obtain rfl : w = wr := hwr.symm
    clear hwr
    by_cases hlt : i < xs.length
    · have b1 : (i : Int) < (xs.length : Int) := by omega
      obtain ⟨b, off, rfl, hx⟩ := HC.out i hlt
      have hfx := HF.out _ (nth_mem _ _ hlt)
      obtain ⟨N, hN⟩ : ∃ N : Nat, nth xs i = (N : Int) := ⟨(nth xs i).toNat, by omega⟩
      have HT := hid (show lineP (xs.take (i + 1)) = lineP (xs.take i) ++ [32, UInt8.ofNat (48 + N)] by
        rw [take_succ_nth xs i hlt, hN]
        unfold lineP
        simp)
      rw [hN] at hx
      have hn7 : N < 10 := by omega
      have CD := hid (fun w1 => decimal_any N w1 hn7)
      clear hN hfx
      go_wp2_with (go_at_call 44; refine (CD.out _).mono ?_; rintro e w' ⟨D, rfl, hD, hww⟩; rw [hww]; clear hww w'; have hds : D.size ≤ 1 := (by rw [size_data, hD]; exact Nat.le_refl _); have HD := hid hD; clear hD)
      refine ⟨⟨i + 1, _, by omega, by go_num, rfl, by first | rfl | trivial, ?_, hid ?_⟩, by simp [intOf]; omega⟩
      · simp only [ByteArray.size_append]
        show P.size + (1 + D.size) ≤ _
        omega
      · rw [HT.out, data_app, data_app, HP.out, HD.out]; rfl
    · have e : i = xs.length := by omega
      subst e
      have b1 : ¬ (xs.length : Int) < (xs.length : Int) := by omega
      rw [List.take_length] at HP
      go_wp2_with fail
      go_ret
      refine ⟨_, rfl, ?_, rfl⟩
      rw [data_app, HP.out]
      rfl
set_option maxHeartbeats 2000000 in
theorem implRoadsText_any (v : Value) (r : Aut) (w : World) (h : AutAt w v r) (hr : roadsOk r = true) :
    Calls Tryd.prog 16 #[v] w fun e w' => ∃ t : ByteArray, e = .returned (.string t) ∧ t.data.toList = textR r.nx ∧ New w w' := by
  obtain ⟨rv, rfl, hrr⟩ := h
  obtain ⟨A, c, rfl, hlm, hc⟩ := id hrr
  have h1 : AutAt w (.agg #[.int .i64 r.n, .slice A r.nx.length c]) r := ⟨_, rfl, hrr⟩
  obtain ⟨wb, hwb⟩ : ∃ wb, wb = w.alloc (.cells #[.int .i64 r.n, .slice A r.nx.length c] 24) := ⟨_, rfl⟩
  have hnb : New w wb := by rw [hwb]; exact (by repeat (first | with_reducible exact New.refl _ | with_reducible assumption | with_reducible refine New.alloc ?_ _ | with_reducible refine New.drewN ?_ _ | with_reducible refine New.drew ?_ | with_reducible refine New.trans ?_ (by with_reducible assumption)))
  have hb0 : wb.cell? ⟨w.heap.size, 0, none⟩ = some (.int .i64 r.n) := by rw [hwb]; go_simp
  have hb1 : wb.cell? ⟨w.heap.size, 1, none⟩ = some (.slice A r.nx.length c) := by rw [hwb]; go_simp
  have C1 := ValidRoads_any _ r wb (h1.new hnb)
  rw [hr] at C1
  obtain ⟨k1, k2, k3, k4⟩ := (roadsOk_iff r).1 hr
  have HF := hid (few_of_ok hr)
  have HC := hid hc
  have HL := hid (fun i (hi : i < r.nx.length) => (show (nth r.nx i).length ≤ 3 from by
    have := ((roadRow_iff _ _ _).1 (k4 i hi)).1
    omega))
  have hn7 : r.nx.length ≤ 7 := by omega
  have HTL := hid (fun i (hi : i ≤ 7) (xs : ByteArray) (hx : xs.data.toList = textR (r.nx.take i)) => (show xs.size ≤ 1000 from by
    rw [size_data, hx]
    have key : ∀ rows : List (List Int), (∀ x, x ∈ rows → x.length ≤ 3) → (textR rows).length ≤ rows.length * 11 := by
      intro rows
      induction rows with
      | nil => intro _; simp [textR]
      | cons x rows ih =>
        intro hx
        have k1 := ih (fun y hy => hx y (by simp [hy]))
        have k2 := hx x (by simp)
        have k3 : (lineT x).length = 5 + x.length * 2 := by
          unfold lineT townB
          rw [List.length_append, List.length_append, List.length_flatMap, sum_two]; simp; omega
        show ((lineT x) ++ textR rows).length ≤ _
        rw [List.length_append, k3, List.length_cons]; omega
    have := key (r.nx.take i) (fun x hx => by
      obtain ⟨j, hj, rfl⟩ := mem_nth _ _ (List.mem_of_mem_take hx)
      have := ((roadRow_iff _ _ _).1 (k4 j hj)).1
      omega)
    rw [List.length_take] at this
    omega))
  clear hr hc k1 k2 k3 k4 hrr h1
  go_enter Tryd.func16, Tryd.ntmps16
  go_wp2_with fail
  rw [← hwb]
  clear hwb
  go_wp2_with fail
  refine C1.mono ?_
  rintro e w1 ⟨rfl, hn1⟩
  have z0 := hn1.cell hb0
  have z1 := hn1.cell hb1
  have hN1 := hnb.trans hn1
  clear hb0 hb1 C1
  go_wp2_with fail
  go_loopw [3, 12] (fun tv iv wr => ∃ (i : Nat) (P : ByteArray), i ≤ r.nx.length ∧ iv = .int .i64 i ∧ tv = .string P ∧ wr = w1 ∧ P.size ≤ 1000 ∧ Hid (P.data.toList = textR (r.nx.take i))) (fun _ iv _ => r.nx.length - (intOf iv).toNat)
  case atStart => exact ⟨0, _, Nat.zero_le _, rfl, rfl, rfl, by decide, hid rfl⟩
  case round =>
    obtain ⟨i, P, hi, rfl, rfl, hwr, hps, HP⟩ := hrel
    obtain rfl : w1 = wr := hwr.symm
    clear hwr
    by_cases hlt : i < r.nx.length
    · have b1 : (i : Int) < (r.nx.length : Int) := by omega
      obtain ⟨b, off, s, rfl, hx, hs⟩ := HC.out i hlt
      replace hx := hN1.cell hx
      have hl3 := HL.out i hlt
      have CL := hid (line_any s (nth r.nx i) w1 (hs.new hN1) (HF.out _ (nth_mem _ _ hlt)) (by omega))
      have HT := hid (show textR (r.nx.take (i + 1)) = textR (r.nx.take i) ++ lineT (nth r.nx i) by
        rw [take_succ_nth r.nx i hlt]
        unfold textR
        simp)
      have HTL1 := hid (fun xs hx => HTL.out (i + 1) (by omega) xs hx)
      have hll : (lineT (nth r.nx i)).length ≤ 100 := by
        unfold lineT townB
        rw [List.length_append, List.length_append, List.length_flatMap, sum_two]; simp; omega
      go_wp2_with (go_at_call 30; refine CL.out.mono ?_; rintro e w' ⟨D, rfl, hD, hww⟩; rw [hww]; clear hww w'; have hds : D.size ≤ 100 := (by rw [size_data, hD]; exact hll); have HD := hid hD; clear hD)
      have hpt : (P ++ D).data.toList = textR (r.nx.take (i + 1)) := by rw [HT.out, data_app, HP.out, HD.out]
      exact ⟨⟨i + 1, _, by omega, by go_num, rfl, by first | rfl | trivial, HTL1.out _ hpt, hid hpt⟩, by simp [intOf]; omega⟩
    · have e : i = r.nx.length := by omega
      subst e
      have b1 : ¬ (r.nx.length : Int) < (r.nx.length : Int) := by omega
      rw [List.take_length] at HP
      go_wp2_with fail
      go_ret
      exact ⟨P, rfl, HP.out, hN1⟩

end Go.Proofs.YthbebnfhplacnaaDoor
