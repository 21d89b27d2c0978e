/- The reference reads roads. -/
import Derived.Test.YthbebnfhplacnaaDoorRows
import Derived.Test.YthbebnfhplacnaaDoorCore
import Derived.Test.YthbebnfhplacnaaDoorInfos
import Derived.Test.YthbebnfhplacnaaDoorPlains
import Derived.Test.YthbebnfhplacnaaDoorJoins
import Derived.Test.YthbebnfhplacnaaDoorPlainText
import Derived.Test.YthbebnfhplacnaaDoorShelfText
import Derived.Test.YthbebnfhplacnaaDoorSBase
import Derived.Test.YthbebnfhplacnaaDoorSRdss
import Derived.Test.YthbebnfhplacnaaDoorTText1
import Derived.Test.YthbebnfhplacnaaDoorTText2
import Derived.Test.YthbebnfhplacnaaDoorTText3
import Derived.Test.YthbebnfhplacnaaDoorTText4
import Derived.Test.YthbebnfhplacnaaDoorTText5
import Derived.Test.YthbebnfhplacnaaDoorTText6
import Derived.Test.YthbebnfhplacnaaDoorMaps
import Derived.Test.YthbebnfhplacnaaDoorArrs
import Derived.WalkKit
import Derived.WalkSpells
import Derived.WalkLawsBesides
import Derived.Deep.QuietTactic
import Derived.Deep.OwnRows
import Derived.BigQuiet
import Derived.KernelRfl
import Derived.Deep.RegionHeld3
import Derived.Deep.RegionLaw
import Derived.Carry
namespace Go.Proofs.YthbebnfhplacnaaDoor
open Go.RowKit

theorem rowsS_some {x : List UInt8} {n : List Int} (r : List (List UInt8)) (h : rowS x = some n) : rowsS (x :: r) = (rowsS r).map fun t => n :: t := by
  conv => lhs; unfold rowsS
  rw [h]
theorem rowsS_none {x : List UInt8} (r : List (List UInt8)) (h : rowS x = none) : rowsS (x :: r) = none := by
  unfold rowsS; rw [h]
theorem rowsS_app : ∀ (a b : List (List UInt8)) (xs : List (List Int)), rowsS a = some xs → rowsS (a ++ b) = (rowsS b).map (xs ++ ·)
  | [], b, xs, h => by
    have : xs = [] := by simpa [rowsS] using h.symm
    subst this
    simp
  | x :: a, b, xs, h => by
    cases e : rowS x with
    | none => rw [rowsS_none a e] at h; cases h
    | some n =>
      rw [rowsS_some a e] at h
      cases e2 : rowsS a with
      | none => rw [e2] at h; cases h
      | some t =>
        rw [e2] at h
        have hx : n :: t = xs := by simpa using h
        subst hx
        have ih := rowsS_app a b t e2
        rw [List.cons_append, rowsS_some _ e, ih]
        generalize rowsS b = z
        cases z <;> rfl
theorem rowsS_len : ∀ {a : List (List UInt8)} {xs : List (List Int)}, rowsS a = some xs → xs.length = a.length
  | [], xs, h => by
    have : xs = [] := by simpa [rowsS] using h.symm
    subst this; rfl
  | x :: a, xs, h => by
    cases e : rowS x with
    | none => rw [rowsS_none a e] at h; cases h
    | some n =>
      rw [rowsS_some a e] at h
      cases e2 : rowsS a with
      | none => rw [e2] at h; cases h
      | some t =>
        rw [e2] at h
        have hx : n :: t = xs := by simpa using h
        subst hx
        simp [rowsS_len e2]
theorem rowsS_bad {DL : List (List UInt8)} {i k : Nat} {xs : List (List Int)} (hi : i < k) (hk : k ≤ DL.length) (h : rowsS (DL.take i) = some xs) (hx : rowS (DL[i]'(by omega)) = none) : rowsS (DL.take k) = none := by
  have e : DL.take k = DL.take i ++ DL[i]'(by omega) :: (DL.take k).drop (i + 1) := by
    have h1 : i < (DL.take k).length := by rw [List.length_take]; omega
    have h2 := List.drop_eq_getElem_cons h1
    have h3 := List.take_append_drop i (DL.take k)
    rw [h2, List.take_take, Nat.min_eq_left (by omega)] at h3
    rw [List.getElem_take] at h3
    exact h3.symm
  rw [e, rowsS_app _ _ _ h, rowsS_none _ hx]
  rfl
theorem rowsS_good {DL : List (List UInt8)} {i : Nat} {xs : List (List Int)} {n : List Int} (hi : i < DL.length) (h : rowsS (DL.take i) = some xs) (hx : rowS DL[i] = some n) : rowsS (DL.take (i + 1)) = some (xs ++ [n]) := by
  rw [List.take_succ_eq_append_getElem hi, rowsS_app _ _ _ h, rowsS_some _ hx]
  rfl
theorem rowS_words {line : List UInt8} {ws : List ByteArray} (h : ws.map (·.data.toList) = splitC 32 line) (h0 : 0 < ws.length) : rowS line = if (ws[0]).data.toList = townB then numsS (ws.tail.map (·.data.toList)) else none := by
  unfold rowS
  rw [← h]
  cases ws with
  | nil => simp at h0
  | cons a l => simp
theorem readS_2000 {l : List UInt8} (h : 2000 < l.length) : readS l = (⟨0, []⟩, 2) := by unfold readS; rw [if_pos h]
theorem readS_last {l : List UInt8} {K : Nat} (h : ¬ 2000 < l.length) (hK : (splitC 10 l).length = K + 1) (hl : (splitC 10 l)[K]'(by omega) ≠ []) : readS l = (⟨0, []⟩, 5) := by
  unfold readS
  rw [if_neg h, if_neg]
  intro q
  rw [List.getLast?_eq_getElem?, hK, Nat.add_sub_cancel, List.getElem?_eq_getElem (by omega)] at q
  exact hl (by simpa using q)
def endS (K : Nat) (o : Option (List (List Int))) : Aut × Int := match o with
  | none => (⟨0, []⟩, 5)
  | some rows => if roadsOk ⟨(K : Int), rows⟩ = true then (⟨(K : Int), rows⟩, 0) else (⟨0, []⟩, 5)
theorem readS_rows {l : List UInt8} {K : Nat} (h : ¬ 2000 < l.length) (hK : (splitC 10 l).length = K + 1) (hl : (splitC 10 l)[K]'(by omega) = []) :
    readS l = endS K (rowsS ((splitC 10 l).take K)) := by
  have e1 : (splitC 10 l).getLast? = some [] := by
    rw [List.getLast?_eq_getElem?, hK, Nat.add_sub_cancel, List.getElem?_eq_getElem (by omega), hl]
  have e2 : (splitC 10 l).dropLast = (splitC 10 l).take K := by rw [List.dropLast_eq_take, hK, Nat.add_sub_cancel]
  have e3 : (((splitC 10 l).length : Int) - 1) = (K : Int) := by rw [hK]; omega
  unfold readS
  rw [if_neg h, if_pos e1, e2, e3]
  generalize rowsS ((splitC 10 l).take K) = z
  cases z <;> rfl
set_option maxRecDepth 20000 in
set_option maxHeartbeats 2000000 in
theorem specReadRoads_any (s : ByteArray) (w : World) (hl : s.size ≤ 1048576) :
    Calls Tryd.prog 4 #[.string s] w fun e w' => ∃ q, e = .returned (.tuple #[q, .int .i64 (readS s.data.toList).2]) ∧ New w w' ∧ OwnAut w.heap.size w'.heap.size w' q (readS s.data.toList).1 := by
  have hsz := size_data s
  obtain ⟨R, hRR⟩ : ∃ R, R = readS s.data.toList := ⟨_, rfl⟩
  rw [← hRR]
  obtain ⟨wb, hwb⟩ : ∃ wb, wb = w.alloc (.cells #[.int .i64 0, .slice none 0 0] 24) := ⟨_, rfl⟩
  have hnb : New w wb := by rw [hwb]; exact (by repeat (first | with_reducible exact New.refl _ | with_reducible assumption | with_reducible refine New.alloc ?_ _ | with_reducible refine New.drewN ?_ _ | with_reducible refine New.drew ?_ | with_reducible refine New.trans ?_ (by with_reducible assumption)))
  have hR : Box2 wb w.heap.size (.int .i64 0) (.slice none 0 0) := by rw [hwb]; exact ⟨by go_simp, by go_simp, by go_simp, by go_simp⟩
  have KEY := hid (fun (w1 : World) (z : Int) (hn : New w w1) => (show ∃ q, (Ending.returned (.tuple #[.agg #[.int .i64 0, .slice none 0 0], .int .i64 z])) = .returned (.tuple #[q, .int .i64 z]) ∧ New w w1 ∧ OwnAut w.heap.size w1.heap.size w1 q (⟨0, []⟩ : Aut) from
    ⟨_, rfl, hn, _, rfl, none, 0, fun _ => default, rfl, by simp, by simp, by simp, by simp⟩))
  by_cases h2 : 2000 < s.size
  · have h2' : (2000 : Int) < (s.size : Int) := by omega
    have HE := hid (show R = (⟨0, []⟩, 2) by rw [hRR, readS_2000 (by omega)])
    clear hsz hRR
    obtain ⟨x0, x1, xf0, xf1⟩ := id hR
    go_enter Tryd.func4, Tryd.ntmps4
    go_wp2_with fail
    rw [← hwb]
    clear hwb
    refine bodyPost_ret (v := .tuple #[.agg #[.int .i64 0, .slice none 0 0], .int .i64 2]) (by simp [results, Tryd.results4, go_sem, x0, x1]) rfl ?_
    rw [HE.out]
    exact KEY.out wb 2 hnb
  have h2' : ¬ (2000 : Int) < (s.size : Int) := by omega
  have HCS := hid (fun (w5 : World) => (show Calls Tryd.prog 9 #[.string s, .int .u8 10] w5 fun e w' => ∃ r ws, e = .returned r ∧ New w5 w' ∧ GrowT w5.heap.size w' r ws ∧ ws.map (·.data.toList) = splitC 10 s.data.toList from l01Split_any s 10 w5 (by omega)))
  have hne := splitC_ne 10 s.data.toList
  have hwl := splitC_len 10 s.data.toList
  have hws := hid (splitC_small 10 s.data.toList)
  obtain ⟨K, hK⟩ : ∃ K, (splitC 10 s.data.toList).length = K + 1 := ⟨(splitC 10 s.data.toList).length - 1, by
    have : (splitC 10 s.data.toList).length ≠ 0 := fun e => hne (List.eq_nil_of_length_eq_zero e)
    omega⟩
  have HEL := hid (fun (hq : (splitC 10 s.data.toList)[K]'(by omega) ≠ []) => (show R = (⟨0, []⟩, 5) from by rw [hRR]; exact readS_last (by omega) hK hq))
  have HER := hid (fun (hq : (splitC 10 s.data.toList)[K]'(by omega) = []) => (show R = endS K (rowsS ((splitC 10 s.data.toList).take K)) from by rw [hRR]; exact readS_rows (by omega) hK hq))
  obtain ⟨DL, hDL⟩ : ∃ z, z = splitC 10 s.data.toList := ⟨_, rfl⟩
  have HDLL := hid (show DL.length = K + 1 by rw [hDL]; exact hK)
  have HSM := hid (fun i (hi : i < DL.length) => (show (DL[i]).length ≤ 2000 from by
    have h3 := hws.out (DL[i]) (by rw [← hDL]; exact List.getElem_mem hi)
    omega))
  simp only [← hDL] at HCS HEL HER
  have hkw : K ≤ 2000 := by omega
  have hKD : K < DL.length := by rw [HDLL.out]; omega
  replace HEL := hid (show DL[K]'hKD ≠ [] → R = (⟨0, []⟩, 5) from HEL.out)
  replace HER := hid (show DL[K]'hKD = [] → R = endS K (rowsS (DL.take K)) from HER.out)
  clear hsz hne hwl hws hK hDL h2 hRR
  have HNB := hid hnb
  obtain ⟨x0, x1, xf0, xf1⟩ := id hR
  go_enter Tryd.func4, Tryd.ntmps4
  go_wp2_with fail
  rw [← hwb]
  refine (HCS.out wb).mono ?_
  rintro e w3 ⟨rs, WS, rfl, hn3, hG3, hWS⟩
  have hzb : w.heap.size < wb.heap.size := by rw [hwb]; simp only [size_alloc]; exact Nat.lt_succ_self _
  have hWl : WS.length = K + 1 := by
    have h3 := congrArg List.length hWS
    rw [List.length_map] at h3
    rw [h3]; exact HDLL.out
  have HWL := hid hWl
  have HWD := hid (fun i (hi : i < WS.length) (hj : i < DL.length) => (show (WS[i]).data.toList = DL[i] from by
    have h3 : (WS.map fun x : ByteArray => x.data.toList)[i]? = DL[i]? := by rw [hWS]
    rw [List.getElem?_map, List.getElem?_eq_getElem hi, List.getElem?_eq_getElem hj] at h3
    simpa using h3))
  obtain ⟨sb, cS, rfl, hs1, hs2, hs3⟩ := hG3.strs (by omega)
  rw [hWl]
  have hR3 := hR.new hn3
  have HN3 := hid (HNB.out.trans hn3)
  clear hwb hG3 hWS hWl hn3 x0 x1 xf0 xf1
  have hKW : K < WS.length := by rw [HWL.out]; omega
  have hx := hs3 K hKW
  have hXd := HWD.out K hKW hKD
  obtain ⟨X, hX⟩ : ∃ X, X = WS[K] := ⟨_, rfl⟩
  rw [← hX] at hx hXd
  clear hX hKW
  obtain ⟨x0, x1, xf0, xf1⟩ := id hR3
  by_cases hem : DL[K] = []
  · have HE := hid (HER.out hem)
    have hq2 : X = (⟨#[]⟩ : ByteArray) := by
      have : X.data.toList = (⟨#[]⟩ : ByteArray).data.toList := by rw [hXd, hem]
      cases X with | mk d => simp at this; subst this; rfl
    subst hq2
    clear hXd hem
    go_wp2_with fail
    have hn4 : New w3 (w3.alloc (.cells #[.int .i64 K, .slice none 0 0] 24)) := (by repeat (first | with_reducible exact New.refl _ | with_reducible assumption | with_reducible refine New.alloc ?_ _ | with_reducible refine New.drewN ?_ _ | with_reducible refine New.drew ?_ | with_reducible refine New.trans ?_ (by with_reducible assumption)))
    have hB4 : Box2 (w3.alloc (.cells #[.int .i64 K, .slice none 0 0] 24)) w3.heap.size (.int .i64 K) (.slice none 0 0) := ⟨by go_simp, by go_simp, by go_simp, by go_simp⟩
    have hz4 : (w3.alloc (.cells #[.int .i64 K, .slice none 0 0] 24)).heap.size = w3.heap.size + 1 := by simp only [size_alloc]
    have hR4 := hR3.new hn4
    have hs4 := hs3.new hn4
    have HN4 := hid (HN3.out.trans hn4)
    obtain ⟨rb, hrb⟩ : ∃ z, z = w3.heap.size := ⟨_, rfl⟩
    have hsep : w.heap.size < sb ∧ sb < rb := by omega
    rw [← hrb] at hB4 hz4 ⊢
    generalize (w3.alloc (.cells #[.int .i64 K, .slice none 0 0] 24)) = w4 at hB4 hz4 hR4 hs4 HN4 ⊢
    have HZ4 := hid hz4
    have hrb4 : rb + 1 ≤ w4.heap.size := by omega
    clear hs3 hR3 HN3 hn4 hrb hz4 x0 x1 xf0 xf1 hs1 hs2 hx
    go_loopw [6] (fun iv wr => ∃ (i : Nat) (v : Value) (rows : List (List Int)), i ≤ K ∧ iv = .int .i64 i ∧ But (fun q => q = rb) w4 wr ∧ Box2 wr rb (.int .i64 K) v ∧ GrowRows (rb + 1) 32 wr v rows ∧ Hid (rowsS (DL.take i) = some rows)) (fun iv _ => K - (intOf iv).toNat)
    case atStart => exact ⟨0, _, [], Nat.zero_le _, rfl, But.refl, hB4, GrowRows.nil _ _ _, hid rfl⟩
    case round =>
      obtain ⟨i, v, rows, hi, rfl, hb, hB, hG, HX⟩ := hrel
      clear hB4
      obtain ⟨wo, rfl⟩ : ∃ wo : World, wo = wr := ⟨_, rfl⟩
      have hzo := hb.size
      have hrbo : rb + 1 ≤ wo.heap.size := by omega
      have hNo : New w wo := But.new HN4.out hb (fun q hq => by omega)
      obtain ⟨Av, cv, rfl⟩ := hG.form
      have hrl : rows.length ≤ K := by have := rowsS_len HX.out; rw [List.length_take] at this; omega
      have hRo := hR4.butT hb (by show ¬ w.heap.size = rb; omega)
      by_cases hlt : i < K
      · have b1 : (i : Int) < (K : Int) := by omega
        have hiW : i < WS.length := by rw [HWL.out]; omega
        have hiD : i < DL.length := by omega
        have hx := hb.cell (hs4 i hiW) (by show ¬ sb = rb; omega)
        have hXd := HWD.out i hiW hiD
        have hXs := HSM.out i hiD
        obtain ⟨X, hX⟩ : ∃ X, X = WS[i] := ⟨_, rfl⟩
        rw [← hX] at hx hXd
        have hXz : X.size ≤ 2000 := by rw [size_data, hXd]; exact hXs
        have CS2 := hid (fun (w5 : World) => (show Calls Tryd.prog 9 #[.string X, .int .u8 32] w5 fun e w' => ∃ r ws, e = .returned r ∧ New w5 w' ∧ GrowT w5.heap.size w' r ws ∧ ws.map (·.data.toList) = splitC 32 X.data.toList from l01Split_any X 32 w5 (by omega)))
        rw [hXd] at CS2
        have hne := splitC_ne 32 DL[i]
        have hwl := splitC_len 32 DL[i]
        have hwz := hid (splitC_small 32 DL[i])
        have HWZ := hid (show ∀ (ws : List ByteArray), ws.map (·.data.toList) = splitC 32 DL[i] → 0 < ws.length ∧ ws.length ≤ 2001 ∧ ∀ x, x ∈ ws → x.size ≤ 100000 from fun ws he => by
          have h3 := congrArg List.length he
          rw [List.length_map] at h3
          have h4 : (splitC 32 DL[i]).length ≠ 0 := fun e => hne (List.eq_nil_of_length_eq_zero e)
          refine ⟨by omega, by omega, fun x hx => ?_⟩
          have h5 := hwz.out x.data.toList (by rw [← he]; exact List.mem_map.2 ⟨x, hx, rfl⟩)
          rw [size_data]
          omega)
        clear hX hXd hne hwl hwz hXs hXz
        have HG := hid hG
        have hblk := hid hG.block
        clear hG
        go_wp2_with fail
        refine (CS2.out _).mono ?_
        rintro e w5 ⟨r5, ws, rfl, hn5, hG5, hws⟩
        obtain ⟨hw0, hw1, hw2⟩ := HWZ.out ws hws
        obtain ⟨b5, c5, rfl, _, hb5, hs5⟩ := hG5.strs hw0
        have hy := hs5 0 hw0
        have HRW := hid (rowS_words hws hw0)
        obtain ⟨Y, hY⟩ : ∃ Y, Y = ws[0] := ⟨_, rfl⟩
        rw [← hY] at hy HRW
        have CN := l01Numbers_any ws b5 c5 w5 hs5 hw0 (by omega) hw2
        clear hY hws hw2 hG5 hs5
        have hw00 : ¬ ws.length = 0 := by omega
        go_wp2_with fail
        refine CN.mono ?_
        rintro e w6 ⟨q6, ok, rfl, hn6, xs, ho6, hnum⟩
        obtain ⟨Aq, cq, rfl⟩ := ho6.form
        rw [hnum] at HRW
        have hy6 := hn6.cell hy
        have hn56 := hn5.trans hn6
        have hR6 := hRo.new hn56
        have hN6 := hNo.trans hn56
        have hB6 := hB.new hn56
        obtain ⟨x0, x1, xf0, xf1⟩ := id hR6
        obtain ⟨y0, y1, yf0, yf1⟩ := id hB6
        clear hnum CN hy
        cases ok with
        | false =>
          have HR5 := hid (show R = (⟨0, []⟩, 5) by
            rw [HE.out, rowsS_bad hlt (by omega) HX.out (by rw [HRW.out]; split <;> rfl)]; rfl)
          go_wp2_with fail
          obtain ⟨g0, g1, _, _⟩ := hR6.fill (.int .i64 0) (.slice none 0 0)
          refine bodyPost_ret (v := .tuple #[.agg #[.int .i64 0, .slice none 0 0], .int .i64 5]) (by simp [results, Tryd.results4, go_sem, g0, g1]) rfl ?_
          rw [HR5.out]
          exact KEY.out _ 5 (New.fill hN6 (Nat.le_refl _) _ _)
        | true =>
          by_cases ht : Y.data.toList = townB
          · have HRX := hid (show rowsS (DL.take (i + 1)) = some (rows ++ [xs]) from rowsS_good hiD HX.out (by rw [HRW.out, if_pos ht]; rfl))
            have hq2 : Y = (⟨#[116, 111, 119, 110]⟩ : ByteArray) := by
              have : Y.data.toList = (⟨#[116, 111, 119, 110]⟩ : ByteArray).data.toList := ht
              exact ByteArray.ext (Array.toList_inj.1 this)
            subst hq2
            clear ht HRW
            have hO6 : OwnInts wo.heap.size w6.heap.size w6 (.slice Aq xs.length cq) xs := ho6.widen hn5.size (Nat.le_refl _)
            go_wp2_with (at_builtin; refine wpList_appRows (w0 := wo) (w1 := w6) rfl _ _ _ rfl Tryd.underlying22 info_ints (.slice Av rows.length cv) rows xs rfl HG.out hn56 hO6 rfl (by omega) hrbo ?_; intro g cap w7 ho7 hg7; have hB7 := hB6.grown hg7 (fun q hq => by have := hblk.out q hq; omega); obtain ⟨x0', x1', xf0', xf1'⟩ := id hB7)
            refine ⟨⟨i + 1, _, rows ++ [xs], by omega, by go_num, ?_, hB7.set1 _, ?_, HRX⟩, by simp [intOf]; omega⟩
            · exact ((hb.trans (But.of_new (S := fun q => q = rb) hn56) (fun q hq => Or.inl hq)).trans (But.of_grown (S := fun q => w4.heap.size ≤ q) hg7 (fun q hq => by have := (hblk.out q hq).1; have := HZ4.out; omega)) (fun q hq => Or.inr hq)).trans (But.setCell (S := fun q => q = rb) ⟨rb, 1, none⟩ _ rfl) (fun q hq => Or.inl hq)
            · exact ho7.within (within_setCell w7 ⟨rb, 1, none⟩ (.slice (some ⟨g, 0, none⟩) (rows.length + 1) cap)) (by show rb + 1 ≤ rb + 1; omega)
          · have HR5 := hid (show R = (⟨0, []⟩, 5) by
              rw [HE.out, rowsS_bad hlt (by omega) HX.out (by rw [HRW.out, if_neg ht])]; rfl)
            have hq : (Y.toList == [116, 111, 119, 110]) = false := by
              rw [toList_data]
              exact beq_false_of_ne ht
            clear ht HRW
            go_wp2_with fail
            obtain ⟨g0, g1, _, _⟩ := hR6.fill (.int .i64 0) (.slice none 0 0)
            refine bodyPost_ret (v := .tuple #[.agg #[.int .i64 0, .slice none 0 0], .int .i64 5]) (by simp [results, Tryd.results4, go_sem, g0, g1]) rfl ?_
            rw [HR5.out]
            exact KEY.out _ 5 (New.fill hN6 (Nat.le_refl _) _ _)
      · have HI := hid (show i = K by omega)
        have b1 : ¬ (i : Int) < (K : Int) := by omega
        have HE1 := hid (show R = if roadsOk ⟨(K : Int), rows⟩ = true then (⟨(K : Int), rows⟩, 0) else (⟨0, []⟩, 5) by rw [HE.out, ← HI.out, HX.out, HI.out]; rfl)
        obtain ⟨y0, y1, yf0, yf1⟩ := id hB
        have hO := hG.own (by omega)
        have C5 := l05Ok_any (.pointer (some ⟨rb, 0, none⟩)) ⟨(K : Int), rows⟩ wo ⟨rb, _, rfl, y0, y1, hO.at⟩
        cases hok : roadsOk ⟨(K : Int), rows⟩ with
        | false =>
          rw [hok] at C5
          have HR5 := hid (show R = (⟨0, []⟩, 5) by rw [HE1.out, if_neg (by rw [hok]; simp)])
          clear hok
          go_wp2_with fail
          refine C5.mono ?_
          rintro e w6 ⟨rfl, hn6⟩
          have hR6 := hRo.new hn6
          have hN6 := hNo.trans hn6
          obtain ⟨x0, x1, xf0, xf1⟩ := id hR6
          go_wp2_with fail
          obtain ⟨g0, g1, _, _⟩ := hR6.fill (.int .i64 0) (.slice none 0 0)
          refine bodyPost_ret (v := .tuple #[.agg #[.int .i64 0, .slice none 0 0], .int .i64 5]) (by simp [results, Tryd.results4, go_sem, g0, g1]) rfl ?_
          rw [HR5.out]
          exact KEY.out _ 5 (New.fill hN6 (Nat.le_refl _) _ _)
        | true =>
          rw [hok] at C5
          have HR5 := hid (show R = (⟨(K : Int), rows⟩, 0) by rw [HE1.out, if_pos hok])
          clear hok
          go_wp2_with fail
          refine C5.mono ?_
          rintro e w6 ⟨rfl, hn6⟩
          have hR6 := hRo.new hn6
          have hN6 := hNo.trans hn6
          obtain ⟨x0, x1, xf0, xf1⟩ := id hR6
          obtain ⟨z0, z1, zf0, zf1⟩ := hB.new hn6
          go_wp2_with fail
          obtain ⟨g0, g1, _, _⟩ := hR6.fill (.int .i64 K) (.slice Av rows.length cv)
          refine bodyPost_ret (v := .tuple #[.agg #[.int .i64 K, .slice Av rows.length cv], .int .i64 0]) (by simp [results, Tryd.results4, go_sem, g0, g1]) rfl ?_
          rw [HR5.out]
          have hW := Within.fill w6 w.heap.size (.int .i64 K) (.slice Av rows.length cv)
          have hO6 := (hO.new hn6).within hW (Or.inr (by omega))
          have hs6 := hn6.size
          exact ⟨_, rfl, New.fill hN6 (Nat.le_refl _) _ _, _, rfl, hO6.widen (by omega) (Nat.le_trans hs6 hW.2.2.2.1)⟩
  · have HE := hid (HEL.out hem)
    have hq : X.toList.isEmpty = false := by
      rw [toList_data, hXd]
      cases e : DL[K] with
      | nil => exact absurd e hem
      | cons a l => rfl
    clear hXd hem
    go_wp2_with fail
    obtain ⟨g0, g1, _, _⟩ := hR3.fill (.int .i64 0) (.slice none 0 0)
    refine bodyPost_ret (v := .tuple #[.agg #[.int .i64 0, .slice none 0 0], .int .i64 5]) (by simp [results, Tryd.results4, go_sem, g0, g1]) rfl ?_
    rw [HE.out]
    exact KEY.out _ 5 (New.fill HN3.out (Nat.le_refl _) _ _)

end Go.Proofs.YthbebnfhplacnaaDoor
