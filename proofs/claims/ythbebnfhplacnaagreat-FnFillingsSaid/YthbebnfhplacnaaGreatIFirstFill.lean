/- The program's first filling that has a reset word. -/
import Derived.Test.YthbebnfhplacnaaGreatRows
import Derived.Test.YthbebnfhplacnaaGreatCore
import Derived.Test.YthbebnfhplacnaaGreatInfos
import Derived.Test.YthbebnfhplacnaaGreatPlains
import Derived.Test.YthbebnfhplacnaaGreatDrawT
import Derived.Test.YthbebnfhplacnaaGreatPlainReset
import Derived.Test.YthbebnfhplacnaaGreatPlainFill
import Derived.Test.YthbebnfhplacnaaGreatMaps
import Derived.Test.YthbebnfhplacnaaGreatArrs
import Derived.Test.YthbebnfhplacnaaGreatI04a
import Derived.Test.YthbebnfhplacnaaGreatITours
import Derived.Test.YthbebnfhplacnaaGreatGapsG
import Derived.Test.YthbebnfhplacnaaGreatIFilled
import Derived.Test.YthbebnfhplacnaaGreatIFills
import Derived.Test.YthbebnfhplacnaaGreatIQuicks
import Derived.WalkKit
import Derived.WalkSpells
import Derived.WalkLawsBesides
import Derived.Deep.QuietTactic
import Derived.Deep.OwnRows
import Derived.BigQuiet
import Derived.KernelRfl
import Derived.Deep.RegionHeld3
import Derived.Laws.EntriesVeiled
import Derived.Carry
namespace Go.Proofs.YthbebnfhplacnaaGreat
open Go.RowKit

theorem resetOf_no {a : Aut} (ha : autOk a = true) (h : (firstWord smallB (tourOf a.nx (full a.n))).2 = false) : ShortestReset a = ([], 6) := by
  unfold ShortestReset
  rw [if_pos ha]
  unfold told
  rw [if_neg (by rw [h]; simp)]
theorem resetOf_yes {a : Aut} (ha : autOk a = true) (h : (firstWord smallB (tourOf a.nx (full a.n))).2 = true) : ShortestReset a = ((firstWord smallB (tourOf a.nx (full a.n))).1, 0) := by
  unfold ShortestReset
  rw [if_pos ha]
  unfold told
  rw [if_pos h]
theorem OwnRows.butD {S : Nat → Prop} {B E : Nat} {w w' : World} {v : Value} {xss : List (List Int)} (h : OwnRows B E w v xss) (hb : But S w w') (hS : ∀ q, S q → q < B ∨ E ≤ q) : OwnRows B E w' v xss := by
  obtain ⟨A, c, rv, rfl, hl, ha, hc, hd⟩ := h
  refine ⟨A, c, rv, rfl, hl, ha, fun i hi => ?_, hd⟩
  obtain ⟨⟨b, off, rfl, hx, hne⟩, hr⟩ := hc i hi
  have h1 := ha _ rfl
  have hn : ¬ S b := fun q => by have := hS _ q; simp only at h1; omega
  exact ⟨⟨b, off, rfl, hb.cell hx hn, hne⟩, hr.butD hb hS⟩
theorem Box2.but {S : Nat → Prop} {w w' : World} {b : Nat} {u v : Value} (h : Box2 w b u v) (hb : But S w w') (hS : ¬ S b) : Box2 w' b u v :=
  ⟨hb.cell h.1 hS, hb.cell h.2.1 hS, by rw [hb.frozen h.1 hS]; exact h.2.2.1, by rw [hb.frozen h.2.1 hS]; exact h.2.2.2⟩
/-- What the function that is called for all fillings keeps: the first one that has a reset word. -/
def FillSt (p : Aut) (ob fb lo sb n : Nat) (w : World) : Prop :=
  (hitTo (fillW p) n < 0 → Box2 w ob (.int .i64 0) (.slice none 0 0) ∧ Box1 w fb (.bool false)) ∧
  (0 ≤ hitTo (fillW p) n → ∃ rv B E, lo ≤ B ∧ sb < B ∧ E ≤ w.heap.size ∧ Box2 w ob (.int .i64 p.n) rv ∧ Box1 w fb (.bool true) ∧ OwnRows B E w rv (fillN p (hitTo (fillW p) n).toNat).nx)
set_option maxRecDepth 20000 in
set_option maxHeartbeats 1000000 in
theorem FirstFilling1_any (p : Aut) (hf : PartFacts p) (n ob fb B : Nat) (w : World) (a : Value) (hob : ob < B) (hfb : fb < B) (hne : ob ≠ fb) (h1 : Box2 w ob (.int .i64 0) (.slice none 0 0)) (h2 : Box1 w fb (.bool false)) (ho : OwnAut B w.heap.size w a (fillN p n)) :
    Calls Tryz.prog 24 #[a, .pointer (some ⟨ob, 0, none⟩), .pointer (some ⟨fb, 0, none⟩)] w
      fun e w' => e = .returned (.bool (!(fillW p n).2)) ∧ But (fun q => q = ob ∨ q = fb) w w' ∧ ((fillW p n).2 = false → Box2 w' ob (.int .i64 0) (.slice none 0 0) ∧ Box1 w' fb (.bool false)) ∧ ((fillW p n).2 = true → ∃ rv, Box2 w' ob (.int .i64 p.n) rv ∧ Box1 w' fb (.bool true) ∧ OwnRows B w.heap.size w' rv (fillN p n).nx) := by
  obtain ⟨rv, rfl, hr⟩ := ho
  obtain ⟨A, c, rfl⟩ := hr.form
  have ha1 : AutAt w (.agg #[.int .i64 (fillN p n).n, .slice A (fillN p n).nx.length c]) (fillN p n) := ⟨_, rfl, hr.at⟩
  have hok := fillN_ok hf n
  have HN := hid (show (fillN p n).n = p.n from rfl)
  obtain ⟨wb, hwb⟩ : ∃ wb, wb = w.alloc (.cells #[.int .i64 (fillN p n).n, .slice A (fillN p n).nx.length c] 31) := ⟨_, rfl⟩
  have hnb : New w wb := by rw [hwb]; exact (by repeat (first | with_reducible exact New.refl _ | with_reducible assumption | with_reducible refine New.alloc ?_ _ | with_reducible refine New.drewN ?_ _ | with_reducible refine New.drew ?_ | with_reducible refine New.trans ?_ (by with_reducible assumption)))
  have hb0 : wb.cell? ⟨w.heap.size, 0, none⟩ = some (.int .i64 (fillN p n).n) := by rw [hwb]; go_simp
  have hb1 : wb.cell? ⟨w.heap.size, 1, none⟩ = some (.slice A (fillN p n).nx.length c) := by rw [hwb]; go_simp
  have C1 := implShortestReset_any _ (fillN p n) wb (ha1.new hnb)
  have hbw : ob < w.heap.size := h1.lt
  have hfw : fb < w.heap.size := h2.lt
  cases hb : (fillW p n).2 with
  | false =>
    rw [resetOf_no hok hb] at C1
    clear hb hok
    go_enter Tryz.func24, Tryz.ntmps24
    go_wp2_with fail
    rw [← hwb]
    clear hwb
    go_wp2_with fail
    refine C1.mono ?_
    rintro e w1 ⟨q, rfl, hn1, ho1⟩
    obtain ⟨A1, c1, rfl⟩ := ho1.form
    have hnw := hnb.trans hn1
    obtain ⟨y0, _⟩ := id (h2.new hnw)
    go_wp2_with fail
    go_ret
    exact ⟨rfl, But.of_new hnw, fun _ => ⟨h1.new hnw, h2.new hnw⟩, fun h => by cases h⟩
  | true =>
    have hF := resetOf_yes hok hb
    obtain ⟨W1, hW1⟩ : ∃ z, z = ShortestReset (fillN p n) := ⟨_, rfl⟩
    have hW2 : W1.2 = 0 := by rw [hW1, hF]
    rw [← hW1, hW2] at C1
    clear hb hok hF hW1 hW2
    obtain ⟨FN, hFN⟩ : ∃ z, z = fillN p n := ⟨_, rfl⟩
    rw [← hFN] at hr hb0 hb1 HN C1 hwb ⊢
    have HR := hid hr
    clear hFN hr ha1
    go_enter Tryz.func24, Tryz.ntmps24
    go_wp2_with fail
    rw [← hwb]
    clear hwb
    go_wp2_with fail
    refine C1.mono ?_
    rintro e w1 ⟨q, rfl, hn1, ho1⟩
    obtain ⟨A1, c1, rfl⟩ := ho1.form
    have hnw := hnb.trans hn1
    obtain ⟨y0, yf0⟩ := id (h2.new hnw)
    have hO := h1.new hnw
    obtain ⟨x0, x1, xf0, xf1⟩ := id hO
    have z0 := hn1.cell hb0
    have z1 := hn1.cell hb1
    have HO2 := hid (hO.fill (.int .i64 FN.n) (.slice A FN.nx.length c))
    have HW := hid (Within.fill w1 ob (.int .i64 FN.n) (.slice A FN.nx.length c))
    have hF2 : Box1 ((w1.setCell ⟨ob, 0, none⟩ (.int .i64 FN.n)).setCell ⟨ob, 1, none⟩ (.slice A FN.nx.length c)) fb (.bool false) := (h2.new hnw).but (HW.out.but1) (fun e => hne e.symm)
    have HF2 := hid hF2
    obtain ⟨s0, sf0⟩ := id hF2
    clear hF2
    go_wp2_with fail
    go_ret
    have hbf : But (fun q => q = ob ∨ q = fb) w ((((w1.setCell ⟨ob, 0, none⟩ (.int .i64 FN.n)).setCell ⟨ob, 1, none⟩ (.slice A FN.nx.length c))).setCell ⟨fb, 0, none⟩ (.bool true)) :=
      ((But.of_new hnw).trans (HW.out.but1.mono (fun q hq => Or.inl hq)) (fun q hq => Or.inl hq)).trans (But.setCell (S := fun q => q = ob ∨ q = fb) ⟨fb, 0, none⟩ _ (Or.inr rfl)) (fun q hq => Or.inl hq)
    refine ⟨rfl, hbf, (fun h => by cases h), fun _ => ⟨_, ?_, HF2.out.set _, HR.out.butD hbf (fun q hq => by omega)⟩⟩
    rw [← HN.out]
    exact HO2.out.other ⟨fb, 0, none⟩ (by show fb ≠ ob; omega) _
set_option maxRecDepth 20000 in
set_option maxHeartbeats 1000000 in
theorem implFirstFilling_any (v : Value) (p : Aut) (w : World) (h : AutAt w v p) :
    Calls Tryz.prog 7 #[v] w fun e w' => ∃ q, e = .returned (.tuple #[q, .int .i64 (FirstFilling p).2]) ∧ New w w' ∧ OwnAut w.heap.size w'.heap.size w' q (FirstFilling p).1 := by
  obtain ⟨rv, rfl, hr⟩ := h
  obtain ⟨A, c, rfl⟩ := hr.form
  have h1 : AutAt w (.agg #[.int .i64 p.n, .slice A p.nx.length c]) p := ⟨_, rfl, hr⟩
  obtain ⟨wb, hwb⟩ : ∃ wb, wb = (w.alloc (.cells #[.int .i64 p.n, .slice A p.nx.length c] 26)).alloc (.cells #[.int .i64 0, .slice none 0 0] 31) := ⟨_, rfl⟩
  have hnb : New w wb := by rw [hwb]; exact (by repeat (first | with_reducible exact New.refl _ | with_reducible assumption | with_reducible refine New.alloc ?_ _ | with_reducible refine New.drewN ?_ _ | with_reducible refine New.drew ?_ | with_reducible refine New.trans ?_ (by with_reducible assumption)))
  have hb0 : wb.cell? ⟨w.heap.size, 0, none⟩ = some (.int .i64 p.n) := by rw [hwb]; go_simp
  have hb1 : wb.cell? ⟨w.heap.size, 1, none⟩ = some (.slice A p.nx.length c) := by rw [hwb]; go_simp
  have hR : Box2 wb (w.heap.size + 1) (.int .i64 0) (.slice none 0 0) := by rw [hwb]; exact ⟨by go_simp, by go_simp, by go_simp, by go_simp⟩
  have C1 := ValidPartial_any _ p wb (h1.new hnb)
  obtain ⟨R, hRR⟩ : ∃ R, R = FirstFilling p := ⟨_, rfl⟩
  rw [← hRR]
  unfold FirstFilling at hRR
  have HR := hid hRR
  clear hRR
  have key := fun (w1 : World) (z : Int) (hn : New w w1) => (show ∃ q, (Ending.returned (.tuple #[.agg #[.int .i64 0, .slice none 0 0], .int .i64 z])) = .returned (.tuple #[q, .int .i64 z]) ∧ New w ((w1.setCell ⟨w.heap.size + 1, 0, none⟩ (.int .i64 0)).setCell ⟨w.heap.size + 1, 1, none⟩ (.slice none 0 0)) ∧ OwnAut w.heap.size ((w1.setCell ⟨w.heap.size + 1, 0, none⟩ (.int .i64 0)).setCell ⟨w.heap.size + 1, 1, none⟩ (.slice none 0 0)).heap.size ((w1.setCell ⟨w.heap.size + 1, 0, none⟩ (.int .i64 0)).setCell ⟨w.heap.size + 1, 1, none⟩ (.slice none 0 0)) q (⟨0, []⟩ : Aut) from
    ⟨_, rfl, New.fill hn (by omega) _ _, _, rfl, none, 0, fun _ => default, rfl, by simp, by simp, by simp, by simp⟩)
  have KEY := hid key
  clear key
  cases hok : partOk p with
  | false =>
    rw [hok] at C1
    have HE := hid (show R = (⟨0, []⟩, 1) by rw [HR.out, hok]; rfl)
    go_enter Tryz.func7, Tryz.ntmps7
    go_wp2_with fail
    rw [← hwb]
    clear hwb
    go_wp2_with fail
    refine C1.mono ?_
    rintro e w1 ⟨rfl, hn1⟩
    have hR1 := hR.new hn1
    obtain ⟨x0, x1, xf0, xf1⟩ := id hR1
    obtain ⟨t0, t1, _, _⟩ := hR1.fill (.int .i64 0) (.slice none 0 0)
    go_wp2_with fail
    refine bodyPost_ret (v := .tuple #[.agg #[.int .i64 0, .slice none 0 0], .int .i64 1]) (by simp [results, Tryz.results7, go_sem, t0, t1]) rfl ?_
    rw [HE.out]
    exact KEY.out w1 1 (hnb.trans hn1)
  | true =>
    rw [hok] at C1
    have hf := part_facts hok
    have HE0 := hid (show R = (if 5000 < fillCount p then (⟨0, []⟩, 3) else (if hitTo (fillW p) (fillCount p) < 0 then (⟨0, []⟩, 6) else (fillN p (hitTo (fillW p) (fillCount p)).toNat, 0))) by rw [HR.out, if_pos hok])
    have HFL := hid (fun (w2 : World) (ob fb : Nat) (hn : New w w2) (hob : ob < w2.heap.size) (hfb : fb < w2.heap.size) (how : w.heap.size ≤ ob) (hfw : w.heap.size ≤ fb) (hne : ob ≠ fb) (k1 : Box2 w2 ob (.int .i64 0) (.slice none 0 0)) (k2 : Box1 w2 fb (.bool false)) =>
      fillings_any (.agg #[.int .i64 p.n, .slice A p.nx.length c]) p w w2 24 #[.pointer (some ⟨ob, 0, none⟩), .pointer (some ⟨fb, 0, none⟩)] h1 hn (enters Tryz.func24 (by decide) (by simp [Tryz.f24])) hf
        (fun q => q = ob ∨ q = fb) (fun q hq => by rcases hq with rfl | rfl <;> omega)
        (fun sb n w3 => FillSt p ob fb w.heap.size sb n w3) (fun n => !(fillW p n).2)
        (fun sb n w3 w4 hsb hI hb => by
          have hz := hb.size
          refine ⟨fun hq => ⟨(hI.1 hq).1.but hb (by show ¬ ob = sb; omega), (hI.1 hq).2.but hb (by show ¬ fb = sb; omega)⟩, fun hq => ?_⟩
          obtain ⟨rv, B, E, g1, g2, g3, g4, g5, g6⟩ := hI.2 hq
          exact ⟨rv, B, E, g1, g2, by omega, g4.but hb (by show ¬ ob = sb; omega), g5.but hb (by show ¬ fb = sb; omega), g6.butD hb (fun q hq => by omega)⟩)
        (fun sb n w3 B a hsb hsB hn hgo hI ha => by
          have hneg := (hitTo_neg (fillW p) n).2 (fun m hm => by have := hgo m hm; simpa using this)
          obtain ⟨i1, i2⟩ := hI.1 hneg
          refine (FirstFilling1_any p hf n ob fb B w3 a (by omega) (by omega) hne i1 i2 ha).mono fun e w4 ⟨j1, j2, j3, j4⟩ => ⟨j1, j2, fun hq => ?_, fun hq => ?_⟩
          · cases hb : (fillW p n).2 with
            | false => exact j3 hb
            | true => rw [hitTo_yes hneg hb] at hq; omega
          · cases hb : (fillW p n).2 with
            | false => rw [hitTo_no hb] at hq; omega
            | true =>
              rw [hitTo_yes hneg hb]
              obtain ⟨rv, l1, l2, l3⟩ := j4 hb
              exact ⟨rv, B, w3.heap.size, by omega, hsB, j2.size, l1, l2, by simpa using l3⟩)
        (fun sb hsb => ⟨fun _ => ⟨k1, k2⟩, fun hq => by simp [hitTo] at hq⟩))
    have hEND := hid (fun N hN h => hitTo_end (f := fillW p) (N := N) (C := fillCount p) hN h)
    unfold FillSt at HFL
    clear hok hf
    by_cases h5 : 5000 < fillCount p
    · have HE := hid (show R = (⟨0, []⟩, 3) by rw [HE0.out, if_pos h5])
      rw [show decide (fillCount p ≤ 5000) = false by simp; omega] at HFL
      clear h5
      go_enter Tryz.func7, Tryz.ntmps7
      go_wp2_with fail
      rw [← hwb]
      clear hwb
      go_wp2_with fail
      refine C1.mono ?_
      rintro e w1 ⟨rfl, hn1⟩
      have hR1 := hR.new hn1
      have z0 := hn1.cell hb0
      have z1 := hn1.cell hb1
      obtain ⟨W2, hW2⟩ : ∃ W2, W2 = (w1.alloc (.cells #[.int .i64 0, .slice none 0 0] 31)).alloc (.cells #[.bool false] 4) := ⟨_, rfl⟩
      have hn2 : New w1 W2 := by rw [hW2]; exact (by repeat (first | with_reducible exact New.refl _ | with_reducible assumption | with_reducible refine New.alloc ?_ _ | with_reducible refine New.drewN ?_ _ | with_reducible refine New.drew ?_ | with_reducible refine New.trans ?_ (by with_reducible assumption)))
      have k1 : Box2 W2 w1.heap.size (.int .i64 0) (.slice none 0 0) := by rw [hW2]; exact ⟨by go_simp, by go_simp, by go_simp, by go_simp⟩
      have k2 : Box1 W2 (w1.heap.size + 1) (.bool false) := by rw [hW2]; exact ⟨by go_simp, by go_simp⟩
      have hzw : w.heap.size + 2 ≤ w1.heap.size := by have := hR1.lt; omega
      have lz : w.heap.size < w1.heap.size := by omega
      have p0 := hn2.cell z0
      have p1 := hn2.cell z1
      have hN2 := (hnb.trans hn1).trans hn2
      have hR2 := hR1.new hn2
      have HX := hid (HFL.out W2 w1.heap.size (w1.heap.size + 1) hN2 k1.lt k2.lt (by omega) (by omega) (by omega) k1 k2)
      go_wp2_with fail
      rw [← hW2]
      clear hW2 k1 k2 HFL
      refine HX.out.mono ?_
      rintro e w3 ⟨sb, hsb, rfl, hbt, hbig, hgood⟩
      have hN3 : New w w3 := But.new hN2 hbt (fun q hq => by omega)
      have hR3 := hR2.but hbt (by show ¬ (w.heap.size + 1 = w1.heap.size ∨ w.heap.size + 1 = w1.heap.size + 1); omega)
      obtain ⟨x0, x1, xf0, xf1⟩ := id hR3
      clear HX
      clear hbig hgood
      obtain ⟨t0, t1, _, _⟩ := hR3.fill (.int .i64 0) (.slice none 0 0)
      go_wp2_with fail
      refine bodyPost_ret (v := .tuple #[.agg #[.int .i64 0, .slice none 0 0], .int .i64 3]) (by simp [results, Tryz.results7, go_sem, t0, t1]) rfl ?_
      rw [HE.out]
      exact KEY.out w3 3 hN3
    · rw [show decide (fillCount p ≤ 5000) = true by simp; omega] at HFL
      have HE1 := hid (show R = (if hitTo (fillW p) (fillCount p) < 0 then (⟨0, []⟩, 6) else (fillN p (hitTo (fillW p) (fillCount p)).toNat, 0)) by rw [HE0.out, if_neg h5])
      have H5 := hid h5
      clear h5
      by_cases hneg : hitTo (fillW p) (fillCount p) < 0
      · have HE := hid (show R = (⟨0, []⟩, 6) by rw [HE1.out, if_pos hneg])
        have HN := hid hneg
        clear hneg
        go_enter Tryz.func7, Tryz.ntmps7
        go_wp2_with fail
        rw [← hwb]
        clear hwb
        go_wp2_with fail
        refine C1.mono ?_
        rintro e w1 ⟨rfl, hn1⟩
        have hR1 := hR.new hn1
        have z0 := hn1.cell hb0
        have z1 := hn1.cell hb1
        obtain ⟨W2, hW2⟩ : ∃ W2, W2 = (w1.alloc (.cells #[.int .i64 0, .slice none 0 0] 31)).alloc (.cells #[.bool false] 4) := ⟨_, rfl⟩
        have hn2 : New w1 W2 := by rw [hW2]; exact (by repeat (first | with_reducible exact New.refl _ | with_reducible assumption | with_reducible refine New.alloc ?_ _ | with_reducible refine New.drewN ?_ _ | with_reducible refine New.drew ?_ | with_reducible refine New.trans ?_ (by with_reducible assumption)))
        have k1 : Box2 W2 w1.heap.size (.int .i64 0) (.slice none 0 0) := by rw [hW2]; exact ⟨by go_simp, by go_simp, by go_simp, by go_simp⟩
        have k2 : Box1 W2 (w1.heap.size + 1) (.bool false) := by rw [hW2]; exact ⟨by go_simp, by go_simp⟩
        have hzw : w.heap.size + 2 ≤ w1.heap.size := by have := hR1.lt; omega
        have lz : w.heap.size < w1.heap.size := by omega
        have p0 := hn2.cell z0
        have p1 := hn2.cell z1
        have hN2 := (hnb.trans hn1).trans hn2
        have hR2 := hR1.new hn2
        have HX := hid (HFL.out W2 w1.heap.size (w1.heap.size + 1) hN2 k1.lt k2.lt (by omega) (by omega) (by omega) k1 k2)
        go_wp2_with fail
        rw [← hW2]
        clear hW2 k1 k2 HFL
        refine HX.out.mono ?_
        rintro e w3 ⟨sb, hsb, rfl, hbt, hbig, hgood⟩
        have hN3 : New w w3 := But.new hN2 hbt (fun q hq => by omega)
        have hR3 := hR2.but hbt (by show ¬ (w.heap.size + 1 = w1.heap.size ∨ w.heap.size + 1 = w1.heap.size + 1); omega)
        obtain ⟨x0, x1, xf0, xf1⟩ := id hR3
        clear HX
        obtain ⟨N, hN1, hI, _, hN2'⟩ := hgood (by have := H5.out; omega)
        rw [hEND.out N hN1 hN2'] at hI
        obtain ⟨_, y0, yf0⟩ := hI.1 HN.out
        clear hbig hgood hI hN2'
        obtain ⟨t0, t1, _, _⟩ := hR3.fill (.int .i64 0) (.slice none 0 0)
        go_wp2_with fail
        refine bodyPost_ret (v := .tuple #[.agg #[.int .i64 0, .slice none 0 0], .int .i64 6]) (by simp [results, Tryz.results7, go_sem, t0, t1]) rfl ?_
        rw [HE.out]
        exact KEY.out w3 6 hN3
      · have HE := hid (show R = (fillN p (hitTo (fillW p) (fillCount p)).toNat, 0) by rw [HE1.out, if_neg hneg])
        have HN := hid (show 0 ≤ hitTo (fillW p) (fillCount p) by omega)
        clear hneg
        go_enter Tryz.func7, Tryz.ntmps7
        go_wp2_with fail
        rw [← hwb]
        clear hwb
        go_wp2_with fail
        refine C1.mono ?_
        rintro e w1 ⟨rfl, hn1⟩
        have hR1 := hR.new hn1
        have z0 := hn1.cell hb0
        have z1 := hn1.cell hb1
        obtain ⟨W2, hW2⟩ : ∃ W2, W2 = (w1.alloc (.cells #[.int .i64 0, .slice none 0 0] 31)).alloc (.cells #[.bool false] 4) := ⟨_, rfl⟩
        have hn2 : New w1 W2 := by rw [hW2]; exact (by repeat (first | with_reducible exact New.refl _ | with_reducible assumption | with_reducible refine New.alloc ?_ _ | with_reducible refine New.drewN ?_ _ | with_reducible refine New.drew ?_ | with_reducible refine New.trans ?_ (by with_reducible assumption)))
        have k1 : Box2 W2 w1.heap.size (.int .i64 0) (.slice none 0 0) := by rw [hW2]; exact ⟨by go_simp, by go_simp, by go_simp, by go_simp⟩
        have k2 : Box1 W2 (w1.heap.size + 1) (.bool false) := by rw [hW2]; exact ⟨by go_simp, by go_simp⟩
        have hzw : w.heap.size + 2 ≤ w1.heap.size := by have := hR1.lt; omega
        have lz : w.heap.size < w1.heap.size := by omega
        have p0 := hn2.cell z0
        have p1 := hn2.cell z1
        have hN2 := (hnb.trans hn1).trans hn2
        have hR2 := hR1.new hn2
        have HX := hid (HFL.out W2 w1.heap.size (w1.heap.size + 1) hN2 k1.lt k2.lt (by omega) (by omega) (by omega) k1 k2)
        go_wp2_with fail
        rw [← hW2]
        clear hW2 k1 k2 HFL
        refine HX.out.mono ?_
        rintro e w3 ⟨sb, hsb, rfl, hbt, hbig, hgood⟩
        have hN3 : New w w3 := But.new hN2 hbt (fun q hq => by omega)
        have hR3 := hR2.but hbt (by show ¬ (w.heap.size + 1 = w1.heap.size ∨ w.heap.size + 1 = w1.heap.size + 1); omega)
        obtain ⟨x0, x1, xf0, xf1⟩ := id hR3
        clear HX
        obtain ⟨N, hN1, hI, _, hN2'⟩ := hgood (by have := H5.out; omega)
        rw [hEND.out N hN1 hN2'] at hI
        obtain ⟨rv, B, E, g1, g2, g3, g4, ⟨y0, yf0⟩, g6⟩ := hI.2 HN.out
        have HO := hid g6
        obtain ⟨AR, cR, rfl⟩ := g6.form
        obtain ⟨FN, hFN⟩ : ∃ z, z = fillN p (hitTo (fillW p) (fillCount p)).toNat := ⟨_, rfl⟩
        have hFNn : FN.n = p.n := by rw [hFN]; rfl
        have HFNn := hid hFNn
        rw [← hFN] at HE HO g4
        obtain ⟨q0, q1, _, _⟩ := id g4
        clear hbig hgood hI hN2' g6 hFN hFNn
        obtain ⟨t0, t1, _, _⟩ := hR3.fill (.int .i64 p.n) (.slice AR FN.nx.length cR)
        have HWF := hid (Within.fill w3 (w.heap.size + 1) (.int .i64 p.n) (.slice AR FN.nx.length cR))
        go_wp2_with fail
        refine bodyPost_ret (v := .tuple #[.agg #[.int .i64 p.n, .slice AR FN.nx.length cR], .int .i64 0]) (by simp [results, Tryz.results7, go_sem, t0, t1]) rfl ?_
        rw [HE.out]
        have hz2 : W2.heap.size ≤ sb := hsb
        have hz1 := hn2.size
        exact ⟨_, rfl, hN3.within HWF.out (by omega), ⟨_, by rw [HFNn.out], (HO.out.within HWF.out (Or.inr (by omega))).widen g1 (by have := HWF.out.2.2.2.1; omega)⟩⟩

end Go.Proofs.YthbebnfhplacnaaGreat
