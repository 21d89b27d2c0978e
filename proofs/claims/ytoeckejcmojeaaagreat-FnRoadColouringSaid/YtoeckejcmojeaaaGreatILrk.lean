/- The program's least rank of a colouring; whether some colouring can be reset; the rank. -/
import Derived.Test.YtoeckejcmojeaaaGreatRows
import Derived.Test.YtoeckejcmojeaaaGreatCore
import Derived.Test.YtoeckejcmojeaaaGreatInfos
import Derived.Test.YtoeckejcmojeaaaGreatPlains
import Derived.Test.YtoeckejcmojeaaaGreatJoins
import Derived.Test.YtoeckejcmojeaaaGreatQuicks
import Derived.Test.YtoeckejcmojeaaaGreatPlainReset
import Derived.Test.YtoeckejcmojeaaaGreatPOrds
import Derived.Test.YtoeckejcmojeaaaGreatPMerg
import Derived.Test.YtoeckejcmojeaaaGreatPKerns
import Derived.Test.YtoeckejcmojeaaaGreatPTrah
import Derived.Test.YtoeckejcmojeaaaGreatMaps
import Derived.Test.YtoeckejcmojeaaaGreatArrs
import Derived.Test.YtoeckejcmojeaaaGreatIArrs
import Derived.Test.YtoeckejcmojeaaaGreatIAt
import Derived.Test.YtoeckejcmojeaaaGreatIRdss
import Derived.Test.YtoeckejcmojeaaaGreatICol
import Derived.Test.YtoeckejcmojeaaaGreatITours
import Derived.Test.YtoeckejcmojeaaaGreatIQuicks
import Derived.Test.YtoeckejcmojeaaaGreatIBase
import Derived.Test.YtoeckejcmojeaaaGreatISorts
import Derived.WalkKit
import Derived.WalkSpells
import Derived.WalkLawsBesides
import Derived.Deep.QuietTactic
import Derived.Deep.OwnRows
import Derived.BigQuiet
import Derived.KernelRfl
import Derived.Carry
import Derived.Deep.RegionHeld3
import Derived.Laws.EntriesVeiled
namespace Go.Proofs.YtoeckejcmojeaaaGreat
open Go.RowKit

set_option maxRecDepth 20000 in
set_option maxHeartbeats 1000000 in
theorem LeastRank1_any (r : Aut) (hf : RoadsFacts r) (n lb fb : Nat) (w : World) (_hn : n ≤ 279936) (hne : lb ≠ fb) (h1 : Box1 w lb (.int .i64 ((lrTo (rkN r) n).1 : Nat))) (h2 : Box1 w fb (.int .i64 ((lrTo (rkN r) n).2 : Nat))) :
    Calls Tryz.prog 64 #[.int .i64 (n : Nat), .int .i64 (surveyOf (colN r n)).1, .int .i64 (surveyOf (colN r n)).2, .pointer (some ⟨lb, 0, none⟩), .pointer (some ⟨fb, 0, none⟩)] w
      fun e w' => e = .returned (.bool (decide (1 < (lrTo (rkN r) (n + 1)).1))) ∧ But (fun q => q = lb ∨ q = fb) w w' ∧ Box1 w' lb (.int .i64 ((lrTo (rkN r) (n + 1)).1 : Nat)) ∧ Box1 w' fb (.int .i64 ((lrTo (rkN r) (n + 1)).2 : Nat)) := by
  rw [rkN_survey hf n]
  obtain ⟨S2, hS2⟩ : ∃ z, z = (surveyOf (colN r n)).2 := ⟨_, rfl⟩
  rw [← hS2]
  clear hS2
  obtain ⟨f, hff⟩ : ∃ f, f = rkN r := ⟨_, rfl⟩
  rw [← hff] at h1 h2 ⊢
  clear hff
  have HY := hid (fun h => lr_yes (f := f) (n := n) h)
  have HNO := hid (fun h => lr_no (f := f) (n := n) h)
  obtain ⟨K, hK⟩ : ∃ K, K = f n := ⟨_, rfl⟩
  obtain ⟨L0, hL0⟩ : ∃ L0, L0 = (lrTo f n).1 := ⟨_, rfl⟩
  obtain ⟨M0, hM0⟩ : ∃ M0, M0 = (lrTo f n).2 := ⟨_, rfl⟩
  have HPR := hid (show lrTo f n = (L0, M0) by rw [hL0, hM0])
  rw [← hK, ← hL0] at HY HNO
  rw [← hL0] at h1
  rw [← hM0] at h2
  obtain ⟨c1, f1⟩ := id h1
  obtain ⟨c2, f2⟩ := id h2
  rw [← hK]
  clear hK hL0 hM0
  by_cases hlt : K < L0
  · have HE := hid (HY.out hlt)
    have hlti : (K : Int) < (L0 : Int) := by omega
    rw [HE.out]
    by_cases h9 : 1 < K
    · have b9 : (1 : Int) < (K : Int) := by omega
      rw [decide_eq_true h9]
      clear HY HNO hlt h9
      go_enter Tryz.func64, Tryz.ntmps64
      go_wp2_with fail
      go_ret
      refine ⟨rfl, ?_, ?_, ?_⟩
      · exact (But.setCell (S := fun q => q = lb ∨ q = fb) ⟨lb, 0, none⟩ _ (Or.inl rfl)).trans (But.setCell (S := fun q => q = lb ∨ q = fb) ⟨fb, 0, none⟩ _ (Or.inr rfl)) (fun q hq => Or.inl hq)
      · exact (h1.set _).but (But.setCell (S := fun q => q = fb) ⟨fb, 0, none⟩ _ rfl) (fun e => hne e)
      · exact (h2.but (But.setCell (S := fun q => q = lb) ⟨lb, 0, none⟩ _ rfl) (fun e => hne e.symm)).set _
    · have b9 : ¬ (1 : Int) < (K : Int) := by omega
      rw [decide_eq_false h9]
      clear HY HNO hlt h9
      go_enter Tryz.func64, Tryz.ntmps64
      go_wp2_with fail
      go_ret
      refine ⟨rfl, ?_, ?_, ?_⟩
      · exact (But.setCell (S := fun q => q = lb ∨ q = fb) ⟨lb, 0, none⟩ _ (Or.inl rfl)).trans (But.setCell (S := fun q => q = lb ∨ q = fb) ⟨fb, 0, none⟩ _ (Or.inr rfl)) (fun q hq => Or.inl hq)
      · exact (h1.set _).but (But.setCell (S := fun q => q = fb) ⟨fb, 0, none⟩ _ rfl) (fun e => hne e)
      · exact (h2.but (But.setCell (S := fun q => q = lb) ⟨lb, 0, none⟩ _ rfl) (fun e => hne e.symm)).set _
  · have HE := hid (HNO.out hlt)
    have hlti : ¬ (K : Int) < (L0 : Int) := by omega
    rw [HE.out, HPR.out]
    by_cases h9 : 1 < L0
    · have b9 : (1 : Int) < (L0 : Int) := by omega
      rw [decide_eq_true h9]
      clear HY HNO hlt h9
      go_enter Tryz.func64, Tryz.ntmps64
      go_wp2_with fail
      go_ret
      exact ⟨rfl, But.refl, h1, h2⟩
    · have b9 : ¬ (1 : Int) < (L0 : Int) := by omega
      rw [decide_eq_false h9]
      clear HY HNO hlt h9
      go_enter Tryz.func64, Tryz.ntmps64
      go_wp2_with fail
      go_ret
      exact ⟨rfl, But.refl, h1, h2⟩
set_option maxRecDepth 20000 in
set_option maxHeartbeats 2000000 in
theorem implLeastRankColouring_any (v : Value) (r : Aut) (w : World) (h : AutAt w v r) :
    Calls Tryz.prog 22 #[v] w fun e w' => e = .returned (.tuple #[.int .i64 (LeastRank r).1, .int .i64 (LeastRank r).2.1, .int .i64 (LeastRank r).2.2]) ∧ New w w' := by
  obtain ⟨rv, rfl, hr⟩ := h
  obtain ⟨A, c, rfl⟩ := hr.form
  have h1 : AutAt w (.agg #[.int .i64 r.n, .slice A r.nx.length c]) r := ⟨_, rfl, hr⟩
  obtain ⟨wb, hwb⟩ : ∃ wb, wb = ((w.alloc (.cells #[.int .i64 r.n, .slice A r.nx.length c] 47)).alloc (.cells #[.int .i64 8] 2)).alloc (.cells #[.int .i64 0] 2) := ⟨_, rfl⟩
  have hnb : New w wb := by rw [hwb]; exact (by repeat (first | with_reducible exact New.refl _ | with_reducible assumption | with_reducible refine New.alloc ?_ _ | with_reducible refine New.drewN ?_ _ | with_reducible refine New.drew ?_ | with_reducible refine New.trans ?_ (by with_reducible assumption)))
  have hzb : wb.heap.size = w.heap.size + 3 := by rw [hwb]; simp only [size_alloc]
  have hb0 : wb.cell? ⟨w.heap.size, 0, none⟩ = some (.int .i64 r.n) := by rw [hwb]; go_simp
  have hb1 : wb.cell? ⟨w.heap.size, 1, none⟩ = some (.slice A r.nx.length c) := by rw [hwb]; go_simp
  have hx1 : Box1 wb (w.heap.size + 1) (.int .i64 8) := by rw [hwb]; exact ⟨by go_simp, by go_simp⟩
  have hx2 : Box1 wb (w.heap.size + 1 + 1) (.int .i64 0) := by rw [hwb]; exact ⟨by go_simp, by go_simp⟩
  have HC := hid (colourings_any _ r w wb 64 #[.pointer (some ⟨w.heap.size + 1, 0, none⟩), .pointer (some ⟨w.heap.size + 1 + 1, 0, none⟩)] h1 hnb (enters Tryz.func64 (by decide) (by simp [Tryz.f64]))
    (fun q => q = w.heap.size + 1 ∨ q = w.heap.size + 1 + 1) (fun q hq => by omega)
    (fun n w1 => Box1 w1 (w.heap.size + 1) (.int .i64 ((lrTo (rkN r) n).1 : Nat)) ∧ Box1 w1 (w.heap.size + 1 + 1) (.int .i64 ((lrTo (rkN r) n).2 : Nat))) (fun n => decide (1 < (lrTo (rkN r) (n + 1)).1))
    (fun n w1 w2 hb hn => ⟨hb.1.new hn, hb.2.new hn⟩)
    (fun n w1 hn hf _ hb => (LeastRank1_any r hf n _ _ w1 (by have := colCount_big hf; omega) (by omega) hb.1 hb.2).mono fun e w2 ⟨h1, h2, h3, h4⟩ => ⟨h1, h2, h3, h4⟩)
    ⟨hx1, hx2⟩)
  obtain ⟨R, hR⟩ : ∃ R, R = LeastRank r := ⟨_, rfl⟩
  rw [← hR]
  unfold LeastRank at hR
  have HR := hid hR
  clear hR hzb
  have HF1 := hid (fun (hf : RoadsFacts r) n => (rkN_in hf n).1)
  obtain ⟨F, hFF⟩ : ∃ z, z = rkN r := ⟨_, rfl⟩
  rw [← hFF] at HC HR HF1
  obtain ⟨CD, hCD⟩ : ∃ z, z = colCode r := ⟨_, rfl⟩
  rw [← hCD] at HC
  by_cases hc0 : CD = 0
  · obtain ⟨hok, h5⟩ := colCode_true (hCD.symm.trans hc0)
    have hf := roads_facts hok
    have HE := hid (show R = ((((lrTo F (colCount r)).1 : Nat) : Int), (((lrTo F (colCount r)).2 : Nat) : Int), 0) by rw [HR.out, if_pos hok, if_neg h5])
    subst hc0
    have hEND := hid (fun N hN h => lr_end (f := F) (HF1.out hf) (N := N) (C := colCount r) hN h)
    clear hok h5 hCD HR hFF hf HF1
    obtain ⟨Q, hQ⟩ : ∃ z, z = lrTo F (colCount r) := ⟨_, rfl⟩
    rw [← hQ] at hEND HE
    clear hQ
    go_enter Tryz.func22, Tryz.ntmps22
    go_wp2_with fail
    rw [← hwb]
    clear hwb
    go_wp2_with fail
    refine HC.out.mono ?_
    rintro e w1 ⟨rfl, hbt, _, hok⟩
    obtain ⟨N, hN1, ⟨hI1, hI2⟩, _, hN2⟩ := hok (by trivial)
    rw [hEND.out N hN1 hN2] at hI1 hI2
    obtain ⟨c1, _⟩ := id hI1
    obtain ⟨c2, _⟩ := id hI2
    have hfin : New w w1 := But.new hnb hbt (fun q hq => by omega)
    clear hok hN2 hEND HC
    go_wp2_with fail
    go_region_held3 (fun w' => w'.cell? ⟨w.heap.size + 1, 0, none⟩ = some (.int .i64 (Q.1 : Nat)) ∧ w'.cell? ⟨w.heap.size + 1 + 1, 0, none⟩ = some (.int .i64 (Q.2 : Nat)))
      (first | exact ⟨c1, c2⟩ | go_keep) (fail)
    all_goals go_wp2_with fail
    all_goals refine bodyPost_ret (v := .tuple #[.int .i64 (Q.1 : Nat), .int .i64 (Q.2 : Nat), .int .i64 0]) (by simp [results, Tryz.results22, go_sem]) rfl ?_
    all_goals rw [HE.out]
    all_goals exact ⟨rfl, hfin.trans (by repeat (first | with_reducible exact New.refl _ | with_reducible assumption | with_reducible refine New.alloc ?_ _ | with_reducible refine New.drewN ?_ _ | with_reducible refine New.drew ?_ | with_reducible refine New.trans ?_ (by with_reducible assumption)))⟩
  · have HE : Hid (R = (0, 0, CD)) := by
      have := HR.out
      refine hid ?_
      rw [this, hCD]
      unfold colCode at hCD ⊢
      by_cases h1 : roadsOk r = true
      · rw [if_pos h1] at hCD ⊢
        rw [if_pos h1]
        by_cases h2 : 50000 < colCount r
        · rw [if_pos h2, if_pos h2]
        · rw [if_neg h2] at hCD
          exact absurd hCD hc0
      · rw [if_neg h1, if_neg h1]
    have hcn : (CD == 0) = false := by simpa using hc0
    have hcn2 : (CD != 0) = true := by simpa using hc0
    clear hCD HR
    go_enter Tryz.func22, Tryz.ntmps22
    go_wp2_with fail
    rw [← hwb]
    clear hwb
    go_wp2_with fail
    refine HC.out.mono ?_
    rintro e w1 ⟨rfl, hbt, h00, _⟩
    have hfin : New w w1 := But.new hnb hbt (fun q hq => by omega)
    go_wp2_with fail
    refine bodyPost_ret (v := .tuple #[.int .i64 0, .int .i64 0, .int .i64 CD]) (by simp [results, Tryz.results22, go_sem]) rfl ?_
    rw [HE.out]
    exact ⟨rfl, hfin⟩
set_option maxHeartbeats 1000000 in
theorem implHasReset_any (v : Value) (r : Aut) (w : World) (h : AutAt w v r) :
    Calls Tryz.prog 23 #[v] w fun e w' => e = .returned (.tuple #[.bool (decide ((FirstReset r).2 = 0)), .int .i64 (if (FirstReset r).2 = 6 then 0 else (FirstReset r).2)]) ∧ New w w' := by
  obtain ⟨rv, rfl, hr⟩ := h
  obtain ⟨A, c, rfl⟩ := hr.form
  have h1 : AutAt w (.agg #[.int .i64 r.n, .slice A r.nx.length c]) r := ⟨_, rfl, hr⟩
  have HC := hid (fun w1 (hn : New w w1) => implFirstResetColouring_any _ r w1 (h1.new hn))
  obtain ⟨F, hF⟩ : ∃ F, F = (FirstReset r).1 := ⟨_, rfl⟩
  obtain ⟨K, hK⟩ : ∃ K, K = (FirstReset r).2 := ⟨_, rfl⟩
  rw [← hF, ← hK] at HC
  rw [← hK]
  clear hF hK
  by_cases h6 : K = 6
  · subst h6
    go_enter Tryz.func23, Tryz.ntmps23
    go_wp2_with fail
    refine (HC.out _ (by repeat (first | with_reducible exact New.refl _ | with_reducible assumption | with_reducible refine New.alloc ?_ _ | with_reducible refine New.drewN ?_ _ | with_reducible refine New.drew ?_ | with_reducible refine New.trans ?_ (by with_reducible assumption)))).mono ?_
    rintro e w1 ⟨rfl, hn1⟩
    go_wp2_with fail
    go_ret2
    exact ⟨rfl, New.trans (by repeat (first | with_reducible exact New.refl _ | with_reducible assumption | with_reducible refine New.alloc ?_ _ | with_reducible refine New.drewN ?_ _ | with_reducible refine New.drew ?_ | with_reducible refine New.trans ?_ (by with_reducible assumption))) hn1⟩
  · have b6 : (K == 6) = false := by simpa using h6
    rw [if_neg h6]
    by_cases h0 : K = 0
    · subst h0
      go_enter Tryz.func23, Tryz.ntmps23
      go_wp2_with fail
      refine (HC.out _ (by repeat (first | with_reducible exact New.refl _ | with_reducible assumption | with_reducible refine New.alloc ?_ _ | with_reducible refine New.drewN ?_ _ | with_reducible refine New.drew ?_ | with_reducible refine New.trans ?_ (by with_reducible assumption)))).mono ?_
      rintro e w1 ⟨rfl, hn1⟩
      go_wp2_with fail
      go_ret2
      exact ⟨rfl, New.trans (by repeat (first | with_reducible exact New.refl _ | with_reducible assumption | with_reducible refine New.alloc ?_ _ | with_reducible refine New.drewN ?_ _ | with_reducible refine New.drew ?_ | with_reducible refine New.trans ?_ (by with_reducible assumption))) hn1⟩
    · have b0 : (K == 0) = false := by simpa using h0
      rw [decide_eq_false h0]
      go_enter Tryz.func23, Tryz.ntmps23
      go_wp2_with fail
      refine (HC.out _ (by repeat (first | with_reducible exact New.refl _ | with_reducible assumption | with_reducible refine New.alloc ?_ _ | with_reducible refine New.drewN ?_ _ | with_reducible refine New.drew ?_ | with_reducible refine New.trans ?_ (by with_reducible assumption)))).mono ?_
      rintro e w1 ⟨rfl, hn1⟩
      go_wp2_with fail
      go_ret2
      exact ⟨rfl, New.trans (by repeat (first | with_reducible exact New.refl _ | with_reducible assumption | with_reducible refine New.alloc ?_ _ | with_reducible refine New.drewN ?_ _ | with_reducible refine New.drew ?_ | with_reducible refine New.trans ?_ (by with_reducible assumption))) hn1⟩
set_option maxHeartbeats 1000000 in
theorem implRankOf_any (v : Value) (a : Aut) (w : World) (h : AutAt w v a) (ha : autOk a = true) :
    Calls Tryz.prog 26 #[v] w fun e w' => e = .returned (.tuple #[.int .i64 (rankA a : Nat), .int .i64 0]) ∧ New w w' := by
  obtain ⟨rv, rfl, hr⟩ := h
  obtain ⟨A, c, rfl⟩ := hr.form
  have h1 : AutAt w (.agg #[.int .i64 a.n, .slice A a.nx.length c]) a := ⟨_, rfl, hr⟩
  have HC := hid (fun w1 (hn : New w w1) => ValidAutomaton_any _ a w1 (h1.new hn))
  have HC2 := hid (fun w1 (hn : New w w1) => rank_any _ a w1 (h1.new hn) ha)
  rw [ha] at HC
  rw [show leastOf a.nx (full a.n) = rankA a from rfl] at HC2
  obtain ⟨K, hK⟩ : ∃ K, K = rankA a := ⟨_, rfl⟩
  rw [← hK] at HC2 ⊢
  clear hK ha
  obtain ⟨wb, hwb⟩ : ∃ wb, wb = w.alloc (.cells #[.int .i64 a.n, .slice A a.nx.length c] 31) := ⟨_, rfl⟩
  have hnb : New w wb := by rw [hwb]; exact (by repeat (first | with_reducible exact New.refl _ | with_reducible assumption | with_reducible refine New.alloc ?_ _ | with_reducible refine New.drewN ?_ _ | with_reducible refine New.drew ?_ | with_reducible refine New.trans ?_ (by with_reducible assumption)))
  have hb0 : wb.cell? ⟨w.heap.size, 0, none⟩ = some (.int .i64 a.n) := by rw [hwb]; go_simp
  have hb1 : wb.cell? ⟨w.heap.size, 1, none⟩ = some (.slice A a.nx.length c) := by rw [hwb]; go_simp
  go_enter Tryz.func26, Tryz.ntmps26
  go_wp2_with fail
  rw [← hwb]
  clear hwb
  go_wp2_with fail
  refine (HC.out _ hnb).mono ?_
  rintro e w1 ⟨rfl, hn1⟩
  have z0 := hn1.cell hb0
  have z1 := hn1.cell hb1
  replace hn1 : New w w1 := hnb.trans hn1
  go_wp2_with fail
  refine (HC2.out _ hn1).mono ?_
  rintro e w2 ⟨rfl, hn2⟩
  go_wp2_with fail
  go_ret2
  exact ⟨rfl, hn1.trans hn2⟩

end Go.Proofs.YtoeckejcmojeaaaGreat
