/- Parts of the proof that lean on no program: IQuick, IQuick2, IFirstReset, IFirstReset2. -/
import Derived.Test.YtieonifckmokkaaRows
import Derived.Test.YtieonifckmokkaaCore
import Derived.Test.YtieonifckmokkaaInfos
import Derived.Test.YtieonifckmokkaaPlains
import Derived.Test.YtieonifckmokkaaJoins
import Derived.Test.YtieonifckmokkaaQuicks
import Derived.Test.YtieonifckmokkaaMaps
import Derived.Test.YtieonifckmokkaaArrs
import Derived.Test.YtieonifckmokkaaIArrs
import Derived.Test.YtieonifckmokkaaIAt
import Derived.Test.YtieonifckmokkaaI05a
import Derived.Test.YtieonifckmokkaaICol
import Derived.Test.YtieonifckmokkaaIReset
import Derived.Test.YtieonifckmokkaaPlainReset
import Derived.WalkKit
import Derived.WalkSpells
import Derived.WalkLawsBesides
import Derived.Deep.QuietTactic
import Derived.Deep.OwnRows
import Derived.BigQuiet
import Derived.KernelRfl
import Derived.Carry
import Derived.Deep.RegionHeld3
import Derived.Laws.EntriesVeiled
namespace Go.Proofs.Ytieonifckmokkaa
open Go.RowKit

section
theorem survey_vals {r : Aut} (hf : RoadsFacts r) (n : Nat) : ((colW r n).2 = true → (surveyOf (colN r n)).1 = 1 ∧ (surveyOf (colN r n)).2 = ((colW r n).1.length : Int)) ∧ ((colW r n).2 = false → ¬ (surveyOf (colN r n)).1 = 1) := by
  constructor
  · intro h
    have := survey_yes (a := colN r n) h
    rw [this]
    exact ⟨rfl, rfl⟩
  · intro h
    exact survey_no (colN_ok hf n) (colN_n hf n) h
set_option maxRecDepth 20000 in
set_option maxHeartbeats 1000000 in
theorem Quick1_any (r : Aut) (hf : RoadsFacts r) (n bb fb : Nat) (w : World) (hn : n ≤ 279936) (hne : bb ≠ fb) (h1 : Box1 w bb (.int .i64 (quickLen (colW r) n))) (h2 : Box1 w fb (.int .i64 (quickNo (colW r) n))) :
    Calls Try.prog 69 #[.int .i64 (n : Nat), .int .i64 (surveyOf (colN r n)).1, .int .i64 (surveyOf (colN r n)).2, .pointer (some ⟨bb, 0, none⟩), .pointer (some ⟨fb, 0, none⟩)] w
      fun e w' => e = .returned (.bool true) ∧ But (fun q => q = bb ∨ q = fb) w w' ∧ Box1 w' bb (.int .i64 (quickLen (colW r) (n + 1))) ∧ Box1 w' fb (.int .i64 (quickNo (colW r) (n + 1))) := by
  obtain ⟨v1, v2⟩ := survey_vals hf n
  obtain ⟨S1, hS1⟩ : ∃ z, z = (surveyOf (colN r n)).1 := ⟨_, rfl⟩
  obtain ⟨S2, hS2⟩ : ∃ z, z = (surveyOf (colN r n)).2 := ⟨_, rfl⟩
  rw [← hS1, ← hS2] at v1
  rw [← hS1] at v2
  rw [← hS1, ← hS2]
  have hlen := colW_len hf n
  have hrg := quickAt_range (colW r) n
  clear hS1 hS2
  have hquiet : quickAt (colW r) (n + 1) = quickAt (colW r) n → quickLen (colW r) (n + 1) = quickLen (colW r) n ∧ quickNo (colW r) (n + 1) = quickNo (colW r) n := fun e => by
    unfold quickLen quickNo; rw [e]; exact ⟨rfl, rfl⟩
  have hput : quickAt (colW r) (n + 1) = (n : Int) → quickLen (colW r) (n + 1) = ((colW r n).1.length : Int) ∧ quickNo (colW r) (n + 1) = (n : Int) := fun e => by
    unfold quickLen quickNo
    rw [e, if_neg (by omega), if_neg (by omega), Int.toNat_natCast]
    exact ⟨rfl, rfl⟩
  obtain ⟨c1, f1⟩ := id h1
  obtain ⟨c2, f2⟩ := id h2
  cases hw : (colW r n).2 with
  | false =>
    have hne1 := v2 hw
    have hb : (S1 == 1) = false := by simpa using hne1
    have HQ := hid (hquiet (quickAt_no (by rw [hw]; simp)))
    clear v1 v2 hquiet hput hw hne1
    go_enter Try.func69, Try.ntmps69
    go_wp2_with fail
    go_ret
    rw [HQ.out.1, HQ.out.2]
    exact ⟨rfl, But.refl, h1, h2⟩
  | true =>
    obtain ⟨rfl, rfl⟩ := v1 hw
    by_cases hneg : quickAt (colW r) n < 0
    · have hq := hput (quickAt_yes ⟨hw, Or.inl hneg⟩)
      have eL : quickLen (colW r) n = -1 := by unfold quickLen; rw [if_pos hneg]
      rw [eL] at c1
      have HQ := hid hq
      clear v2 hquiet hput hq eL
      go_enter Try.func69, Try.ntmps69
      go_wp2_with fail
      go_ret
      rw [HQ.out.1, HQ.out.2]
      refine ⟨rfl, ?_, ?_, ?_⟩
      · exact (But.setCell (S := fun q => q = bb ∨ q = fb) ⟨bb, 0, none⟩ _ (Or.inl rfl)).trans (But.setCell (S := fun q => q = bb ∨ q = fb) ⟨fb, 0, none⟩ _ (Or.inr rfl)) (fun q hq => Or.inl hq)
      · exact (h1.set _).but (But.setCell (S := fun q => q = fb) ⟨fb, 0, none⟩ _ rfl) (fun e => hne e)
      · exact (h2.but (But.setCell (S := fun q => q = bb) ⟨bb, 0, none⟩ _ rfl) (fun e => hne e.symm)).set _
    · have eL : quickLen (colW r) n = ((colW r (quickAt (colW r) n).toNat).1.length : Int) := by unfold quickLen; rw [if_neg hneg]
      by_cases hlt : (colW r n).1.length < (colW r (quickAt (colW r) n).toNat).1.length
      · have hq := hput (quickAt_yes ⟨hw, Or.inr hlt⟩)
        rw [eL] at c1
        have hlti : ((colW r n).1.length : Int) < ((colW r (quickAt (colW r) n).toNat).1.length : Int) := by omega
        obtain ⟨LL, hLL⟩ : ∃ z : Int, z = ((colW r (quickAt (colW r) n).toNat).1.length : Int) := ⟨_, rfl⟩
        rw [← hLL] at c1 hlti
        have hL0 : ¬ LL < 0 := by omega
        have HQ := hid hq
        clear v2 hquiet hput hq eL hneg hlt hLL
        go_enter Try.func69, Try.ntmps69
        go_wp2_with fail
        go_ret
        rw [HQ.out.1, HQ.out.2]
        refine ⟨rfl, ?_, ?_, ?_⟩
        · exact (But.setCell (S := fun q => q = bb ∨ q = fb) ⟨bb, 0, none⟩ _ (Or.inl rfl)).trans (But.setCell (S := fun q => q = bb ∨ q = fb) ⟨fb, 0, none⟩ _ (Or.inr rfl)) (fun q hq => Or.inl hq)
        · exact (h1.set _).but (But.setCell (S := fun q => q = fb) ⟨fb, 0, none⟩ _ rfl) (fun e => hne e)
        · exact (h2.but (But.setCell (S := fun q => q = bb) ⟨bb, 0, none⟩ _ rfl) (fun e => hne e.symm)).set _
      · have hq := hquiet (quickAt_no (fun q => q.2.elim (fun h => hneg h) (fun h => hlt h)))
        rw [eL] at c1
        have hlti : ¬ ((colW r n).1.length : Int) < ((colW r (quickAt (colW r) n).toNat).1.length : Int) := by omega
        obtain ⟨LL, hLL⟩ : ∃ z : Int, z = ((colW r (quickAt (colW r) n).toNat).1.length : Int) := ⟨_, rfl⟩
        rw [← hLL] at c1 hlti
        have hL0 : ¬ LL < 0 := by omega
        have HQ := hid hq
        clear v2 hquiet hput hq eL hneg hlt hLL
        go_enter Try.func69, Try.ntmps69
        go_wp2_with fail
        go_ret
        rw [HQ.out.1, HQ.out.2]
        exact ⟨rfl, But.refl, h1, h2⟩
end
section
theorem colCode_true {r : Aut} (h : colCode r = 0) : roadsOk r = true ∧ ¬ 50000 < colCount r := by
  unfold colCode at h
  split at h
  · rename_i h1
    refine ⟨h1, ?_⟩
    split at h
    · cases h
    · assumption
  · cases h
theorem reset_colN {r : Aut} (hf : RoadsFacts r) (N : Nat) (hw : (colW r N).2 = true) : ShortestReset (colN r N) = ((colW r N).1, 0) := by
  unfold ShortestReset
  rw [if_pos (colN_ok hf N)]
  show told (colW r N) = _
  unfold told
  rw [if_pos hw]
set_option maxRecDepth 20000 in
set_option maxHeartbeats 2000000 in
theorem implQuickestColouring_any (v : Value) (r : Aut) (w : World) (h : AutAt w v r) :
    Calls Try.prog 16 #[v] w fun e w' => ∃ q, e = .returned (.tuple #[.int .i64 (QuickestColouring r).1, q, .int .i64 (QuickestColouring r).2.2]) ∧ New w w' ∧ OwnInts w.heap.size w'.heap.size w' q (QuickestColouring r).2.1 := by
  obtain ⟨rv, rfl, hr⟩ := h
  obtain ⟨A, c, rfl⟩ := hr.form
  have h1 : AutAt w (.agg #[.int .i64 r.n, .slice A r.nx.length c]) r := ⟨_, rfl, hr⟩
  obtain ⟨wb, hwb⟩ : ∃ wb, wb = ((w.alloc (.cells #[.int .i64 r.n, .slice A r.nx.length c] 26)).alloc (.cells #[.int .i64 (-1)] 3)).alloc (.cells #[.int .i64 0] 2) := ⟨_, rfl⟩
  have hnb : New w wb := by rw [hwb]; exact (by repeat (first | with_reducible exact New.refl _ | with_reducible assumption | with_reducible refine New.alloc ?_ _ | with_reducible refine New.drewN ?_ _ | with_reducible refine New.drew ?_ | with_reducible refine New.trans ?_ (by with_reducible assumption)))
  have hzb : wb.heap.size = w.heap.size + 3 := by rw [hwb]; simp only [size_alloc]
  have hb0 : wb.cell? ⟨w.heap.size, 0, none⟩ = some (.int .i64 r.n) := by rw [hwb]; go_simp
  have hb1 : wb.cell? ⟨w.heap.size, 1, none⟩ = some (.slice A r.nx.length c) := by rw [hwb]; go_simp
  have hx1 : Box1 wb (w.heap.size + 1) (.int .i64 (-1)) := by rw [hwb]; exact ⟨by go_simp, by go_simp⟩
  have hx2 : Box1 wb (w.heap.size + 1 + 1) (.int .i64 0) := by rw [hwb]; exact ⟨by go_simp, by go_simp⟩
  have HC := hid (colourings_any _ r w wb 69 #[.pointer (some ⟨w.heap.size + 1, 0, none⟩), .pointer (some ⟨w.heap.size + 1 + 1, 0, none⟩)] h1 hnb (enters Try.func69 (by decide) (by simp [Try.f69]))
    (fun q => q = w.heap.size + 1 ∨ q = w.heap.size + 1 + 1) (fun q hq => by omega)
    (fun n w1 => Box1 w1 (w.heap.size + 1) (.int .i64 (quickLen (colW r) n)) ∧ Box1 w1 (w.heap.size + 1 + 1) (.int .i64 (quickNo (colW r) n))) (fun _ => true)
    (fun n w1 w2 hb hn => ⟨hb.1.new hn, hb.2.new hn⟩)
    (fun n w1 hn hf _ hb => (Quick1_any r hf n _ _ w1 (by have := colCount_big hf; omega) (by omega) hb.1 hb.2).mono fun e w2 ⟨h1, h2, h3, h4⟩ => ⟨h1, h2, h3, h4⟩)
    ⟨hx1, hx2⟩)
  obtain ⟨R, hR⟩ : ∃ R, R = QuickestColouring r := ⟨_, rfl⟩
  rw [← hR]
  unfold QuickestColouring at hR
  have HR := hid hR
  clear hR
  obtain ⟨F, hFF⟩ : ∃ z, z = colW r := ⟨_, rfl⟩
  rw [← hFF] at HC HR
  obtain ⟨CD, hCD⟩ : ∃ z, z = colCode r := ⟨_, rfl⟩
  rw [← hCD] at HC
  by_cases hc0 : CD = 0
  · obtain ⟨hok, h5⟩ := colCode_true (hCD.symm.trans hc0)
    have hf := roads_facts hok
    have HF := hid hf
    have HE0 := hid (show R = (if quickAt (F) (colCount r) < 0 then (0, [], 6) else (quickAt (F) (colCount r), quickWord (F) (colCount r), 0)) by rw [HR.out, if_pos hok, if_neg h5])
    subst hc0
    have hbig := colCount_big hf
    have hrg := quickAt_range (F) (colCount r)
    have HNP := hid (fun w1 (hn : New w w1) => newPaint_any _ r w1 (h1.new hn) hf.n7 (fun i hi => by rw [hf.row i hi]; exact hf.l3))
    have HAT := hid (fun (w1 : World) rv2 cv (N : Nat) (hr : RowsAt w1 rv2 r.nx) (hc : ListAt RowsAt w1 cv (choicesOf r)) (hN : N ≤ 4611686018427387904) => paintAt_any rv2 cv r.nx (choicesOf r) (nth r.nx 0).length N w1 hr hc (choices_len r) hf.n1 hf.n7 rfl ⟨hf.l1, hf.l3⟩ (fun p hp => choices_pos p hp) (fun p hp i hi => choices_row hf p hp i hi) hN)
    have HRN := hid hf.n
    have HSR := hid (fun (w1 : World) v3 (N : Nat) (h3 : AutAt w1 v3 (colN r N)) => implShortestReset_any v3 (colN r N) w1 h3)
    have HSV := hid (reset_colN hf)
    rw [← hFF] at HSV
    have HHIT := hid (quickAt_hit (F) (colCount r))
    obtain ⟨Q, hQ⟩ : ∃ z, z = quickAt (F) (colCount r) := ⟨_, rfl⟩
    have HQW := hid (show quickWord (F) (colCount r) = if Q < 0 then [] else (F Q.toNat).1 by rw [hQ]; rfl)
    have HQL := hid (show quickLen (F) (colCount r) = if Q < 0 then -1 else ((F Q.toNat).1.length : Int) by rw [hQ]; rfl)
    have HQN := hid (show quickNo (F) (colCount r) = if Q < 0 then 0 else Q by rw [hQ]; rfl)
    rw [← hQ] at HE0 hrg HHIT
    clear hf h5 hok hQ hCD
    by_cases hq : Q < 0
    · have HE := hid (show R = (0, [], 6) by rw [HE0.out, if_pos hq])
      rw [if_pos hq] at HQL HQN
      clear hq hrg
      go_enter Try.func16, Try.ntmps16
      go_wp2_with fail
      rw [← hwb]
      clear hwb
      go_wp2_with fail
      refine HC.out.mono ?_
      rintro e w1 ⟨rfl, hbt, _, hok⟩
      obtain ⟨N, hN1, ⟨hI1, hI2⟩, _, hN2⟩ := hok (by trivial)
      have hNe : N = colCount r := by
        rcases Nat.lt_or_ge N (colCount r) with q | q
        · exact absurd (hN2 q).2 (by simp)
        · omega
      subst hNe
      rw [HQL.out] at hI1
      obtain ⟨c1, _⟩ := id hI1
      have hfin : New w w1 := But.new hnb hbt (fun q hq => by omega)
      clear hok hN2 hN1
      go_wp2_with fail
      refine bodyPost_ret (v := .tuple #[.int .i64 0, .slice none 0 0, .int .i64 6]) (by simp [results, Try.results16, go_sem]) rfl ?_
      rw [HE.out]
      exact ⟨_, rfl, hfin, OwnInts.nil _ _ _⟩
    · have HE := hid (show R = (Q, quickWord (F) (colCount r), 0) by rw [HE0.out, if_neg hq])
      rw [if_neg hq] at HQL HQN HQW
      obtain ⟨QN, hQN⟩ : ∃ QN : Nat, Q = (QN : Int) := ⟨Q.toNat, by omega⟩
      have hhit := HHIT.out (by omega)
      subst hQN
      rw [Int.toNat_natCast] at HQW HQL hhit
      have HSQ := hid (HSV.out QN hhit)
      have HQW2 := hid HQW.out
      rw [HQW.out] at HE
      have hQb : QN ≤ 279936 := by omega
      clear hq hrg hhit HQW HSV
      have HATQ := hid (fun (w1 : World) rv2 cv (hr : RowsAt w1 rv2 r.nx) (hc : ListAt RowsAt w1 cv (choicesOf r)) => HAT.out w1 rv2 cv QN hr hc (by omega))
      rw [HRN.out] at HATQ
      have HSRQ := hid (fun (w1 : World) v3 (h3 : AutAt w1 v3 (colN r QN)) => HSR.out w1 v3 QN h3)
      rw [HSQ.out] at HSRQ
      obtain ⟨WL, hWL⟩ : ∃ z : Int, z = ((F QN).1.length : Int) := ⟨_, rfl⟩
      have hWL0 : ¬ WL < 0 := by omega
      rw [← hWL] at HQL
      clear hWL HAT HSR
      obtain ⟨WD, hWD⟩ : ∃ z, z = (F QN).1 := ⟨_, rfl⟩
      rw [← hWD] at HE HSRQ
      clear hWD HSQ HQW2 HHIT
      go_enter Try.func16, Try.ntmps16
      go_wp2_with fail
      rw [← hwb]
      clear hwb
      go_wp2_with fail
      refine HC.out.mono ?_
      rintro e w1 ⟨rfl, hbt, _, hok⟩
      obtain ⟨N, hN1, ⟨hI1, hI2⟩, _, hN2⟩ := hok (by trivial)
      have hNe : N = colCount r := by
        rcases Nat.lt_or_ge N (colCount r) with q | q
        · exact absurd (hN2 q).2 (by simp)
        · omega
      subst hNe
      rw [HQL.out] at hI1
      rw [HQN.out] at hI2
      obtain ⟨c1, _⟩ := id hI1
      obtain ⟨c2, _⟩ := id hI2
      have hfin : New w w1 := But.new hnb hbt (fun q hq => by omega)
      have z0 := hbt.cell hb0 (fun q => by simp at q <;> omega)
      have z1 := hbt.cell hb1 (fun q => by simp at q <;> omega)
      have hz1 := hfin.size
      clear hok hN2 hN1 hI1 hI2
      go_wp2_with fail
      go_region_held3 (fun w' => w'.cell? ⟨w.heap.size, 0, none⟩ = some (.int .i64 r.n) ∧ w'.cell? ⟨w.heap.size, 1, none⟩ = some (.slice A r.nx.length c) ∧ w'.cell? ⟨w.heap.size + 1 + 1, 0, none⟩ = some (.int .i64 QN))
        (first | exact ⟨New.cell hq4 z0, New.cell hq4 z1, New.cell hq4 c2⟩ | exact ⟨New.cell hq3 z0, New.cell hq3 z1, New.cell hq3 c2⟩ | exact ⟨New.cell hq2 z0, New.cell hq2 z1, New.cell hq2 c2⟩ | go_keep)
        (first
          | (go_at_call 70; refine (HNP.out _ (hfin.trans (New.refl _).drew)).mono ?_; rintro e w2 ⟨rv2, rc, rfl, hr2, hrv2, hL2⟩; have hq2 : New w1 w2 := New.trans (New.refl _).drew hr2; have hz2 := hr2.size)
          | (go_at_call 71; refine (HATQ.out _ _ _ hrv2 hL2).mono ?_; rintro e w3 ⟨r3, rfl, hr3, ho3⟩; have hq3 : New w1 w3 := hq2.trans hr3; have hz3 := hr3.size)
          | (go_at_call 19; refine (HSRQ.out _ _ (by unfold colN; rw [HRN.out]; exact ho3.at)).mono ?_; rintro e w4 ⟨q4, rfl, hr4, ho4⟩; have hq4 : New w1 w4 := hq3.trans hr4; have hz4 := hr4.size; have c24 := hq4.cell c2))
      all_goals go_wp2_with fail
      all_goals refine bodyPost_ret (v := .tuple #[.int .i64 QN, q4, .int .i64 0]) (by simp [results, Try.results16, go_sem]) rfl ?_
      all_goals rw [HE.out]
      all_goals (try simp only [] at ho4 ⊢)
      all_goals exact ⟨_, rfl, hfin.trans hq4, ho4.widen (by (try simp only [size_drew] at *) <;> omega) (Nat.le_refl _)⟩
  · have HE : Hid (R = (0, [], CD)) := by
      have := HR.out
      refine hid ?_
      rw [this, hCD]
      unfold colCode at hCD ⊢
      by_cases h1 : roadsOk r = true
      · rw [if_pos h1] at hCD ⊢
        rw [if_pos h1]
        by_cases h2 : 50000 < colCount r
        · rw [if_pos h2, if_pos h2]
        · rw [if_neg h2] at hCD
          exact absurd hCD hc0
      · rw [if_neg h1, if_neg h1]
    have hcn : (CD == 0) = false := by simpa using hc0
    have hcn2 : (CD != 0) = true := by simpa using hc0
    clear hCD HR
    go_enter Try.func16, Try.ntmps16
    go_wp2_with fail
    rw [← hwb]
    clear hwb
    go_wp2_with fail
    refine HC.out.mono ?_
    rintro e w1 ⟨rfl, hbt, h00, _⟩
    have hfin : New w w1 := But.new hnb hbt (fun q hq => by omega)
    go_wp2_with fail
    refine bodyPost_ret (v := .tuple #[.int .i64 0, .slice none 0 0, .int .i64 CD]) (by simp [results, Try.results16, go_sem]) rfl ?_
    rw [HE.out]
    exact ⟨_, rfl, hfin, OwnInts.nil _ _ _⟩
end
section
set_option maxRecDepth 20000 in
set_option maxHeartbeats 1000000 in
theorem FirstReset1_any (r : Aut) (hf : RoadsFacts r) (n fb : Nat) (w : World) (hn : n ≤ 279936) (hneg : hitTo (colW r) n < 0) (h1 : Box1 w fb (.int .i64 (hitTo (colW r) n))) :
    Calls Try.prog 67 #[.int .i64 (n : Nat), .int .i64 (surveyOf (colN r n)).1, .int .i64 (surveyOf (colN r n)).2, .pointer (some ⟨fb, 0, none⟩)] w
      fun e w' => e = .returned (.bool (!(colW r n).2)) ∧ But (fun q => q = fb) w w' ∧ Box1 w' fb (.int .i64 (hitTo (colW r) (n + 1))) := by
  obtain ⟨v1, v2⟩ := survey_vals hf n
  obtain ⟨S1, hS1⟩ : ∃ z, z = (surveyOf (colN r n)).1 := ⟨_, rfl⟩
  obtain ⟨S2, hS2⟩ : ∃ z, z = (surveyOf (colN r n)).2 := ⟨_, rfl⟩
  rw [← hS1, ← hS2] at v1
  rw [← hS1] at v2
  rw [← hS1, ← hS2]
  clear hS1 hS2
  obtain ⟨c1, f1⟩ := id h1
  cases hw : (colW r n).2 with
  | false =>
    have hne1 := v2 hw
    have hb : (S1 == 1) = false := by simpa using hne1
    have HQ := hid (hitTo_no (f := colW r) (n := n) hw)
    obtain ⟨H, hH⟩ : ∃ H, H = hitTo (colW r) n := ⟨_, rfl⟩
    rw [← hH] at c1 h1 hneg HQ
    clear v1 v2 hw hne1 hH
    go_enter Try.func67, Try.ntmps67
    go_wp2_with fail
    go_ret
    rw [HQ.out]
    exact ⟨rfl, But.refl, h1⟩
  | true =>
    obtain ⟨rfl, _⟩ := v1 hw
    have HQ := hid (hitTo_yes (f := colW r) (n := n) hneg hw)
    obtain ⟨H, hH⟩ : ∃ H, H = hitTo (colW r) n := ⟨_, rfl⟩
    rw [← hH] at c1 h1
    have hn0 : ¬ (n : Int) < 0 := by omega
    clear v2 hneg hw hH
    go_enter Try.func67, Try.ntmps67
    go_wp2_with fail
    go_ret
    rw [HQ.out]
    exact ⟨rfl, But.setCell (S := fun q => q = fb) ⟨fb, 0, none⟩ _ rfl, h1.set _⟩
set_option maxRecDepth 20000 in
set_option maxHeartbeats 1000000 in
theorem CountReset1_any (r : Aut) (hf : RoadsFacts r) (n fb : Nat) (w : World) (hn : n ≤ 279936) (h1 : Box1 w fb (.int .i64 (hits (colW r) n : Nat))) :
    Calls Try.prog 68 #[.int .i64 (n : Nat), .int .i64 (surveyOf (colN r n)).1, .int .i64 (surveyOf (colN r n)).2, .pointer (some ⟨fb, 0, none⟩)] w
      fun e w' => e = .returned (.bool true) ∧ But (fun q => q = fb) w w' ∧ Box1 w' fb (.int .i64 (hits (colW r) (n + 1) : Nat)) := by
  obtain ⟨v1, v2⟩ := survey_vals hf n
  obtain ⟨S1, hS1⟩ : ∃ z, z = (surveyOf (colN r n)).1 := ⟨_, rfl⟩
  obtain ⟨S2, hS2⟩ : ∃ z, z = (surveyOf (colN r n)).2 := ⟨_, rfl⟩
  rw [← hS1, ← hS2] at v1
  rw [← hS1] at v2
  rw [← hS1, ← hS2]
  clear hS1 hS2
  obtain ⟨c1, f1⟩ := id h1
  have hle := hits_le (colW r) n
  cases hw : (colW r n).2 with
  | false =>
    have hne1 := v2 hw
    have hb : (S1 == 1) = false := by simpa using hne1
    have HQ := hid (show hits (colW r) (n + 1) = hits (colW r) n by show (if _ then _ else _) = _; rw [hw]; simp)
    obtain ⟨H, hH⟩ : ∃ H, H = hits (colW r) n := ⟨_, rfl⟩
    rw [← hH] at c1 h1 hle HQ
    clear v1 v2 hw hne1 hH
    go_enter Try.func68, Try.ntmps68
    go_wp2_with fail
    go_ret
    rw [HQ.out]
    exact ⟨rfl, But.refl, h1⟩
  | true =>
    obtain ⟨rfl, _⟩ := v1 hw
    have HQ := hid (show hits (colW r) (n + 1) = hits (colW r) n + 1 by show (if _ then _ else _) = _; rw [hw]; simp)
    obtain ⟨H, hH⟩ : ∃ H, H = hits (colW r) n := ⟨_, rfl⟩
    rw [← hH] at c1 h1 hle HQ
    have hb1 : (H : Int) ≤ 279936 := by omega
    have hwr : IntKind.i64.wrap ((H : Int) + 1) = (H : Int) + 1 := IntWalk.i64_in _ (by omega)
    clear v2 hw hH
    go_enter Try.func68, Try.ntmps68
    go_wp2_with fail
    go_ret
    rw [HQ.out]
    exact ⟨rfl, But.setCell (S := fun q => q = fb) ⟨fb, 0, none⟩ _ rfl, by have := h1.set (.int .i64 ((H : Int) + 1)); simpa using this⟩
end
section
theorem hitTo_end {f : Nat → List Int × Bool} {N C : Nat} (hN : N ≤ C) (h : N < C → 0 < N ∧ (!(f (N - 1)).2) = false) : hitTo f N = hitTo f C := by
  rcases Nat.lt_or_ge N C with q | q
  · obtain ⟨h0, h1⟩ := h q
    have hp : 0 ≤ hitTo f N := by
      rcases Int.lt_or_le (hitTo f N) 0 with e | e
      · have := (hitTo_neg f N).1 e (N - 1) (by omega)
        rw [this] at h1; cases h1
      · exact e
    have := hitTo_stay hp (C - N)
    rw [show N + (C - N) = C by omega] at this
    exact this.symm
  · rw [show N = C by omega]
set_option maxRecDepth 20000 in
set_option maxHeartbeats 2000000 in
theorem implFirstResetColouring_any (v : Value) (r : Aut) (w : World) (h : AutAt w v r) :
    Calls Try.prog 14 #[v] w fun e w' => e = .returned (.tuple #[.int .i64 (FirstReset r).1, .int .i64 (FirstReset r).2]) ∧ New w w' := by
  obtain ⟨rv, rfl, hr⟩ := h
  obtain ⟨A, c, rfl⟩ := hr.form
  have h1 : AutAt w (.agg #[.int .i64 r.n, .slice A r.nx.length c]) r := ⟨_, rfl, hr⟩
  obtain ⟨wb, hwb⟩ : ∃ wb, wb = (w.alloc (.cells #[.int .i64 r.n, .slice A r.nx.length c] 26)).alloc (.cells #[.int .i64 (-1)] 2) := ⟨_, rfl⟩
  have hnb : New w wb := by rw [hwb]; exact (by repeat (first | with_reducible exact New.refl _ | with_reducible assumption | with_reducible refine New.alloc ?_ _ | with_reducible refine New.drewN ?_ _ | with_reducible refine New.drew ?_ | with_reducible refine New.trans ?_ (by with_reducible assumption)))
  have hb0 : wb.cell? ⟨w.heap.size, 0, none⟩ = some (.int .i64 r.n) := by rw [hwb]; go_simp
  have hb1 : wb.cell? ⟨w.heap.size, 1, none⟩ = some (.slice A r.nx.length c) := by rw [hwb]; go_simp
  have hzb : wb.heap.size = w.heap.size + 2 := by rw [hwb]; simp only [size_alloc]
  have hx1 : Box1 wb (w.heap.size + 1) (.int .i64 (-1)) := by rw [hwb]; exact ⟨by go_simp, by go_simp⟩
  have HC := hid (colourings_any _ r w wb 67 #[.pointer (some ⟨w.heap.size + 1, 0, none⟩)] h1 hnb (enters Try.func67 (by decide) (by simp [Try.f67]))
    (fun q => q = w.heap.size + 1) (fun q hq => by omega)
    (fun n w1 => Box1 w1 (w.heap.size + 1) (.int .i64 (hitTo (colW r) n))) (fun n => !(colW r n).2)
    (fun n w1 w2 hb hn => hb.new hn)
    (fun n w1 hn hf hgo hb => FirstReset1_any r hf n _ w1 (by have := colCount_big hf; omega) ((hitTo_neg _ _).2 (fun m hm => by have := hgo m hm; simpa using this)) hb)
    hx1)
  obtain ⟨R, hR⟩ : ∃ R, R = FirstReset r := ⟨_, rfl⟩
  rw [← hR]
  unfold FirstReset at hR
  have HR := hid hR
  clear hR hzb
  obtain ⟨F, hFF⟩ : ∃ z, z = colW r := ⟨_, rfl⟩
  rw [← hFF] at HC HR
  obtain ⟨CD, hCD⟩ : ∃ z, z = colCode r := ⟨_, rfl⟩
  rw [← hCD] at HC
  by_cases hc0 : CD = 0
  · obtain ⟨hok, h5⟩ := colCode_true (hCD.symm.trans hc0)
    have HE0 := hid (show R = (if hitTo F (colCount r) < 0 then (0, 6) else (hitTo F (colCount r), 0)) by rw [HR.out, if_pos hok, if_neg h5])
    subst hc0
    have hEND := hid (fun N hN h => hitTo_end (f := F) (N := N) (C := colCount r) hN h)
    clear hok h5 hCD HR hFF
    by_cases hq : hitTo F (colCount r) < 0
    · have HE := hid (show R = (0, 6) by rw [HE0.out, if_pos hq])
      obtain ⟨Q, hQ⟩ : ∃ z, z = hitTo F (colCount r) := ⟨_, rfl⟩
      rw [← hQ] at hEND hq
      clear hQ HE0
      go_enter Try.func14, Try.ntmps14
      go_wp2_with fail
      rw [← hwb]
      clear hwb
      go_wp2_with fail
      refine HC.out.mono ?_
      rintro e w1 ⟨rfl, hbt, _, hok⟩
      obtain ⟨N, hN1, hI1, _, hN2⟩ := hok (by trivial)
      rw [hEND.out N hN1 hN2] at hI1
      obtain ⟨c1, _⟩ := id hI1
      have hfin : New w w1 := But.new hnb hbt (fun q hq => by omega)
      clear hok hN2 hEND HC
      go_wp2_with fail
      go_ret2
      rw [HE.out]
      exact ⟨rfl, hfin⟩
    · have HE := hid (show R = (hitTo F (colCount r), 0) by rw [HE0.out, if_neg hq])
      obtain ⟨Q, hQ⟩ : ∃ z, z = hitTo F (colCount r) := ⟨_, rfl⟩
      rw [← hQ] at hEND hq HE
      clear hQ HE0
      go_enter Try.func14, Try.ntmps14
      go_wp2_with fail
      rw [← hwb]
      clear hwb
      go_wp2_with fail
      refine HC.out.mono ?_
      rintro e w1 ⟨rfl, hbt, _, hok⟩
      obtain ⟨N, hN1, hI1, _, hN2⟩ := hok (by trivial)
      rw [hEND.out N hN1 hN2] at hI1
      obtain ⟨c1, _⟩ := id hI1
      have hfin : New w w1 := But.new hnb hbt (fun q hq => by omega)
      clear hok hN2 hEND HC
      go_wp2_with fail
      go_ret2
      rw [HE.out]
      exact ⟨rfl, hfin⟩
  · have HE : Hid (R = (0, CD)) := by
      have := HR.out
      refine hid ?_
      rw [this, hCD]
      unfold colCode at hCD ⊢
      by_cases h1 : roadsOk r = true
      · rw [if_pos h1] at hCD ⊢
        rw [if_pos h1]
        by_cases h2 : 50000 < colCount r
        · rw [if_pos h2, if_pos h2]
        · rw [if_neg h2] at hCD
          exact absurd hCD hc0
      · rw [if_neg h1, if_neg h1]
    have hcn : (CD == 0) = false := by simpa using hc0
    have hcn2 : (CD != 0) = true := by simpa using hc0
    clear hCD HR
    go_enter Try.func14, Try.ntmps14
    go_wp2_with fail
    rw [← hwb]
    clear hwb
    go_wp2_with fail
    refine HC.out.mono ?_
    rintro e w1 ⟨rfl, hbt, _, _⟩
    have hfin : New w w1 := But.new hnb hbt (fun q hq => by omega)
    go_wp2_with fail
    go_ret2
    rw [HE.out]
    exact ⟨rfl, hfin⟩
set_option maxRecDepth 20000 in
set_option maxHeartbeats 2000000 in
theorem implCountResetColourings_any (v : Value) (r : Aut) (w : World) (h : AutAt w v r) :
    Calls Try.prog 15 #[v] w fun e w' => e = .returned (.tuple #[.int .i64 (CountReset r).1, .int .i64 (CountReset r).2]) ∧ New w w' := by
  obtain ⟨rv, rfl, hr⟩ := h
  obtain ⟨A, c, rfl⟩ := hr.form
  have h1 : AutAt w (.agg #[.int .i64 r.n, .slice A r.nx.length c]) r := ⟨_, rfl, hr⟩
  obtain ⟨wb, hwb⟩ : ∃ wb, wb = (w.alloc (.cells #[.int .i64 r.n, .slice A r.nx.length c] 26)).alloc (.cells #[.int .i64 0] 2) := ⟨_, rfl⟩
  have hnb : New w wb := by rw [hwb]; exact (by repeat (first | with_reducible exact New.refl _ | with_reducible assumption | with_reducible refine New.alloc ?_ _ | with_reducible refine New.drewN ?_ _ | with_reducible refine New.drew ?_ | with_reducible refine New.trans ?_ (by with_reducible assumption)))
  have hb0 : wb.cell? ⟨w.heap.size, 0, none⟩ = some (.int .i64 r.n) := by rw [hwb]; go_simp
  have hb1 : wb.cell? ⟨w.heap.size, 1, none⟩ = some (.slice A r.nx.length c) := by rw [hwb]; go_simp
  have hzb : wb.heap.size = w.heap.size + 2 := by rw [hwb]; simp only [size_alloc]
  have hx1 : Box1 wb (w.heap.size + 1) (.int .i64 (hits (colW r) 0 : Nat)) := by rw [hwb]; exact ⟨by unfold hits; go_simp, by go_simp⟩
  have HC := hid (colourings_any _ r w wb 68 #[.pointer (some ⟨w.heap.size + 1, 0, none⟩)] h1 hnb (enters Try.func68 (by decide) (by simp [Try.f68]))
    (fun q => q = w.heap.size + 1) (fun q hq => by omega)
    (fun n w1 => Box1 w1 (w.heap.size + 1) (.int .i64 (hits (colW r) n : Nat))) (fun _ => true)
    (fun n w1 w2 hb hn => hb.new hn)
    (fun n w1 hn hf hgo hb => CountReset1_any r hf n _ w1 (by have := colCount_big hf; omega) hb)
    hx1)
  obtain ⟨R, hR⟩ : ∃ R, R = CountReset r := ⟨_, rfl⟩
  rw [← hR]
  unfold CountReset at hR
  have HR := hid hR
  clear hR hzb
  obtain ⟨F, hFF⟩ : ∃ z, z = colW r := ⟨_, rfl⟩
  rw [← hFF] at HC HR
  obtain ⟨CD, hCD⟩ : ∃ z, z = colCode r := ⟨_, rfl⟩
  rw [← hCD] at HC
  by_cases hc0 : CD = 0
  · obtain ⟨hok, h5⟩ := colCode_true (hCD.symm.trans hc0)
    have HE := hid (show R = (((hits F (colCount r) : Nat) : Int), 0) by rw [HR.out, if_pos hok, if_neg h5])
    subst hc0
    clear hok h5 hCD HR hFF hx1
    go_enter Try.func15, Try.ntmps15
    go_wp2_with fail
    rw [← hwb]
    clear hwb
    go_wp2_with fail
    refine HC.out.mono ?_
    rintro e w1 ⟨rfl, hbt, _, hok⟩
    obtain ⟨N, hN1, hI1, _, hN2⟩ := hok (by trivial)
    have hNe : N = colCount r := by
      rcases Nat.lt_or_ge N (colCount r) with q | q
      · exact absurd (hN2 q).2 (by simp)
      · omega
    rw [hNe] at hI1
    obtain ⟨c1, _⟩ := id hI1
    have hfin : New w w1 := But.new hnb hbt (fun q hq => by omega)
    clear hok hN2 HC
    go_wp2_with fail
    go_ret2
    rw [HE.out]
    exact ⟨rfl, hfin⟩
  · have HE : Hid (R = (0, CD)) := by
      have := HR.out
      refine hid ?_
      rw [this, hCD]
      unfold colCode at hCD ⊢
      by_cases h1 : roadsOk r = true
      · rw [if_pos h1] at hCD ⊢
        rw [if_pos h1]
        by_cases h2 : 50000 < colCount r
        · rw [if_pos h2, if_pos h2]
        · rw [if_neg h2] at hCD
          exact absurd hCD hc0
      · rw [if_neg h1, if_neg h1]
    have hcn : (CD == 0) = false := by simpa using hc0
    have hcn2 : (CD != 0) = true := by simpa using hc0
    clear hCD HR hx1
    go_enter Try.func15, Try.ntmps15
    go_wp2_with fail
    rw [← hwb]
    clear hwb
    go_wp2_with fail
    refine HC.out.mono ?_
    rintro e w1 ⟨rfl, hbt, _, _⟩
    have hfin : New w w1 := But.new hnb hbt (fun q hq => by omega)
    go_wp2_with fail
    go_ret2
    rw [HE.out]
    exact ⟨rfl, hfin⟩
end

end Go.Proofs.Ytieonifckmokkaa
