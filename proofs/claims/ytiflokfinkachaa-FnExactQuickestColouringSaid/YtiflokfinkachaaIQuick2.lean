/- The program's quickest colouring. -/
import Derived.Test.YtiflokfinkachaaRows
import Derived.Test.YtiflokfinkachaaCore
import Derived.Test.YtiflokfinkachaaInfos
import Derived.Test.YtiflokfinkachaaPlains
import Derived.Test.YtiflokfinkachaaJoins
import Derived.Test.YtiflokfinkachaaQuicks
import Derived.Test.YtiflokfinkachaaMaps
import Derived.Test.YtiflokfinkachaaArrs
import Derived.Test.YtiflokfinkachaaIPaint
import Derived.Test.YtiflokfinkachaaIAt
import Derived.Test.YtiflokfinkachaaI05a
import Derived.Test.YtiflokfinkachaaICol
import Derived.Test.YtiflokfinkachaaIReset
import Derived.Test.YtiflokfinkachaaIQuick
import Derived.WalkKit
import Derived.WalkSpells
import Derived.WalkLawsBesides
import Derived.Deep.QuietTactic
import Derived.Deep.OwnRows
import Derived.BigQuiet
import Derived.KernelRfl
import Derived.Carry
import Derived.Deep.RegionHeld3
import Derived.Laws.EntriesVeiled
namespace Go.Proofs.Ytiflokfinkachaa
open Go.RowKit

theorem colCode_true {r : Aut} (h : colCode r = 0) : roadsOk r = true ∧ ¬ 50000 < colCount r := by
  unfold colCode at h
  split at h
  · rename_i h1
    refine ⟨h1, ?_⟩
    split at h
    · cases h
    · assumption
  · cases h
theorem reset_colN {r : Aut} (hf : RoadsFacts r) (N : Nat) (hw : (colW r N).2 = true) : ShortestReset (colN r N) = ((colW r N).1, 0) := by
  unfold ShortestReset
  rw [if_pos (colN_ok hf N)]
  show told (colW r N) = _
  unfold told
  rw [if_pos hw]
set_option maxRecDepth 20000 in
set_option maxHeartbeats 2000000 in
theorem implQuickestColouring_any (v : Value) (r : Aut) (w : World) (h : AutAt w v r) :
    Calls Try.prog 40 #[v] w fun e w' => ∃ q, e = .returned (.tuple #[.int .i64 (QuickestColouring r).1, q, .int .i64 (QuickestColouring r).2.2]) ∧ New w w' ∧ OwnInts w.heap.size w'.heap.size w' q (QuickestColouring r).2.1 := by
  obtain ⟨rv, rfl, hr⟩ := h
  obtain ⟨A, c, rfl⟩ := hr.form
  have h1 : AutAt w (.agg #[.int .i64 r.n, .slice A r.nx.length c]) r := ⟨_, rfl, hr⟩
  obtain ⟨wb, hwb⟩ : ∃ wb, wb = ((w.alloc (.cells #[.int .i64 r.n, .slice A r.nx.length c] 59)).alloc (.cells #[.int .i64 (-1)] 3)).alloc (.cells #[.int .i64 0] 2) := ⟨_, rfl⟩
  have hnb : New w wb := by rw [hwb]; exact (by repeat (first | with_reducible exact New.refl _ | with_reducible assumption | with_reducible refine New.alloc ?_ _ | with_reducible refine New.drewN ?_ _ | with_reducible refine New.drew ?_ | with_reducible refine New.trans ?_ (by with_reducible assumption)))
  have hzb : wb.heap.size = w.heap.size + 3 := by rw [hwb]; simp only [size_alloc]
  have hb0 : wb.cell? ⟨w.heap.size, 0, none⟩ = some (.int .i64 r.n) := by rw [hwb]; go_simp
  have hb1 : wb.cell? ⟨w.heap.size, 1, none⟩ = some (.slice A r.nx.length c) := by rw [hwb]; go_simp
  have hx1 : Box1 wb (w.heap.size + 1) (.int .i64 (-1)) := by rw [hwb]; exact ⟨by go_simp, by go_simp⟩
  have hx2 : Box1 wb (w.heap.size + 1 + 1) (.int .i64 0) := by rw [hwb]; exact ⟨by go_simp, by go_simp⟩
  have HC := hid (colourings_any _ r w wb 107 #[.pointer (some ⟨w.heap.size + 1, 0, none⟩), .pointer (some ⟨w.heap.size + 1 + 1, 0, none⟩)] h1 hnb (enters Try.func107 (by decide) (by simp [Try.f107]))
    (fun q => q = w.heap.size + 1 ∨ q = w.heap.size + 1 + 1) (fun q hq => by omega)
    (fun n w1 => Box1 w1 (w.heap.size + 1) (.int .i64 (quickLen (colW r) n)) ∧ Box1 w1 (w.heap.size + 1 + 1) (.int .i64 (quickNo (colW r) n))) (fun _ => true)
    (fun n w1 w2 hb hn => ⟨hb.1.new hn, hb.2.new hn⟩)
    (fun n w1 hn hf _ hb => (Quick1_any r hf n _ _ w1 (by have := colCount_big hf; omega) (by omega) hb.1 hb.2).mono fun e w2 ⟨h1, h2, h3, h4⟩ => ⟨h1, h2, h3, h4⟩)
    ⟨hx1, hx2⟩)
  obtain ⟨R, hR⟩ : ∃ R, R = QuickestColouring r := ⟨_, rfl⟩
  rw [← hR]
  unfold QuickestColouring at hR
  have HR := hid hR
  clear hR
  obtain ⟨F, hFF⟩ : ∃ z, z = colW r := ⟨_, rfl⟩
  rw [← hFF] at HC HR
  obtain ⟨CD, hCD⟩ : ∃ z, z = colCode r := ⟨_, rfl⟩
  rw [← hCD] at HC
  by_cases hc0 : CD = 0
  · obtain ⟨hok, h5⟩ := colCode_true (hCD.symm.trans hc0)
    have hf := roads_facts hok
    have HF := hid hf
    have HE0 := hid (show R = (if quickAt (F) (colCount r) < 0 then (0, [], 6) else (quickAt (F) (colCount r), quickWord (F) (colCount r), 0)) by rw [HR.out, if_pos hok, if_neg h5])
    subst hc0
    have hbig := colCount_big hf
    have hrg := quickAt_range (F) (colCount r)
    have HNP := hid (fun w1 (hn : New w w1) => newPaint_any _ r w1 (h1.new hn) hf.n7 (fun i hi => by rw [hf.row i hi]; exact hf.l3))
    have HAT := hid (fun (w1 : World) rv2 cv (N : Nat) (hr : RowsAt w1 rv2 r.nx) (hc : ListAt RowsAt w1 cv (choicesOf r)) (hN : N ≤ 4611686018427387904) => paintAt_any rv2 cv r.nx (choicesOf r) (nth r.nx 0).length N w1 hr hc (choices_len r) hf.n1 hf.n7 rfl ⟨hf.l1, hf.l3⟩ (fun p hp => choices_pos p hp) (fun p hp i hi => choices_row hf p hp i hi) hN)
    have HRN := hid hf.n
    have HSR := hid (fun (w1 : World) v3 (N : Nat) (h3 : AutAt w1 v3 (colN r N)) => implShortestReset_any v3 (colN r N) w1 h3)
    have HSV := hid (reset_colN hf)
    rw [← hFF] at HSV
    have HHIT := hid (quickAt_hit (F) (colCount r))
    obtain ⟨Q, hQ⟩ : ∃ z, z = quickAt (F) (colCount r) := ⟨_, rfl⟩
    have HQW := hid (show quickWord (F) (colCount r) = if Q < 0 then [] else (F Q.toNat).1 by rw [hQ]; rfl)
    have HQL := hid (show quickLen (F) (colCount r) = if Q < 0 then -1 else ((F Q.toNat).1.length : Int) by rw [hQ]; rfl)
    have HQN := hid (show quickNo (F) (colCount r) = if Q < 0 then 0 else Q by rw [hQ]; rfl)
    rw [← hQ] at HE0 hrg HHIT
    clear hf h5 hok hQ hCD
    by_cases hq : Q < 0
    · have HE := hid (show R = (0, [], 6) by rw [HE0.out, if_pos hq])
      rw [if_pos hq] at HQL HQN
      clear hq hrg
      go_enter Try.func40, Try.ntmps40
      go_wp2_with fail
      rw [← hwb]
      clear hwb
      go_wp2_with fail
      refine HC.out.mono ?_
      rintro e w1 ⟨rfl, hbt, _, hok⟩
      obtain ⟨N, hN1, ⟨hI1, hI2⟩, _, hN2⟩ := hok (by trivial)
      have hNe : N = colCount r := by
        rcases Nat.lt_or_ge N (colCount r) with q | q
        · exact absurd (hN2 q).2 (by simp)
        · omega
      subst hNe
      rw [HQL.out] at hI1
      obtain ⟨c1, _⟩ := id hI1
      have hfin : New w w1 := But.new hnb hbt (fun q hq => by omega)
      clear hok hN2 hN1
      go_wp2_with fail
      refine bodyPost_ret (v := .tuple #[.int .i64 0, .slice none 0 0, .int .i64 6]) (by simp [results, Try.results40, go_sem]) rfl ?_
      rw [HE.out]
      exact ⟨_, rfl, hfin, OwnInts.nil _ _ _⟩
    · have HE := hid (show R = (Q, quickWord (F) (colCount r), 0) by rw [HE0.out, if_neg hq])
      rw [if_neg hq] at HQL HQN HQW
      obtain ⟨QN, hQN⟩ : ∃ QN : Nat, Q = (QN : Int) := ⟨Q.toNat, by omega⟩
      have hhit := HHIT.out (by omega)
      subst hQN
      rw [Int.toNat_natCast] at HQW HQL hhit
      have HSQ := hid (HSV.out QN hhit)
      have HQW2 := hid HQW.out
      rw [HQW.out] at HE
      have hQb : QN ≤ 279936 := by omega
      clear hq hrg hhit HQW HSV
      have HATQ := hid (fun (w1 : World) rv2 cv (hr : RowsAt w1 rv2 r.nx) (hc : ListAt RowsAt w1 cv (choicesOf r)) => HAT.out w1 rv2 cv QN hr hc (by omega))
      rw [HRN.out] at HATQ
      have HSRQ := hid (fun (w1 : World) v3 (h3 : AutAt w1 v3 (colN r QN)) => HSR.out w1 v3 QN h3)
      rw [HSQ.out] at HSRQ
      obtain ⟨WL, hWL⟩ : ∃ z : Int, z = ((F QN).1.length : Int) := ⟨_, rfl⟩
      have hWL0 : ¬ WL < 0 := by omega
      rw [← hWL] at HQL
      clear hWL HAT HSR
      obtain ⟨WD, hWD⟩ : ∃ z, z = (F QN).1 := ⟨_, rfl⟩
      rw [← hWD] at HE HSRQ
      clear hWD HSQ HQW2 HHIT
      go_enter Try.func40, Try.ntmps40
      go_wp2_with fail
      rw [← hwb]
      clear hwb
      go_wp2_with fail
      refine HC.out.mono ?_
      rintro e w1 ⟨rfl, hbt, _, hok⟩
      obtain ⟨N, hN1, ⟨hI1, hI2⟩, _, hN2⟩ := hok (by trivial)
      have hNe : N = colCount r := by
        rcases Nat.lt_or_ge N (colCount r) with q | q
        · exact absurd (hN2 q).2 (by simp)
        · omega
      subst hNe
      rw [HQL.out] at hI1
      rw [HQN.out] at hI2
      obtain ⟨c1, _⟩ := id hI1
      obtain ⟨c2, _⟩ := id hI2
      have hfin : New w w1 := But.new hnb hbt (fun q hq => by omega)
      have z0 := hbt.cell hb0 (fun q => by simp at q <;> omega)
      have z1 := hbt.cell hb1 (fun q => by simp at q <;> omega)
      have hz1 := hfin.size
      clear hok hN2 hN1 hI1 hI2
      go_wp2_with fail
      go_region_held3 (fun w' => w'.cell? ⟨w.heap.size, 0, none⟩ = some (.int .i64 r.n) ∧ w'.cell? ⟨w.heap.size, 1, none⟩ = some (.slice A r.nx.length c) ∧ w'.cell? ⟨w.heap.size + 1 + 1, 0, none⟩ = some (.int .i64 QN))
        (first | exact ⟨New.cell hq4 z0, New.cell hq4 z1, New.cell hq4 c2⟩ | exact ⟨New.cell hq3 z0, New.cell hq3 z1, New.cell hq3 c2⟩ | exact ⟨New.cell hq2 z0, New.cell hq2 z1, New.cell hq2 c2⟩ | go_keep)
        (first
          | (go_at_call 108; refine (HNP.out _ (hfin.trans (New.refl _).drew)).mono ?_; rintro e w2 ⟨rv2, rc, rfl, hr2, hrv2, hL2⟩; have hq2 : New w1 w2 := New.trans (New.refl _).drew hr2; have hz2 := hr2.size)
          | (go_at_call 109; refine (HATQ.out _ _ _ hrv2 hL2).mono ?_; rintro e w3 ⟨r3, rfl, hr3, ho3⟩; have hq3 : New w1 w3 := hq2.trans hr3; have hz3 := hr3.size)
          | (go_at_call 75; refine (HSRQ.out _ _ (by unfold colN; rw [HRN.out]; exact ho3.at)).mono ?_; rintro e w4 ⟨q4, rfl, hr4, ho4⟩; have hq4 : New w1 w4 := hq3.trans hr4; have hz4 := hr4.size; have c24 := hq4.cell c2))
      all_goals go_wp2_with fail
      all_goals refine bodyPost_ret (v := .tuple #[.int .i64 QN, q4, .int .i64 0]) (by simp [results, Try.results40, go_sem]) rfl ?_
      all_goals rw [HE.out]
      all_goals (try simp only [] at ho4 ⊢)
      all_goals exact ⟨_, rfl, hfin.trans hq4, ho4.widen (by (try simp only [size_drew] at *) <;> omega) (Nat.le_refl _)⟩
  · have HE : Hid (R = (0, [], CD)) := by
      have := HR.out
      refine hid ?_
      rw [this, hCD]
      unfold colCode at hCD ⊢
      by_cases h1 : roadsOk r = true
      · rw [if_pos h1] at hCD ⊢
        rw [if_pos h1]
        by_cases h2 : 50000 < colCount r
        · rw [if_pos h2, if_pos h2]
        · rw [if_neg h2] at hCD
          exact absurd hCD hc0
      · rw [if_neg h1, if_neg h1]
    have hcn : (CD == 0) = false := by simpa using hc0
    have hcn2 : (CD != 0) = true := by simpa using hc0
    clear hCD HR
    go_enter Try.func40, Try.ntmps40
    go_wp2_with fail
    rw [← hwb]
    clear hwb
    go_wp2_with fail
    refine HC.out.mono ?_
    rintro e w1 ⟨rfl, hbt, h00, _⟩
    have hfin : New w w1 := But.new hnb hbt (fun q hq => by omega)
    go_wp2_with fail
    refine bodyPost_ret (v := .tuple #[.int .i64 0, .slice none 0 0, .int .i64 CD]) (by simp [results, Try.results40, go_sem]) rfl ?_
    rw [HE.out]
    exact ⟨_, rfl, hfin, OwnInts.nil _ _ _⟩

end Go.Proofs.Ytiflokfinkachaa
