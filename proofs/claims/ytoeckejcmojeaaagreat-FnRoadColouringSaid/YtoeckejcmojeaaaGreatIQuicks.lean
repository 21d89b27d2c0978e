/- Parts of the proof that lean on no program: IQuick, IQuick2, IFirstReset, IFirstReset2. -/
import Derived.Test.YtoeckejcmojeaaaGreatRows
import Derived.Test.YtoeckejcmojeaaaGreatCore
import Derived.Test.YtoeckejcmojeaaaGreatInfos
import Derived.Test.YtoeckejcmojeaaaGreatPlains
import Derived.Test.YtoeckejcmojeaaaGreatJoins
import Derived.Test.YtoeckejcmojeaaaGreatQuicks
import Derived.Test.YtoeckejcmojeaaaGreatMaps
import Derived.Test.YtoeckejcmojeaaaGreatArrs
import Derived.Test.YtoeckejcmojeaaaGreatIArrs
import Derived.Test.YtoeckejcmojeaaaGreatIAt
import Derived.Test.YtoeckejcmojeaaaGreatIRdss
import Derived.Test.YtoeckejcmojeaaaGreatICol
import Derived.Test.YtoeckejcmojeaaaGreatITours
import Derived.Test.YtoeckejcmojeaaaGreatPlainReset
import Derived.WalkKit
import Derived.WalkSpells
import Derived.WalkLawsBesides
import Derived.Deep.QuietTactic
import Derived.Deep.OwnRows
import Derived.BigQuiet
import Derived.KernelRfl
import Derived.Carry
import Derived.Deep.RegionHeld3
import Derived.Laws.EntriesVeiled
namespace Go.Proofs.YtoeckejcmojeaaaGreat
open Go.RowKit

section
theorem survey_vals {r : Aut} (hf : RoadsFacts r) (n : Nat) : ((colW r n).2 = true → (surveyOf (colN r n)).1 = 1 ∧ (surveyOf (colN r n)).2 = ((colW r n).1.length : Int)) ∧ ((colW r n).2 = false → ¬ (surveyOf (colN r n)).1 = 1) := by
  constructor
  · intro h
    have := survey_yes (a := colN r n) h
    rw [this]
    exact ⟨rfl, rfl⟩
  · intro h
    exact survey_no (colN_ok hf n) (colN_n hf n) h
end
section
theorem colCode_true {r : Aut} (h : colCode r = 0) : roadsOk r = true ∧ ¬ 50000 < colCount r := by
  unfold colCode at h
  split at h
  · rename_i h1
    refine ⟨h1, ?_⟩
    split at h
    · cases h
    · assumption
  · cases h
theorem reset_colN {r : Aut} (hf : RoadsFacts r) (N : Nat) (hw : (colW r N).2 = true) : ShortestReset (colN r N) = ((colW r N).1, 0) := by
  unfold ShortestReset
  rw [if_pos (colN_ok hf N)]
  show told (colW r N) = _
  unfold told
  rw [if_pos hw]
end
section
set_option maxRecDepth 20000 in
set_option maxHeartbeats 1000000 in
theorem FirstReset1_any (r : Aut) (hf : RoadsFacts r) (n fb : Nat) (w : World) (hn : n ≤ 279936) (hneg : hitTo (colW r) n < 0) (h1 : Box1 w fb (.int .i64 (hitTo (colW r) n))) :
    Calls Tryz.prog 117 #[.int .i64 (n : Nat), .int .i64 (surveyOf (colN r n)).1, .int .i64 (surveyOf (colN r n)).2, .pointer (some ⟨fb, 0, none⟩)] w
      fun e w' => e = .returned (.bool (!(colW r n).2)) ∧ But (fun q => q = fb) w w' ∧ Box1 w' fb (.int .i64 (hitTo (colW r) (n + 1))) := by
  obtain ⟨v1, v2⟩ := survey_vals hf n
  obtain ⟨S1, hS1⟩ : ∃ z, z = (surveyOf (colN r n)).1 := ⟨_, rfl⟩
  obtain ⟨S2, hS2⟩ : ∃ z, z = (surveyOf (colN r n)).2 := ⟨_, rfl⟩
  rw [← hS1, ← hS2] at v1
  rw [← hS1] at v2
  rw [← hS1, ← hS2]
  clear hS1 hS2
  obtain ⟨c1, f1⟩ := id h1
  cases hw : (colW r n).2 with
  | false =>
    have hne1 := v2 hw
    have hb : (S1 == 1) = false := by simpa using hne1
    have HQ := hid (hitTo_no (f := colW r) (n := n) hw)
    obtain ⟨H, hH⟩ : ∃ H, H = hitTo (colW r) n := ⟨_, rfl⟩
    rw [← hH] at c1 h1 hneg HQ
    clear v1 v2 hw hne1 hH
    go_enter Tryz.func117, Tryz.ntmps117
    go_wp2_with fail
    go_ret
    rw [HQ.out]
    exact ⟨rfl, But.refl, h1⟩
  | true =>
    obtain ⟨rfl, _⟩ := v1 hw
    have HQ := hid (hitTo_yes (f := colW r) (n := n) hneg hw)
    obtain ⟨H, hH⟩ : ∃ H, H = hitTo (colW r) n := ⟨_, rfl⟩
    rw [← hH] at c1 h1
    have hn0 : ¬ (n : Int) < 0 := by omega
    clear v2 hneg hw hH
    go_enter Tryz.func117, Tryz.ntmps117
    go_wp2_with fail
    go_ret
    rw [HQ.out]
    exact ⟨rfl, But.setCell (S := fun q => q = fb) ⟨fb, 0, none⟩ _ rfl, h1.set _⟩
end
section
theorem hitTo_end {f : Nat → List Int × Bool} {N C : Nat} (hN : N ≤ C) (h : N < C → 0 < N ∧ (!(f (N - 1)).2) = false) : hitTo f N = hitTo f C := by
  rcases Nat.lt_or_ge N C with q | q
  · obtain ⟨h0, h1⟩ := h q
    have hp : 0 ≤ hitTo f N := by
      rcases Int.lt_or_le (hitTo f N) 0 with e | e
      · have := (hitTo_neg f N).1 e (N - 1) (by omega)
        rw [this] at h1; cases h1
      · exact e
    have := hitTo_stay hp (C - N)
    rw [show N + (C - N) = C by omega] at this
    exact this.symm
  · rw [show N = C by omega]
set_option maxRecDepth 20000 in
set_option maxHeartbeats 2000000 in
theorem implFirstResetColouring_any (v : Value) (r : Aut) (w : World) (h : AutAt w v r) :
    Calls Tryz.prog 65 #[v] w fun e w' => e = .returned (.tuple #[.int .i64 (FirstReset r).1, .int .i64 (FirstReset r).2]) ∧ New w w' := by
  obtain ⟨rv, rfl, hr⟩ := h
  obtain ⟨A, c, rfl⟩ := hr.form
  have h1 : AutAt w (.agg #[.int .i64 r.n, .slice A r.nx.length c]) r := ⟨_, rfl, hr⟩
  obtain ⟨wb, hwb⟩ : ∃ wb, wb = (w.alloc (.cells #[.int .i64 r.n, .slice A r.nx.length c] 47)).alloc (.cells #[.int .i64 (-1)] 2) := ⟨_, rfl⟩
  have hnb : New w wb := by rw [hwb]; exact (by repeat (first | with_reducible exact New.refl _ | with_reducible assumption | with_reducible refine New.alloc ?_ _ | with_reducible refine New.drewN ?_ _ | with_reducible refine New.drew ?_ | with_reducible refine New.trans ?_ (by with_reducible assumption)))
  have hb0 : wb.cell? ⟨w.heap.size, 0, none⟩ = some (.int .i64 r.n) := by rw [hwb]; go_simp
  have hb1 : wb.cell? ⟨w.heap.size, 1, none⟩ = some (.slice A r.nx.length c) := by rw [hwb]; go_simp
  have hzb : wb.heap.size = w.heap.size + 2 := by rw [hwb]; simp only [size_alloc]
  have hx1 : Box1 wb (w.heap.size + 1) (.int .i64 (-1)) := by rw [hwb]; exact ⟨by go_simp, by go_simp⟩
  have HC := hid (colourings_any _ r w wb 117 #[.pointer (some ⟨w.heap.size + 1, 0, none⟩)] h1 hnb (enters Tryz.func117 (by decide) (by simp [Tryz.f117]))
    (fun q => q = w.heap.size + 1) (fun q hq => by omega)
    (fun n w1 => Box1 w1 (w.heap.size + 1) (.int .i64 (hitTo (colW r) n))) (fun n => !(colW r n).2)
    (fun n w1 w2 hb hn => hb.new hn)
    (fun n w1 hn hf hgo hb => FirstReset1_any r hf n _ w1 (by have := colCount_big hf; omega) ((hitTo_neg _ _).2 (fun m hm => by have := hgo m hm; simpa using this)) hb)
    hx1)
  obtain ⟨R, hR⟩ : ∃ R, R = FirstReset r := ⟨_, rfl⟩
  rw [← hR]
  unfold FirstReset at hR
  have HR := hid hR
  clear hR hzb
  obtain ⟨F, hFF⟩ : ∃ z, z = colW r := ⟨_, rfl⟩
  rw [← hFF] at HC HR
  obtain ⟨CD, hCD⟩ : ∃ z, z = colCode r := ⟨_, rfl⟩
  rw [← hCD] at HC
  by_cases hc0 : CD = 0
  · obtain ⟨hok, h5⟩ := colCode_true (hCD.symm.trans hc0)
    have HE0 := hid (show R = (if hitTo F (colCount r) < 0 then (0, 6) else (hitTo F (colCount r), 0)) by rw [HR.out, if_pos hok, if_neg h5])
    subst hc0
    have hEND := hid (fun N hN h => hitTo_end (f := F) (N := N) (C := colCount r) hN h)
    clear hok h5 hCD HR hFF
    by_cases hq : hitTo F (colCount r) < 0
    · have HE := hid (show R = (0, 6) by rw [HE0.out, if_pos hq])
      obtain ⟨Q, hQ⟩ : ∃ z, z = hitTo F (colCount r) := ⟨_, rfl⟩
      rw [← hQ] at hEND hq
      clear hQ HE0
      go_enter Tryz.func65, Tryz.ntmps65
      go_wp2_with fail
      rw [← hwb]
      clear hwb
      go_wp2_with fail
      refine HC.out.mono ?_
      rintro e w1 ⟨rfl, hbt, _, hok⟩
      obtain ⟨N, hN1, hI1, _, hN2⟩ := hok (by trivial)
      rw [hEND.out N hN1 hN2] at hI1
      obtain ⟨c1, _⟩ := id hI1
      have hfin : New w w1 := But.new hnb hbt (fun q hq => by omega)
      clear hok hN2 hEND HC
      go_wp2_with fail
      go_ret2
      rw [HE.out]
      exact ⟨rfl, hfin⟩
    · have HE := hid (show R = (hitTo F (colCount r), 0) by rw [HE0.out, if_neg hq])
      obtain ⟨Q, hQ⟩ : ∃ z, z = hitTo F (colCount r) := ⟨_, rfl⟩
      rw [← hQ] at hEND hq HE
      clear hQ HE0
      go_enter Tryz.func65, Tryz.ntmps65
      go_wp2_with fail
      rw [← hwb]
      clear hwb
      go_wp2_with fail
      refine HC.out.mono ?_
      rintro e w1 ⟨rfl, hbt, _, hok⟩
      obtain ⟨N, hN1, hI1, _, hN2⟩ := hok (by trivial)
      rw [hEND.out N hN1 hN2] at hI1
      obtain ⟨c1, _⟩ := id hI1
      have hfin : New w w1 := But.new hnb hbt (fun q hq => by omega)
      clear hok hN2 hEND HC
      go_wp2_with fail
      go_ret2
      rw [HE.out]
      exact ⟨rfl, hfin⟩
  · have HE : Hid (R = (0, CD)) := by
      have := HR.out
      refine hid ?_
      rw [this, hCD]
      unfold colCode at hCD ⊢
      by_cases h1 : roadsOk r = true
      · rw [if_pos h1] at hCD ⊢
        rw [if_pos h1]
        by_cases h2 : 50000 < colCount r
        · rw [if_pos h2, if_pos h2]
        · rw [if_neg h2] at hCD
          exact absurd hCD hc0
      · rw [if_neg h1, if_neg h1]
    have hcn : (CD == 0) = false := by simpa using hc0
    have hcn2 : (CD != 0) = true := by simpa using hc0
    clear hCD HR
    go_enter Tryz.func65, Tryz.ntmps65
    go_wp2_with fail
    rw [← hwb]
    clear hwb
    go_wp2_with fail
    refine HC.out.mono ?_
    rintro e w1 ⟨rfl, hbt, _, _⟩
    have hfin : New w w1 := But.new hnb hbt (fun q hq => by omega)
    go_wp2_with fail
    go_ret2
    rw [HE.out]
    exact ⟨rfl, hfin⟩
end

end Go.Proofs.YtoeckejcmojeaaaGreat
