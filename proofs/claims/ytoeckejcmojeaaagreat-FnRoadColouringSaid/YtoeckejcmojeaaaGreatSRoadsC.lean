/- The reference's roads of an automaton; no row is longer than its capacity. -/
import Derived.Test.YtoeckejcmojeaaaGreatRows
import Derived.Test.YtoeckejcmojeaaaGreatCore
import Derived.Test.YtoeckejcmojeaaaGreatInfos
import Derived.Test.YtoeckejcmojeaaaGreatPlains
import Derived.Test.YtoeckejcmojeaaaGreatJoins
import Derived.Test.YtoeckejcmojeaaaGreatSBase
import Derived.Test.YtoeckejcmojeaaaGreatSRdss
import Derived.Test.YtoeckejcmojeaaaGreatSOwn
import Derived.Test.YtoeckejcmojeaaaGreatSArrs
import Derived.Test.YtoeckejcmojeaaaGreatRowsC
import Derived.WalkKit
import Derived.WalkSpells
import Derived.WalkLawsBesides
import Derived.Deep.QuietTactic
import Derived.Deep.OwnRows
import Derived.BigQuiet
import Derived.KernelRfl
import Derived.Deep.RegionLaw
namespace Go.Proofs.YtoeckejcmojeaaaGreat
open Go.RowKit

set_option maxRecDepth 20000 in
set_option maxHeartbeats 2000000 in
theorem l05OfC_any (p : Value) (a : Aut) (w : World) (hp : PAut w p a) (ha : autOk a = true) :
    Calls Tryz.prog 109 #[p] w fun e w' => ∃ r, e = .returned r ∧ New w w' ∧ OwnAut w.heap.size w'.heap.size w' r (roadsOf a) ∧ CapAut w' r (roadsOf a) := by
  have hp' := hp
  obtain ⟨b, rv, rfl, hp0, hp1, hr⟩ := hp
  have han := autOk_n ha
  have hal := autOk_l ha
  obtain ⟨m, hm⟩ : ∃ m : Nat, a.n = (m : Int) := ⟨a.n.toNat, by omega⟩
  have hm10 : m ≤ 10 := by omega
  have HM := hid hm
  have HR := hid (show roadsOf a = ⟨a.n, (iota 0 m).map fun s => insAll (leadsOf a.nx s)⟩ by unfold roadsOf; rw [hm]; rfl)
  obtain ⟨wb, hwb⟩ : ∃ wb, wb = (w.alloc (.cells #[.int .i64 0, .slice none 0 0] 47)).alloc (.cells #[.int .i64 m, .slice none 0 0] 47) := ⟨_, rfl⟩
  have hnb : New w wb := by rw [hwb]; exact (by repeat (first | with_reducible exact New.refl _ | with_reducible assumption | with_reducible refine New.alloc ?_ _ | with_reducible refine New.drew ?_ | with_reducible refine New.drewN ?_ _ | with_reducible refine New.setCell ?_ (by simp <;> omega) _))
  have hzb : w.heap.size + 2 = wb.heap.size := by rw [hwb]; simp only [size_alloc]
  have hb1 : Box2 wb w.heap.size (.int .i64 0) (.slice none 0 0) := by rw [hwb]; exact ⟨by go_simp, by go_simp, by go_simp, by go_simp⟩
  have hb2 : Box2 wb (w.heap.size + 1) (.int .i64 m) (.slice none 0 0) := by rw [hwb]; exact ⟨by go_simp, by go_simp, by go_simp, by go_simp⟩
  rw [hm] at hp0
  have HC1 := hid (fun (s : Nat) w1 (hmm : New w w1) (hs : s < m) => l05Letters_any _ a (s : Int) w1 (hp'.new hmm) ha (by omega))
  have HC2 := hid (fun v (xs : List Int) w1 (h : IntsAt w1 v xs) (hl : xs.length ≤ 3) => l05SortedC_any v xs w1 h (by omega))
  have HLL := hid (fun s => (show (leadsOf a.nx s).length ≤ 3 by rw [leadsOf_len]; omega))
  have hbl : b < w.heap.size := World.block_lt_of_cell? w _ hp0
  clear hm han ha
  go_enter Tryz.func109, Tryz.ntmps109
  go_wp2
  rw [← hwb]
  clear hwb
  go_loopw [4] (fun i wr => ∃ (k : Nat) (v : Value), k ≤ m ∧ i = .int .i64 k ∧ New w wr ∧ Box2 wr w.heap.size (.int .i64 0) (.slice none 0 0) ∧
      Box2 wr (w.heap.size + 1) (.int .i64 m) v ∧ w.heap.size + 2 ≤ wr.heap.size ∧ GrowRowsC (w.heap.size + 2) 34 wr v ((iota 0 k).map fun s => insAll (leadsOf a.nx s))) (fun i _ => m - (intOf i).toNat)
  case atStart => exact ⟨0, _, Nat.zero_le _, rfl, hnb, hb1, hb2, by omega, by simpa [iota] using GrowRowsC.nil _ _ _⟩
  case round =>
    obtain ⟨k, v, hk, rfl, hn, hbr, hbo, hsz, hg⟩ := hrel
    obtain ⟨wo, rfl⟩ : ∃ wo : World, wo = wr := ⟨_, rfl⟩
    clear hb1 hb2 hnb hzb
    replace hp0 := hn.cell hp0
    replace hp1 := hn.cell hp1
    obtain ⟨z0, z1, zf0, zf1⟩ := id hbo
    have hkl : ((iota 0 k).map fun s => insAll (leadsOf a.nx s)).length = k := by simp [iota]
    have HKL := hid hkl
    obtain ⟨Av, cv, rfl⟩ := hg.form
    rw [hkl] at hg z1 hbo
    clear hkl
    by_cases hlt : k < m
    · have b1 : (k : Int) < (m : Int) := by omega
      have HG := hid hg
      clear hg
      go_wp2_with fail
      have y1 : wo.drew.cell? ⟨w.heap.size + 1, 1, none⟩ = some (.slice Av k cv) := z1
      go_region_law (first
          | (go_simp; go_at_call 147; refine (HC1.out k _ (hn.trans (New.refl _).drew) hlt).mono ?_; rintro e w2 ⟨r2, he, hr2, ho2⟩; obtain ⟨A2, c2, rfl⟩ := ho2.form; subst he; have hq2 : New wo w2 := New.trans (New.refl _).drew hr2; have y2 := hq2.cell z1; have s2 : w.heap.size + 1 < w2.heap.size := by have := hq2.size; omega)
          | (go_simp; go_at_call 146; refine (HC2.out _ _ _ ho2.at (HLL.out _)).mono ?_; rintro e w3 ⟨r3, he, hr3, ho3, hcp3⟩; obtain ⟨A3, c3, rfl⟩ := ho3.form; subst he; have hq3 : New wo w3 := hq2.trans hr3; have y3 := hq3.cell z1; have s3 : w.heap.size + 1 < w3.heap.size := (by have := hq3.size; omega); have hs2 := hq2.size; have hs3 := hr3.size)
          | (refine step_appRowsC1 (w0 := wo) rfl _ _ _ rfl Tryz.underlying24 info_ints (.slice Av k cv) _ ((iota 0 k).map fun s => insAll (leadsOf a.nx s)) (insAll (leadsOf a.nx k)) _ rfl HG.out (hq3.trans (by repeat (first | with_reducible exact New.refl _ | with_reducible assumption | with_reducible refine New.alloc ?_ _ | with_reducible refine New.drew ?_ | with_reducible refine New.drewN ?_ _ | with_reducible refine New.setCell ?_ (by simp <;> omega) _))) hcp3 ((ho3.new (by repeat (first | with_reducible exact New.refl _ | with_reducible assumption | with_reducible refine New.alloc ?_ _ | with_reducible refine New.drew ?_ | with_reducible refine New.drewN ?_ _ | with_reducible refine New.setCell ?_ (by simp <;> omega) _))).widen (by omega) (by (try simp only [sizes]) <;> omega)) rfl (cell_box _ _ _) (by have := HKL.out; omega) (by omega) ?_; intro g cap w5 ho5 hg5; have hbo5 := ((hbo.new hq3).new ((New.refl _).alloc _)).grown hg5 (fun q hq => by have := HG.out.block q hq; omega); obtain ⟨x0', x1', xf0', xf1'⟩ := id hbo5))
      all_goals go_wp2
      all_goals go_roundw
      all_goals first
        | (simp [intOf]; omega)
        | (have hn5 : New w w5 := New.grown (hn.trans (hq3.trans (by repeat (first | with_reducible exact New.refl _ | with_reducible assumption | with_reducible refine New.alloc ?_ _ | with_reducible refine New.drew ?_ | with_reducible refine New.drewN ?_ _ | with_reducible refine New.setCell ?_ (by simp <;> omega) _)))) hg5 (fun q hq => by have := HG.out.block q hq; omega)
           have hs5 := hg5.size
           simp only [size_alloc] at hs5
           rw [List.length_map] at ho5
           have hW := within_setCell w5 ⟨w.heap.size + 1, 1, none⟩ (.slice (some ⟨g, 0, none⟩) ((iota 0 k).length + 1) cap)
           refine ⟨k + 1, _, by omega, by go_num, hn5.setCell (by show w.heap.size ≤ w.heap.size + 1; omega) _, ?_, hbo5.set1 _, (by (try simp only [sizes]) <;> omega), ?_⟩
           · exact (((hbr.new hq3).new ((New.refl _).alloc _)).grown hg5 (fun q hq => by have := HG.out.block q hq; omega)).other _ (by simp) _
           · have e : (iota 0 (k + 1)).map (fun s => insAll (leadsOf a.nx s)) = (iota 0 k).map (fun s => insAll (leadsOf a.nx s)) ++ [insAll (leadsOf a.nx (k : Int))] := by rw [iota_snoc, List.map_append]; simp
             rw [e]
             exact ho5.within hW (by simp))
    · have e : m = k := by omega
      subst e
      obtain ⟨v0, v1, vf0, vf1⟩ := id hbr
      have HG := hid hg
      clear hg
      go_wp2_with fail
      obtain ⟨g0, g1, _, _⟩ := (hbr.set0 (.int .i64 m)).set1 (.slice Av m cv)
      refine bodyPost_ret (v := .agg #[.int .i64 m, .slice Av m cv]) ?_ rfl ?_
      · simp [results, Tryz.results109, go_sem, g0, g1]
      · have hW : Within w.heap.size (w.heap.size + 1) wo ((wo.setCell ⟨w.heap.size, 0, none⟩ (.int .i64 m)).setCell ⟨w.heap.size, 1, none⟩ (.slice Av m cv)) :=
          Within.setCell (Within.setCell (Within.refl _ _ _) (by simp) (by simp) _) (by simp) (by simp) _
        have hO := (HG.out.within hW (by omega)).rows.own (by have := HKL.out; omega)
        have hC := (HG.out.within hW (by omega)).caps (by have := HKL.out; omega)
        rw [HR.out, HM.out]
        exact ⟨_, rfl, hn.within hW (Nat.le_refl _), ⟨_, rfl, hO.widen (by omega) (Nat.le_refl _)⟩, ⟨_, rfl, hC⟩⟩

end Go.Proofs.YtoeckejcmojeaaaGreat
