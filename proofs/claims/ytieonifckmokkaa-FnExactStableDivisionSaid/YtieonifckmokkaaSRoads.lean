/- The reference's roads of an automaton. -/
import Derived.Test.YtieonifckmokkaaRows
import Derived.Test.YtieonifckmokkaaCore
import Derived.Test.YtieonifckmokkaaInfos
import Derived.Test.YtieonifckmokkaaPlains
import Derived.Test.YtieonifckmokkaaJoins
import Derived.Test.YtieonifckmokkaaSBase
import Derived.Test.YtieonifckmokkaaSSort
import Derived.WalkKit
import Derived.WalkSpells
import Derived.WalkLawsBesides
import Derived.Deep.QuietTactic
import Derived.Deep.OwnRows
import Derived.BigQuiet
import Derived.KernelRfl
import Derived.Deep.RegionLaw
namespace Go.Proofs.Ytieonifckmokkaa
open Go.RowKit

set_option maxRecDepth 20000 in
set_option maxHeartbeats 1000000 in
theorem l05Letters_any (p : Value) (a : Aut) (s : Int) (w : World) (hp : PAut w p a) (ha : autOk a = true) (hs : 0 ≤ s ∧ s < a.n) :
    Calls Try.prog 212 #[p, .int .i64 s] w fun e w' => ∃ r, e = .returned r ∧ New w w' ∧ OwnInts w.heap.size w'.heap.size w' r (leadsOf a.nx s) := by
  obtain ⟨b, rv, rfl, hp0, hp1, hr⟩ := hp
  obtain ⟨A2, c2, rfl, hl2, hc2⟩ := hr
  obtain ⟨s0, s1⟩ := hs
  have hal := autOk_l ha
  have HA := hid ha
  clear ha
  go_enter Try.func212, Try.ntmps212
  go_wp2
  go_loopw [5, 6] (fun o i wr => ∃ k : Nat, k ≤ a.nx.length ∧ i = .int .i64 k ∧ Grow w.heap.size 2 wr o ((a.nx.take k).map fun row => nth row s.toNat) ∧ New w wr) (fun _ i _ => a.nx.length - (intOf i).toNat)
  case atStart => exact ⟨0, Nat.zero_le _, rfl, Grow.empty _ _ _ (Nat.le_refl _), (by repeat (first | with_reducible exact New.refl _ | with_reducible assumption | with_reducible refine New.alloc ?_ _ | with_reducible refine New.drew ?_ | with_reducible refine New.drewN ?_ _ | with_reducible refine New.setCell ?_ (by simp <;> omega) _))⟩
  case round =>
    obtain ⟨k, hk, rfl, ho, hn⟩ := hrel
    replace hp1 := hn.cell hp1
    by_cases hlt : k < a.nx.length
    · obtain ⟨b2, off2, rv, rfl, hx2, hr2⟩ := hc2 k hlt
      obtain ⟨A3, c3, rfl, hl3, hc3⟩ := hr2
      have b1 : (k : Int) < (a.nx.length : Int) := by omega
      obtain ⟨r1, r2⟩ := autOk_row HA.out k hlt
      obtain ⟨b4, off4, rfl, hx4⟩ := hc3 s.toNat (by omega)
      have k4 : s < ((nth a.nx k).length : Int) := by omega
      replace hx2 := hn.cell hx2
      replace hx4 := hn.cell hx4
      have hkl : ((a.nx.take k).map fun row => nth row s.toNat).length = k := by simp; omega
      have HKL := hid hkl
      have hzr := hn.size
      have hal2 := hal.2
      clear hc2 hc3 r1 r2 hkl
      go_wp2_with (at_builtin; refine wpList_app rfl _ _ _ rfl Try.underlying30 info_i64 _ _ rfl ho rfl (by have := HKL.out; omega) (by omega) ?_; intro g cap w2 ho2 hg2)
      go_roundw
      case rel => exact ⟨k + 1, by omega, by go_num, by rw [take_succ_nth a.nx k hlt, List.map_append]; rw [HKL.out] at ho2; exact ho2, hn.app hg2 ho (Nat.le_refl _)⟩
      case measure => simp [intOf]; omega
    · have e : k = a.nx.length := by omega
      subst e
      rw [List.take_length] at ho
      go_wp2
      go_ret
      exact ⟨_, rfl, hn, ho.own (by simp; omega)⟩
theorem cell_box (w : World) (z : Value) (T : TypeId) : (w.alloc (.cells #[z] T)).cell? ⟨w.heap.size, 0, none⟩ = some z := by unfold World.cell?; rw [heap_alloc_new]; rfl
set_option maxRecDepth 20000 in
set_option maxHeartbeats 2000000 in
theorem l05Of_any (p : Value) (a : Aut) (w : World) (hp : PAut w p a) (ha : autOk a = true) :
    Calls Try.prog 140 #[p] w fun e w' => ∃ r, e = .returned r ∧ New w w' ∧ OwnAut w.heap.size w'.heap.size w' r (roadsOf a) := by
  have hp' := hp
  obtain ⟨b, rv, rfl, hp0, hp1, hr⟩ := hp
  have han := autOk_n ha
  have hal := autOk_l ha
  obtain ⟨m, hm⟩ : ∃ m : Nat, a.n = (m : Int) := ⟨a.n.toNat, by omega⟩
  have hm10 : m ≤ 10 := by omega
  have HM := hid hm
  have HR := hid (show roadsOf a = ⟨a.n, (iota 0 m).map fun s => insAll (leadsOf a.nx s)⟩ by unfold roadsOf; rw [hm]; rfl)
  obtain ⟨wb, hwb⟩ : ∃ wb, wb = (w.alloc (.cells #[.int .i64 0, .slice none 0 0] 26)).alloc (.cells #[.int .i64 m, .slice none 0 0] 26) := ⟨_, rfl⟩
  have hnb : New w wb := by rw [hwb]; exact (by repeat (first | with_reducible exact New.refl _ | with_reducible assumption | with_reducible refine New.alloc ?_ _ | with_reducible refine New.drew ?_ | with_reducible refine New.drewN ?_ _ | with_reducible refine New.setCell ?_ (by simp <;> omega) _))
  have hzb : w.heap.size + 2 = wb.heap.size := by rw [hwb]; simp only [size_alloc]
  have hb1 : Box2 wb w.heap.size (.int .i64 0) (.slice none 0 0) := by rw [hwb]; exact ⟨by go_simp, by go_simp, by go_simp, by go_simp⟩
  have hb2 : Box2 wb (w.heap.size + 1) (.int .i64 m) (.slice none 0 0) := by rw [hwb]; exact ⟨by go_simp, by go_simp, by go_simp, by go_simp⟩
  rw [hm] at hp0
  have HC1 := hid (fun (s : Nat) w1 (hmm : New w w1) (hs : s < m) => l05Letters_any _ a (s : Int) w1 (hp'.new hmm) ha (by omega))
  have HC2 := hid (fun v (xs : List Int) w1 (h : IntsAt w1 v xs) (hl : xs.length ≤ 3) => l05Sorted_any v xs w1 h (by omega))
  have HLL := hid (fun s => (show (leadsOf a.nx s).length ≤ 3 by rw [leadsOf_len]; omega))
  have hbl : b < w.heap.size := World.block_lt_of_cell? w _ hp0
  clear hm han ha
  go_enter Try.func140, Try.ntmps140
  go_wp2
  rw [← hwb]
  clear hwb
  go_loopw [4] (fun i wr => ∃ (k : Nat) (v : Value), k ≤ m ∧ i = .int .i64 k ∧ New w wr ∧ Box2 wr w.heap.size (.int .i64 0) (.slice none 0 0) ∧
      Box2 wr (w.heap.size + 1) (.int .i64 m) v ∧ w.heap.size + 2 ≤ wr.heap.size ∧ GrowRows (w.heap.size + 2) 30 wr v ((iota 0 k).map fun s => insAll (leadsOf a.nx s))) (fun i _ => m - (intOf i).toNat)
  case atStart => exact ⟨0, _, Nat.zero_le _, rfl, hnb, hb1, hb2, by omega, by simpa [iota] using GrowRows.nil _ _ _⟩
  case round =>
    obtain ⟨k, v, hk, rfl, hn, hbr, hbo, hsz, hg⟩ := hrel
    obtain ⟨wo, rfl⟩ : ∃ wo : World, wo = wr := ⟨_, rfl⟩
    clear hb1 hb2 hnb hzb
    replace hp0 := hn.cell hp0
    replace hp1 := hn.cell hp1
    obtain ⟨z0, z1, zf0, zf1⟩ := id hbo
    have hkl : ((iota 0 k).map fun s => insAll (leadsOf a.nx s)).length = k := by simp [iota]
    have HKL := hid hkl
    obtain ⟨Av, cv, rfl⟩ := hg.form
    rw [hkl] at hg z1 hbo
    clear hkl
    by_cases hlt : k < m
    · have b1 : (k : Int) < (m : Int) := by omega
      have HG := hid hg
      clear hg
      go_wp2_with fail
      have y1 : wo.drew.cell? ⟨w.heap.size + 1, 1, none⟩ = some (.slice Av k cv) := z1
      go_region_law (first
          | (go_simp; go_at_call 212; refine (HC1.out k _ (hn.trans (New.refl _).drew) hlt).mono ?_; rintro e w2 ⟨r2, he, hr2, ho2⟩; obtain ⟨A2, c2, rfl⟩ := ho2.form; subst he; have hq2 : New wo w2 := New.trans (New.refl _).drew hr2; have y2 := hq2.cell z1; have s2 : w.heap.size + 1 < w2.heap.size := by have := hq2.size; omega)
          | (go_simp; go_at_call 211; refine (HC2.out _ _ _ ho2.at (HLL.out _)).mono ?_; rintro e w3 ⟨r3, he, hr3, ho3⟩; obtain ⟨A3, c3, rfl⟩ := ho3.form; subst he; have hq3 : New wo w3 := hq2.trans hr3; have y3 := hq3.cell z1; have s3 : w.heap.size + 1 < w3.heap.size := (by have := hq3.size; omega); have hs2 := hq2.size; have hs3 := hr3.size)
          | (refine step_appRows1 (w0 := wo) rfl _ _ _ rfl Try.underlying24 info_ints (.slice Av k cv) _ ((iota 0 k).map fun s => insAll (leadsOf a.nx s)) (insAll (leadsOf a.nx k)) _ rfl HG.out (hq3.trans (by repeat (first | with_reducible exact New.refl _ | with_reducible assumption | with_reducible refine New.alloc ?_ _ | with_reducible refine New.drew ?_ | with_reducible refine New.drewN ?_ _ | with_reducible refine New.setCell ?_ (by simp <;> omega) _))) ((ho3.new (by repeat (first | with_reducible exact New.refl _ | with_reducible assumption | with_reducible refine New.alloc ?_ _ | with_reducible refine New.drew ?_ | with_reducible refine New.drewN ?_ _ | with_reducible refine New.setCell ?_ (by simp <;> omega) _))).widen (by omega) (by (try simp only [sizes]) <;> omega)) rfl (cell_box _ _ _) (by have := HKL.out; omega) (by omega) ?_; intro g cap w5 ho5 hg5; have hbo5 := ((hbo.new hq3).new ((New.refl _).alloc _)).grown hg5 (fun q hq => by have := HG.out.block q hq; omega); obtain ⟨x0', x1', xf0', xf1'⟩ := id hbo5))
      all_goals go_wp2
      all_goals go_roundw
      all_goals first
        | (simp [intOf]; omega)
        | (have hn5 : New w w5 := New.grown (hn.trans (hq3.trans (by repeat (first | with_reducible exact New.refl _ | with_reducible assumption | with_reducible refine New.alloc ?_ _ | with_reducible refine New.drew ?_ | with_reducible refine New.drewN ?_ _ | with_reducible refine New.setCell ?_ (by simp <;> omega) _)))) hg5 (fun q hq => by have := HG.out.block q hq; omega)
           have hs5 := hg5.size
           simp only [size_alloc] at hs5
           rw [List.length_map] at ho5
           have hW := within_setCell w5 ⟨w.heap.size + 1, 1, none⟩ (.slice (some ⟨g, 0, none⟩) ((iota 0 k).length + 1) cap)
           refine ⟨k + 1, _, by omega, by go_num, hn5.setCell (by show w.heap.size ≤ w.heap.size + 1; omega) _, ?_, hbo5.set1 _, (by (try simp only [sizes]) <;> omega), ?_⟩
           · exact (((hbr.new hq3).new ((New.refl _).alloc _)).grown hg5 (fun q hq => by have := HG.out.block q hq; omega)).other _ (by simp) _
           · have e : (iota 0 (k + 1)).map (fun s => insAll (leadsOf a.nx s)) = (iota 0 k).map (fun s => insAll (leadsOf a.nx s)) ++ [insAll (leadsOf a.nx (k : Int))] := by rw [iota_snoc, List.map_append]; simp
             rw [e]
             exact ho5.within hW (by simp))
    · have e : m = k := by omega
      subst e
      obtain ⟨v0, v1, vf0, vf1⟩ := id hbr
      have HG := hid hg
      clear hg
      go_wp2_with fail
      obtain ⟨g0, g1, _, _⟩ := (hbr.set0 (.int .i64 m)).set1 (.slice Av m cv)
      refine bodyPost_ret (v := .agg #[.int .i64 m, .slice Av m cv]) ?_ rfl ?_
      · simp [results, Try.results140, go_sem, g0, g1]
      · have hW : Within w.heap.size (w.heap.size + 1) wo ((wo.setCell ⟨w.heap.size, 0, none⟩ (.int .i64 m)).setCell ⟨w.heap.size, 1, none⟩ (.slice Av m cv)) :=
          Within.setCell (Within.setCell (Within.refl _ _ _) (by simp) (by simp) _) (by simp) (by simp) _
        have hO := (HG.out.within hW (by omega)).own (by have := HKL.out; omega)
        rw [HR.out, HM.out]
        exact ⟨_, rfl, hn.within hW (Nat.le_refl _), _, rfl, hO.widen (by omega) (Nat.le_refl _)⟩

end Go.Proofs.Ytieonifckmokkaa
