/- The program's roads of which an automaton is a colouring. -/
import Derived.Test.YtiflokfinkachaaRows
import Derived.Test.YtiflokfinkachaaCore
import Derived.Test.YtiflokfinkachaaInfos
import Derived.Test.YtiflokfinkachaaPlains
import Derived.Test.YtiflokfinkachaaJoins
import Derived.Test.YtiflokfinkachaaIBase
import Derived.Test.YtiflokfinkachaaISort
import Derived.WalkKit
import Derived.WalkSpells
import Derived.WalkLawsBesides
import Derived.Deep.QuietTactic
import Derived.Deep.OwnRows
import Derived.BigQuiet
import Derived.KernelRfl
import Derived.Deep.RegionHeld3
namespace Go.Proofs.Ytiflokfinkachaa
open Go.RowKit

set_option maxRecDepth 20000 in
set_option maxHeartbeats 1000000 in
theorem leads_any (v1 : Value) (a : Aut) (s : Int) (w : World) (h1 : AutAt w v1 a) (ha : autOk a = true) (hs : 0 ≤ s ∧ s < a.n) :
    Calls Try.prog 119 #[v1, .int .i64 s] w fun e w' => ∃ r, e = .returned r ∧ New w w' ∧ OwnInts w.heap.size w'.heap.size w' r (leadsOf a.nx s) := by
  obtain ⟨rv, rfl, hr⟩ := h1
  obtain ⟨A2, c2, rfl, hl2, hc2⟩ := hr
  obtain ⟨s0, s1⟩ := hs
  have hal := autOk_l ha
  have HA := hid ha
  clear ha
  go_enter Try.func119, Try.ntmps119
  go_wp2
  go_loopw [5, 12] (fun o i wr => ∃ k : Nat, k ≤ a.nx.length ∧ i = .int .i64 k ∧ Grow w.heap.size 2 wr o ((a.nx.take k).map fun row => nth row s.toNat) ∧ New w wr) (fun _ i _ => a.nx.length - (intOf i).toNat)
  case atStart => exact ⟨0, Nat.zero_le _, rfl, (by have := Grow.empty w.heap.size 2 (w.alloc (.cells #[.int .i64 a.n, .slice A2 a.nx.length c2] 40)) (by (try simp only [sizes]) <;> omega); rw [size_alloc] at this; exact this), (by repeat (first | with_reducible exact New.refl _ | with_reducible assumption | with_reducible refine New.alloc ?_ _ | with_reducible refine New.drew ?_ | with_reducible refine New.drewN ?_ _ | with_reducible refine New.setCell ?_ (by simp <;> omega) _))⟩
  case round =>
    obtain ⟨k, hk, rfl, ho, hn⟩ := hrel
    by_cases hlt : k < a.nx.length
    · obtain ⟨b2, off2, rv, rfl, hx2, hr2⟩ := hc2 k hlt
      obtain ⟨A3, c3, rfl, hl3, hc3⟩ := hr2
      have b1 : (k : Int) < (a.nx.length : Int) := by omega
      obtain ⟨r1, r2⟩ := autOk_row HA.out k hlt
      obtain ⟨b4, off4, rfl, hx4⟩ := hc3 s.toNat (by omega)
      have k4 : s < ((nth a.nx k).length : Int) := by omega
      replace hx2 := hn.cell hx2
      replace hx4 := hn.cell hx4
      have hkl : ((a.nx.take k).map fun row => nth row s.toNat).length = k := by simp; omega
      have HKL := hid hkl
      have hzr := hn.size
      have hal2 := hal.2
      clear hc2 hc3 r1 r2 hkl
      go_wp2_with (at_builtin; refine wpList_app rfl _ _ _ rfl Try.underlying26 info_i64 _ _ rfl ho rfl (by have := HKL.out; omega) (by omega) ?_; intro g cap w2 ho2 hg2)
      go_roundw
      case rel => exact ⟨k + 1, by omega, by go_num, by rw [take_succ_nth a.nx k hlt, List.map_append]; rw [HKL.out] at ho2; exact ho2, hn.app hg2 ho (Nat.le_refl _)⟩
      case measure => simp [intOf]; omega
    · have e : k = a.nx.length := by omega
      subst e
      rw [List.take_length] at ho
      go_wp2
      go_ret
      exact ⟨_, rfl, hn, ho.own (by simp; omega)⟩
set_option maxRecDepth 20000 in
set_option maxHeartbeats 2000000 in
theorem roads_any (v1 : Value) (a : Aut) (w : World) (h1 : AutAt w v1 a) (ha : autOk a = true) :
    Calls Try.prog 212 #[v1] w fun e w' => ∃ r, e = .returned r ∧ New w w' ∧ OwnAut w.heap.size w'.heap.size w' r (roadsOf a) := by
  obtain ⟨rv, rfl, hr⟩ := h1
  obtain ⟨A2, c2, rfl⟩ := hr.form
  have h1 : AutAt w (.agg #[.int .i64 a.n, .slice A2 a.nx.length c2]) a := ⟨_, rfl, hr⟩
  have han := autOk_n ha
  have hal := autOk_l ha
  obtain ⟨m, hm⟩ : ∃ m : Nat, a.n = (m : Int) := ⟨a.n.toNat, by omega⟩
  have hm10 : m ≤ 10 := by omega
  have HM := hid hm
  have HR := hid (show roadsOf a = ⟨a.n, (iota 0 m).map fun s => insAll (leadsOf a.nx s)⟩ by unfold roadsOf; rw [hm]; rfl)
  have HC1 := hid (fun (s : Nat) w1 (hmm : New w w1) (hs : s < m) => leads_any _ a (s : Int) w1 (h1.new hmm) ha (by omega))
  have HLL := hid (fun s => (show 0 < (leadsOf a.nx s).length ∧ (leadsOf a.nx s).length ≤ 3 by rw [leadsOf_len]; omega))
  rw [hm] at HC1
  obtain ⟨wb, hwb⟩ : ∃ wb, wb = ((w.alloc (.cells #[.int .i64 m, .slice A2 a.nx.length c2] 40)).alloc (.cells #[.int .i64 0, .slice none 0 0] 59)).alloc (.cells #[.int .i64 m, .slice none 0 0] 59) := ⟨_, rfl⟩
  have hnb : New w wb := by rw [hwb]; exact (by repeat (first | with_reducible exact New.refl _ | with_reducible assumption | with_reducible refine New.alloc ?_ _ | with_reducible refine New.drew ?_ | with_reducible refine New.drewN ?_ _ | with_reducible refine New.setCell ?_ (by simp <;> omega) _))
  have hzb : w.heap.size + 3 = wb.heap.size := by rw [hwb]; simp only [size_alloc]
  have hb0 : Box2 wb w.heap.size (.int .i64 m) (.slice A2 a.nx.length c2) := by rw [hwb]; exact ⟨by go_simp, by go_simp, by go_simp, by go_simp⟩
  have hb1 : Box2 wb (w.heap.size + 1) (.int .i64 0) (.slice none 0 0) := by rw [hwb]; exact ⟨by go_simp, by go_simp, by go_simp, by go_simp⟩
  have hb2 : Box2 wb (w.heap.size + 1 + 1) (.int .i64 m) (.slice none 0 0) := by rw [hwb]; exact ⟨by go_simp, by go_simp, by go_simp, by go_simp⟩
  rw [hm]
  clear hm han ha
  go_enter Try.func212, Try.ntmps212
  go_wp2
  rw [← hwb]
  clear hwb
  go_loopw [11] (fun i wr => ∃ (k : Nat) (v : Value), k ≤ m ∧ i = .int .i64 k ∧ New w wr ∧ Box2 wr w.heap.size (.int .i64 m) (.slice A2 a.nx.length c2) ∧ Box2 wr (w.heap.size + 1) (.int .i64 0) (.slice none 0 0) ∧
      Box2 wr (w.heap.size + 1 + 1) (.int .i64 m) v ∧ w.heap.size + 3 ≤ wr.heap.size ∧ GrowRows (w.heap.size + 3) 26 wr v ((iota 0 k).map fun s => insAll (leadsOf a.nx s))) (fun i _ => m - (intOf i).toNat)
  case atStart => exact ⟨0, _, Nat.zero_le _, rfl, hnb, hb0, hb1, hb2, by omega, by simpa [iota] using GrowRows.nil _ _ _⟩
  case round =>
    obtain ⟨k, v, hk, rfl, hn, hba, hbr, hbo, hsz, hg⟩ := hrel
    obtain ⟨wo, rfl⟩ : ∃ wo : World, wo = wr := ⟨_, rfl⟩
    clear hb0 hb1 hb2 hnb hzb
    obtain ⟨y0, y1, _, _⟩ := id hba
    obtain ⟨z0, z1, zf0, zf1⟩ := id hbo
    have hkl : ((iota 0 k).map fun s => insAll (leadsOf a.nx s)).length = k := by simp [iota]
    have HKL := hid hkl
    obtain ⟨Av, cv, rfl⟩ := hg.form
    rw [hkl] at hg z1 hbo
    clear hkl
    by_cases hlt : k < m
    · have b1 : (k : Int) < (m : Int) := by omega
      have HG := hid hg
      clear hg
      go_wp2_with fail
      refine (HC1.out k _ hn hlt).mono ?_
      rintro e w2 ⟨r2, he, hn2, ho2⟩
      obtain ⟨q, hq⟩ : ∃ q, q = (leadsOf a.nx (k : Int)).length := ⟨_, rfl⟩
      have hq0 := HLL.out (k : Int)
      obtain ⟨bb, ob, cb, rfl⟩ := ho2.addr hq0.1
      rw [← hq] at he ho2 hq0
      have hbb := ho2.block bb rfl
      subst he
      have HS := hid (fun w1 (h : OwnInts wo.heap.size w2.heap.size w1 (.slice (some ⟨bb, ob, none⟩) q cb) (leadsOf a.nx (k : Int))) => Sort64_any (leadsOf a.nx (k : Int)) w1 h hq.symm (by omega))
      have HQ := hid (show (insAll (leadsOf a.nx (k : Int))).length = q by rw [insAll_len, hq])
      clear hq
      go_wp2_with fail
      refine (HS.out _ ho2).mono ?_
      rintro e w3 ⟨rfl, ho3, hg3⟩
      have hq3 : New wo w3 := New.grown hn2 hg3 (fun q hq => by cases hq; omega)
      have hs2 := hn2.size
      have hs3 := hg3.size
      have hbo3 := hbo.new hq3
      obtain ⟨x0', x1', xf0', xf1'⟩ := id hbo3
      have HO3 := hid (ho3.widen (E' := w3.heap.size) (Nat.le_refl _) hs3)
      clear ho2 ho3 hg3 z0 z1 zf0 zf1 y0 y1
      go_wp2_with (at_builtin; refine wpList_appRows rfl _ _ _ rfl Try.underlying22 info_ints (.slice Av k cv) ((iota 0 k).map fun s => insAll (leadsOf a.nx s)) (insAll (leadsOf a.nx (k : Int))) rfl HG.out hq3 HO3.out rfl (by have := HKL.out; omega) (by omega) ?_; intro g cap w5 ho5 hg5; have hbo5 := hbo3.grown hg5 (fun q hq => by have := HG.out.block q hq; omega); obtain ⟨x0', x1', xf0', xf1'⟩ := id hbo5)
      go_roundw
      case rel =>
        have hn5 : New w w5 := New.grown (hn.trans hq3) hg5 (fun q hq => by have := HG.out.block q hq; omega)
        have hs5 := hg5.size
        rw [List.length_map] at ho5
        have hW := within_setCell w5 ⟨w.heap.size + 1 + 1, 1, none⟩ (.slice (some ⟨g, 0, none⟩) ((iota 0 k).length + 1) cap)
        refine ⟨k + 1, _, by omega, by go_num, hn5.setCell (by show w.heap.size ≤ w.heap.size + 1 + 1; omega) _, ?_, ?_, hbo5.set1 _, (by (try simp only [sizes]) <;> omega), ?_⟩
        · exact ((hba.new hq3).grown hg5 (fun q hq => by have := HG.out.block q hq; omega)).other _ (by simp; omega) _
        · exact ((hbr.new hq3).grown hg5 (fun q hq => by have := HG.out.block q hq; omega)).other _ (by simp) _
        · have e : (iota 0 (k + 1)).map (fun s => insAll (leadsOf a.nx s)) = (iota 0 k).map (fun s => insAll (leadsOf a.nx s)) ++ [insAll (leadsOf a.nx (k : Int))] := by rw [iota_snoc, List.map_append]; simp
          rw [e]
          exact ho5.within hW (by simp)
      case measure => simp [intOf]; omega
    · have e : m = k := by omega
      subst e
      obtain ⟨v0, v1, vf0, vf1⟩ := id hbr
      have HG := hid hg
      clear hg
      go_wp2_with fail
      obtain ⟨g0, g1, _, _⟩ := (hbr.set0 (.int .i64 m)).set1 (.slice Av m cv)
      refine bodyPost_ret (v := .agg #[.int .i64 m, .slice Av m cv]) ?_ rfl ?_
      · simp [results, Try.results212, go_sem, g0, g1]
      · have hW : Within (w.heap.size + 1) (w.heap.size + 2) wo ((wo.setCell ⟨w.heap.size + 1, 0, none⟩ (.int .i64 m)).setCell ⟨w.heap.size + 1, 1, none⟩ (.slice Av m cv)) :=
          Within.setCell (Within.setCell (Within.refl _ _ _) (by simp) (by simp) _) (by simp) (by simp) _
        have hO := (HG.out.within hW (by omega)).own (by have := HKL.out; omega)
        rw [HR.out, HM.out]
        exact ⟨_, rfl, hn.within hW (by omega), _, rfl, hO.widen (by omega) (Nat.le_refl _)⟩

end Go.Proofs.Ytiflokfinkachaa
