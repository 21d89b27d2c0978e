/- The program's renumbering of states. -/
import Derived.Test.YtdaaglfemaoigaaRows
import Derived.Test.YtdaaglfemaoigaaBase
import Derived.Test.YtdaaglfemaoigaaAut
import Derived.Test.YtdaaglfemaoigaaApp
import Derived.Test.YtdaaglfemaoigaaAppRows
import Derived.Test.YtdaaglfemaoigaaInfo
import Derived.Test.YtdaaglfemaoigaaPlain1
import Derived.Test.YtdaaglfemaoigaaPlainRun
import Derived.Test.YtdaaglfemaoigaaPlainSet
import Derived.Test.YtdaaglfemaoigaaPlainRen
import Derived.Test.YtdaaglfemaoigaaI01a
import Derived.Test.YtdaaglfemaoigaaI01b
import Derived.Test.YtdaaglfemaoigaaI01c
import Derived.Test.YtdaaglfemaoigaaIIdx
import Derived.WalkKit
import Derived.WalkSpells
import Derived.WalkLawsBesides
import Derived.Deep.QuietTactic
import Derived.Deep.OwnRows
import Derived.BigQuiet
import Derived.KernelRfl
namespace Go.Proofs.Ytdaaglfemaoigaa
open Go.RowKit

set_option maxHeartbeats 400000 in
theorem all_any (v : Value) (a : Aut) (w : World) (h : AutAt w v a) (ha : autOk a = true) :
    Calls Try.prog 76 #[v] w fun e w' => ∃ r, e = .returned r ∧ New w w' ∧ OwnInts w.heap.size w'.heap.size w' r (iota 0 a.n.toNat) := by
  obtain ⟨rv, rfl, hr⟩ := h
  obtain ⟨A, c, rfl⟩ := hr.form
  have h1 : AutAt w (.agg #[.int .i64 a.n, .slice A a.nx.length c]) a := ⟨_, rfl, hr⟩
  go_enter Try.func76, Try.ntmps76
  go_wp2_with fail
  refine (action_any _ _ a [] _ (h1.new (by repeat (first | with_reducible exact New.refl _ | with_reducible assumption | with_reducible refine New.alloc ?_ _ | with_reducible refine New.drewN ?_ _ | with_reducible refine New.drew ?_ | with_reducible refine New.trans ?_ (by with_reducible assumption)))) ⟨none, 0, rfl, by simp, by simp⟩ ha (fun i hi => by simp at hi)).mono ?_
  rintro e w1 ⟨r, rfl, hn1, ho⟩
  have hz := hn1.size
  simp only [size_alloc] at hz
  rw [actOf_nil] at ho
  go_wp2
  go_ret
  exact ⟨_, rfl, (by repeat (first | with_reducible exact New.refl _ | with_reducible assumption | with_reducible refine New.alloc ?_ _ | with_reducible refine New.drewN ?_ _ | with_reducible refine New.drew ?_ | with_reducible refine New.trans ?_ (by with_reducible assumption))), ho.widen (by (try simp only [sizes]) <;> omega) (Nat.le_refl _)⟩
theorem idxOf_place (xs : List Int) (n : Int) : idxOf (fun x => decide (x = n)) xs = placeOf xs n := rfl
set_option maxRecDepth 20000 in
set_option maxHeartbeats 2000000 in
theorem renumbered_any (v1 v2 : Value) (a : Aut) (order : List Int) (w : World) (h1 : AutAt w v1 a) (h2 : IntsAt w v2 order) (ha : autOk a = true) (ho : statesIn a order) (hol : order.length ≤ 10) :
    Calls Try.prog 75 #[v1, v2] w fun e w' => ∃ r, e = .returned r ∧ New w w' ∧ OwnAut w.heap.size w'.heap.size w' r (renOf a order) := by
  obtain ⟨rv, rfl, hr⟩ := h1
  obtain ⟨A2, c2, rfl, hl2, hc2⟩ := hr
  obtain ⟨A, c, rfl, hl, hc⟩ := id h2
  have HA := hid ha
  have HO := hid ho
  have HN := hid hol
  have hal := (autOk_l ha)
  obtain ⟨wb, hwb⟩ : ∃ wb, wb = ((w.alloc (.cells #[.int .i64 a.n, .slice A2 a.nx.length c2] 26)).alloc (.cells #[.int .i64 0, .slice none 0 0] 26)).alloc (.cells #[.int .i64 order.length, .slice none 0 0] 26) := ⟨_, rfl⟩
  have hnb : New w wb := by rw [hwb]; exact (by repeat (first | with_reducible exact New.refl _ | with_reducible assumption | with_reducible refine New.alloc ?_ _ | with_reducible refine New.drew ?_ | with_reducible refine New.drewN ?_ _ | with_reducible refine New.setCell ?_ (by simp <;> omega) _))
  have hzb : w.heap.size + 3 = wb.heap.size := by rw [hwb]; simp only [size_alloc]
  have hb : Box2 wb w.heap.size (.int .i64 a.n) (.slice A2 a.nx.length c2) := by rw [hwb]; exact ⟨by go_simp, by go_simp, by go_simp, by go_simp⟩
  have hb1 : Box2 wb (w.heap.size + 1) (.int .i64 0) (.slice none 0 0) := by rw [hwb]; exact ⟨by go_simp, by go_simp, by go_simp, by go_simp⟩
  have hb2 : Box2 wb (w.heap.size + 1 + 1) (.int .i64 order.length) (.slice none 0 0) := by rw [hwb]; exact ⟨by go_simp, by go_simp, by go_simp, by go_simp⟩
  clear ha ho hol
  go_enter Try.func75, Try.ntmps75
  go_wp2_with (go_at_call 93; refine (size64_any _ _ _ _ hl).mono ?_; rintro e w' ⟨rfl, rfl⟩)
  rw [← hwb]
  clear hwb
  go_loopw [17] (fun i wr => ∃ (k : Nat) (v : Value), k ≤ a.nx.length ∧ i = .int .i64 k ∧ New w wr ∧ Box2 wr w.heap.size (.int .i64 a.n) (.slice A2 a.nx.length c2) ∧ Box2 wr (w.heap.size + 1) (.int .i64 0) (.slice none 0 0) ∧
      Box2 wr (w.heap.size + 1 + 1) (.int .i64 order.length) v ∧ w.heap.size + 3 ≤ wr.heap.size ∧ GrowRows (w.heap.size + 3) 36 wr v ((a.nx.take k).map fun row => renRow order row)) (fun i _ => a.nx.length - (intOf i).toNat)
  case atStart => exact ⟨0, _, Nat.zero_le _, rfl, hnb, hb, hb1, hb2, by omega, by simpa using GrowRows.nil _ _ _⟩
  case round =>
    obtain ⟨k, v, hk, rfl, hn, hba, hbr, hbo, hsz, hg⟩ := hrel
    obtain ⟨wo, rfl⟩ : ∃ wo : World, wo = wr := ⟨_, rfl⟩
    clear hb hb1 hb2 hnb hzb
    obtain ⟨y0, y1, _, _⟩ := id hba
    obtain ⟨z0, z1, zf0, zf1⟩ := id hbo
    by_cases hlt : k < a.nx.length
    · obtain ⟨b2, off2, rv, rfl, hx2, hr2⟩ := hc2 k hlt
      obtain ⟨A3, c3, rfl, hl3, hc3⟩ := hr2
      have b1 : (k : Int) < (a.nx.length : Int) := by omega
      obtain ⟨r1, r2⟩ := autOk_row HA.out k hlt
      replace hx2 := hn.cell hx2
      have hkl : ((a.nx.take k).map fun row => renRow order row).length = k := by simp; omega
      have HR2 := hid r2
      have HR1 := hid r1
      have HG := hid hg
      have hal2 := hal.2
      obtain ⟨Av, cv, rfl⟩ := hg.form
      rw [hkl] at HG z1 hbo
      clear hc2 r1 r2 hg
      go_wp2
      go_loopw [8, 24] (fun o i wr => ∃ j : Nat, j ≤ order.length ∧ i = .int .i64 j ∧ Grow wo.heap.size 2 wr o ((order.take j).map fun s => placeOf order (nth (nth a.nx k) s.toNat)) ∧ New wo wr) (fun _ i _ => order.length - (intOf i).toNat)
      case atStart => exact ⟨0, Nat.zero_le _, rfl, Grow.empty _ _ _ (Nat.le_refl _), (by repeat (first | with_reducible exact New.refl _ | with_reducible assumption | with_reducible refine New.alloc ?_ _ | with_reducible refine New.drew ?_ | with_reducible refine New.drewN ?_ _ | with_reducible refine New.setCell ?_ (by simp <;> omega) _))⟩
      case round =>
        obtain ⟨j, hj, rfl, hgo, hn2⟩ := hrel
        by_cases hltj : j < order.length
        · obtain ⟨b, off, rfl, hx⟩ := hc j hltj
          have b3 : (j : Int) < (order.length : Int) := by omega
          obtain ⟨o0, o1⟩ := HO.out j hltj
          obtain ⟨b4, off4, rfl, hx4⟩ := hc3 (nth order j).toNat (by have := HR1.out; omega)
          have k4 : nth order j < ((nth a.nx k).length : Int) := by have := HR1.out; omega
          have hnn := hn.trans hn2
          replace hx := hnn.cell hx
          replace hx4 := hnn.cell hx4
          have hzr := hn2.size
          have hlj : ((order.take j).map fun s => placeOf order (nth (nth a.nx k) s.toNat)).length = j := by simp; omega
          have HNN := HN.out
          clear hc hc3
          go_wp2_with (first
            | (go_at_call 104; refine (Index64_any _ _ _ _ (h2.new hnn)).mono ?_; rintro e w' ⟨rfl, rfl⟩)
            | (at_builtin; refine wpList_app rfl _ _ _ rfl Try.underlying36 info_i64 _ _ rfl hgo rfl (by omega) (by omega) ?_; intro g cap w2 ho2 hg2))
          go_roundw
          case rel => exact ⟨j + 1, by omega, by go_num, by rw [take_succ_nth order j hltj, List.map_append]; rw [idxOf_place, hlj] at ho2; exact ho2, hn2.app hg2 hgo (Nat.le_refl _)⟩
          case measure => simp [intOf]; omega
        · have e : j = order.length := by omega
          subst e
          rw [List.take_length] at hgo
          have hzr := hn2.size
          obtain ⟨w0', w1', wf0', wf1'⟩ := hbo.new hn2
          have hgo' : OwnInts wo.heap.size wr.heap.size wr _ (renRow order (nth a.nx k)) := hgo.own (by have := HN.out; simp; omega)
          obtain ⟨Ao, co, hof⟩ := hgo'.form
          rw [hof] at hgo'
          have HGO := hid hgo'
          have hkl' := hkl
          clear hgo hgo' z0 z1 zf0 zf1 y0 y1
          subst hof
          go_wp2_with (at_builtin; refine wpList_appRows rfl _ _ _ rfl Try.underlying22 info_ints (.slice Av k cv) ((a.nx.take k).map fun row => renRow order row) (renRow order (nth a.nx k)) rfl HG.out hn2 HGO.out rfl (by omega) (by omega) ?_; intro g cap w3 ho3 hg3; have hbo3 := (hbo.new hn2).grown hg3 (fun q hq => by have := HG.out.block q hq; omega); obtain ⟨x0', x1', xf0', xf1'⟩ := id hbo3)
          go_roundw
          case rel =>
            have hW := within_setCell w3 ⟨w.heap.size + 1 + 1, 1, none⟩ (.slice (some ⟨g, 0, none⟩) (k + 1) cap)
            have hn3 : New w w3 := New.grown (hn.trans hn2) hg3 (fun q hq => by have := HG.out.block q hq; omega)
            have hs3 := hg3.size
            rw [hkl'] at ho3
            refine ⟨k + 1, _, by omega, by go_num, hn3.setCell (by show w.heap.size ≤ w.heap.size + 1 + 1; omega) _, ?_, ?_, hbo3.set1 _, (by (try simp only [sizes]) <;> omega), ?_⟩
            · exact ((hba.new hn2).grown hg3 (fun q hq => by have := HG.out.block q hq; omega)).other _ (by simp; omega) _
            · exact ((hbr.new hn2).grown hg3 (fun q hq => by have := HG.out.block q hq; omega)).other _ (by simp) _
            · rw [take_succ_nth a.nx k hlt, List.map_append]
              exact ho3.within hW (by simp)
          case measure => simp [intOf]; omega
    · have e : k = a.nx.length := by omega
      subst e
      rw [List.take_length] at hg
      obtain ⟨v0, v1, vf0, vf1⟩ := id hbr
      obtain ⟨Av, cv, rfl⟩ := hg.form
      rw [List.length_map] at hg z1
      rw [List.length_map] at hbo
      have HG := hid hg
      clear hg
      go_wp2_with fail
      obtain ⟨g0, g1, _, _⟩ := (hbr.set0 (.int .i64 order.length)).set1 (.slice Av a.nx.length cv)
      refine bodyPost_ret (v := .agg #[.int .i64 order.length, .slice Av a.nx.length cv]) ?_ rfl ?_
      · simp [results, Try.results75, go_sem, g0, g1]
      · have hW : Within (w.heap.size + 1) (w.heap.size + 2) wo ((wo.setCell ⟨w.heap.size + 1, 0, none⟩ (.int .i64 order.length)).setCell ⟨w.heap.size + 1, 1, none⟩ (.slice Av a.nx.length cv)) :=
          Within.setCell (Within.setCell (Within.refl _ _ _) (by simp) (by simp) _) (by simp) (by simp) _
        have hO := (HG.out.within hW (by omega)).own (by simp; omega)
        exact ⟨_, rfl, hn.within hW (by omega), _, rfl, hO.widen (by omega) (Nat.le_refl _)⟩

end Go.Proofs.Ytdaaglfemaoigaa
