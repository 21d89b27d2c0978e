/- Parts of the proof that lean on no program: SSort, SRoads, S05a. -/
import Derived.Test.YtoeckejcmojeaaaGreatRows
import Derived.Test.YtoeckejcmojeaaaGreatCore
import Derived.Test.YtoeckejcmojeaaaGreatInfos
import Derived.Test.YtoeckejcmojeaaaGreatPlains
import Derived.Test.YtoeckejcmojeaaaGreatJoins
import Derived.Test.YtoeckejcmojeaaaGreatSOwn
import Derived.Test.YtoeckejcmojeaaaGreatSBase
import Derived.WalkKit
import Derived.WalkSpells
import Derived.WalkLawsBesides
import Derived.Deep.QuietTactic
import Derived.Deep.OwnRows
import Derived.BigQuiet
import Derived.KernelRfl
import Derived.Deep.RegionLaw
namespace Go.Proofs.YtoeckejcmojeaaaGreat
open Go.RowKit

section
set_option maxRecDepth 20000 in
set_option maxHeartbeats 2000000 in
theorem l05SortedC_any (v : Value) (xs : List Int) (w : World) (h : IntsAt w v xs) (hl : xs.length ≤ 1048576) :
    Calls Tryz.prog 146 #[v] w fun e w' => ∃ r, e = .returned r ∧ New w w' ∧ OwnInts w.heap.size w'.heap.size w' r (insAll xs) ∧ CapAt r := by
  by_cases h0 : xs.length = 0
  · have hx : xs = [] := List.length_eq_zero_iff.1 h0
    subst hx
    have C := l00OwnC_any v [] w h hl
    go_enter Tryz.func146, Tryz.ntmps146
    go_wp2_with fail
    refine C.mono ?_
    rintro e w1 ⟨r, he, hn1, ho1, hcp⟩
    obtain ⟨A, c, rfl⟩ := ho1.form
    subst he
    go_wp2
    go_loopw [4] (fun i wr => i = .int .i64 1 ∧ wr = w1) (fun _ _ => 0)
    case atStart => exact ⟨rfl, rfl⟩
    case round =>
      obtain ⟨rfl, rfl⟩ := hrel
      go_wp2
      go_ret
      exact ⟨_, rfl, hn1, ho1, hcp⟩
  · obtain ⟨n, hn⟩ : ∃ n, n = xs.length := ⟨_, rfl⟩
    have HN := hid hn
    have hn0 : 0 < n := by omega
    have hn1' : n ≤ 1048576 := by omega
    have C := l00OwnC_any v xs w h hl
    clear hn h0
    go_enter Tryz.func146, Tryz.ntmps146
    go_wp2_with fail
    refine C.mono ?_
    rintro e w1 ⟨r, he, hn1, ho1, hcp0⟩
    obtain ⟨b, off, c, rfl⟩ := ho1.addr (by have := HN.out; omega)
    rw [← HN.out] at ho1 he hcp0
    have HCP := hid hcp0
    clear hcp0
    subst he
    have hbB := ho1.cells.2
    obtain ⟨hb1, hb2, _⟩ := hbB
    obtain ⟨E, hE⟩ : ∃ E, E = w1.heap.size := ⟨_, rfl⟩
    rw [← hE] at ho1 hb2
    have HE := hid hE
    clear hE
    go_wp2
    go_loopw [4, 5, 6] (fun i k x wr => ∃ m : Nat, 1 ≤ m ∧ m ≤ n ∧ i = .int .i64 m ∧ Hid (OwnInts w.heap.size E wr (.slice (some ⟨b, off, none⟩) n c) (insTo xs (m - 1))) ∧ Hid (New w wr ∧ E ≤ wr.heap.size)) (fun i _ _ _ => n - (intOf i).toNat)
    case atStart => exact ⟨1, Nat.le_refl _, hn0, rfl, hid ho1, hid ⟨hn1, by rw [HE.out]; exact Nat.le_refl _⟩⟩
    case round =>
      obtain ⟨m, hm1, hm2, rfl, ho, hnw⟩ := hrel
      obtain ⟨wo, rfl⟩ : ∃ wo : World, wo = wr := ⟨_, rfl⟩
      by_cases hlt : m < n
      · have b1 : (m : Int) < (n : Int) := by omega
        go_wp2
        go_loopw [5, 6] (fun k x wr => ∃ (j : Nat) (ys : List Int), j ≤ m ∧ k = .int .i64 j ∧ ys.length = n ∧ Hid (downAt j ys = insTo xs m) ∧ Hid (OwnInts w.heap.size E wr (.slice (some ⟨b, off, none⟩) n c) ys) ∧ Hid (New w wr ∧ E ≤ wr.heap.size)) (fun k _ _ => (intOf k).toNat)
        case atStart => exact ⟨m, insTo xs (m - 1), Nat.le_refl _, rfl, by rw [insTo_len]; exact HN.out.symm, hid (by obtain ⟨q, rfl⟩ : ∃ q, m = q + 1 := ⟨m - 1, by omega⟩; rfl), ho, hnw⟩
        case round =>
          obtain ⟨j, ys, hj, rfl, hys, hd, ho2, hn2⟩ := hrel
          have HYS := hid hys
          clear hys
          cases j with
          | zero =>
            have e : ys = insTo xs m := hd.out
            have HO := hid (e ▸ ho2.out)
            clear ho2 hd
            go_wp2_with fail
            go_quiet (fail)
            go_wp2
            go_roundw
            case rel => exact ⟨m + 1, by omega, by omega, by go_num, hid (HO.out.new ((New.refl _).drewN nq)), hid ⟨hn2.out.1.drewN nq, hn2.out.2⟩⟩
            case measure => (try simp [intOf]) <;> omega
          | succ j =>
            obtain ⟨x1, f1⟩ := ho2.out.cell_at (j + 1) (by have := HYS.out; omega)
            obtain ⟨x0, f0⟩ := ho2.out.cell_at j (by have := HYS.out; omega)
            have k1 : ((j + 1 : Nat) : Int) < (n : Int) := by omega
            have k0 : (j : Int) < (n : Int) := by omega
            have e1 : ((j + 1 : Nat) : Int) - 1 = (j : Int) := by omega
            have kp : (0 : Int) < ((j + 1 : Nat) : Int) := by omega
            by_cases hq : nth ys (j + 1) < nth ys j
            · have hq' : decide (nth ys (j + 1) < nth ys j) = true := by simp [hq]
              have HD := hid (show downAt j (swapAt ys j) = insTo xs m by rw [← downAt_go j ys hq]; exact hd.out)
              clear hq hd
              go_wp2_with fail
              go_quiet (fail)
              have hsw : OwnInts w.heap.size E (((wr.drewN nq).setCell ⟨b, off + (j + 1), none⟩ (.int .i64 (nth ys j))).setCell ⟨b, off + j, none⟩ (.int .i64 (nth ys (j + 1)))) (.slice (some ⟨b, off, none⟩) n c) (swapAt ys j) :=
                ((ho2.out.new ((New.refl _).drewN nq)).set (j + 1) (by have := HYS.out; omega) (nth ys j)).set j (by have := HYS.out; simp; omega) (nth ys (j + 1))
              have HSW := hid hsw
              clear hsw
              go_wp2
              go_roundw
              case rel => exact ⟨j, swapAt ys j, by omega, by go_num, by rw [swapAt_len]; exact HYS.out, HD, HSW, hid ⟨((hn2.out.1.drewN nq).setCell hb1 _).setCell hb1 _, by simp only [size_setCell, size_drewN]; exact hn2.out.2⟩⟩
              case measure => (try simp [intOf]) <;> omega
            · have hq' : decide (nth ys (j + 1) < nth ys j) = false := by simp; omega
              have HD := hid (show ys = insTo xs m by rw [← downAt_stay j ys hq]; exact hd.out)
              clear hq hd
              go_wp2_with fail
              go_quiet (fail)
              go_wp2
              go_roundw
              case rel => exact ⟨m + 1, by omega, by omega, by go_num, hid (by rw [show m + 1 - 1 = m from rfl, ← HD.out]; exact ho2.out.new ((New.refl _).drewN nq)), hid ⟨hn2.out.1.drewN nq, hn2.out.2⟩⟩
              case measure => (try simp [intOf]) <;> omega
      · have e : m = n := by omega
        subst e
        go_wp2
        go_ret
        refine ⟨_, rfl, hnw.out.1, ?_, HCP.out⟩
        have := ho.out
        rw [show insAll xs = insTo xs (m - 1) by rw [insAll, ← HN.out]]
        exact this.widen (Nat.le_refl _) hnw.out.2
theorem l05Sorted_any (v : Value) (xs : List Int) (w : World) (h : IntsAt w v xs) (hl : xs.length ≤ 1048576) :
    Calls Tryz.prog 146 #[v] w fun e w' => ∃ r, e = .returned r ∧ New w w' ∧ OwnInts w.heap.size w'.heap.size w' r (insAll xs) :=
  (l05SortedC_any v xs w h hl).mono fun _e _w' ⟨r, he, hn, ho, _⟩ => ⟨r, he, hn, ho⟩
end
section
set_option maxRecDepth 20000 in
set_option maxHeartbeats 1000000 in
theorem l05Letters_any (p : Value) (a : Aut) (s : Int) (w : World) (hp : PAut w p a) (ha : autOk a = true) (hs : 0 ≤ s ∧ s < a.n) :
    Calls Tryz.prog 147 #[p, .int .i64 s] w fun e w' => ∃ r, e = .returned r ∧ New w w' ∧ OwnInts w.heap.size w'.heap.size w' r (leadsOf a.nx s) := by
  obtain ⟨b, rv, rfl, hp0, hp1, hr⟩ := hp
  obtain ⟨A2, c2, rfl, hl2, hc2⟩ := hr
  obtain ⟨s0, s1⟩ := hs
  have hal := autOk_l ha
  have HA := hid ha
  clear ha
  go_enter Tryz.func147, Tryz.ntmps147
  go_wp2
  go_loopw [5, 6] (fun o i wr => ∃ k : Nat, k ≤ a.nx.length ∧ i = .int .i64 k ∧ Grow w.heap.size 2 wr o ((a.nx.take k).map fun row => nth row s.toNat) ∧ New w wr) (fun _ i _ => a.nx.length - (intOf i).toNat)
  case atStart => exact ⟨0, Nat.zero_le _, rfl, Grow.empty _ _ _ (Nat.le_refl _), (by repeat (first | with_reducible exact New.refl _ | with_reducible assumption | with_reducible refine New.alloc ?_ _ | with_reducible refine New.drew ?_ | with_reducible refine New.drewN ?_ _ | with_reducible refine New.setCell ?_ (by simp <;> omega) _))⟩
  case round =>
    obtain ⟨k, hk, rfl, ho, hn⟩ := hrel
    replace hp1 := hn.cell hp1
    by_cases hlt : k < a.nx.length
    · obtain ⟨b2, off2, rv, rfl, hx2, hr2⟩ := hc2 k hlt
      obtain ⟨A3, c3, rfl, hl3, hc3⟩ := hr2
      have b1 : (k : Int) < (a.nx.length : Int) := by omega
      obtain ⟨r1, r2⟩ := autOk_row HA.out k hlt
      obtain ⟨b4, off4, rfl, hx4⟩ := hc3 s.toNat (by omega)
      have k4 : s < ((nth a.nx k).length : Int) := by omega
      replace hx2 := hn.cell hx2
      replace hx4 := hn.cell hx4
      have hkl : ((a.nx.take k).map fun row => nth row s.toNat).length = k := by simp; omega
      have HKL := hid hkl
      have hzr := hn.size
      have hal2 := hal.2
      clear hc2 hc3 r1 r2 hkl
      go_wp2_with (at_builtin; refine wpList_app rfl _ _ _ rfl Tryz.underlying34 info_i64 _ _ rfl ho rfl (by have := HKL.out; omega) (by omega) ?_; intro g cap w2 ho2 hg2)
      go_roundw
      case rel => exact ⟨k + 1, by omega, by go_num, by rw [take_succ_nth a.nx k hlt, List.map_append]; rw [HKL.out] at ho2; exact ho2, hn.app hg2 ho (Nat.le_refl _)⟩
      case measure => simp [intOf]; omega
    · have e : k = a.nx.length := by omega
      subst e
      rw [List.take_length] at ho
      go_wp2
      go_ret
      exact ⟨_, rfl, hn, ho.own (by simp; omega)⟩
theorem cell_box (w : World) (z : Value) (T : TypeId) : (w.alloc (.cells #[z] T)).cell? ⟨w.heap.size, 0, none⟩ = some z := by unfold World.cell?; rw [heap_alloc_new]; rfl
set_option maxRecDepth 20000 in
set_option maxHeartbeats 2000000 in
theorem l05Of_any (p : Value) (a : Aut) (w : World) (hp : PAut w p a) (ha : autOk a = true) :
    Calls Tryz.prog 109 #[p] w fun e w' => ∃ r, e = .returned r ∧ New w w' ∧ OwnAut w.heap.size w'.heap.size w' r (roadsOf a) := by
  have hp' := hp
  obtain ⟨b, rv, rfl, hp0, hp1, hr⟩ := hp
  have han := autOk_n ha
  have hal := autOk_l ha
  obtain ⟨m, hm⟩ : ∃ m : Nat, a.n = (m : Int) := ⟨a.n.toNat, by omega⟩
  have hm10 : m ≤ 10 := by omega
  have HM := hid hm
  have HR := hid (show roadsOf a = ⟨a.n, (iota 0 m).map fun s => insAll (leadsOf a.nx s)⟩ by unfold roadsOf; rw [hm]; rfl)
  obtain ⟨wb, hwb⟩ : ∃ wb, wb = (w.alloc (.cells #[.int .i64 0, .slice none 0 0] 47)).alloc (.cells #[.int .i64 m, .slice none 0 0] 47) := ⟨_, rfl⟩
  have hnb : New w wb := by rw [hwb]; exact (by repeat (first | with_reducible exact New.refl _ | with_reducible assumption | with_reducible refine New.alloc ?_ _ | with_reducible refine New.drew ?_ | with_reducible refine New.drewN ?_ _ | with_reducible refine New.setCell ?_ (by simp <;> omega) _))
  have hzb : w.heap.size + 2 = wb.heap.size := by rw [hwb]; simp only [size_alloc]
  have hb1 : Box2 wb w.heap.size (.int .i64 0) (.slice none 0 0) := by rw [hwb]; exact ⟨by go_simp, by go_simp, by go_simp, by go_simp⟩
  have hb2 : Box2 wb (w.heap.size + 1) (.int .i64 m) (.slice none 0 0) := by rw [hwb]; exact ⟨by go_simp, by go_simp, by go_simp, by go_simp⟩
  rw [hm] at hp0
  have HC1 := hid (fun (s : Nat) w1 (hmm : New w w1) (hs : s < m) => l05Letters_any _ a (s : Int) w1 (hp'.new hmm) ha (by omega))
  have HC2 := hid (fun v (xs : List Int) w1 (h : IntsAt w1 v xs) (hl : xs.length ≤ 3) => l05Sorted_any v xs w1 h (by omega))
  have HLL := hid (fun s => (show (leadsOf a.nx s).length ≤ 3 by rw [leadsOf_len]; omega))
  have hbl : b < w.heap.size := World.block_lt_of_cell? w _ hp0
  clear hm han ha
  go_enter Tryz.func109, Tryz.ntmps109
  go_wp2
  rw [← hwb]
  clear hwb
  go_loopw [4] (fun i wr => ∃ (k : Nat) (v : Value), k ≤ m ∧ i = .int .i64 k ∧ New w wr ∧ Box2 wr w.heap.size (.int .i64 0) (.slice none 0 0) ∧
      Box2 wr (w.heap.size + 1) (.int .i64 m) v ∧ w.heap.size + 2 ≤ wr.heap.size ∧ GrowRows (w.heap.size + 2) 34 wr v ((iota 0 k).map fun s => insAll (leadsOf a.nx s))) (fun i _ => m - (intOf i).toNat)
  case atStart => exact ⟨0, _, Nat.zero_le _, rfl, hnb, hb1, hb2, by omega, by simpa [iota] using GrowRows.nil _ _ _⟩
  case round =>
    obtain ⟨k, v, hk, rfl, hn, hbr, hbo, hsz, hg⟩ := hrel
    obtain ⟨wo, rfl⟩ : ∃ wo : World, wo = wr := ⟨_, rfl⟩
    clear hb1 hb2 hnb hzb
    replace hp0 := hn.cell hp0
    replace hp1 := hn.cell hp1
    obtain ⟨z0, z1, zf0, zf1⟩ := id hbo
    have hkl : ((iota 0 k).map fun s => insAll (leadsOf a.nx s)).length = k := by simp [iota]
    have HKL := hid hkl
    obtain ⟨Av, cv, rfl⟩ := hg.form
    rw [hkl] at hg z1 hbo
    clear hkl
    by_cases hlt : k < m
    · have b1 : (k : Int) < (m : Int) := by omega
      have HG := hid hg
      clear hg
      go_wp2_with fail
      have y1 : wo.drew.cell? ⟨w.heap.size + 1, 1, none⟩ = some (.slice Av k cv) := z1
      go_region_law (first
          | (go_simp; go_at_call 147; refine (HC1.out k _ (hn.trans (New.refl _).drew) hlt).mono ?_; rintro e w2 ⟨r2, he, hr2, ho2⟩; obtain ⟨A2, c2, rfl⟩ := ho2.form; subst he; have hq2 : New wo w2 := New.trans (New.refl _).drew hr2; have y2 := hq2.cell z1; have s2 : w.heap.size + 1 < w2.heap.size := by have := hq2.size; omega)
          | (go_simp; go_at_call 146; refine (HC2.out _ _ _ ho2.at (HLL.out _)).mono ?_; rintro e w3 ⟨r3, he, hr3, ho3⟩; obtain ⟨A3, c3, rfl⟩ := ho3.form; subst he; have hq3 : New wo w3 := hq2.trans hr3; have y3 := hq3.cell z1; have s3 : w.heap.size + 1 < w3.heap.size := (by have := hq3.size; omega); have hs2 := hq2.size; have hs3 := hr3.size)
          | (refine step_appRows1 (w0 := wo) rfl _ _ _ rfl Tryz.underlying24 info_ints (.slice Av k cv) _ ((iota 0 k).map fun s => insAll (leadsOf a.nx s)) (insAll (leadsOf a.nx k)) _ rfl HG.out (hq3.trans (by repeat (first | with_reducible exact New.refl _ | with_reducible assumption | with_reducible refine New.alloc ?_ _ | with_reducible refine New.drew ?_ | with_reducible refine New.drewN ?_ _ | with_reducible refine New.setCell ?_ (by simp <;> omega) _))) ((ho3.new (by repeat (first | with_reducible exact New.refl _ | with_reducible assumption | with_reducible refine New.alloc ?_ _ | with_reducible refine New.drew ?_ | with_reducible refine New.drewN ?_ _ | with_reducible refine New.setCell ?_ (by simp <;> omega) _))).widen (by omega) (by (try simp only [sizes]) <;> omega)) rfl (cell_box _ _ _) (by have := HKL.out; omega) (by omega) ?_; intro g cap w5 ho5 hg5; have hbo5 := ((hbo.new hq3).new ((New.refl _).alloc _)).grown hg5 (fun q hq => by have := HG.out.block q hq; omega); obtain ⟨x0', x1', xf0', xf1'⟩ := id hbo5))
      all_goals go_wp2
      all_goals go_roundw
      all_goals first
        | (simp [intOf]; omega)
        | (have hn5 : New w w5 := New.grown (hn.trans (hq3.trans (by repeat (first | with_reducible exact New.refl _ | with_reducible assumption | with_reducible refine New.alloc ?_ _ | with_reducible refine New.drew ?_ | with_reducible refine New.drewN ?_ _ | with_reducible refine New.setCell ?_ (by simp <;> omega) _)))) hg5 (fun q hq => by have := HG.out.block q hq; omega)
           have hs5 := hg5.size
           simp only [size_alloc] at hs5
           rw [List.length_map] at ho5
           have hW := within_setCell w5 ⟨w.heap.size + 1, 1, none⟩ (.slice (some ⟨g, 0, none⟩) ((iota 0 k).length + 1) cap)
           refine ⟨k + 1, _, by omega, by go_num, hn5.setCell (by show w.heap.size ≤ w.heap.size + 1; omega) _, ?_, hbo5.set1 _, (by (try simp only [sizes]) <;> omega), ?_⟩
           · exact (((hbr.new hq3).new ((New.refl _).alloc _)).grown hg5 (fun q hq => by have := HG.out.block q hq; omega)).other _ (by simp) _
           · have e : (iota 0 (k + 1)).map (fun s => insAll (leadsOf a.nx s)) = (iota 0 k).map (fun s => insAll (leadsOf a.nx s)) ++ [insAll (leadsOf a.nx (k : Int))] := by rw [iota_snoc, List.map_append]; simp
             rw [e]
             exact ho5.within hW (by simp))
    · have e : m = k := by omega
      subst e
      obtain ⟨v0, v1, vf0, vf1⟩ := id hbr
      have HG := hid hg
      clear hg
      go_wp2_with fail
      obtain ⟨g0, g1, _, _⟩ := (hbr.set0 (.int .i64 m)).set1 (.slice Av m cv)
      refine bodyPost_ret (v := .agg #[.int .i64 m, .slice Av m cv]) ?_ rfl ?_
      · simp [results, Tryz.results109, go_sem, g0, g1]
      · have hW : Within w.heap.size (w.heap.size + 1) wo ((wo.setCell ⟨w.heap.size, 0, none⟩ (.int .i64 m)).setCell ⟨w.heap.size, 1, none⟩ (.slice Av m cv)) :=
          Within.setCell (Within.setCell (Within.refl _ _ _) (by simp) (by simp) _) (by simp) (by simp) _
        have hO := (HG.out.within hW (by omega)).own (by have := HKL.out; omega)
        rw [HR.out, HM.out]
        exact ⟨_, rfl, hn.within hW (Nat.le_refl _), _, rfl, hO.widen (by omega) (Nat.le_refl _)⟩
end
section
set_option maxRecDepth 20000 in
set_option maxHeartbeats 2000000 in
theorem l05Ok_any (p : Value) (r : Aut) (w : World) (hp : PAut w p r) :
    Calls Tryz.prog 118 #[p] w fun e w' => e = .returned (.bool (roadsOk r)) ∧ New w w' := by
  obtain ⟨pb, rv, rfl, h0, h1, hr⟩ := hp
  obtain ⟨A, c, rfl⟩ := hr.form
  have hl := hr.len
  by_cases hn : inB r.n 1 7 = true
  · have hn' := (inB_iff _ _ _).1 hn
    have hn0 : 1 ≤ r.n := hn'.1
    have hn1 : r.n ≤ 7 := hn'.2
    have HN := hid hn
    have C1 : ∀ w, Calls Tryz.prog 78 #[.int .i64 r.n, .int .i64 1, .int .i64 7] w fun e' w' => e' = .returned (.bool true) ∧ w' = w := fun w => by have := l00In_any r.n 1 7 w; rw [HN.out] at this; exact this
    clear hn hn'
    by_cases hlen : (r.nx.length : Int) = r.n
    · have hb : ((r.nx.length : Int) != r.n) = false := by simp [hlen]
      have HL := hid hlen
      have kl0 : 0 < r.nx.length := by omega
      have kl1 : (0 : Int) < (r.nx.length : Int) := by omega
      obtain ⟨A1, c1, e1, hl1, hc1⟩ := hr
      cases e1
      obtain ⟨b, off, rv0, rfl, hx0, hr0⟩ := hc1 0 kl0
      obtain ⟨A2, c2, rfl, hl2, hc2⟩ := hr0
      rw [Nat.add_zero] at hx0
      clear hlen
      cases hd : inB ((nth r.nx 0).length : Int) 1 3 with
      | true =>
        have HD := hid hd
        have CC : ∀ (x y : Int) (bb : Bool) w, (x = r.n ∧ y = 7 ∧ bb = true) ∨ (x = ((nth r.nx 0).length : Int) ∧ y = 3 ∧ bb = true) → Calls Tryz.prog 78 #[.int .i64 x, .int .i64 1, .int .i64 y] w fun e' w' => e' = .returned (.bool bb) ∧ w' = w := fun x y bb w hh => by
          rcases hh with ⟨rfl, rfl, rfl⟩ | ⟨rfl, rfl, rfl⟩
          · exact C1 w
          · have := l00In_any ((nth r.nx 0).length : Int) 1 3 w; rw [HD.out] at this; exact this
        clear C1
        clear hd hc2
        go_enter Tryz.func118, Tryz.ntmps118
        go_wp2_with fail
        go_quiet ((go_at_call 78; first | exact Calls.quiet_of_same (CC _ _ _ _ (Or.inl ⟨rfl, rfl, rfl⟩)) | exact Calls.quiet_of_same (CC _ _ _ _ (Or.inr ⟨rfl, rfl, rfl⟩))))
        have hN : New w (w.drewN nq) := (New.refl _).drewN nq
        clear CC
        go_wp2
        go_loopw [3] (fun i wr => ∃ k : Nat, k ≤ r.nx.length ∧ i = .int .i64 k ∧ Hid (∀ j, j < k → roadRow (nth r.nx 0).length r.n (nth r.nx j) = true) ∧ New w wr) (fun i _ => r.nx.length - (intOf i).toNat)
        case atStart => exact ⟨0, Nat.zero_le _, rfl, fun j hj => absurd hj (by omega), hN⟩
        case round =>
          clear hN
          obtain ⟨s, hs, rfl, he, hw⟩ := hrel
          replace h0 := hw.cell h0
          replace h1 := hw.cell h1
          replace hx0 := hw.cell hx0
          by_cases hlt : s < r.nx.length
          · obtain ⟨b', off', rs, e', hx, hrs⟩ := hc1 s hlt
            cases e'
            have kb1 : (s : Int) < (r.nx.length : Int) := by omega
            replace hx := hw.cell hx
            replace hrs := hrs.new hw
            obtain ⟨A3, c3, rfl, hl3, hc3⟩ := hrs
            clear hc1
            by_cases hlen2 : (nth r.nx s).length = (nth r.nx 0).length
            · have hb2 : (((nth r.nx s).length : Int) != (nth r.nx 0).length) = false := by simp [hlen2]
              have HL2 := hid hlen2
              clear hlen2
              go_wp2_with fail
              go_quiet (fail)
              have hw2 : New w (wr.drewN nq) := hw.drewN nq
              have g0 : (wr.drewN nq).cell? ⟨pb, 0, none⟩ = some (.int .i64 r.n) := h0
              have g1 : (wr.drewN nq).cell? ⟨pb, 1, none⟩ = some (.slice (some ⟨b, off, none⟩) r.nx.length c) := h1
              have gx : (wr.drewN nq).cell? ⟨b, off + s, none⟩ = some (.slice A3 (nth r.nx s).length c3) := hx
              have g3 : ∀ i, i < (nth r.nx s).length → ∃ b off, A3 = some ⟨b, off, none⟩ ∧ (wr.drewN nq).cell? ⟨b, off + i, none⟩ = some (.int .i64 (nth (nth r.nx s) i)) := hc3
              clear h0 h1 hx hx0 hw hc3
              generalize wr.drewN nq = wo at hw2 g0 g1 g3 gx ⊢
              go_wp2
              go_loopw [4] (fun i wr => ∃ k : Nat, k ≤ (nth r.nx s).length ∧ i = .int .i64 k ∧ Hid (∀ j, j < k → upAt (nth r.nx s) r.n j = true) ∧ New wo wr) (fun i _ => (nth r.nx s).length - (intOf i).toNat)
              case atStart => exact ⟨0, Nat.zero_le _, rfl, fun j hj => absurd hj (by omega), New.refl _⟩
              case round =>
                obtain ⟨k, hk, rfl, hf, hv⟩ := hrel
                replace g0 := hv.cell g0
                replace g1 := hv.cell g1
                replace gx := hv.cell gx
                by_cases hlk : k < (nth r.nx s).length
                · obtain ⟨b6, off6, rfl, hy⟩ := g3 k hlk
                  replace hy := hv.cell hy
                  have kb2 : (k : Int) < ((nth r.nx s).length : Int) := by omega
                  cases hin : inB (nth (nth r.nx s) k) 0 (r.n - 1) with
                  | true =>
                    have HIN := hid hin
                    have C3 : ∀ w, Calls Tryz.prog 78 #[.int .i64 (nth (nth r.nx s) k), .int .i64 0, .int .i64 (r.n - 1)] w fun e' w' => e' = .returned (.bool true) ∧ w' = w := fun w => by have := l00In_any (nth (nth r.nx s) k) 0 (r.n - 1) w; rw [HIN.out] at this; exact this
                    clear hin
                    by_cases hk0 : k = 0
                    · subst hk0
                      rw [Nat.add_zero] at hy
                      clear g3
                      go_wp2_with fail
                      go_quiet ((go_at_call 78; exact Calls.quiet_of_same (C3 _)))
                      go_wp2
                      go_roundw
                      case rel => exact ⟨0 + 1, by omega, by go_num, fun i hi => by
                          have : i = 0 := by omega
                          subst this; unfold upAt; rw [HIN.out]; rfl, hv.drewN nq⟩
                      case measure => simp [intOf]; omega
                    · obtain ⟨b', off', e', hz⟩ := g3 (k - 1) (by omega)
                      cases e'
                      replace hz := hv.cell hz
                      have kb3 : decide ((0 : Int) < (k : Int)) = true := by simp; omega
                      have kb4 : (0 : Int) < (k : Int) := by omega
                      have kb5 : 0 < k := by omega
                      clear g3
                      have kn : (0 : Int) ≤ (k : Int) - 1 := by omega
                      have kn1 : (1 : Int) ≤ (k : Int) := by omega
                      have kl : (k : Int) - 1 < ((nth r.nx s).length : Int) := by omega
                      have kt : ((k : Int) - 1).toNat = k - 1 := by omega
                      have kw : IntKind.i64.wrap ((k : Int) - 1) = (k : Int) - 1 := IntWalk.i64_in _ (by omega)
                      by_cases hr' : nth (nth r.nx s) (k - 1) ≤ nth (nth r.nx s) k
                      · have hr2 : decide (nth (nth r.nx s) k < nth (nth r.nx s) (k - 1)) = false := by simp; omega
                        go_wp2_with fail
                        go_quiet ((go_at_call 78; exact Calls.quiet_of_same (C3 _)))
                        go_wp2
                        have HR := hid hr'
                        go_roundw
                        case rel => exact ⟨k + 1, by omega, by go_num, fun i hi => by
                            rcases Nat.lt_succ_iff_lt_or_eq.1 hi with h | h
                            · exact hf.out i h
                            · subst h; unfold upAt; rw [HIN.out, decide_eq_true HR.out]; simp, hv.drewN nq⟩
                        case measure => simp [intOf]; omega
                      · have hr2 : decide (nth (nth r.nx s) k < nth (nth r.nx s) (k - 1)) = true := by simp; omega
                        go_wp2_with fail
                        go_quiet ((go_at_call 78; exact Calls.quiet_of_same (C3 _)))
                        go_wp2
                        go_ret
                        refine ⟨ret_bool (roadsOk_row hlt (roadRow_at hlk ?_)).symm, hw2.trans (hv.drewN nq)⟩
                        unfold upAt
                        rw [HIN.out, decide_eq_false (by omega)]
                        simp; omega
                  | false =>
                    have HIN := hid hin
                    have C3 : ∀ w, Calls Tryz.prog 78 #[.int .i64 (nth (nth r.nx s) k), .int .i64 0, .int .i64 (r.n - 1)] w fun e' w' => e' = .returned (.bool false) ∧ w' = w := fun w => by have := l00In_any (nth (nth r.nx s) k) 0 (r.n - 1) w; rw [HIN.out] at this; exact this
                    clear hin g3
                    go_wp2_with fail
                    go_quiet ((go_at_call 78; exact Calls.quiet_of_same (C3 _)))
                    go_wp2
                    go_ret
                    exact ⟨ret_bool (roadsOk_row hlt (roadRow_at hlk (by unfold upAt; rw [HIN.out]; rfl))).symm, hw2.trans (hv.drewN nq)⟩
                · have e : k = (nth r.nx s).length := by omega
                  subst e
                  go_wp2
                  go_roundw
                  case rel =>
                    refine ⟨s + 1, by omega, by go_num, fun i hi => ?_, hw2.trans hv⟩
                    rcases Nat.lt_succ_iff_lt_or_eq.1 hi with h | h
                    · exact he.out i h
                    · subst h
                      exact (roadRow_iff _ _ _).2 ⟨HL2.out, fun j hj => hf.out j hj⟩
                  case measure => simp [intOf]; omega
            · have hb2 : (((nth r.nx s).length : Int) != (nth r.nx 0).length) = true := by simp; omega
              go_wp2_with fail
              go_quiet (fail)
              go_wp2
              go_ret
              exact ⟨ret_bool (roadsOk_row hlt (roadRow_len hlen2)).symm, hw.drewN nq⟩
          · have e : s = r.nx.length := by omega
            subst e
            go_wp2
            go_ret
            have hd3 := (inB_iff _ _ _).1 HD.out
            exact ⟨ret_bool ((roadsOk_iff r).2 ⟨⟨hn0, hn1⟩, HL.out, by omega, fun i hi => he.out i hi⟩).symm, hw⟩
      | false =>
        have HD := hid hd
        have CC : ∀ (x y : Int) (bb : Bool) w, (x = r.n ∧ y = 7 ∧ bb = true) ∨ (x = ((nth r.nx 0).length : Int) ∧ y = 3 ∧ bb = false) → Calls Tryz.prog 78 #[.int .i64 x, .int .i64 1, .int .i64 y] w fun e' w' => e' = .returned (.bool bb) ∧ w' = w := fun x y bb w hh => by
          rcases hh with ⟨rfl, rfl, rfl⟩ | ⟨rfl, rfl, rfl⟩
          · exact C1 w
          · have := l00In_any ((nth r.nx 0).length : Int) 1 3 w; rw [HD.out] at this; exact this
        clear C1
        have HM : roadsOk r = false := by unfold roadsOk; rw [hd]; simp
        rw [HM]
        clear hd hc1 hc2
        go_enter Tryz.func118, Tryz.ntmps118
        go_wp2_with fail
        go_quiet ((go_at_call 78; first | exact Calls.quiet_of_same (CC _ _ _ _ (Or.inl ⟨rfl, rfl, rfl⟩)) | exact Calls.quiet_of_same (CC _ _ _ _ (Or.inr ⟨rfl, rfl, rfl⟩))))
        go_wp2
        go_ret
        exact ⟨rfl, (New.refl _).drewN nq⟩
    · have hb : ((r.nx.length : Int) != r.n) = true := by simp [hlen]
      have HM : roadsOk r = false := by unfold roadsOk; simp [hlen]
      rw [HM]
      go_enter Tryz.func118, Tryz.ntmps118
      go_wp2_with fail
      go_quiet ((go_at_call 78; exact Calls.quiet_of_same (C1 _)))
      go_wp2
      go_ret
      exact ⟨rfl, (New.refl _).drewN nq⟩
  · have HN := hid (show inB r.n 1 7 = false by simpa using hn)
    have C1 : ∀ w, Calls Tryz.prog 78 #[.int .i64 r.n, .int .i64 1, .int .i64 7] w fun e' w' => e' = .returned (.bool false) ∧ w' = w := fun w => by have := l00In_any r.n 1 7 w; rw [HN.out] at this; exact this
    have HM : roadsOk r = false := by unfold roadsOk; rw [HN.out]; rfl
    rw [HM]
    clear hn
    go_enter Tryz.func118, Tryz.ntmps118
    go_wp2_with fail
    go_quiet ((go_at_call 78; exact Calls.quiet_of_same (C1 _)))
    go_wp2
    go_ret
    exact ⟨rfl, (New.refl _).drewN nq⟩
end

end Go.Proofs.YtoeckejcmojeaaaGreat
