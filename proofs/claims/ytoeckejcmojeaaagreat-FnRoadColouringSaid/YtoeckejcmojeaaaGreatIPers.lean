/- Parts of the proof that lean on no program: ISorted, IReached2, IJoined, IGcd, IPer, IRoadPer. -/
import Derived.Test.YtoeckejcmojeaaaGreatRows
import Derived.Test.YtoeckejcmojeaaaGreatCore
import Derived.Test.YtoeckejcmojeaaaGreatInfos
import Derived.Test.YtoeckejcmojeaaaGreatPlains
import Derived.Test.YtoeckejcmojeaaaGreatJoins
import Derived.Test.YtoeckejcmojeaaaGreatITours
import Derived.Test.YtoeckejcmojeaaaGreatIRdss
import Derived.Test.YtoeckejcmojeaaaGreatArrs
import Derived.Test.YtoeckejcmojeaaaGreatMaps
import Derived.Test.YtoeckejcmojeaaaGreatIBase
import Derived.Test.YtoeckejcmojeaaaGreatIArrs
import Derived.Test.YtoeckejcmojeaaaGreatIAt
import Derived.Test.YtoeckejcmojeaaaGreatPers
import Derived.WalkKit
import Derived.WalkSpells
import Derived.WalkLawsBesides
import Derived.Deep.QuietTactic
import Derived.Deep.OwnRows
import Derived.BigQuiet
import Derived.KernelRfl
import Derived.Shelf.SlicesE.Compact
import Derived.Sort.OwnSortedInts
import Derived.WalkSmall
import Derived.Carry
import Derived.Deep.RegionHeld3
namespace Go.Proofs.YtoeckejcmojeaaaGreat
open Go.RowKit

section
def cptRen : Go.Shelf.Ren := ⟨fun | 43 => 164 | _ => 0, fun | 0 => 0 | 3 => 3 | 4 => 4 | 22 => 34 | 23 => 2 | _ => 0, fun _ => 0⟩
theorem cptLay : Go.Proofs.SlLaysE.n43 Tryz.prog cptRen := {
  mixed := by kernel_rfl
  f43 := ⟨Tryz.f164.name, by decide, Tryz.func164.trans (congrArg some (by kernel_rfl))⟩
  t0 := Tryz.underlying0
  a0 := Tryz.isAgg0
  z0 := Tryz.sizeOf0
  v0 := Tryz.zeroValue0
  t3 := Tryz.underlying3
  a3 := Tryz.isAgg3
  z3 := Tryz.sizeOf3
  v3 := Tryz.zeroValue3
  t4 := Tryz.underlying4
  a4 := Tryz.isAgg4
  z4 := Tryz.sizeOf4
  v4 := Tryz.zeroValue4
  t22 := Tryz.underlying34
  a22 := Tryz.isAgg34
  z22 := Tryz.sizeOf34
  v22 := Tryz.zeroValue34
  a23 := Tryz.isAgg2
  z23 := Tryz.sizeOf2 }
/-- slices.Compact leaves a list without duplicates as it is. -/
theorem Compact64_apt {B E b off c : Nat} (xs : List Int) (w : World) (h : OwnInts B E w (.slice (some ⟨b, off, none⟩) xs.length c) xs) (hc : xs.length ≤ c) (ha : Apt xs) :
    Calls Tryz.prog 164 #[.slice (some ⟨b, off, none⟩) xs.length c] w fun e w' => e = .returned (.slice (some ⟨b, off, none⟩) xs.length c) ∧ New w w' := by
  obtain ⟨A, c', e, hl, _, hcell⟩ := id h
  cases e
  have hH : Go.Sort.Holds (Value.int .i64) w b off xs.toArray := by
    intro j hj
    have hj' : j < xs.length := by simpa using hj
    obtain ⟨b', off', e, hx, hf⟩ := hcell j hj'
    cases e
    exact ⟨by rw [hx, nth_eq _ _ hj']; simp [hj'], hf⟩
  have hk : ∀ j, j < xs.toArray.size → Go.Lib.keeps xs.toArray j = true := by
    intro j hj
    have hj' : j < xs.length := by simpa using hj
    unfold Go.Lib.keeps
    rw [decide_eq_true_eq]
    by_cases h0 : j = 0
    · exact Or.inl h0
    · right
      intro q
      have := ha j (j - 1) hj' (by omega) (by rw [nth_eq _ _ hj', nth_eq _ _ (show j - 1 < xs.length by omega)]; simpa [hj', show j - 1 < xs.length by omega] using q)
      omega
  have e1 : Go.Lib.compactUpTo xs.toArray xs.toArray.size = xs := by rw [Go.Lib.compactUpTo_all _ _ hk, Go.Lib.range_map_get]
  have C := Go.Proofs.AnyE.slices_Compact cptLay (Value.int .i64) (fun _ => rfl) (Go.Proofs.EqlAt.int _ _ _) (Go.Proofs.NeqAt.int _ _ _) 0 Tryz.zeroValue2 b off c xs.toArray w hH (by simp; omega) (by simpa using hc)
  rw [e1] at C
  refine (show Calls Tryz.prog 164 #[.slice (some ⟨b, off, none⟩) xs.length c] w _ from C).mono ?_
  rintro e w' ⟨he, q, hw⟩
  refine ⟨he, ?_⟩
  have e2 : (xs ++ List.replicate (xs.toArray.size - xs.length) (0 : Int)).toArray = xs.toArray := by simp
  rw [e2] at hw
  rw [hw, Go.Sort.putRow_self (Value.int .i64) (Go.Sort.ahead w q) b off xs.toArray (Go.Sort.holds_ahead _ _ _ _ _ _ hH)]
  exact (New.refl w).drewN q
set_option maxHeartbeats 1000000 in
theorem sorted_apt (v : Value) (xs : List Int) (w : World) (h : IntsAt w v xs) (h0 : 0 < xs.length) (hl : xs.length ≤ 12) (ha : Apt xs) :
    Calls Tryz.prog 152 #[v] w fun e w' => ∃ r, e = .returned r ∧ New w w' ∧ OwnInts w.heap.size w'.heap.size w' r (insAll xs) := by
  have HA := hid ha
  clear ha
  go_enter Tryz.func152, Tryz.ntmps152
  go_wp2_with fail
  refine (Clone64_any _ xs _ h (by omega)).mono ?_
  rintro e w1 ⟨r, rfl, hn1, hg1⟩
  obtain ⟨g, _, ⟨c, rfl⟩, hgb, _⟩ := ownsRow_cells hg1 0 (by simpa using h0)
  have hcap := ownsRow_cap hg1
  have ho1 := hg1.own (by omega)
  go_wp2_with fail
  refine (Sort64_any xs w1 ho1 rfl hl).mono ?_
  rintro e w2 ⟨rfl, ho2, hg2⟩
  have hn2 : New w w2 := New.grown hn1 hg2 (fun q hq => by cases hq; exact hgb)
  have hil := insAll_len xs
  have hs2 := hg2.size
  have C := Compact64_apt (insAll xs) w2 (by rw [hil]; exact ho2) (by rw [hil]; exact hcap) HA.out.insAll
  rw [hil] at C
  clear hil
  go_wp2_with fail
  refine C.mono ?_
  rintro e w3 ⟨rfl, hn3⟩
  go_wp2_with fail
  go_ret
  exact ⟨_, rfl, hn2.trans hn3, (ho2.new hn3).widen (Nat.le_refl _) (by have := hn3.size; omega)⟩
end
section
set_option maxRecDepth 20000 in
set_option maxHeartbeats 4000000 in
theorem reached_any (v : Value) (a : Aut) (s : Int) (w : World) (h : AutAt w v a) (ha : autOk a = true) (hs : rcP a s) :
    Calls Tryz.prog 115 #[v, .int .i64 s] w fun e w' => ∃ r, e = .returned r ∧ New w w' ∧ OwnInts w.heap.size w'.heap.size w' r (insAll (rcL a s)) := by
  obtain ⟨rv, rfl, hr⟩ := h
  obtain ⟨A, c, rfl, hl, hc⟩ := hr
  have HC := hid hc
  have HB := hid (fun k => rc_bok ha hs k)
  have HBD := hid (fun (t : Bfs Int) (ht : BOk (rcP a) a.nx.length t) => rc_bound ha ht)
  have HE := hid (fun k hk => rc_end ha hs k hk)
  have HR := hid (fun l hl => autOk_row ha l hl)
  have HOK := hid (fun l x y hl hx hy => rcG_ok ha l x y hl hx hy)
  have hn := autOk_n ha
  have hal := autOk_l ha
  have HAPT := hid (fun k => (rc_bok ha hs k).nodup)
  clear hc ha hs
  obtain ⟨wb, hwb⟩ : ∃ wb, wb = w.alloc (.cells #[.int .i64 a.n, .slice A a.nx.length c] 31) := ⟨_, rfl⟩
  have hnb : New w wb := by rw [hwb]; exact (by repeat (first | with_reducible exact New.refl _ | with_reducible assumption | with_reducible refine New.alloc ?_ _ | with_reducible refine New.drewN ?_ _ | with_reducible refine New.drew ?_ | with_reducible refine New.trans ?_ (by with_reducible assumption)))
  have hzb : wb.heap.size = w.heap.size + 1 := by rw [hwb]; simp only [size_alloc]
  have hbx : wb.cell? ⟨w.heap.size, 1, none⟩ = some (.slice A a.nx.length c) := by rw [hwb]; go_simp
  have hG0 : Grow wb.heap.size 2 (wb.alloc (.cells #[.int .i64 s] 2)) (.slice (some ⟨wb.heap.size, 0, none⟩) 1 1) (rcT a s 0).list := ownsRow_one (B := wb.heap.size) (e := 2) (w := wb) (x := .int .i64 s) (Nat.le_refl _)
  have hn0 : New wb (wb.alloc (.cells #[.int .i64 s] 2)) := (by repeat (first | with_reducible exact New.refl _ | with_reducible assumption | with_reducible refine New.alloc ?_ _ | with_reducible refine New.drewN ?_ _ | with_reducible refine New.drew ?_ | with_reducible refine New.trans ?_ (by with_reducible assumption)))
  go_enter Tryz.func115, Tryz.ntmps115
  go_wp2_with fail
  rw [← hwb, ← hzb]
  have HZB := hid hzb
  clear hwb hzb
  generalize (wb.alloc (.cells #[.int .i64 s] 2)) = w0 at hG0 hn0 ⊢
  go_loopw [5, 6] (fun ov i wr => ∃ k : Nat, k ≤ (rcT a s k).list.length ∧ i = .int .i64 k ∧ New wb wr ∧ Grow wb.heap.size 2 wr ov (rcT a s k).list) (fun _ i _ => 11 - (intOf i).toNat)
  case atStart => exact ⟨0, Nat.zero_le _, rfl, hn0, hG0⟩
  case round =>
    obtain ⟨k, hk, rfl, hnk, hGk⟩ := hrel
    clear hn0 hG0
    obtain ⟨wo, rfl⟩ : ∃ wo : World, wo = wr := ⟨_, rfl⟩
    have hbd := HBD.out _ (HB.out k)
    obtain ⟨B1, cc1, rfl⟩ := hGk.form
    have y2 := hnk.cell hbx
    by_cases hlt : k < (rcT a s k).list.length
    · have b1 : (k : Int) < ((rcT a s k).list.length : Int) := by omega
      have hzk := hnk.size
      go_wp2_with fail
      go_loopw [5, 21] (fun ov i wr => ∃ l : Nat, l ≤ a.nx.length ∧ i = .int .i64 l ∧ New wb wr ∧ Grow wb.heap.size 2 wr ov (bRow (rcG a.nx) k (rcT a s k) l).list) (fun _ i _ => a.nx.length - (intOf i).toNat)
      case atStart => exact ⟨0, Nat.zero_le _, rfl, hnk, hGk⟩
      case round =>
        obtain ⟨l, hll, rfl, hNi, hGi⟩ := hrel
        clear hGk y2
        obtain ⟨wi, rfl⟩ : ∃ wi : World, wi = wr := ⟨_, rfl⟩
        have hpre := bRow_pre' (g := rcG a.nx) k (rcT a s k) l
        have hokl := BOk.row (fun l x y hl hx hy => HOK.out l x y hl hx hy) (HB.out k) k hlt l hll
        obtain ⟨T', hT'⟩ : ∃ T', T' = bRow (rcG a.nx) k (rcT a s k) l := ⟨_, rfl⟩
        have hbd2 := HBD.out _ hokl
        rw [← hT'] at hGi hpre hokl hbd2
        have HT := hid hT'
        have hk2 : k < T'.list.length := Nat.lt_of_lt_of_le hlt hpre.1
        obtain ⟨X, hX⟩ : ∃ X, X = nth T'.list k := ⟨_, rfl⟩
        have hXok := hokl.ok X (by rw [hX]; exact nth_mem _ _ hk2)
        have HX := hid hX
        have HPRE := hid hpre
        obtain ⟨X1, X2⟩ := hXok
        clear hT' hokl hpre
        by_cases hltl : l < a.nx.length
        · have b2 : (l : Int) < (a.nx.length : Int) := by omega
          obtain ⟨rb, ro, rv, rfl, hx, hrv⟩ := HC.out l hltl
          obtain ⟨A3, c3, rfl, hl3, hc3⟩ := hrv
          obtain ⟨r1, r2⟩ := HR.out l hltl
          obtain ⟨B2, cc2, rfl⟩ := hGi.form
          obtain ⟨gb, _, ⟨c', e'⟩, _, _, hcell, _⟩ := ownsRow_cells hGi k (by simpa using hk2)
          injection e' with e1 e2 e3
          subst e1
          have hx0 : wi.cell? ⟨gb, k, none⟩ = some (.int .i64 X) := by rw [hcell, hX, nth_eq _ _ hk2]; simp
          obtain ⟨tb, to, rfl, ht⟩ := hc3 X.toNat (by omega)
          obtain ⟨Y, hY⟩ : ∃ Y, Y = nth (nth a.nx l) X.toNat := ⟨_, rfl⟩
          rw [← hY] at ht
          have HY := hid hY
          have g1 : X < ((nth a.nx l).length : Int) := by omega
          have b3 : (k : Int) < (T'.list.length : Int) := by omega
          have HG := hid (show rcG a.nx l (nth T'.list k) = some Y by rw [← hX, hY]; rfl)
          have HSUCC := hid (show bRow (rcG a.nx) k (rcT a s k) (l + 1) = bStep (rcG a.nx) k l T' by rw [bRow_succ, ← HT.out])
          have hat := (hGi.own (by omega)).at
          have hgrow := hid hGi
          have y3 := hNi.cell hbx
          replace hx := (hnb.trans hNi).cell hx
          replace ht := (hnb.trans hNi).cell ht
          have hzi := hNi.size
          clear hX hY hc3 r2 hcell e2 e3
          have C := Contains64_any (.slice (some ⟨gb, 0, none⟩) T'.list.length cc2) T'.list Y wi hat
          by_cases hm : Y ∈ T'.list
          · have hb : hasB T'.list Y = true := (hasB_iff _ _).2 hm
            have HS := hid (show bRow (rcG a.nx) k (rcT a s k) (l + 1) = T' by rw [HSUCC.out, bStep_has _ _ _ _ Y HG.out hm])
            simp only [hb] at C
            clear hm hb
            go_wp2_with (go_at_call 151; refine C.mono ?_; rintro e w' ⟨rfl, rfl⟩)
            refine ⟨⟨l + 1, by omega, by go_num, hNi, by rw [HS.out]; exact hgrow.out⟩, ?_⟩
            simp [intOf]; omega
          · have hb : hasB T'.list Y = false := by
              cases hq : hasB T'.list Y with
              | false => rfl
              | true => exact absurd ((hasB_iff _ _).1 hq) hm
            have HS := hid (show bRow (rcG a.nx) k (rcT a s k) (l + 1) = ⟨T'.list ++ [Y], T'.words ++ [nth T'.words k ++ [(l : Int)]]⟩ by rw [HSUCC.out, bStep_new _ _ _ _ Y HG.out hm])
            simp only [hb] at C
            clear hm hb
            have hTl : T'.list.length < 1099511627776 := by omega
            go_wp2_with (first
              | (go_at_call 151; refine C.mono ?_; rintro e w' ⟨rfl, rfl⟩)
              | (at_builtin; refine wpList_app rfl _ _ _ rfl Tryz.underlying34 info_i64 (.slice (some ⟨gb, 0, none⟩) T'.list.length cc2) T'.list rfl hgrow.out rfl hTl hzi ?_; intro g4 cap4 w12 ho12 hg12))
            refine ⟨⟨l + 1, by omega, by go_num, New.grown hNi hg12 (fun q hq => (hgrow.out.block q hq).1), by rw [HS.out]; simpa [Grow] using ho12⟩, ?_⟩
            simp [intOf]; omega
        · have e : l = a.nx.length := by omega
          subst e
          have b2 : ¬ (a.nx.length : Int) < (a.nx.length : Int) := by omega
          have HS := hid (show rcT a s (k + 1) = T' by unfold rcT at hlt HT ⊢; rw [bTo_succ, if_pos hlt, HT.out])
          obtain ⟨B2, cc2, rfl⟩ := hGi.form
          go_wp2_with fail
          refine ⟨⟨k + 1, by rw [HS.out]; exact hk2, by go_num, hNi, by rw [HS.out]; exact hGi⟩, ?_⟩
          simp [intOf]; omega
    · have e : k = (rcT a s k).list.length := by omega
      have HF := hid (HE.out k e.symm)
      have b1 : ¬ (k : Int) < ((rcT a s k).list.length : Int) := by omega
      have hat := (hGk.own (by omega)).at
      have hapt : Apt (rcT a s k).list := fun i j hi hj q => nodup_nth (HAPT.out k) hi hj q
      have hpos := (HB.out k).pos
      have C := sorted_apt _ _ wo hat (by omega) (by omega) hapt
      clear e hapt
      go_wp2_with (go_at_call 152; refine C.mono ?_; rintro e w1 ⟨r, rfl, hn1, ho1⟩)
      go_ret
      rw [HF.out]
      exact ⟨_, rfl, (hnb.trans hnk).trans hn1, ho1.widen (by have := hnk.size; have := hnb.size; omega) (Nat.le_refl _)⟩
theorem rcL_len {a : Aut} (ha : autOk a = true) {s : Int} (hs : rcP a s) : ((rcL a s).length : Int) ≤ a.n := rc_bound ha (rc_bok ha hs 11)
theorem joined_up {a : Aut} (h : ∀ s, s < a.n.toNat → ((rcL a (s : Int)).length : Int) = a.n) : joinedB a = true := by
  unfold joinedB iota
  rw [List.all_eq_true]
  intro x hx
  obtain ⟨i, hi, rfl⟩ := List.mem_map.1 hx
  rw [Int.zero_add]
  exact decide_eq_true (h i (by simpa using hi))
theorem joined_no {a : Aut} (s : Nat) (hs : s < a.n.toNat) (h : ¬ ((rcL a (s : Int)).length : Int) = a.n) : joinedB a = false := by
  unfold joinedB iota
  rw [List.all_eq_false]
  exact ⟨(0 : Int) + (s : Int), List.mem_map.2 ⟨s, by simpa using hs, rfl⟩, by rw [Int.zero_add]; simpa using h⟩
set_option maxRecDepth 20000 in
set_option maxHeartbeats 2000000 in
theorem isConnected_any (v : Value) (a : Aut) (w : World) (h : AutAt w v a) (ha : autOk a = true) :
    Calls Tryz.prog 62 #[v] w fun e w' => e = .returned (.bool (joinedB a)) ∧ New w w' := by
  obtain ⟨rv, rfl, hr⟩ := h
  obtain ⟨A, c, rfl⟩ := hr.form
  have hn := autOk_n ha
  have HC := hid (fun w' (hw : New w w') (s : Int) (hs : rcP a s) => reached_any (.agg #[.int .i64 a.n, .slice A a.nx.length c]) a s w' ⟨_, rfl, hr.new hw⟩ ha hs)
  have HL := hid (fun (s : Int) (hs : rcP a s) => rcL_len ha hs)
  obtain ⟨wb, hwb⟩ : ∃ wb, wb = w.alloc (.cells #[.int .i64 a.n, .slice A a.nx.length c] 31) := ⟨_, rfl⟩
  have hnb : New w wb := by rw [hwb]; exact (by repeat (first | with_reducible exact New.refl _ | with_reducible assumption | with_reducible refine New.alloc ?_ _ | with_reducible refine New.drewN ?_ _ | with_reducible refine New.drew ?_ | with_reducible refine New.trans ?_ (by with_reducible assumption)))
  have hb0 : wb.cell? ⟨w.heap.size, 0, none⟩ = some (.int .i64 a.n) := by rw [hwb]; go_simp
  have hb1 : wb.cell? ⟨w.heap.size, 1, none⟩ = some (.slice A a.nx.length c) := by rw [hwb]; go_simp
  go_enter Tryz.func62, Tryz.ntmps62
  go_wp2_with fail
  rw [← hwb]
  clear hwb
  go_loopw [6] (fun i wr => ∃ k : Nat, (k : Int) ≤ a.n ∧ i = .int .i64 k ∧ New wb wr ∧ Hid (∀ s, s < k → ((rcL a (s : Int)).length : Int) = a.n)) (fun i _ => a.n.toNat - (intOf i).toNat)
  case atStart => exact ⟨0, by omega, rfl, New.refl _, hid (fun s hs => absurd hs (by omega))⟩
  case round =>
    obtain ⟨k, hk, rfl, hnk, hall⟩ := hrel
    obtain ⟨wo, rfl⟩ : ∃ wo : World, wo = wr := ⟨_, rfl⟩
    by_cases hlt : (k : Int) < a.n
    · have hP : rcP a (k : Int) := ⟨by omega, hlt⟩
      have hle := HL.out _ hP
      have HP := hid hP
      have hn' := hnb.trans hnk
      have y0 := hnk.cell hb0
      have y1 := hnk.cell hb1
      have hil := hid (insAll_len (rcL a (k : Int)))
      by_cases hq : ((rcL a (k : Int)).length : Int) = a.n
      · have b1 : ¬ ((rcL a (k : Int)).length : Int) < a.n := by omega
        have HQ := hid hq
        obtain ⟨M, hM⟩ : ∃ M, M = (rcL a (k : Int)).length := ⟨_, rfl⟩
        have hil2 := hid (show (insAll (rcL a (k : Int))).length = M by rw [hil.out, hM])
        rw [← hM] at b1 hle
        have hM2 : M ≤ 9223372036854775807 := by omega
        have hdec := decide_eq_false b1
        clear hq hM hP
        go_wp2_with fail
        go_region_held3 (fun w' => w'.cell? ⟨w.heap.size, 0, none⟩ = some (.int .i64 a.n) ∧ w'.cell? ⟨w.heap.size, 1, none⟩ = some (.slice A a.nx.length c))
          (first | exact ⟨z0, z1⟩ | go_keep)
          (first
            | (go_at_call 115; refine (HC.out _ (by repeat (first | with_reducible exact New.refl _ | with_reducible assumption | with_reducible refine New.alloc ?_ _ | with_reducible refine New.drewN ?_ _ | with_reducible refine New.drew ?_ | with_reducible refine New.trans ?_ (by with_reducible assumption))) _ HP.out).mono ?_; rintro e w1 ⟨r, he, hq1, ho1⟩; obtain ⟨Ar, cr, hrf⟩ := ho1.form; rw [hil2.out] at hrf; subst hrf; subst he; have hw1 : New wo w1 := (by repeat (first | with_reducible exact New.refl _ | with_reducible assumption | with_reducible refine New.alloc ?_ _ | with_reducible refine New.drewN ?_ _ | with_reducible refine New.drew ?_ | with_reducible refine New.trans ?_ (by with_reducible assumption))); have z0 := hw1.cell y0; have z1 := hw1.cell y1)
            | (go_at_call 82; refine (size64_any _ _ _ _ hM2).mono ?_; rintro e w' ⟨rfl, rfl⟩))
        all_goals go_wp2_with fail
        all_goals
          refine ⟨⟨k + 1, by omega, by go_num, hnk.trans (by repeat (first | with_reducible exact New.refl _ | with_reducible assumption | with_reducible refine New.alloc ?_ _ | with_reducible refine New.drewN ?_ _ | with_reducible refine New.drew ?_ | with_reducible refine New.trans ?_ (by with_reducible assumption))), hid (fun s hs => ?_)⟩, ?_⟩
          · rcases Nat.lt_succ_iff_lt_or_eq.1 hs with q | q
            · exact hall.out s q
            · subst q; exact HQ.out
          · simp [intOf]; omega
      · have b1 : ((rcL a (k : Int)).length : Int) < a.n := by omega
        have HQ := hid hq
        obtain ⟨M, hM⟩ : ∃ M, M = (rcL a (k : Int)).length := ⟨_, rfl⟩
        have hil2 := hid (show (insAll (rcL a (k : Int))).length = M by rw [hil.out, hM])
        rw [← hM] at b1 hle
        have hM2 : M ≤ 9223372036854775807 := by omega
        have hdec := decide_eq_true b1
        clear hq hM hP
        go_wp2_with fail
        go_region_held3 (fun w' => w'.cell? ⟨w.heap.size, 0, none⟩ = some (.int .i64 a.n) ∧ w'.cell? ⟨w.heap.size, 1, none⟩ = some (.slice A a.nx.length c))
          (first | exact ⟨z0, z1⟩ | go_keep)
          (first
            | (go_at_call 115; refine (HC.out _ (by repeat (first | with_reducible exact New.refl _ | with_reducible assumption | with_reducible refine New.alloc ?_ _ | with_reducible refine New.drewN ?_ _ | with_reducible refine New.drew ?_ | with_reducible refine New.trans ?_ (by with_reducible assumption))) _ HP.out).mono ?_; rintro e w1 ⟨r, he, hq1, ho1⟩; obtain ⟨Ar, cr, hrf⟩ := ho1.form; rw [hil2.out] at hrf; subst hrf; subst he; have hw1 : New wo w1 := (by repeat (first | with_reducible exact New.refl _ | with_reducible assumption | with_reducible refine New.alloc ?_ _ | with_reducible refine New.drewN ?_ _ | with_reducible refine New.drew ?_ | with_reducible refine New.trans ?_ (by with_reducible assumption))); have z0 := hw1.cell y0; have z1 := hw1.cell y1)
            | (go_at_call 82; refine (size64_any _ _ _ _ hM2).mono ?_; rintro e w' ⟨rfl, rfl⟩))
        all_goals go_wp2_with fail
        all_goals
          go_ret
          rw [joined_no k (by omega) HQ.out]
          exact ⟨rfl, hn'.trans (by repeat (first | with_reducible exact New.refl _ | with_reducible assumption | with_reducible refine New.alloc ?_ _ | with_reducible refine New.drewN ?_ _ | with_reducible refine New.drew ?_ | with_reducible refine New.trans ?_ (by with_reducible assumption)))⟩
    · have e : k = a.n.toNat := by omega
      have b1 : ¬ (k : Int) < a.n := hlt
      subst e
      go_wp2_with fail
      go_ret
      rw [joined_up hall.out]
      exact ⟨rfl, hnb.trans hnk⟩
end
section
/-- The first colouring of right roads. -/
theorem firstPaint_any (v : Value) (r : Aut) (w : World) (h : AutAt w v r) (hf : RoadsFacts r) :
    Calls Tryz.prog 60 #[v] w fun e w' => ∃ pv, e = .returned pv ∧ New w w' ∧ ∀ (N : Nat), N ≤ 4611686018427387904 → ∀ w1, New w' w1 → Calls Tryz.prog 61 #[pv, .int .i64 N] w1 fun e w2 => ∃ r2, e = .returned r2 ∧ New w1 w2 ∧ OwnAut w1.heap.size w2.heap.size w2 r2 ⟨r.nx.length, atRows (choicesOf r) N (nth r.nx 0).length⟩ := by
  refine (newPaint_any v r w h hf.n7 (fun i hi => by rw [hf.row i hi]; exact hf.l3)).mono ?_
  rintro e w' ⟨rv, rc, rfl, hn, hr, hc⟩
  refine ⟨_, rfl, hn, fun N hN w1 hn1 => ?_⟩
  rw [← hf.n]
  have hc1 : ListAt RowsAt w1 rc (choicesOf r) := by
    obtain ⟨A, c, e, hl, hx⟩ := hc
    exact ⟨A, c, e, hl, fun i hi => let ⟨b, off, q, h1, h2, h3⟩ := hx i hi; ⟨b, off, q, h1, hn1.cell h2, h3.new hn1⟩⟩
  exact paintAt_any rv rc r.nx (choicesOf r) (nth r.nx 0).length N w1 (hr.new hn1) hc1 (choices_len r) hf.n1 hf.n7 rfl ⟨hf.l1, hf.l3⟩ (fun p hp => choices_pos p hp) (fun p hp i hi => choices_row hf p hp i hi) hN
set_option maxRecDepth 20000 in
set_option maxHeartbeats 1000000 in
theorem implIsJoined_any (v : Value) (r : Aut) (w : World) (h : AutAt w v r) :
    Calls Tryz.prog 21 #[v] w fun e w' => e = .returned (.tuple #[.bool (IsJoined r).1, .int .i64 (IsJoined r).2]) ∧ New w w' := by
  obtain ⟨rv, rfl, hr⟩ := h
  obtain ⟨A, c, rfl⟩ := hr.form
  obtain ⟨wb, hwb⟩ : ∃ wb, wb = w.alloc (.cells #[.int .i64 r.n, .slice A r.nx.length c] 47) := ⟨_, rfl⟩
  have hnb : New w wb := by rw [hwb]; exact (by repeat (first | with_reducible exact New.refl _ | with_reducible assumption | with_reducible refine New.alloc ?_ _ | with_reducible refine New.drewN ?_ _ | with_reducible refine New.drew ?_ | with_reducible refine New.trans ?_ (by with_reducible assumption)))
  have hb0 : wb.cell? ⟨w.heap.size, 0, none⟩ = some (.int .i64 r.n) := by rw [hwb]; go_simp
  have hb1 : wb.cell? ⟨w.heap.size, 1, none⟩ = some (.slice A r.nx.length c) := by rw [hwb]; go_simp
  have h1 : AutAt w (.agg #[.int .i64 r.n, .slice A r.nx.length c]) r := ⟨_, rfl, hr⟩
  have C1 := ValidRoads_any _ r _ (h1.new hnb)
  obtain ⟨R, hR⟩ : ∃ R, R = IsJoined r := ⟨_, rfl⟩
  rw [← hR]
  unfold IsJoined at hR
  have HR := hid hR
  clear hR
  cases hm : roadsOk r with
  | false =>
    rw [hm] at C1
    have HE := hid (show R = (false, 1) by rw [HR.out, hm]; rfl)
    go_enter Tryz.func21, Tryz.ntmps21
    go_wp2_with fail
    rw [← hwb]
    go_wp2_with fail
    refine C1.mono ?_
    rintro e w1 ⟨rfl, hn1⟩
    go_wp2_with fail
    go_ret2
    rw [HE.out]
    exact ⟨rfl, hnb.trans hn1⟩
  | true =>
    rw [hm] at C1
    have hf := roads_facts hm
    have HF := hid hf
    have HE := hid (show R = (joinedB (firstOf r), 0) by rw [HR.out, hm]; rfl)
    have HC := hid (fun w1 (hn : New wb w1) => firstPaint_any _ r w1 (h1.new (hnb.trans hn)) hf)
    clear hf
    go_enter Tryz.func21, Tryz.ntmps21
    go_wp2_with fail
    rw [← hwb]
    go_wp2_with fail
    refine C1.mono ?_
    rintro e w1 ⟨rfl, hn1⟩
    have z0 := hn1.cell hb0
    have z1 := hn1.cell hb1
    go_wp2_with fail
    refine (HC.out _ hn1).mono ?_
    rintro e w2 ⟨pv, rfl, hn2, hat⟩
    go_wp2_with fail
    refine (hat 0 (by decide) w2 (New.refl _)).mono ?_
    rintro e w3 ⟨r3, rfl, hn3, ho3⟩
    go_wp2_with fail
    refine (isConnected_any _ _ w3 ho3.at (colour_ok HF.out 0)).mono ?_
    rintro e w4 ⟨rfl, hn4⟩
    go_wp2_with fail
    go_ret2
    rw [HE.out]
    exact ⟨rfl, (((hnb.trans hn1).trans hn2).trans hn3).trans hn4⟩
end
section
theorem tmod_abs (a b : Int) : (Int.tmod a b).natAbs = a.natAbs % b.natAbs := Int.natAbs_tmod a b
theorem gcd_step (p q : Int) : Nat.gcd q.natAbs (Int.tmod p q).natAbs = Nat.gcd p.natAbs q.natAbs := by
  rw [tmod_abs, Nat.gcd_comm q.natAbs, ← Nat.gcd_rec, Nat.gcd_comm]
theorem tmod_less (p q : Int) (h : q ≠ 0) : (Int.tmod p q).natAbs < q.natAbs := by
  rw [tmod_abs]; exact Nat.mod_lt _ (by omega)
theorem tmod_le (p q : Int) (M : Int) (h1 : -M ≤ q) (h2 : q ≤ M) (h : q ≠ 0) : -M ≤ Int.tmod p q ∧ Int.tmod p q ≤ M := by
  have := tmod_less p q h
  generalize Int.tmod p q = r at this ⊢
  omega
theorem mod_nat (p q : Int) (hp : 0 ≤ p) (hq : 0 ≤ q) (h : q ≠ 0) : Nat.gcd q.natAbs (p % q).natAbs = Nat.gcd p.natAbs q.natAbs ∧ (0 ≤ p % q ∧ p % q < q) := by
  refine ⟨?_, Int.emod_nonneg _ h, Int.emod_lt_of_pos _ (by omega)⟩
  have := gcd_step p q
  rwa [Int.tmod_eq_emod_of_nonneg hp] at this
set_option maxRecDepth 20000 in
set_option maxHeartbeats 1000000 in
theorem divisor_any (a b : Int) (w : World) (ha : -1000 ≤ a ∧ a ≤ 1000) (hb : -1000 ≤ b ∧ b ≤ 1000) :
    Calls Tryz.prog 155 #[.int .i64 a, .int .i64 b] w fun e w' => e = .returned (.int .i64 (Nat.gcd a.natAbs b.natAbs : Nat)) ∧ New w w' := by
  go_enter Tryz.func155, Tryz.ntmps155
  go_wp2_with fail
  go_loopw [0, 1] (fun x y wr => ∃ p q : Int, x = .int .i64 p ∧ y = .int .i64 q ∧ (-1000 ≤ p ∧ p ≤ 1000) ∧ (-1000 ≤ q ∧ q ≤ 1000) ∧ Hid (Nat.gcd p.natAbs q.natAbs = Nat.gcd a.natAbs b.natAbs) ∧ New w wr) (fun _ y _ => (intOf y).natAbs)
  case atStart => exact ⟨a, b, rfl, rfl, ha, hb, hid rfl, New.refl _⟩
  case round =>
    obtain ⟨p, q, rfl, rfl, hp, hq, hg, hn⟩ := hrel
    by_cases h0 : q = 0
    · subst h0
      have hG := hg.out
      have hmx : max p (-p) = (p.natAbs : Int) := by omega
      rw [show (0 : Int).natAbs = 0 from rfl, Nat.gcd_zero_right] at hG
      have HG := hid hG
      clear hG hg
      by_cases hs : p < 0
      · go_wp2_with fail
        all_goals
          go_ret
          rw [← HG.out]
          exact ⟨ret_int (by omega), hn⟩
      · go_wp2_with fail
        all_goals
          go_ret
          rw [← HG.out]
          exact ⟨ret_int (by omega), hn⟩
    · have hS := hid (gcd_step p q)
      have hL := hid (tmod_less p q h0)
      have hB := hid (tmod_le p q 1000 hq.1 hq.2 h0)
      go_wp2_with fail
      go_quiet (fail)
      go_wp2_with fail
      refine ⟨⟨q, Int.tmod p q, rfl, rfl, hq, hB.out, hid (by rw [hS.out]; exact hg.out), (by repeat (first | with_reducible exact New.refl _ | with_reducible assumption | with_reducible refine New.alloc ?_ _ | with_reducible refine New.drewN ?_ _ | with_reducible refine New.drew ?_ | with_reducible refine New.trans ?_ (by with_reducible assumption)))⟩, ?_⟩
      show (Int.tmod p q).natAbs < q.natAbs
      exact hL.out
end
section
/-- What the map of distances holds. -/
def farF (t : Bfs Int) : Lit → Option Value
  | .int .i64 x => if hasB t.list x = true then some (.int .i64 (farD t x : Nat)) else none
  | _ => none
theorem farF_put {t : Bfs Int} (hlw : t.words.length = t.list.length) (y : Int) (wd : List Int) (hy : y ∉ t.list) (v : Int) (hv : v = (wd.length : Nat)) (kl : Lit) : putF (farF t) (.int .i64 y) (.int .i64 v) kl = farF ⟨t.list ++ [y], t.words ++ [wd]⟩ kl := by
  unfold putF
  by_cases e : kl = .int .i64 y
  · subst e
    rw [if_pos rfl]
    simp only [farF]
    rw [if_pos ((hasB_iff _ _).2 (by simp)), farD_new hlw y wd hy, hv]
  · rw [if_neg e]
    cases kl with
    | int q x =>
      cases q with
      | i64 =>
        have hne : x ≠ y := fun h => e (by rw [h])
        simp only [farF]
        have h1 : hasB (t.list ++ [y]) x = hasB t.list x := by rw [Bool.eq_iff_iff, hasB_iff, hasB_iff]; simp [hne]
        rw [h1]
        by_cases h2 : hasB t.list x = true
        · rw [if_pos h2, if_pos h2, farD_old hlw y wd x ((hasB_iff _ _).1 h2)]
        · rw [if_neg h2, if_neg h2]
      | _ => rfl
    | _ => rfl
theorem farF_has {t : Bfs Int} {x : Int} (h : x ∈ t.list) : farF t (.int .i64 x) = some (.int .i64 (farD t x : Nat)) := by
  simp only [farF]; rw [if_pos ((hasB_iff _ _).2 h)]
theorem farF_not {t : Bfs Int} {x : Int} (h : x ∉ t.list) : farF t (.int .i64 x) = none := by
  simp only [farF]; rw [if_neg (by rw [hasB_iff]; exact h)]
theorem zero_i64f (w : World) : (zeroValue 2).run Tryz.prog w = .ok (.int .i64 0) w := by kernel_rfl
theorem key_i64f (x : Int) (h : 0 ≤ x ∧ x < 1000) : keyOf Tryz.prog 2 (.int .i64 x) = some (.int .i64 x) := Go.Maps.keyOf_int_mk Tryz.underlying2 (by simp [Lit.wf, IntKind.min, IntKind.max, IntKind.bits, IntKind.signed]; omega)
/-- A distance is looked up. -/
theorem far_look {w : World} {mb : Nat} {t : Bfs Int} (h : MapAt Tryz.prog 2 w mb t.list.length (farF t)) {x : Int} (hx : 0 ≤ x ∧ x < 1000) (hm : x ∈ t.list) :
    (Instr.lookup 182 (.map (some mb)) (.int .i64 x) false).run Tryz.prog w = .ok (.int .i64 (farD t x : Nat)) w ∧ (Instr.lookup 182 (.map (some mb)) (.int .i64 x) true).run Tryz.prog w = .ok (.tuple #[.int .i64 (farD t x : Nat), .bool true]) w := by
  have h1 := h.look (Go.Maps.int_keyed Tryz.underlying2) Tryz.underlying182 (zero_i64f w) (key_i64f x hx)
  rw [farF_has hm] at h1
  exact h1
theorem far_miss {w : World} {mb : Nat} {t : Bfs Int} (h : MapAt Tryz.prog 2 w mb t.list.length (farF t)) {x : Int} (hx : 0 ≤ x ∧ x < 1000) (hm : x ∉ t.list) :
    (Instr.lookup 182 (.map (some mb)) (.int .i64 x) true).run Tryz.prog w = .ok (.tuple #[.int .i64 0, .bool false]) w := by
  have h1 := h.look (Go.Maps.int_keyed Tryz.underlying2) Tryz.underlying182 (zero_i64f w) (key_i64f x hx)
  rw [farF_not hm] at h1
  exact h1.2
theorem far_put {w : World} {mb : Nat} {t : Bfs Int} (h : MapAt Tryz.prog 2 w mb t.list.length (farF t)) (hlw : t.words.length = t.list.length) {y : Int} (hy : 0 ≤ y ∧ y < 1000) (hm : y ∉ t.list) (hl : t.list.length ≤ 1000) (wd : List Int) (v : Int) (hv : v = (wd.length : Nat)) :
    ∃ w5, (Instr.mapUpdate 182 (.map (some mb)) (.int .i64 y) (.int .i64 v)).run Tryz.prog w = .ok () w5 ∧ MapAt Tryz.prog 2 w5 mb (t.list.length + 1) (farF ⟨t.list ++ [y], t.words ++ [wd]⟩) ∧ w.grownBy w5 (some mb) := by
  obtain ⟨w5, hrun, hm5, hg5⟩ := h.put_spec (val := .int .i64 v) (Go.Maps.int_keyed Tryz.underlying2) Tryz.underlying182 (by unfold maxLen; omega) (key_i64f y hy)
  rw [farF_not hm] at hm5
  exact ⟨w5, hrun, MapAt.eqF hm5 fun kl _ => farF_put hlw y wd hm v hv kl, hg5⟩
set_option maxRecDepth 20000 in
set_option maxHeartbeats 4000000 in
theorem period_any (v : Value) (a : Aut) (w : World) (h : AutAt w v a) (ha : autOk a = true) :
    Calls Tryz.prog 123 #[v] w fun e w' => e = .returned (.int .i64 (periodN a : Nat)) ∧ New w w' := by
  obtain ⟨rv, rfl, hr⟩ := h
  obtain ⟨A, c, rfl, hl, hc⟩ := hr
  have hn := autOk_n ha
  have hs : rcP a 0 := ⟨by omega, by omega⟩
  have HC := hid hc
  have HB := hid (fun k => rc_bok ha hs k)
  have HBD := hid (fun (t : Bfs Int) (ht : BOk (rcP a) a.nx.length t) => rc_bound ha ht)
  have HE := hid (fun k hk => rc_end ha hs k hk)
  have HR := hid (fun l hl => autOk_row ha l hl)
  have HOK := hid (fun l x y hl hx hy => rcG_ok ha l x y hl hx hy)
  have HMID := hid (fun k l hk hl T hT X Y hX hY => stepGap_mid ha k l hk hl T hT X Y hX hY)
  have HFAR := hid (fun (t : Bfs Int) (ht : BOk (rcP a) a.nx.length t) (x : Int) => rc_far ha ht x)
  have HGL := hid (fun k l => gAll_le _ 0 11 (by omega) (upTo_le (stepGap a (rcT a 0 11)) a.nx.length k l 11 (fun i m => stepGap_le ha i m)))
  have HP := hid (show periodN a = gAll 0 (upTo (stepGap a (rcT a 0 11)) a.nx.length (rcL a 0).length 0) from rfl)
  obtain ⟨PN, hPN⟩ : ∃ z, z = periodN a := ⟨_, rfl⟩
  obtain ⟨SG, hSG⟩ : ∃ z, z = stepGap a (rcT a 0 11) := ⟨_, rfl⟩
  rw [← hPN] at HP
  rw [← hPN]
  rw [← hSG] at HP HMID HGL
  clear hPN hSG
  have hal := autOk_l ha
  clear hc ha
  have hmm := @run_makeMap Tryz.prog
  obtain ⟨wb, hwb⟩ : ∃ wb, wb = w.alloc (.cells #[.int .i64 a.n, .slice A a.nx.length c] 31) := ⟨_, rfl⟩
  have hnb : New w wb := by rw [hwb]; exact (by repeat (first | with_reducible exact New.refl _ | with_reducible assumption | with_reducible refine New.alloc ?_ _ | with_reducible refine New.drewN ?_ _ | with_reducible refine New.drew ?_ | with_reducible refine New.trans ?_ (by with_reducible assumption)))
  have hzb : wb.heap.size = w.heap.size + 1 := by rw [hwb]; simp only [size_alloc]
  have hbx : wb.cell? ⟨w.heap.size, 1, none⟩ = some (.slice A a.nx.length c) := by rw [hwb]; go_simp
  have hM0 := MapAt.made Tryz.prog 2 wb
  obtain ⟨w3, hrun, hm3, hg3⟩ := hM0.put_spec (val := .int .i64 0) (Go.Maps.int_keyed Tryz.underlying2) Tryz.underlying182 (by decide) (key_i64f 0 ⟨by decide, by decide⟩)
  have hm4 : MapAt Tryz.prog 2 w3 wb.heap.size (rcT a 0 0).list.length (farF (rcT a 0 0)) := by
    refine MapAt.eqF hm3 fun kl _ => ?_
    have := farF_put (t := ⟨[], []⟩) rfl 0 [] (by simp) 0 rfl kl
    rw [show (farF ⟨[], []⟩) = (fun _ => none) from by funext kl; cases kl with | int q y => cases q <;> simp [farF, hasB] | _ => rfl] at this
    exact this
  have hn3 : New wb w3 := New.grown (a := wb) (w := wb.alloc (.map #[] 0)) (by repeat (first | with_reducible exact New.refl _ | with_reducible assumption | with_reducible refine New.alloc ?_ _ | with_reducible refine New.drewN ?_ _ | with_reducible refine New.drew ?_ | with_reducible refine New.trans ?_ (by with_reducible assumption))) hg3 (fun k hk => by cases hk; omega)
  have hz3 : wb.heap.size < w3.heap.size := by have := hg3.size; simp only [size_alloc] at this; omega
  have hG0 : Grow wb.heap.size 2 (w3.alloc (.cells #[.int .i64 0] 2)) (.slice (some ⟨w3.heap.size, 0, none⟩) 1 1) (rcT a 0 0).list := ownsRow_one (B := wb.heap.size) (e := 2) (w := w3) (x := .int .i64 0) (by omega)
  have hn0 : New wb (w3.alloc (.cells #[.int .i64 0] 2)) := hn3.alloc _
  have hm0 := hm4.new ((New.refl w3).alloc (.cells #[.int .i64 0] 2))
  have hob0 : (Value.slice (some ⟨w3.heap.size, 0, none⟩) 1 1).ownBlock ≠ some wb.heap.size := by simp [Value.ownBlock]; omega
  have hrun2 := hrun
  rw [hwb] at hrun2
  simp only [size_alloc] at hrun2
  clear hM0 hm3 hm4 hrun hg3
  go_enter Tryz.func123, Tryz.ntmps123
  go_wp2_with fail
  clear hrun2 hmm
  rw [← hzb]
  generalize (w3.alloc (.cells #[.int .i64 0] 2)) = w0 at hG0 hn0 hm0 ⊢
  have HZB := hid hzb
  obtain ⟨qv, hqv⟩ : ∃ q, q = Value.slice (some ⟨w3.heap.size, 0, none⟩) 1 1 := ⟨_, rfl⟩
  rw [← hqv] at hG0 hob0 ⊢
  obtain ⟨mb, hmb⟩ : ∃ mb, mb = wb.heap.size := ⟨_, rfl⟩
  rw [← hmb] at hm0 hob0 ⊢
  have hmbB : wb.heap.size ≤ mb := by omega
  clear hwb hzb hqv hn3 hz3 hmb
  go_loopw [4, 5, 6] (fun ov g i wr => ∃ k : Nat, k ≤ (rcT a 0 k).list.length ∧ i = .int .i64 k ∧ g = .int .i64 (gAll 0 (upTo SG a.nx.length k 0) : Nat) ∧ New wb wr ∧ Grow wb.heap.size 2 wr ov (rcT a 0 k).list ∧ ov.ownBlock ≠ some mb ∧ MapAt Tryz.prog 2 wr mb (rcT a 0 k).list.length (farF (rcT a 0 k))) (fun _ _ i _ => 11 - (intOf i).toNat)
  case atStart => exact ⟨0, Nat.zero_le _, rfl, rfl, hn0, hG0, hob0, hm0⟩
  case round =>
    obtain ⟨k, hk, rfl, rfl, hnk, hGk, hobk, hmk⟩ := hrel
    clear hn0 hG0 hm0 hob0
    obtain ⟨wo, rfl⟩ : ∃ wo : World, wo = wr := ⟨_, rfl⟩
    have hbd := HBD.out _ (HB.out k)
    obtain ⟨B1, cc1, rfl⟩ := hGk.form
    have y2 := hnk.cell hbx
    by_cases hlt : k < (rcT a 0 k).list.length
    · have b1 : (k : Int) < ((rcT a 0 k).list.length : Int) := by omega
      have hzk := hnk.size
      obtain ⟨X, hX⟩ : ∃ X, X = nth (rcT a 0 k).list k := ⟨_, rfl⟩
      have hXok := (HB.out k).ok X (by rw [hX]; exact nth_mem _ _ hlt)
      have HX := hid hX
      obtain ⟨X1, X2⟩ := hXok
      obtain ⟨gb, _, ⟨c', e'⟩, _, _, hcell, _⟩ := ownsRow_cells hGk k (by simpa using hlt)
      injection e' with e1 e2 e3
      subst e1
      have hx0 : wo.cell? ⟨gb, k, none⟩ = some (.int .i64 X) := by rw [hcell, hX, nth_eq _ _ hlt]; simp
      clear hX hcell e2 e3
      go_wp2_with fail
      go_loopw [4, 5, 29] (fun ov g i wr => ∃ l : Nat, l ≤ a.nx.length ∧ i = .int .i64 l ∧ g = .int .i64 (gAll 0 (upTo SG a.nx.length k l) : Nat) ∧ New wb wr ∧ Grow wb.heap.size 2 wr ov (bRow (rcG a.nx) k (rcT a 0 k) l).list ∧ ov.ownBlock ≠ some mb ∧ MapAt Tryz.prog 2 wr mb (bRow (rcG a.nx) k (rcT a 0 k) l).list.length (farF (bRow (rcG a.nx) k (rcT a 0 k) l))) (fun _ _ i _ => a.nx.length - (intOf i).toNat)
      case atStart => exact ⟨0, Nat.zero_le _, rfl, rfl, hnk, hGk, hobk, hmk⟩
      case round =>
        obtain ⟨l, hll, rfl, rfl, hNi, hGi, hobi, hmi⟩ := hrel
        clear hGk y2 hobk hmk hx0
        obtain ⟨wi, rfl⟩ : ∃ wi : World, wi = wr := ⟨_, rfl⟩
        have hpre := bRow_pre' (g := rcG a.nx) k (rcT a 0 k) l
        have hokl := BOk.row (fun l x y hl hx hy => HOK.out l x y hl hx hy) (HB.out k) k hlt l hll
        obtain ⟨T', hT'⟩ : ∃ T', T' = bRow (rcG a.nx) k (rcT a 0 k) l := ⟨_, rfl⟩
        have hbd2 := HBD.out _ hokl
        rw [← hT'] at hGi hpre hokl hbd2 hmi
        have HT := hid hT'
        have hk2 : k < T'.list.length := Nat.lt_of_lt_of_le hlt hpre.1
        have hXT : nth T'.list k = X := by rw [(hpre.2 k hlt).1, HX.out]
        have HXT := hid hXT
        have hXm : X ∈ T'.list := by rw [← hXT]; exact nth_mem _ _ hk2
        have hfX := HFAR.out _ hokl X
        have hgl := HGL.out k l
        obtain ⟨GV, hGV⟩ : ∃ z, z = gAll 0 (upTo SG a.nx.length k l) := ⟨_, rfl⟩
        rw [← hGV] at hgl ⊢
        have HGV := hid hGV
        have HLW := hid hokl.lw
        have HOKL := hid hokl
        clear hT' hpre hXT hGV
        by_cases hltl : l < a.nx.length
        · have b2 : (l : Int) < (a.nx.length : Int) := by omega
          obtain ⟨rb, ro, rv, rfl, hx, hrv⟩ := HC.out l hltl
          obtain ⟨A3, c3, rfl, hl3, hc3⟩ := hrv
          obtain ⟨r1, r2⟩ := HR.out l hltl
          obtain ⟨B2, cc2, rfl⟩ := hGi.form
          obtain ⟨tb, to, rfl, ht⟩ := hc3 X.toNat (by omega)
          obtain ⟨Y, hY⟩ : ∃ Y, Y = nth (nth a.nx l) X.toNat := ⟨_, rfl⟩
          have hYr := r2 X.toNat (by omega)
          rw [← hY] at ht hYr
          have HY := hid hY
          have g1 : X < ((nth a.nx l).length : Int) := by omega
          have HG := hid (show rcG a.nx l (nth T'.list k) = some Y by rw [HXT.out, hY]; rfl)
          have HSUCC := hid (show bRow (rcG a.nx) k (rcT a 0 k) (l + 1) = bStep (rcG a.nx) k l T' by rw [bRow_succ, ← HT.out])
          replace hx := (hnb.trans hNi).cell hx
          replace ht := (hnb.trans hNi).cell ht
          have hzi := hNi.size
          have HYR := hid (show 0 ≤ Y ∧ Y < 1000 by omega)
          have HUP := hid (show gAll 0 (upTo SG a.nx.length k (l + 1)) = Nat.gcd GV (SG k l) by rw [upTo_step, gAll_snoc, ← HGV.out])
          clear hY hc3 r2
          by_cases hm : Y ∈ T'.list
          · have HS := hid (show bRow (rcG a.nx) k (rcT a 0 k) (l + 1) = T' by rw [HSUCC.out, bStep_has _ _ _ _ Y HG.out hm])
            have HSG := hid (HMID.out k l hlt hltl T' HS.out X Y HXT.out HY.out.symm)
            have hfY := HFAR.out _ hokl Y
            obtain ⟨FX, hFX⟩ : ∃ z, z = farD T' X := ⟨_, rfl⟩
            obtain ⟨FY, hFY⟩ : ∃ z, z = farD T' Y := ⟨_, rfl⟩
            have k1 := (far_look hmi (x := X) ⟨X1, by omega⟩ hXm).1
            obtain ⟨k2, k3⟩ := far_look hmi (x := Y) HYR.out hm
            rw [← hFX] at k1 hfX HSG
            rw [← hFY] at k2 k3 hfY HSG
            have C := divisor_any (GV : Int) ((FX : Int) + 1 - (FY : Int)) wi (by omega) (by omega)
            clear hm hFX hFY hokl
            go_wp2_with (go_at_call 155; refine C.mono ?_; rintro e w1 ⟨rfl, hn1⟩)
            refine ⟨⟨l + 1, by omega, by go_num, by rw [HUP.out, HSG.out]; rfl, hNi.trans hn1, by rw [HS.out]; exact hGi.new hn1, hobi, by rw [HS.out]; exact hmi.new hn1⟩, ?_⟩
            simp [intOf]; omega
          · have HS := hid (show bRow (rcG a.nx) k (rcT a 0 k) (l + 1) = ⟨T'.list ++ [Y], T'.words ++ [nth T'.words k ++ [(l : Int)]]⟩ by rw [HSUCC.out, bStep_new _ _ _ _ Y HG.out hm])
            have HSG := hid (HMID.out k l hlt hltl _ HS.out X Y (by simp only; rw [nth_append_left _ _ _ hk2]; exact HXT.out) HY.out.symm)
            have hwl := farD_nth hokl.nodup k hk2
            rw [HXT.out] at hwl
            have e3 := farD_new (t := T') hokl.lw Y (nth T'.words k ++ [(l : Int)]) hm
            have e4 := farD_old (t := T') hokl.lw Y (nth T'.words k ++ [(l : Int)]) X hXm
            have k1 := (far_look hmi (x := X) ⟨X1, by omega⟩ hXm).1
            have k3 := far_miss hmi (x := Y) HYR.out hm
            obtain ⟨w5, hrun, hm5, hg5⟩ := far_put hmi hokl.lw (y := Y) HYR.out hm (by omega) (nth T'.words k ++ [(l : Int)]) ((farD T' X : Int) + 1) (by rw [hwl, List.length_append]; simp)
            rw [e3, e4, List.length_append, ← hwl] at HSG
            have HE3 := hid e3
            have HE4 := hid e4
            have HWL := hid hwl
            obtain ⟨FX, hFX⟩ : ∃ z, z = farD T' X := ⟨_, rfl⟩
            rw [← hFX] at k1 hfX HSG hrun HE4 HWL
            obtain ⟨T2, hT2⟩ : ∃ z : Bfs Int, z = ⟨T'.list ++ [Y], T'.words ++ [nth T'.words k ++ [(l : Int)]]⟩ := ⟨_, rfl⟩
            have hT2l : T2.list = T'.list ++ [Y] := by rw [hT2]
            rw [← hT2] at hm5 HS HE3 HE4
            have hm6 : MapAt Tryz.prog 2 w5 mb T2.list.length (farF T2) := by rw [hT2l, List.length_append]; exact hm5
            have HT2 := hid hT2l
            have hG5 : Grow wb.heap.size 2 w5 (.slice B2 T'.list.length cc2) T'.list := hmi.ownsRow hg5 hGi
            have hn5 : New wb w5 := New.grown hNi hg5 (fun q hq => by cases hq; exact hmbB)
            have hz5 := hn5.size
            have hmi0 := hid (Nat.lt_of_lt_of_le hmi.lt hg5.size)
            have C := fun w9 => divisor_any (GV : Int) 0 w9 (by omega) (by omega)
            have HXM := hid hXm
            clear hm hFX hT2 hT2l hokl e3 e4 hwl hm5 hXm hmi
            go_wp2_with (first
              | (at_builtin; refine wpList_appV (w1 := w5) rfl _ _ _ rfl (B := wb.heap.size) Tryz.underlying34 info_i64 rfl (by decide) rfl (.slice B2 T'.list.length cc2) T'.list.length _ rfl hG5 rfl (by omega) hz5 ?_; intro g4 cap4 w12 ho12 hg12 hloc12; have hm12 := hm6.kept hg12 (fun e => hobi e.symm); have q1 := (far_look hm12 (x := X) ⟨X1, by omega⟩ (by rw [HT2.out]; exact List.mem_append_left _ HXM.out)).1; have q2 := (far_look hm12 (x := Y) HYR.out (by rw [HT2.out]; simp)).1; rw [HE4.out] at q1; rw [HE3.out, List.length_append, ← HWL.out] at q2)
              | (go_at_call 155; refine (C _).mono ?_; rintro e w1 ⟨rfl, hn1⟩))
            have hG12 : Grow wb.heap.size 2 w12 (.slice (some ⟨g4, 0, none⟩) (T'.list.length + 1) cap4) (T'.list ++ [Y]) := by simpa [Grow] using ho12
            have hb5 := hG5.block
            have hn12 : New wb w12 := New.grown hn5 hg12 (fun q hq => (hb5 q hq).1)
            have hz12 := hg5.size
            refine ⟨⟨l + 1, by omega, by go_num, by rw [HUP.out, HSG.out]; congr 3 <;> (simp [gapOf]), hn12.trans hn1, by rw [HS.out, HT2.out]; exact hG12.new hn1, ?_, by rw [HS.out]; exact hm12.new hn1⟩, ?_⟩
            · intro e
              simp [Value.ownBlock] at e
              rcases hloc12 with h | h
              · rw [e] at h; exact hobi h
              · have := hmi0.out; omega
            · simp [intOf]; omega
        · have e : l = a.nx.length := by omega
          subst e
          have b2 : ¬ (a.nx.length : Int) < (a.nx.length : Int) := by omega
          have HS := hid (show rcT a 0 (k + 1) = T' by unfold rcT at hlt HT ⊢; rw [bTo_succ, if_pos hlt, HT.out])
          have HUP := hid (show gAll 0 (upTo SG a.nx.length (k + 1) 0) = GV by rw [upTo_row, HGV.out])
          obtain ⟨B2, cc2, rfl⟩ := hGi.form
          go_wp2_with fail
          refine ⟨⟨k + 1, by rw [HS.out]; exact hk2, by go_num, by rw [HUP.out], hNi, by rw [HS.out]; exact hGi, hobi, by rw [HS.out]; exact hmi⟩, ?_⟩
          simp [intOf]; omega
    · have e : k = (rcT a 0 k).list.length := by omega
      have HF := hid (HE.out k e.symm)
      have b1 : ¬ (k : Int) < ((rcT a 0 k).list.length : Int) := by omega
      have HPN := hid (show gAll 0 (upTo SG a.nx.length k 0) = PN by rw [HP.out, HF.out, ← e])
      clear e
      go_wp2_with fail
      go_ret
      rw [HPN.out]
      exact ⟨rfl, hnb.trans hnk⟩
end
section
def RoadPeriod (r : Aut) : Int × Int := if roadsOk r = true then (if joinedB (firstOf r) = true then ((periodN (firstOf r) : Nat), 0) else (0, 4)) else (0, 1)
set_option maxRecDepth 20000 in
set_option maxHeartbeats 1000000 in
theorem PeriodOf_any (v : Value) (a : Aut) (w : World) (h : AutAt w v a) (ha : autOk a = true) :
    Calls Tryz.prog 75 #[v] w fun e w' => e = .returned (.tuple #[.int .i64 (if joinedB a = true then ((periodN a : Nat) : Int) else 0), .int .i64 (if joinedB a = true then 0 else 4)]) ∧ New w w' := by
  obtain ⟨rv, rfl, hr⟩ := h
  obtain ⟨A, c, rfl⟩ := hr.form
  have h1 : AutAt w (.agg #[.int .i64 a.n, .slice A a.nx.length c]) a := ⟨_, rfl, hr⟩
  obtain ⟨wb, hwb⟩ : ∃ wb, wb = w.alloc (.cells #[.int .i64 a.n, .slice A a.nx.length c] 31) := ⟨_, rfl⟩
  have hnb : New w wb := by rw [hwb]; exact (by repeat (first | with_reducible exact New.refl _ | with_reducible assumption | with_reducible refine New.alloc ?_ _ | with_reducible refine New.drewN ?_ _ | with_reducible refine New.drew ?_ | with_reducible refine New.trans ?_ (by with_reducible assumption)))
  have hb0 : wb.cell? ⟨w.heap.size, 0, none⟩ = some (.int .i64 a.n) := by rw [hwb]; go_simp
  have hb1 : wb.cell? ⟨w.heap.size, 1, none⟩ = some (.slice A a.nx.length c) := by rw [hwb]; go_simp
  have C1 := fun w1 (hn : New w w1) => ValidAutomaton_any _ a w1 (h1.new hn)
  have C2 := fun w1 (hn : New w w1) => isConnected_any _ a w1 (h1.new hn) ha
  have C3 := hid (fun w1 (hn : New w w1) => period_any _ a w1 (h1.new hn) ha)
  simp only [ha] at C1
  have HC1 := hid C1
  clear ha C1
  cases hj : joinedB a with
  | false =>
    simp only [hj] at C2
    have HC2 := hid C2
    clear hj C2
    go_enter Tryz.func75, Tryz.ntmps75
    go_wp2_with fail
    rw [← hwb]
    go_wp2_with fail
    refine (HC1.out _ hnb).mono ?_
    rintro e w1 ⟨rfl, hn1⟩
    have z0 := hn1.cell hb0
    have z1 := hn1.cell hb1
    go_wp2_with fail
    refine (HC2.out _ (hnb.trans hn1)).mono ?_
    rintro e w2 ⟨rfl, hn2⟩
    go_wp2_with fail
    go_ret2
    exact ⟨rfl, (hnb.trans hn1).trans hn2⟩
  | true =>
    simp only [hj] at C2
    have HC2 := hid C2
    clear hj C2
    go_enter Tryz.func75, Tryz.ntmps75
    go_wp2_with fail
    rw [← hwb]
    go_wp2_with fail
    refine (HC1.out _ hnb).mono ?_
    rintro e w1 ⟨rfl, hn1⟩
    have z0 := hn1.cell hb0
    have z1 := hn1.cell hb1
    go_wp2_with fail
    refine (HC2.out _ (hnb.trans hn1)).mono ?_
    rintro e w2 ⟨rfl, hn2⟩
    replace z0 := hn2.cell z0
    replace z1 := hn2.cell z1
    go_wp2_with fail
    refine (C3.out _ ((hnb.trans hn1).trans hn2)).mono ?_
    rintro e w3 ⟨rfl, hn3⟩
    go_wp2_with fail
    go_ret2
    exact ⟨rfl, ((hnb.trans hn1).trans hn2).trans hn3⟩
set_option maxRecDepth 20000 in
set_option maxHeartbeats 1000000 in
theorem implRoadPeriod_any (v : Value) (r : Aut) (w : World) (h : AutAt w v r) :
    Calls Tryz.prog 27 #[v] w fun e w' => e = .returned (.tuple #[.int .i64 (RoadPeriod r).1, .int .i64 (RoadPeriod r).2]) ∧ New w w' := by
  obtain ⟨rv, rfl, hr⟩ := h
  obtain ⟨A, c, rfl⟩ := hr.form
  obtain ⟨wb, hwb⟩ : ∃ wb, wb = w.alloc (.cells #[.int .i64 r.n, .slice A r.nx.length c] 47) := ⟨_, rfl⟩
  have hnb : New w wb := by rw [hwb]; exact (by repeat (first | with_reducible exact New.refl _ | with_reducible assumption | with_reducible refine New.alloc ?_ _ | with_reducible refine New.drewN ?_ _ | with_reducible refine New.drew ?_ | with_reducible refine New.trans ?_ (by with_reducible assumption)))
  have hb0 : wb.cell? ⟨w.heap.size, 0, none⟩ = some (.int .i64 r.n) := by rw [hwb]; go_simp
  have hb1 : wb.cell? ⟨w.heap.size, 1, none⟩ = some (.slice A r.nx.length c) := by rw [hwb]; go_simp
  have h1 : AutAt w (.agg #[.int .i64 r.n, .slice A r.nx.length c]) r := ⟨_, rfl, hr⟩
  have C1 := ValidRoads_any _ r _ (h1.new hnb)
  obtain ⟨R, hR⟩ : ∃ R, R = RoadPeriod r := ⟨_, rfl⟩
  rw [← hR]
  unfold RoadPeriod at hR
  have HR := hid hR
  clear hR
  cases hm : roadsOk r with
  | false =>
    rw [hm] at C1
    have HE := hid (show R = (0, 1) by rw [HR.out, hm]; rfl)
    go_enter Tryz.func27, Tryz.ntmps27
    go_wp2_with fail
    rw [← hwb]
    go_wp2_with fail
    refine C1.mono ?_
    rintro e w1 ⟨rfl, hn1⟩
    go_wp2_with fail
    go_ret2
    rw [HE.out]
    exact ⟨rfl, hnb.trans hn1⟩
  | true =>
    rw [hm] at C1
    have hf := roads_facts hm
    have HF := hid hf
    have HE := hid (show R = ((if joinedB (firstOf r) = true then ((periodN (firstOf r) : Nat) : Int) else 0), (if joinedB (firstOf r) = true then 0 else 4)) by rw [HR.out, hm]; cases joinedB (firstOf r) <;> rfl)
    have HC := hid (fun w1 (hn : New wb w1) => firstPaint_any _ r w1 (h1.new (hnb.trans hn)) hf)
    have HP := hid (fun (w1 : World) v3 (h3 : AutAt w1 v3 (firstOf r)) => PeriodOf_any v3 (firstOf r) w1 h3 (colour_ok hf 0))
    obtain ⟨P1, hP1⟩ : ∃ z, z = (if joinedB (firstOf r) = true then ((periodN (firstOf r) : Nat) : Int) else 0) := ⟨_, rfl⟩
    obtain ⟨P2, hP2⟩ : ∃ z : Int, z = (if joinedB (firstOf r) = true then 0 else 4) := ⟨_, rfl⟩
    rw [← hP1, ← hP2] at HE HP
    clear hf hP1 hP2
    go_enter Tryz.func27, Tryz.ntmps27
    go_wp2_with fail
    rw [← hwb]
    go_wp2_with fail
    refine C1.mono ?_
    rintro e w1 ⟨rfl, hn1⟩
    have z0 := hn1.cell hb0
    have z1 := hn1.cell hb1
    go_wp2_with fail
    refine (HC.out _ hn1).mono ?_
    rintro e w2 ⟨pv, rfl, hn2, hat⟩
    go_wp2_with fail
    refine (hat 0 (by decide) w2 (New.refl _)).mono ?_
    rintro e w3 ⟨r3, rfl, hn3, ho3⟩
    go_wp2_with fail
    refine (HP.out w3 _ ho3.at).mono ?_
    rintro e w4 ⟨rfl, hn4⟩
    go_wp2_with fail
    go_ret2
    rw [HE.out]
    exact ⟨rfl, (((hnb.trans hn1).trans hn2).trans hn3).trans hn4⟩
end

end Go.Proofs.YtoeckejcmojeaaaGreat
