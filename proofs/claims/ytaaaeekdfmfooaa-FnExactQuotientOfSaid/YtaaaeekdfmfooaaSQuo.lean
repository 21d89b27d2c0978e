/- The reference's automaton of classes. -/
import Derived.Test.YtaaaeekdfmfooaaRows
import Derived.Test.YtaaaeekdfmfooaaBase
import Derived.Test.YtaaaeekdfmfooaaAut
import Derived.Test.YtaaaeekdfmfooaaApp
import Derived.Test.YtaaaeekdfmfooaaAppRows
import Derived.Test.YtaaaeekdfmfooaaAppStep
import Derived.Test.YtaaaeekdfmfooaaInfo
import Derived.Test.YtaaaeekdfmfooaaPlain1
import Derived.Test.YtaaaeekdfmfooaaPlainRun
import Derived.Test.YtaaaeekdfmfooaaPlainSet
import Derived.Test.YtaaaeekdfmfooaaPlainRen
import Derived.Test.YtaaaeekdfmfooaaPlainDiv
import Derived.Test.YtaaaeekdfmfooaaPlainTidy
import Derived.Test.YtaaaeekdfmfooaaPlainQuo
import Derived.Test.YtaaaeekdfmfooaaOwnC
import Derived.Test.YtaaaeekdfmfooaaS01a
import Derived.Test.YtaaaeekdfmfooaaS01b
import Derived.Test.YtaaaeekdfmfooaaS01d
import Derived.Test.YtaaaeekdfmfooaaS01e
import Derived.WalkKit
import Derived.WalkSpells
import Derived.WalkLawsBesides
import Derived.Deep.QuietTactic
import Derived.Deep.OwnRows
import Derived.BigQuiet
import Derived.KernelRfl
import Derived.RegionTactic
import Derived.Deep.RegionWith
import Derived.Deep.RegionLaw
import Derived.BigRegion
import Derived.Deep.RegionHeld3
import Derived.Carry
namespace Go.Proofs.Ytaaaeekdfmfooaa
open Go.RowKit

set_option maxHeartbeats 400000 in
theorem l00Max_any (a b : Int) (w : World) :
    Calls Try.prog 170 #[.int .i64 a, .int .i64 b] w fun e w' => e = .returned (.int .i64 (if a > b then a else b)) ∧ w' = w := by
  by_cases h : b < a
  · go_enter Try.func170, Try.ntmps170
    go_wp2
    go_ret
    exact ⟨rfl, rfl⟩
  · have h' : decide (b < a) = false := by simpa using h
    go_enter Try.func170, Try.ntmps170
    go_wp2
    go_ret
    exact ⟨rfl, rfl⟩
set_option maxRecDepth 20000 in
set_option maxHeartbeats 400000 in
theorem l01Quotient_any (p v : Value) (a : Aut) (cl : List Int) (w : World) (hp : PAut w p a) (h : IntsAt w v cl) (ha : autOk a = true) (hd : isDiv cl a.n = true) (hc : congB a.nx cl = true) :
    Calls Try.prog 118 #[p, v] w fun e w' => ∃ r, e = .returned r ∧ New w w' ∧ OwnAut w.heap.size w'.heap.size w' r (quoOf a cl) := by
  obtain ⟨pb, rv, rfl, hp0, hp1, hpr⟩ := hp
  obtain ⟨A2, c2, rfl, hl2, hc2⟩ := hpr
  obtain ⟨A, c, rfl, hl, hcc⟩ := h
  have han := autOk_n ha
  have hal := autOk_l ha
  obtain ⟨hd1, hd2⟩ := isDiv_parts hd
  have hin : ∀ i, i < cl.length → 0 ≤ nth cl i ∧ nth cl i < 10 := fun i hi => by have := divOk_in cl 0 (by omega) hd1 i hi; omega
  have hN := cls_le hd
  have hcb : ∀ k, k ≤ cl.length → 0 ≤ clsTo cl k ∧ clsTo cl k ≤ 11 := fun k hk => by
    refine ⟨(clsTo_nonneg cl (fun i hi => (hin i hi).1) k hk).1, ?_⟩
    by_cases e : k = 0
    · subst e; rw [clsTo_zero]; omega
    · rcases clsTo_hit cl k hk (by omega) with ⟨i, hi, h⟩ | h
      · have := hin i (by omega); omega
      · omega
  have hpb : pb < w.heap.size := World.block_lt_of_cell? w _ hp0
  obtain ⟨wb, hwb⟩ : ∃ wb, wb = (w.alloc (.cells #[.int .i64 0, .slice none 0 0] 27)).alloc (.cells #[.int .i64 0, .slice none 0 0] 27) := ⟨_, rfl⟩
  have hnb : New w wb := by rw [hwb]; exact (by repeat (first | with_reducible exact New.refl _ | with_reducible assumption | with_reducible refine New.alloc ?_ _ | with_reducible refine New.drew ?_ | with_reducible refine New.drewN ?_ _ | with_reducible refine New.setCell ?_ (by simp <;> omega) _))
  have hzb : wb.heap.size = w.heap.size + 2 := by rw [hwb]; simp only [size_alloc]
  have hb1 : Box2 wb w.heap.size (.int .i64 0) (.slice none 0 0) := by rw [hwb]; exact ⟨by go_simp, by go_simp, by go_simp, by go_simp⟩
  have hb2 : Box2 wb (w.heap.size + 1) (.int .i64 0) (.slice none 0 0) := by rw [hwb]; exact ⟨by go_simp, by go_simp, by go_simp, by go_simp⟩
  have HA := hid ha
  have HD := hid hd
  have HCO := hid hc
  have HIN := hid hin
  have HCB := hid hcb
  have HC2 := hid hc2
  have HCC := hid hcc
  have HN := hid hN
  have HL := hid hd2
  clear ha hd hc hin hcb hc2 hcc hN hd1 hd2 hp0
  go_enter Try.func118, Try.ntmps118
  go_wp2
  rw [← hwb]
  clear hwb
  go_loopw [6] (fun i wr => ∃ k : Nat, k ≤ cl.length ∧ i = .int .i64 k ∧ New w wr ∧ w.heap.size + 2 ≤ wr.heap.size ∧ Box2 wr w.heap.size (.int .i64 0) (.slice none 0 0) ∧ Box2 wr (w.heap.size + 1) (.int .i64 (clsTo cl k)) (.slice none 0 0)) (fun i _ => cl.length - (intOf i).toNat)
  case atStart => exact ⟨0, Nat.zero_le _, rfl, hnb, by omega, hb1, by rw [clsTo_zero]; exact hb2⟩
  case round =>
    obtain ⟨k, hk, rfl, hn, hsk, hx1, hx2⟩ := hrel
    obtain ⟨y0, y1, yf0, yf1⟩ := id hx2
    by_cases hlt : k < cl.length
    · obtain ⟨b, off, rfl, hx⟩ := HCC.out k hlt
      have b1 : (k : Int) < (cl.length : Int) := by omega
      replace hx := hn.cell hx
      obtain ⟨z0, z1⟩ := HIN.out k hlt
      obtain ⟨z2, z3⟩ := HCB.out k hk
      have HS := hid (clsTo_succ cl k hlt)
      have hw : IntKind.i64.wrap (nth cl k + 1) = nth cl k + 1 := IntWalk.i64_in _ (by omega)
      have HC := hid (fun w1 => show Calls Try.prog 170 #[.int .i64 (clsTo cl k), .int .i64 (IntKind.i64.wrap (nth cl k + 1))] w1 fun e w' => e = .returned (.int .i64 (clsTo cl (k + 1))) ∧ w' = w1 by
        rw [hw, HS.out]; exact l00Max_any _ _ w1)
      clear hw
      go_wp2_with fail
      go_region_law (first
        | (go_simp; go_at_call 170; refine (HC.out _).mono ?_; rintro e w' ⟨rfl, rfl⟩))
      all_goals go_wp2
      all_goals go_roundw
      all_goals first
        | (simp [intOf]; omega)
        | exact ⟨k + 1, by omega, by go_num, (hn.setCell (by show w.heap.size ≤ w.heap.size + 1; omega) _).drew, by simp only [size_drew, size_setCell]; exact hsk, (hx1.other _ (by simp) _).new (New.refl _).drew, (hx2.set0 _).new (New.refl _).drew⟩
    · have e : k = cl.length := by omega
      subst e
      obtain ⟨m, hm⟩ : ∃ m : Nat, clsN cl = (m : Int) := ⟨(clsN cl).toNat, by have := HN.out.1; omega⟩
      have hm11 : m ≤ 11 := by have := HN.out; omega
      have hx2' : Box2 wr (w.heap.size + 1) (.int .i64 (m : Nat)) (.slice none 0 0) := by rw [← hm]; exact hx2
      have HM := hid hm
      have hmk := fun w => run_make_row' (P := Try.prog) 25 2 (.int .i64 0) 8 Try.underlying25 info_i64 rfl .i64 .i64 m (by omega) (by omega) w
      obtain ⟨wk, rfl⟩ : ∃ wk : World, wk = wr := ⟨_, rfl⟩
      have hnk : New w wk := hn
      have hzk := hsk
      clear hx2 y0 y1 yf0 yf1 hm
      go_wp2
      go_loopw [7] (fun i wr => ∃ (l : Nat) (v : Value), l ≤ a.nx.length ∧ i = .int .i64 l ∧ New w wr ∧ Box2 wr w.heap.size (.int .i64 0) (.slice none 0 0) ∧ Box2 wr (w.heap.size + 1) (.int .i64 (m : Nat)) v ∧ w.heap.size + 2 ≤ wr.heap.size ∧ GrowRows (w.heap.size + 2) 25 wr v ((a.nx.take l).map fun row => quoRow cl row)) (fun i _ => a.nx.length - (intOf i).toNat)
      case atStart => exact ⟨0, _, Nat.zero_le _, rfl, hnk, hx1, hx2', by omega, by simpa using GrowRows.nil _ _ _⟩
      case round =>
        obtain ⟨l, v, hl, rfl, hnl, hba, hbo, hszl, hg⟩ := hrel
        obtain ⟨wo, rfl⟩ : ∃ wo : World, wo = wr := ⟨_, rfl⟩
        clear hx1 hx2' hnk hzk
        obtain ⟨y0, y1, _, _⟩ := id hba
        obtain ⟨z0, z1, zf0, zf1⟩ := id hbo
        have q1 := hnl.cell hp1
        by_cases hltl : l < a.nx.length
        · have bl : (l : Int) < (a.nx.length : Int) := by omega
          obtain ⟨b2, off2, rv, rfl, hx2, hr2⟩ := HC2.out l hltl
          obtain ⟨A3, c3, rfl, hl3, hc3⟩ := hr2
          obtain ⟨r1, r2⟩ := autOk_row HA.out l hltl
          have HC3 := hid hc3
          have HR2 := hid r2
          have hkl : ((a.nx.take l).map fun row => quoRow cl row).length = l := by simp; omega
          have HG := hid hg
          obtain ⟨Av, cv, rfl⟩ := hg.form
          rw [hkl] at HG z1 hbo
          have hrow0 := OwnInts.made wo m 2 (by omega)
          have hnm : New wo (wo.alloc (.cells (madeCells #[.int .i64 0] m) 2)) := (by repeat (first | with_reducible exact New.refl _ | with_reducible assumption | with_reducible refine New.alloc ?_ _ | with_reducible refine New.drew ?_ | with_reducible refine New.drewN ?_ _ | with_reducible refine New.setCell ?_ (by simp <;> omega) _))
          have hzm := size_alloc wo (.cells (madeCells #[.int .i64 0] m) 2)
          have HR1 := hid r1
          clear hc3 r1 r2 hg
          go_wp2
          go_loopw [9] (fun i wr => ∃ s : Nat, s ≤ cl.length ∧ i = .int .i64 s ∧ OwnInts wo.heap.size (wo.heap.size + 1) wr (.slice (some ⟨wo.heap.size, 0, none⟩) m m) (fillTo cl (nth a.nx l) s) ∧ New wo wr) (fun i _ => cl.length - (intOf i).toNat)
          case atStart => exact ⟨0, Nat.zero_le _, rfl, by rw [fillTo_zero, HM.out, Int.toNat_natCast]; exact hrow0, hnm⟩
          case round =>
            obtain ⟨s, hs, rfl, ho, hn2⟩ := hrel
            by_cases hlts : s < cl.length
            · have bs : (s : Int) < (cl.length : Int) := by omega
              obtain ⟨b, off, rfl, hx⟩ := HCC.out s hlts
              have hsn : s < (nth a.nx l).length := by have := HR1.out; have := HL.out; omega
              obtain ⟨b3, off3, rfl, hx3⟩ := HC3.out s hsn
              obtain ⟨t0, t1⟩ := HR2.out s hsn
              have ksn : (s : Int) < ((nth a.nx l).length : Int) := by omega
              have kt1 : nth (nth a.nx l) s < (cl.length : Int) := by have := HL.out; omega
              obtain ⟨b', off', e', hx4⟩ := HCC.out (nth (nth a.nx l) s).toNat (by omega)
              cases e'
              obtain ⟨u0, u1⟩ := HIN.out s hlts
              have ku : nth cl s < (m : Int) := by have := clsTo_ge cl cl.length (Nat.le_refl _) s hlts; have h9 := HM.out; unfold clsN at h9; omega
              obtain ⟨hml, _, _, hcells⟩ := ho.cells
              have hfz := (hcells (nth cl s).toNat (by omega)).2
              have hoc := (hcells (nth cl s).toNat (by omega)).1
              rw [Nat.zero_add] at hfz hoc
              have hnn := hnl.trans hn2
              have HS := hid (fillTo_step HD.out HCO.out l s hltl hlts)
              have HO := hid ho
              have HML := hid hml
              have v1 := hnn.cell hp1
              have v2 := hnn.cell hx
              have v3 := hnn.cell hx2
              have v4 := hnn.cell hx3
              have v5 := hnn.cell hx4
              have HN3 := hid (fun u => show New w (wr.setCell ⟨wo.heap.size, (nth cl s).toNat, none⟩ u).drew from (hnn.setCell (by show w.heap.size ≤ wo.heap.size; omega) u).drew)
              have HSS := hid (fun (w' : World) (hm : New w w') => (show w'.cell? ⟨pb, 1, none⟩ = some (.slice (some ⟨b2, off2, none⟩) a.nx.length c2) ∧ w'.cell? ⟨b, off + s, none⟩ = some (.int .i64 (nth cl s)) ∧ w'.cell? ⟨b2, off2 + l, none⟩ = some (.slice (some ⟨b3, off3, none⟩) (nth a.nx l).length c3) ∧ w'.cell? ⟨b3, off3 + s, none⟩ = some (.int .i64 (nth (nth a.nx l) s)) ∧ w'.cell? ⟨b, off + (nth (nth a.nx l) s).toNat, none⟩ = some (.int .i64 (nth cl (nth (nth a.nx l) s).toNat)) from ⟨hm.cell hp1, hm.cell hx, hm.cell hx2, hm.cell hx3, hm.cell hx4⟩))
              clear hcells ho hml
              go_wp2_with fail
              go_region_held3 (fun w' => w'.cell? ⟨pb, 1, none⟩ = some (.slice (some ⟨b2, off2, none⟩) a.nx.length c2) ∧ w'.cell? ⟨b, off + s, none⟩ = some (.int .i64 (nth cl s)) ∧ w'.cell? ⟨b2, off2 + l, none⟩ = some (.slice (some ⟨b3, off3, none⟩) (nth a.nx l).length c3) ∧ w'.cell? ⟨b3, off3 + s, none⟩ = some (.int .i64 (nth (nth a.nx l) s)) ∧ w'.cell? ⟨b, off + (nth (nth a.nx l) s).toNat, none⟩ = some (.int .i64 (nth cl (nth (nth a.nx l) s).toNat)))
                (first | exact HSS.out _ (HN3.out _) | go_keep)
                (first | fail)
              all_goals go_wp2
              all_goals go_roundw
              all_goals first
                | (simp [intOf]; omega)
                | exact ⟨s + 1, by omega, by go_num, by
                    rw [← HS.out]
                    have := HO.out.set (nth cl s).toNat (by have := HML.out; omega) (nth cl (nth (nth a.nx l) s).toNat)
                    rw [Nat.zero_add] at this
                    exact this.new (New.refl _).drew, (hn2.setCell (Nat.le_refl _) _).drew⟩
            · have e : s = cl.length := by omega
              subst e
              have hzr := hn2.size
              have hm1 : 0 < m := by have := HN.out.2.2; have := HM.out; omega
              have hblk : wo.heap.size < wr.heap.size := by
                obtain ⟨hml, _, _, hcells⟩ := ho.cells
                have := World.block_lt_of_cell? wr _ (hcells 0 (by omega)).1
                exact this
              rw [fillTo_all (a := a) HD.out] at ho
              have HGO := hid (ho.widen (Nat.le_refl _) (show wo.heap.size + 1 ≤ wr.heap.size by omega))
              obtain ⟨w0', w1', wf0', wf1'⟩ := hbo.new hn2
              have hkl' := hkl
              clear ho z0 z1 zf0 zf1
              go_wp2_with (at_builtin; refine wpList_appRows rfl _ _ _ rfl Try.underlying22 info_ints (.slice Av l cv) ((a.nx.take l).map fun row => quoRow cl row) (quoRow cl (nth a.nx l)) rfl HG.out hn2 HGO.out rfl (by omega) (by omega) ?_; intro g cap w3 ho3 hg3; have hbo3 := (hbo.new hn2).grown hg3 (fun q hq => by have := HG.out.block q hq; omega); obtain ⟨x0', x1', xf0', xf1'⟩ := id hbo3)
              go_roundw
              case rel =>
                have hW := within_setCell w3 ⟨w.heap.size + 1, 1, none⟩ (.slice (some ⟨g, 0, none⟩) (l + 1) cap)
                have hn3 : New w w3 := New.grown (hnl.trans hn2) hg3 (fun q hq => by have := HG.out.block q hq; omega)
                have hs3 := hg3.size
                rw [hkl'] at ho3
                refine ⟨l + 1, _, by omega, by go_num, hn3.setCell (by show w.heap.size ≤ w.heap.size + 1; omega) _, ?_, hbo3.set1 _, (by (try simp only [size_alloc, size_drew, size_drewN, size_setCell]) <;> omega), ?_⟩
                · exact ((hba.new hn2).grown hg3 (fun q hq => by have := HG.out.block q hq; omega)).other _ (by simp) _
                · rw [take_succ_nth a.nx l hltl, List.map_append]
                  exact ho3.within hW (by simp)
              case measure => simp [intOf]; omega
        · have e : l = a.nx.length := by omega
          subst e
          rw [List.take_length] at hg
          obtain ⟨v0, v1, vf0, vf1⟩ := id hba
          obtain ⟨Av, cv, rfl⟩ := hg.form
          rw [List.length_map] at hg z1
          rw [List.length_map] at hbo
          have HG := hid hg
          clear hg
          go_wp2_with fail
          obtain ⟨g0, g1, _, _⟩ := (hba.set0 (.int .i64 m)).set1 (.slice Av a.nx.length cv)
          refine bodyPost_ret (v := .agg #[.int .i64 m, .slice Av a.nx.length cv]) ?_ rfl ?_
          · simp [results, Try.results118, go_sem, g0, g1]
          · have hW : Within w.heap.size (w.heap.size + 1) wo ((wo.setCell ⟨w.heap.size, 0, none⟩ (.int .i64 m)).setCell ⟨w.heap.size, 1, none⟩ (.slice Av a.nx.length cv)) :=
              Within.setCell (Within.setCell (Within.refl _ _ _) (by simp) (by simp) _) (by simp) (by simp) _
            have hO := (HG.out.within hW (by omega)).own (by simp; omega)
            exact ⟨_, rfl, hnl.within hW (by omega), _, by unfold quoOf; rw [HM.out], hO.widen (by omega) (Nat.le_refl _)⟩
set_option maxHeartbeats 400000 in
theorem specQuotientOf_any (v1 v2 : Value) (a : Aut) (cl : List Int) (w : World) (h1 : AutAt w v1 a) (h2 : IntsAt w v2 cl) :
    Calls Try.prog 46 #[v1, v2] w fun e w' => ∃ r, e = .returned (.tuple #[r, .int .i64 (QuotientOf a cl).2]) ∧ New w w' ∧ OwnAut w.heap.size w'.heap.size w' r (QuotientOf a cl).1 := by
  obtain ⟨rv, rfl, hr⟩ := h1
  obtain ⟨A2, c2, rfl⟩ := hr.form
  obtain ⟨A, c, rfl⟩ := h2.form
  obtain ⟨wb, hwb⟩ : ∃ wb, wb = (w.alloc (.cells #[.int .i64 a.n, .slice A2 a.nx.length c2] 27)).alloc (.cells #[.int .i64 0, .slice none 0 0] 27) := ⟨_, rfl⟩
  have hp : PAut wb (.pointer (some ⟨w.heap.size, 0, none⟩)) a := by rw [hwb]; exact (PAut.box hr _).new ((New.refl _).alloc _)
  have hnb : New w wb := by rw [hwb]; exact (by repeat (first | with_reducible exact New.refl _ | with_reducible assumption | with_reducible refine New.alloc ?_ _ | with_reducible refine New.drew ?_ | with_reducible refine New.drewN ?_ _ | with_reducible refine New.setCell ?_ (by simp <;> omega) _))
  have hzb : w.heap.size + 2 = wb.heap.size := by rw [hwb]; simp only [size_alloc]
  have hb0 : wb.cell? ⟨w.heap.size, 0, none⟩ = some (.int .i64 a.n) := by rw [hwb]; go_simp
  have hb : Box2 wb (w.heap.size + 1) (.int .i64 0) (.slice none 0 0) := by rw [hwb]; exact ⟨by go_simp, by go_simp, by go_simp, by go_simp⟩
  obtain ⟨R, hR⟩ : ∃ R, R = QuotientOf a cl := ⟨_, rfl⟩
  rw [← hR]
  unfold QuotientOf at hR
  have HR := hid hR
  have C1 := l01Ok_any _ a _ hp
  have C2 := fun w1 (hm : New w w1) => l01Division_any _ cl a.n w1 (h2.new hm)
  clear hR
  cases ha : autOk a with
  | false =>
    rw [ha] at C1
    have e2 : R = (⟨0, []⟩, 1) := by rw [HR.out, ha]; rfl
    have HE := hid e2
    clear e2
    go_enter Try.func46, Try.ntmps46
    go_wp2_with fail
    rw [← hwb]
    refine C1.mono ?_
    rintro e w1 ⟨rfl, hn1⟩
    obtain ⟨x0, x1, x2, x3⟩ := hb.new hn1
    go_wp2_with fail
    obtain ⟨g0, g1, _, _⟩ := (hb.new hn1).fill (.int .i64 0) (.slice none 0 0)
    refine bodyPost_ret (v := .tuple #[.agg #[.int .i64 0, .slice none 0 0], .int .i64 1]) (by simp [results, Try.results46, go_sem, g0, g1]) rfl ?_
    rw [HE.out]
    exact ⟨_, rfl, New.fill (by repeat (first | with_reducible exact New.refl _ | with_reducible assumption | with_reducible refine New.alloc ?_ _ | with_reducible refine New.drewN ?_ _ | with_reducible refine New.drew ?_ | with_reducible refine New.trans ?_ (by with_reducible assumption))) (by omega) _ _, _, rfl, none, 0, fun _ => default, rfl, by simp, by simp, by simp, by simp⟩
  | true =>
    rw [ha] at C1
    have HA := hid ha
    cases hd : isDiv cl a.n with
    | false =>
      rw [hd] at C2
      have e2 : R = (⟨0, []⟩, 2) := by rw [HR.out, ha, hd]; rfl
      have HE := hid e2
      clear e2
      go_enter Try.func46, Try.ntmps46
      go_wp2_with fail
      rw [← hwb]
      refine C1.mono ?_
      rintro e w1 ⟨rfl, hn1⟩
      replace hb0 := hn1.cell hb0
      obtain ⟨x0, x1, x2, x3⟩ := hb.new hn1
      go_wp2_with fail
      refine (C2 _ (hnb.trans hn1)).mono ?_
      rintro e w' ⟨rfl, rfl⟩
      go_wp2_with fail
      obtain ⟨g0, g1, _, _⟩ := (hb.new hn1).fill (.int .i64 0) (.slice none 0 0)
      refine bodyPost_ret (v := .tuple #[.agg #[.int .i64 0, .slice none 0 0], .int .i64 2]) (by simp [results, Try.results46, go_sem, g0, g1]) rfl ?_
      rw [HE.out]
      exact ⟨_, rfl, New.fill (by repeat (first | with_reducible exact New.refl _ | with_reducible assumption | with_reducible refine New.alloc ?_ _ | with_reducible refine New.drewN ?_ _ | with_reducible refine New.drew ?_ | with_reducible refine New.trans ?_ (by with_reducible assumption))) (by omega) _ _, _, rfl, none, 0, fun _ => default, rfl, by simp, by simp, by simp, by simp⟩
    | true =>
      rw [hd] at C2
      have HD := hid hd
      have HC3 := hid (fun w1 (hm : New wb w1) => l01Congruent_any _ _ a cl w1 (hp.new hm) (h2.new (hnb.trans hm)) ha (isDiv_parts hd).2)
      cases hq : congB a.nx cl with
      | false =>
        rw [hq] at HC3
        have e2 : R = (⟨0, []⟩, 4) := by rw [HR.out, ha, hd, hq]; rfl
        have HE := hid e2
        clear e2 ha hd
        go_enter Try.func46, Try.ntmps46
        go_wp2_with fail
        rw [← hwb]
        refine C1.mono ?_
        rintro e w1 ⟨rfl, hn1⟩
        replace hb0 := hn1.cell hb0
        go_wp2_with fail
        refine (C2 _ (hnb.trans hn1)).mono ?_
        rintro e w' ⟨rfl, rfl⟩
        go_wp2_with fail
        refine (HC3.out _ hn1).mono ?_
        rintro e w2 ⟨rfl, hn2⟩
        obtain ⟨x0, x1, x2, x3⟩ := hb.new (hn1.trans hn2)
        go_wp2_with fail
        obtain ⟨g0, g1, _, _⟩ := (hb.new (hn1.trans hn2)).fill (.int .i64 0) (.slice none 0 0)
        refine bodyPost_ret (v := .tuple #[.agg #[.int .i64 0, .slice none 0 0], .int .i64 4]) (by simp [results, Try.results46, go_sem, g0, g1]) rfl ?_
        rw [HE.out]
        exact ⟨_, rfl, New.fill (by repeat (first | with_reducible exact New.refl _ | with_reducible assumption | with_reducible refine New.alloc ?_ _ | with_reducible refine New.drewN ?_ _ | with_reducible refine New.drew ?_ | with_reducible refine New.trans ?_ (by with_reducible assumption))) (by omega) _ _, _, rfl, none, 0, fun _ => default, rfl, by simp, by simp, by simp, by simp⟩
      | true =>
        rw [hq] at HC3
        have e2 : R = (quoOf a cl, 0) := by rw [HR.out, ha, hd, hq]; rfl
        have HE := hid e2
        have HC4 := hid (fun w1 (hm : New wb w1) => l01Quotient_any _ _ a cl w1 (hp.new hm) (h2.new (hnb.trans hm)) ha hd hq)
        clear e2 ha hd hq
        go_enter Try.func46, Try.ntmps46
        go_wp2_with fail
        rw [← hwb]
        refine C1.mono ?_
        rintro e w1 ⟨rfl, hn1⟩
        replace hb0 := hn1.cell hb0
        go_wp2_with fail
        refine (C2 _ (hnb.trans hn1)).mono ?_
        rintro e w' ⟨rfl, rfl⟩
        go_wp2_with fail
        refine (HC3.out _ hn1).mono ?_
        rintro e w2 ⟨rfl, hn2⟩
        go_wp2_with fail
        refine (HC4.out _ (by repeat (first | with_reducible exact New.refl _ | with_reducible assumption | with_reducible refine New.alloc ?_ _ | with_reducible refine New.drewN ?_ _ | with_reducible refine New.drew ?_ | with_reducible refine New.trans ?_ (by with_reducible assumption)))).mono ?_
        rintro e w3 ⟨r, he, hn3, rv3, e3, ho3⟩
        obtain ⟨A5, c5, rfl⟩ := ho3.form
        subst e3
        subst he
        have hz3 := hn3.size
        have hz2 := hn2.size
        have hz1 := hn1.size
        obtain ⟨x0, x1, x2, x3⟩ := hb.new ((hn1.trans hn2).trans hn3)
        go_wp2_with fail
        obtain ⟨g0, g1, _, _⟩ := (hb.new ((hn1.trans hn2).trans hn3)).fill (.int .i64 (quoOf a cl).n) (.slice A5 (quoOf a cl).nx.length c5)
        refine bodyPost_ret (v := .tuple #[.agg #[.int .i64 (quoOf a cl).n, .slice A5 (quoOf a cl).nx.length c5], .int .i64 0]) (by simp [results, Try.results46, go_sem, g0, g1]) rfl ?_
        rw [HE.out]
        have hW := Within.fill w3 (w.heap.size + 1) (.int .i64 (quoOf a cl).n) (.slice A5 (quoOf a cl).nx.length c5)
        have hsW := hW.2.2.2.1
        exact ⟨_, rfl, New.fill (by repeat (first | with_reducible exact New.refl _ | with_reducible assumption | with_reducible refine New.alloc ?_ _ | with_reducible refine New.drewN ?_ _ | with_reducible refine New.drew ?_ | with_reducible refine New.trans ?_ (by with_reducible assumption))) (by omega) _ _, _, rfl, (ho3.within hW (by omega)).widen (by omega) hsW⟩

end Go.Proofs.Ytaaaeekdfmfooaa
