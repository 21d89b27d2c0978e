/- The program's filling of a partial automaton. -/
import Derived.Test.YthbebnfhplacnaaGreatRows
import Derived.Test.YthbebnfhplacnaaGreatCore
import Derived.Test.YthbebnfhplacnaaGreatInfos
import Derived.Test.YthbebnfhplacnaaGreatPlains
import Derived.Test.YthbebnfhplacnaaGreatDrawT
import Derived.Test.YthbebnfhplacnaaGreatPlainFill
import Derived.Test.YthbebnfhplacnaaGreatMaps
import Derived.Test.YthbebnfhplacnaaGreatArrs
import Derived.Test.YthbebnfhplacnaaGreatITours
import Derived.Test.YthbebnfhplacnaaGreatGapsG
import Derived.WalkKit
import Derived.WalkSpells
import Derived.WalkLawsBesides
import Derived.Deep.QuietTactic
import Derived.Deep.OwnRows
import Derived.BigQuiet
import Derived.KernelRfl
import Derived.Deep.RegionLaw
import Derived.Deep.RegionHeld3
import Derived.Carry
namespace Go.Proofs.YthbebnfhplacnaaGreat
open Go.RowKit

set_option maxRecDepth 20000 in
set_option maxHeartbeats 2000000 in
theorem filled_any (v sv : Value) (p : Aut) (st : List Int) (w : World) (h : AutAt w v p) (hs : IntsAt w sv st) (hf : PartFacts p) (hsl : st.length = (gapsOf p.nx).length) :
    Calls Tryz.prog 42 #[v, sv] w fun e w' => ∃ r, e = .returned r ∧ New w w' ∧ OwnAut w.heap.size w'.heap.size w' r ⟨p.n, fillOf p.nx st⟩ := by
  obtain ⟨rv, rfl, hr⟩ := h
  obtain ⟨A, c, rfl⟩ := hr.form
  obtain ⟨AS, cS, rfl⟩ := hs.form
  have h1 : AutAt w (.agg #[.int .i64 p.n, .slice A p.nx.length c]) p := ⟨_, rfl, hr⟩
  obtain ⟨wb, hwb⟩ : ∃ wb, wb = ((w.alloc (.cells #[.int .i64 p.n, .slice A p.nx.length c] 26)).alloc (.cells #[.int .i64 0, .slice none 0 0] 31)).alloc (.cells #[.int .i64 p.n, .slice none 0 0] 31) := ⟨_, rfl⟩
  have hnb : New w wb := by rw [hwb]; exact (by repeat (first | with_reducible exact New.refl _ | with_reducible assumption | with_reducible refine New.alloc ?_ _ | with_reducible refine New.drewN ?_ _ | with_reducible refine New.drew ?_ | with_reducible refine New.trans ?_ (by with_reducible assumption)))
  have hzb : wb.heap.size = w.heap.size + 3 := by rw [hwb]; simp only [size_alloc]
  have hb0 : wb.cell? ⟨w.heap.size, 0, none⟩ = some (.int .i64 p.n) := by rw [hwb]; go_simp
  have hb1 : wb.cell? ⟨w.heap.size, 1, none⟩ = some (.slice A p.nx.length c) := by rw [hwb]; go_simp
  have hR : Box2 wb (w.heap.size + 1) (.int .i64 0) (.slice none 0 0) := by rw [hwb]; exact ⟨by go_simp, by go_simp, by go_simp, by go_simp⟩
  have hO : Box2 wb (w.heap.size + 1 + 1) (.int .i64 p.n) (.slice none 0 0) := by rw [hwb]; exact ⟨by go_simp, by go_simp, by go_simp, by go_simp⟩
  have HG := hid (fun w1 (hn : New w w1) => gaps_any _ p w1 (h1.new hn) hf.l3 (fun i hi => by have := hf.row i hi; have := hf.n10; omega))
  have HF := hid hf
  have hl3 := hf.l3
  have HLL := hid (fun i (hi : i < p.nx.length) => (show (nth p.nx i).length ≤ 10 by have := hf.row i hi; have := hf.n10; omega))
  have HR := hid hr
  have HS := hid hs
  have HSL := hid hsl
  have HZ := hid hzb
  have hzb2 : w.heap.size + 3 ≤ wb.heap.size := by omega
  clear hf hr hs hsl hzb
  go_enter Tryz.func42, Tryz.ntmps42
  go_wp2_with fail
  rw [← hwb]
  clear hwb
  go_wp2_with fail
  go_loopw [16] (fun i wr => ∃ (k : Nat) (ov : Value), k ≤ p.nx.length ∧ i = .int .i64 k ∧ New w wr ∧ wb.heap.size ≤ wr.heap.size ∧ wr.cell? ⟨w.heap.size, 0, none⟩ = some (.int .i64 p.n) ∧ wr.cell? ⟨w.heap.size, 1, none⟩ = some (.slice A p.nx.length c) ∧ Box2 wr (w.heap.size + 1) (.int .i64 0) (.slice none 0 0) ∧ Box2 wr (w.heap.size + 1 + 1) (.int .i64 p.n) ov ∧ GrowRows (w.heap.size + 3) 34 wr ov (p.nx.take k)) (fun i _ => p.nx.length - (intOf i).toNat)
  case atStart => exact ⟨0, _, Nat.zero_le _, rfl, hnb, Nat.le_refl _, hb0, hb1, hR, hO, by simpa using GrowRows.nil _ _ _⟩
  case round =>
    obtain ⟨k, ov, hk, rfl, hn, hz, c0, c1, hRr, hOr, hGr⟩ := hrel
    obtain ⟨wo, rfl⟩ : ∃ wo : World, wo = wr := ⟨_, rfl⟩
    clear hnb hb0 hb1 hR hO
    obtain ⟨z0, z1, zf0, zf1⟩ := id hOr
    have htl : (p.nx.take k).length = k := by rw [List.length_take]; omega
    obtain ⟨TK, hTK⟩ : ∃ z, z = p.nx.take k := ⟨_, rfl⟩
    rw [← hTK] at hGr htl
    obtain ⟨AO, cO, rfl⟩ := hGr.form
    rw [htl] at z1 hOr hGr
    have HTK := hid hTK
    clear hTK
    by_cases hlt : k < p.nx.length
    · have b1 : (k : Int) < (p.nx.length : Int) := by omega
      obtain ⟨_, _, e, _, hcr⟩ := id HR.out
      cases e
      obtain ⟨b, off, rv, hA, hx, hxr⟩ := hcr k hlt
      cases hA
      obtain ⟨A2, c2, rfl⟩ := hxr.form
      have hl10 := HLL.out k hlt
      replace hx := hn.cell hx
      have HXR := hid hxr
      obtain ⟨ROW, hROW⟩ : ∃ z, z = nth p.nx k := ⟨_, rfl⟩
      have HROW := hid hROW
      rw [← hROW] at HXR hx hl10
      clear hxr hROW hcr
      have HCL := hid (fun w1 (hm : New w w1) => Clone64_any _ ROW w1 (HXR.out.new hm) (by omega))
      have HTL := hid htl
      have HGR := hid hGr
      clear hGr
      go_wp2_with fail
      have y1 : wo.drew.cell? ⟨w.heap.size + 1 + 1, 1, none⟩ = some (.slice AO k cO) := z1
      go_region_law (first
          | (go_simp; go_at_call 74; refine (HCL.out _ (hn.trans (New.refl _).drew)).mono ?_; rintro e w2 ⟨r2, he, hr2, ho2⟩; obtain ⟨A4, c4, rfl⟩ := ho2.form; subst he; have hq2 : New wo w2 := New.trans (New.refl _).drew hr2; have y2 := hq2.cell z1; have s2 : w.heap.size + 1 + 1 < w2.heap.size := (by have := hq2.size; omega); have hs2 := hr2.size)
          | (refine step_appRows1 (w0 := wo) rfl _ _ _ rfl Tryz.underlying24 info_ints (.slice AO k cO) _ TK ROW _ rfl HGR.out (hq2.trans (by repeat (first | with_reducible exact New.refl _ | with_reducible assumption | with_reducible refine New.alloc ?_ _ | with_reducible refine New.drew ?_ | with_reducible refine New.drewN ?_ _ | with_reducible refine New.setCell ?_ (by simp <;> omega) _))) (((ho2.own (by omega)).new (by repeat (first | with_reducible exact New.refl _ | with_reducible assumption | with_reducible refine New.alloc ?_ _ | with_reducible refine New.drew ?_ | with_reducible refine New.drewN ?_ _ | with_reducible refine New.setCell ?_ (by simp <;> omega) _))).widen (by (try simp only [sizes]) <;> omega) (by (try simp only [sizes]) <;> omega)) rfl (cell_box1 _ _ _) (by have := HTL.out; omega) (by omega) ?_; intro g cap w5 ho5 hg5; have hbo5 := ((hOr.new hq2).new ((New.refl _).alloc _)).grown hg5 (fun q hq => by have := HGR.out.block q hq; omega); obtain ⟨x0', x1', xf0', xf1'⟩ := id hbo5))
      all_goals go_wp2
      all_goals (
        have hn5 : New w w5 := New.grown (hn.trans (hq2.trans (by repeat (first | with_reducible exact New.refl _ | with_reducible assumption | with_reducible refine New.alloc ?_ _ | with_reducible refine New.drew ?_ | with_reducible refine New.drewN ?_ _ | with_reducible refine New.setCell ?_ (by simp <;> omega) _)))) hg5 (fun q hq => by have := HGR.out.block q hq; omega)
        have hs5 := hg5.size
        have hq2s := hq2.size
        simp only [size_alloc] at hs5
        have hbq : ∀ q, (Value.slice AO k cO).ownBlock = some q → w.heap.size + 3 ≤ q := fun q hq => (HGR.out.block q hq).1
        have c0' : w5.cell? ⟨w.heap.size, 0, none⟩ = some (.int .i64 p.n) := hg5.cell (((hq2.trans (by repeat (first | with_reducible exact New.refl _ | with_reducible assumption | with_reducible refine New.alloc ?_ _ | with_reducible refine New.drew ?_ | with_reducible refine New.drewN ?_ _ | with_reducible refine New.setCell ?_ (by simp <;> omega) _)) : New wo _)).cell c0) (fun q => by have : w.heap.size + 3 ≤ w.heap.size := hbq _ q.symm; omega)
        have c1' : w5.cell? ⟨w.heap.size, 1, none⟩ = some (.slice (some ⟨b, off, none⟩) p.nx.length c) := hg5.cell (((hq2.trans (by repeat (first | with_reducible exact New.refl _ | with_reducible assumption | with_reducible refine New.alloc ?_ _ | with_reducible refine New.drew ?_ | with_reducible refine New.drewN ?_ _ | with_reducible refine New.setCell ?_ (by simp <;> omega) _)) : New wo _)).cell c1) (fun q => by have : w.heap.size + 3 ≤ w.heap.size := hbq _ q.symm; omega)
        have hR5 := ((hRr.new hq2).new ((New.refl _).alloc _)).grown hg5 (fun q hq => by have := hbq q hq; omega)
        have hW := within_setCell w5 ⟨w.heap.size + 1 + 1, 1, none⟩ (.slice (some ⟨g, 0, none⟩) (k + 1) cap)
        have htk : p.nx.take (k + 1) = TK ++ [ROW] := by rw [take_succ_nth _ _ hlt, HTK.out, HROW.out]
        rw [HTL.out] at ho5
        refine ⟨⟨k + 1, _, by omega, by go_num, hn5.setCell (by show w.heap.size ≤ w.heap.size + 1 + 1; omega) _, by rw [size_setCell]; omega, ?_, ?_, hR5.other _ (by simp) _, hbo5.set1 _, by rw [htk]; exact ho5.within hW (by simp)⟩, by simp [intOf]; omega⟩
        · rw [World.cell?_setCell_other _ _ _ _ (by simp)]; exact c0'
        · rw [World.cell?_setCell_other _ _ _ _ (by simp)]; exact c1')
    · have e : k = p.nx.length := by omega
      subst e
      have hTK2 : TK = p.nx := by rw [HTK.out, List.take_length]
      rw [hTK2] at hGr
      have hown := hGr.own (by omega)
      clear hGr htl hTK2
      have HF1 := hid (fun i hi => gaps_in (p := p) i hi)
      have HSG := HG
      have HFIN := hid (show ∀ w9 v9, OwnRows (w.heap.size + 3) wo.heap.size w9 v9 (fillTo' p.nx (gapsOf p.nx) st (gapsOf p.nx).length) → OwnRows (w.heap.size + 3) wo.heap.size w9 v9 (fillOf p.nx st) from fun _ _ h => h)
      obtain ⟨GS, hGS⟩ : ∃ z, z = gapsOf p.nx := ⟨_, rfl⟩
      rw [← hGS] at HF1 HSG HSL HFIN
      clear hGS HG
      go_wp2_with fail
      refine (HSG.out _ hn).mono ?_
      rintro e w2 ⟨gv, rfl, hn2, hgp, hgb⟩
      obtain ⟨AG, cG, rfl⟩ := hgp.form
      have hz2 := hn2.size
      have hN2 := hn.trans hn2
      have hown2 := hown.new hn2
      have hR2 := hRr.new hn2
      have hO2 := hOr.new hn2
      obtain ⟨x0, x1, xf0, xf1⟩ := id hO2
      clear hown hRr hOr c0 c1 z0 z1
      go_wp2_with fail
      go_loopw [31] (fun i wr => ∃ k : Nat, k ≤ GS.length ∧ i = .int .i64 k ∧ Within (w.heap.size + 3) wo.heap.size w2 wr ∧ OwnRows (w.heap.size + 3) wo.heap.size wr (.slice AO p.nx.length cO) (fillTo' p.nx GS st k)) (fun i _ => GS.length - (intOf i).toNat)
      case atStart => exact ⟨0, Nat.zero_le _, rfl, Within.refl _ _ _, hown2⟩
      case round =>
        obtain ⟨k, hk, rfl, hW, hOk⟩ := hrel
        clear hown2
        obtain ⟨wi, rfl⟩ : ∃ wi : World, wi = wr := ⟨_, rfl⟩
        have hOi := hO2.within hW (Or.inl (by omega))
        obtain ⟨x0, x1, xf0, xf1⟩ := id hOi
        by_cases hlt2 : k < GS.length
        · have b2 : (k : Int) < (GS.length : Int) := by omega
          have hgp2 := hgp.but (But.of_within hW) (fun q hq h => by have := hgb q hq; omega)
          obtain ⟨_, _, e, hgc⟩ := id hgp2
          cases e
          obtain ⟨gb, hA, g1, g2⟩ := hgc k hlt2
          cases hA
          obtain ⟨q1, q2⟩ := HF1.out k hlt2
          have hst := HS.out.new (hN2.within hW (by omega))
          obtain ⟨_, _, e, _, hsc⟩ := id hst
          cases e
          obtain ⟨sb2, so, hA, hsx⟩ := hsc k (by rw [HSL.out]; exact hlt2)
          cases hA
          have hfl := gapTo_len p.nx GS st k
          have hfr := fillTo_row (fun i hi => (HF1.out i hi).1) st (nth GS k).1 k hk
          have HFS := hid (fillTo_succ p.nx GS st k)
          obtain ⟨FT, hFT⟩ : ∃ z, z = fillTo' p.nx GS st k := ⟨_, rfl⟩
          rw [← hFT] at hfl hfr HFS hOk
          obtain ⟨l, hl⟩ : ∃ l, l = (nth GS k).1 := ⟨_, rfl⟩
          obtain ⟨s, hs⟩ : ∃ s, s = (nth GS k).2 := ⟨_, rfl⟩
          rw [← hl] at g1 q1 q2 hfr HFS
          rw [← hs] at g2 q2 HFS
          have i1 : (l : Int) < (p.nx.length : Int) := by omega
          have i2 : (s : Int) < ((nth FT l).length : Int) := by omega
          have i3 : (k : Int) < (st.length : Int) := by rw [HSL.out]; omega
          obtain ⟨b, off, b2, off2, c2, hA, ux, uxs, uxf, ux1, ux2, hput⟩ := hOk.put l s (by omega) (by omega)
          cases hA
          have HPUT := hid hOk
          have HROWNE := hOk.row_ne l (by omega) ux
          obtain ⟨X, hX⟩ : ∃ X, X = nth st k := ⟨_, rfl⟩
          rw [← hX] at hsx HFS
          clear hput hl hs hFT hX hgc hsc hgp2 hst hOk
          have hwz : wo.heap.size ≤ wi.heap.size := by have := hW.2.2.2.1; omega
          obtain ⟨wq, hwq⟩ : ∃ wq, wq = wi.alloc (.cells #[.int .i64 l, .int .i64 s] 87) := ⟨_, rfl⟩
          have hnq : New wi wq := by rw [hwq]; exact (by repeat (first | with_reducible exact New.refl _ | with_reducible assumption | with_reducible refine New.alloc ?_ _ | with_reducible refine New.drewN ?_ _ | with_reducible refine New.drew ?_ | with_reducible refine New.trans ?_ (by with_reducible assumption)))
          have p0 : wq.cell? ⟨wi.heap.size, 0, none⟩ = some (.int .i64 l) := by rw [hwq]; go_simp
          have p1 : wq.cell? ⟨wi.heap.size, 1, none⟩ = some (.int .i64 s) := by rw [hwq]; go_simp
          have c5 := hnq.cell x1
          have c6 := hnq.cell ux
          have c7 := hnq.cell hsx
          have c8 := hnq.cell uxs
          have c9 : wq.frozen? ⟨b2, off2 + s, none⟩ = false := by rw [hnq.frozen uxs]; exact uxf
          have hb2l : b2 < wi.heap.size := World.block_lt_of_cell? wi _ uxs
          have hsb2 : sb2 < w.heap.size := by
            obtain ⟨_, _, e, _, hsc⟩ := id HS.out
            injection e with e1 e2 e3
            obtain ⟨b9, o9, h9, h9x⟩ := hsc k (by rw [HSL.out]; exact hlt2)
            rw [← e1] at h9
            injection h9 with h9
            injection h9 with h9 _ _
            have := World.block_lt_of_cell? w _ h9x
            simp only at this
            omega
          have hne := HROWNE
          have HST := hid (fun (z : Value) => (show (wq.setCell ⟨b2, off2 + s, none⟩ z).cell? ⟨w.heap.size + 1 + 1, 1, none⟩ = some (.slice (some ⟨b, off, none⟩) p.nx.length cO) ∧ (wq.setCell ⟨b2, off2 + s, none⟩ z).cell? ⟨wi.heap.size, 0, none⟩ = some (.int .i64 l) ∧ (wq.setCell ⟨b2, off2 + s, none⟩ z).cell? ⟨wi.heap.size, 1, none⟩ = some (.int .i64 s) ∧ (wq.setCell ⟨b2, off2 + s, none⟩ z).cell? ⟨b, off + l, none⟩ = some (.slice (some ⟨b2, off2, none⟩) (nth FT l).length c2) ∧ (wq.setCell ⟨b2, off2 + s, none⟩ z).cell? ⟨sb2, so + k, none⟩ = some (.int .i64 X) from
            ⟨by rw [World.cell?_setCell_other _ _ _ _ (fun e => by injection e with e; omega)]; exact c5, by rw [World.cell?_setCell_other _ _ _ _ (fun e => by injection e with e; omega)]; exact p0, by rw [World.cell?_setCell_other _ _ _ _ (fun e => by injection e with e; omega)]; exact p1, by rw [World.cell?_setCell_other _ _ _ _ (fun e => hne (by injection e))]; exact c6, by rw [World.cell?_setCell_other _ _ _ _ (fun e => by injection e with e; omega)]; exact c7⟩))
          go_wp2_with fail
          rw [← hwq]
          clear hwq
          go_region_held3 (fun w' => w'.cell? ⟨w.heap.size + 1 + 1, 1, none⟩ = some (.slice (some ⟨b, off, none⟩) p.nx.length cO) ∧ w'.cell? ⟨wi.heap.size, 0, none⟩ = some (.int .i64 l) ∧ w'.cell? ⟨wi.heap.size, 1, none⟩ = some (.int .i64 s) ∧ w'.cell? ⟨b, off + l, none⟩ = some (.slice (some ⟨b2, off2, none⟩) (nth FT l).length c2) ∧ w'.cell? ⟨sb2, so + k, none⟩ = some (.int .i64 X))
            (first | exact ⟨c5, p0, p1, c6, c7⟩ | exact HST.out _ | go_keep) (fail)
          go_wp2_with fail
          obtain ⟨b', off', b2', off2', c2', hA', ux', _, _, _, _, hput'⟩ := (HPUT.out.new hnq).put l s (by omega) (by omega)
          cases hA'
          have e2 := ux'.symm.trans c6
          injection e2 with e2
          injection e2 with e2 e3 e4
          injection e2 with e2
          injection e2 with e2 e5
          subst e2 e5
          obtain ⟨hO9, hW9⟩ := hput' X
          have hWn : Within (w.heap.size + 3) wo.heap.size w2 (wq.setCell ⟨b2', off2' + s, none⟩ (.int .i64 X)) := (hW.trans (Within.of_new hnq _ _)).trans hW9
          exact ⟨⟨k + 1, by omega, by go_num, hWn.trans (Within.of_new (by repeat (first | with_reducible exact New.refl _ | with_reducible assumption | with_reducible refine New.alloc ?_ _ | with_reducible refine New.drewN ?_ _ | with_reducible refine New.drew ?_ | with_reducible refine New.trans ?_ (by with_reducible assumption))) _ _), by rw [HFS.out]; exact hO9.new (by repeat (first | with_reducible exact New.refl _ | with_reducible assumption | with_reducible refine New.alloc ?_ _ | with_reducible refine New.drewN ?_ _ | with_reducible refine New.drew ?_ | with_reducible refine New.trans ?_ (by with_reducible assumption)))⟩, by simp [intOf]; omega⟩
        · have e : k = GS.length := by omega
          subst e
          have hRi := hR2.within hW (Or.inl (by omega))
          obtain ⟨y0, y1, yf0, yf1⟩ := id hRi
          obtain ⟨t0, t1, _, _⟩ := hRi.fill (.int .i64 p.n) (.slice AO p.nx.length cO)
          have HOK := hid (HFIN.out _ _ hOk)
          have HLF := hid (show (fillOf p.nx st).length = p.nx.length from gapTo_len _ _ _ _)
          have HWF := hid (Within.fill wi (w.heap.size + 1) (.int .i64 p.n) (.slice AO p.nx.length cO))
          have HNI := hid (hN2.within hW (by omega))
          have hzi := hW.2.2.2.1
          clear hOk
          go_wp2_with fail
          refine bodyPost_ret (v := .agg #[.int .i64 p.n, .slice AO p.nx.length cO]) (by simp [results, Tryz.results42, go_sem, t0, t1]) rfl ?_
          refine ⟨_, rfl, HNI.out.within HWF.out (by omega), ⟨_, rfl, (HOK.out.within HWF.out (Or.inr (by omega))).widen (by omega) (by have := HWF.out.2.2.2.1; omega)⟩⟩

end Go.Proofs.YthbebnfhplacnaaGreat
