/- The reference's fillings of a partial automaton. -/
import Derived.Test.YthbebnfhplacnaaRows
import Derived.Test.YthbebnfhplacnaaCore
import Derived.Test.YthbebnfhplacnaaInfos
import Derived.Test.YthbebnfhplacnaaPlains
import Derived.Test.YthbebnfhplacnaaDrawT
import Derived.Test.YthbebnfhplacnaaPlainFill
import Derived.Test.YthbebnfhplacnaaMaps
import Derived.Test.YthbebnfhplacnaaArrs
import Derived.Test.YthbebnfhplacnaaSOwn
import Derived.Test.YthbebnfhplacnaaGrowG
import Derived.Test.YthbebnfhplacnaaIGaps
import Derived.Test.YthbebnfhplacnaaSGaps
import Derived.WalkKit
import Derived.WalkSpells
import Derived.WalkLawsBesides
import Derived.Deep.QuietTactic
import Derived.Deep.OwnRows
import Derived.BigQuiet
import Derived.KernelRfl
import Derived.Deep.RegionHeld3
import Derived.Carry
import Derived.Deep.RegionLaw
import Derived.Deep.Cut
namespace Go.Proofs.Ythbebnfhplacnaa
open Go.RowKit

theorem Box2.mk1 {w w' : World} {u v : Value} {t : TypeId} (h : New (w.alloc (.cells #[u, v] t)) w') : Box2 w' w.heap.size u v :=
  Box2.new ⟨by unfold World.cell?; rw [heap_alloc_new]; rfl, by unfold World.cell?; rw [heap_alloc_new]; rfl, by unfold World.frozen?; rw [heap_alloc_new]; rfl, by unfold World.frozen?; rw [heap_alloc_new]; rfl⟩ h
theorem Box2.mk2 {w w' : World} {u v : Value} {t : TypeId} (h : New (w.alloc (.cells #[u, v] t)).drew w') : Box2 w' w.heap.size u v :=
  Box2.mk1 ((New.refl _).drew.trans h)
set_option maxRecDepth 20000 in
set_option maxHeartbeats 2000000 in
theorem l04Fill_any (v sv : Value) (p : Aut) (st : List Int) (w : World) (h : PAut w v p) (hs : IntsAt w sv st) (hf : PartFacts p) (hsl : st.length = (gapsOf p.nx).length) :
    Calls Try.prog 38 #[v, sv] w fun e w' => ∃ r, e = .returned r ∧ New w w' ∧ OwnAut w.heap.size w'.heap.size w' r ⟨p.n, fillOf p.nx st⟩ := by
  have C1 := fun w1 (hn : New w w1) => l04Gaps_any v p w1 (h.new hn) hf.l3 (fun i hi => by have := hf.row i hi; have := hf.n10; omega)
  obtain ⟨pb, rv, rfl, hp0, hp1, hr⟩ := h
  obtain ⟨A, c, rfl⟩ := hr.form
  obtain ⟨AS, cS, rfl⟩ := hs.form
  have hl3 := hf.l3
  have HL := hid (fun w1 (hn : New w w1) => l06OwnRows_any _ p.nx w1 (hr.new hn) (by omega) (fun i hi => by have := hf.row i hi; have := hf.n10; omega))
  have HS := hid hs
  have HSL := hid hsl
  obtain ⟨wb, hwb⟩ : ∃ wb, wb = w.alloc (.cells #[.int .i64 0, .slice none 0 0] 41) := ⟨_, rfl⟩
  have hnb : New w wb := by rw [hwb]; exact (by repeat (first | with_reducible exact New.refl _ | with_reducible assumption | with_reducible refine New.alloc ?_ _ | with_reducible refine New.drewN ?_ _ | with_reducible refine New.drew ?_ | with_reducible refine New.trans ?_ (by with_reducible assumption)))
  have hzb : wb.heap.size = w.heap.size + 1 := by rw [hwb]; simp only [size_alloc]
  have hR : Box2 wb w.heap.size (.int .i64 0) (.slice none 0 0) := by rw [hwb]; exact ⟨by go_simp, by go_simp, by go_simp, by go_simp⟩
  have HF1 := hid (fun i hi => gaps_in (p := p) i hi)
  have HFIN := hid (show ∀ w9 v9 B E, OwnRows B E w9 v9 (fillTo' p.nx (gapsOf p.nx) st (gapsOf p.nx).length) → OwnRows B E w9 v9 (fillOf p.nx st) from fun _ _ _ _ h => h)
  have C2 := C1 wb hnb
  obtain ⟨GS, hGS⟩ : ∃ z, z = gapsOf p.nx := ⟨_, rfl⟩
  rw [← hGS] at HF1 HSL HFIN C2
  have hzb2 : w.heap.size + 1 ≤ wb.heap.size := by omega
  clear hf hs hsl C1 hr hGS hzb
  go_enter Try.func38, Try.ntmps38
  go_wp2_with fail
  rw [← hwb]
  clear hwb
  refine C2.mono ?_
  rintro e w1 ⟨gv, rfl, hn1, hgp, hgb⟩
  obtain ⟨AG, cG, rfl⟩ := hgp.form
  have hN1 := hnb.trans hn1
  have z0 := hN1.cell hp0
  have z1 := hN1.cell hp1
  have hR1 := hR.new hn1
  have hz1 := hn1.size
  go_wp2_with fail
  go_cut [6] from 7 (fun o wr => ∃ tb A3 c3 lo hi, o = .pointer (some ⟨tb, 0, none⟩) ∧ w1.heap.size ≤ tb ∧ New w1 wr ∧ Box2 wr tb (.int .i64 p.n) (.slice A3 p.nx.length c3) ∧ w1.heap.size ≤ lo ∧ hi ≤ wr.heap.size ∧ (tb < lo ∨ hi ≤ tb) ∧ OwnRows lo hi wr (.slice A3 p.nx.length c3) p.nx)
  case first =>
    have lz : pb < w1.heap.size := World.block_lt_of_cell? w1 _ z0
    go_region_law (first
      | (go_simp; go_at_call 66; refine (HL.out _ (hN1.trans (by repeat (first | with_reducible exact New.refl _ | with_reducible assumption | with_reducible refine New.alloc ?_ _ | with_reducible refine New.drew ?_ | with_reducible refine New.drewN ?_ _ | with_reducible refine New.setCell ?_ (by simp <;> omega) _)))).mono ?_; rintro e w2 ⟨r2, he, hn2, ho2⟩; obtain ⟨A2, c2, rfl⟩ := ho2.form; subst he; have hm2 : New w1 w2 := New.trans (by repeat (first | with_reducible exact New.refl _ | with_reducible assumption | with_reducible refine New.alloc ?_ _ | with_reducible refine New.drew ?_ | with_reducible refine New.drewN ?_ _ | with_reducible refine New.setCell ?_ (by simp <;> omega) _)) hn2; have p0 := hm2.cell z0; have p1 := hm2.cell z1; have hs2 := hn2.size; (try simp only [sizes] at hs2); have lz2 : pb < w2.heap.size := (by omega); (first | have B2 := Box2.mk1 hn2 | have B2 := Box2.mk2 hn2 | skip); (try obtain ⟨x0, x1, x2, x3⟩ := id B2)))
    all_goals go_wp2_with fail
    all_goals go_meet
    all_goals first
      | refine ⟨w2.heap.size, A2, c2, w1.heap.size, w2.heap.size, by with_reducible rfl, ?_⟩; exact ⟨by omega, hm2.alloc _, Box2.mk1 (New.refl _), Nat.le_refl _, (by (try simp only [sizes]) <;> omega), Or.inr (Nat.le_refl _), (ho2.new ((New.refl _).alloc _)).widen (by (try simp only [sizes]) <;> omega) (Nat.le_refl _)⟩
      | refine ⟨w1.heap.size, A2, c2, w1.heap.size + 1, w2.heap.size, by with_reducible rfl, ?_⟩; exact ⟨by omega, New.fill hm2 (by omega) _ _, B2.fill _ _, by omega, (by (try simp only [sizes]) <;> omega), Or.inl (Nat.lt_succ_self _), (ho2.widen (B' := w1.heap.size + 1) (by (try simp only [sizes]) <;> omega) (Nat.le_refl _)).within (Within.fill w2 w1.heap.size _ _) (Or.inr (Nat.le_refl _))⟩
  case rest =>
    obtain ⟨tb, A3, c3, lo, hi, rfl, htb, hn3, hbo, hlo, hhi, hsep, hO⟩ := hcut
    have HN3 := hid hn3
    have HGP := hid hgp
    have hRc := hR1.new hn3
    have hNc := hN1.trans hn3
    obtain ⟨x0, x1, xf0, xf1⟩ := id hbo
    clear hgp hR1 C2 hn3 z0 z1
    go_wp2_with fail
    go_loopw [7] (fun i wr => ∃ k : Nat, k ≤ GS.length ∧ i = .int .i64 k ∧ Within lo hi wc wr ∧ OwnRows lo hi wr (.slice A3 p.nx.length c3) (fillTo' p.nx GS st k)) (fun i _ => GS.length - (intOf i).toNat)
    case atStart => exact ⟨0, Nat.zero_le _, rfl, Within.refl _ _ _, hO⟩
    case round =>
      obtain ⟨k, hk, rfl, hW, hOk⟩ := hrel
      clear hO
      obtain ⟨wi, rfl⟩ : ∃ wi : World, wi = wr := ⟨_, rfl⟩
      have hOi := hbo.within hW hsep
      obtain ⟨x0, x1, xf0, xf1⟩ := id hOi
      by_cases hlt2 : k < GS.length
      · have b2 : (k : Int) < (GS.length : Int) := by omega
        obtain ⟨_, _, e, hgc⟩ := id HGP.out
        cases e
        obtain ⟨gb, hA, g1, g2⟩ := hgc k hlt2
        cases hA
        have hgb2 : gb < w1.heap.size := World.block_lt_of_cell? w1 _ g1
        replace g1 := hW.cell (HN3.out.cell g1) (Or.inl (by show gb < lo; omega))
        replace g2 := hW.cell (HN3.out.cell g2) (Or.inl (by show gb < lo; omega))
        obtain ⟨q1, q2⟩ := HF1.out k hlt2
        have hst := HS.out.new (hNc.within hW (by omega))
        obtain ⟨_, _, e, _, hsc⟩ := id hst
        cases e
        obtain ⟨sb2, so, hA, hsx⟩ := hsc k (by rw [HSL.out]; exact hlt2)
        cases hA
        have hsb2 : sb2 < w.heap.size := by
          obtain ⟨_, _, e, _, hsc⟩ := id HS.out
          injection e with e1 e2 e3
          obtain ⟨b9, o9, h9, h9x⟩ := hsc k (by rw [HSL.out]; exact hlt2)
          rw [← e1] at h9
          injection h9 with h9
          injection h9 with h9 _ _
          have := World.block_lt_of_cell? w _ h9x
          simp only at this
          omega
        have hfl := gapTo_len p.nx GS st k
        have hfr := fillTo_row (fun i hi => (HF1.out i hi).1) st (nth GS k).1 k hk
        have HFS := hid (fillTo_succ p.nx GS st k)
        obtain ⟨FT, hFT⟩ : ∃ z, z = fillTo' p.nx GS st k := ⟨_, rfl⟩
        rw [← hFT] at hfl hfr HFS hOk
        obtain ⟨l, hl⟩ : ∃ l, l = (nth GS k).1 := ⟨_, rfl⟩
        obtain ⟨s, hs⟩ : ∃ s, s = (nth GS k).2 := ⟨_, rfl⟩
        rw [← hl] at g1 q1 q2 hfr HFS
        rw [← hs] at g2 q2 HFS
        have i1 : (l : Int) < (p.nx.length : Int) := by omega
        have i2 : (s : Int) < ((nth FT l).length : Int) := by omega
        have i3 : (k : Int) < (st.length : Int) := by rw [HSL.out]; omega
        obtain ⟨b, off, b2, off2, c2, hA, ux, uxs, uxf, ux1, ux2, hput⟩ := hOk.put l s (by omega) (by omega)
        cases hA
        have hne := hOk.row_ne l (by omega) ux
        obtain ⟨X, hX⟩ : ∃ X, X = nth st k := ⟨_, rfl⟩
        rw [← hX] at hsx HFS
        obtain ⟨hO9, hW9⟩ := hput X
        have hwz : hi ≤ wi.heap.size := by have := hW.2.2.2.1; omega
        have HO9 := hid hO9
        have HW9 := hid hW9
        have hb2t : b2 ≠ tb := by omega
        have HST := hid (fun (z : Value) => (show (wi.setCell ⟨b2, off2 + s, none⟩ z).cell? ⟨tb, 1, none⟩ = some (.slice (some ⟨b, off, none⟩) p.nx.length c3) ∧ (wi.setCell ⟨b2, off2 + s, none⟩ z).cell? ⟨gb, k * 2, none⟩ = some (.int .i64 l) ∧ (wi.setCell ⟨b2, off2 + s, none⟩ z).cell? ⟨gb, k * 2 + 1, none⟩ = some (.int .i64 s) ∧ (wi.setCell ⟨b2, off2 + s, none⟩ z).cell? ⟨b, off + l, none⟩ = some (.slice (some ⟨b2, off2, none⟩) (nth FT l).length c2) ∧ (wi.setCell ⟨b2, off2 + s, none⟩ z).cell? ⟨sb2, so + k, none⟩ = some (.int .i64 X) from
            ⟨by rw [World.cell?_setCell_other _ _ _ _ (fun e => by injection e with e; omega)]; exact x1, by rw [World.cell?_setCell_other _ _ _ _ (fun e => by injection e with e; omega)]; exact g1, by rw [World.cell?_setCell_other _ _ _ _ (fun e => by injection e with e; omega)]; exact g2, by rw [World.cell?_setCell_other _ _ _ _ (fun e => hne (by injection e))]; exact ux, by rw [World.cell?_setCell_other _ _ _ _ (fun e => by injection e with e; omega)]; exact hsx⟩))
        clear hput hl hs hFT hX hgc hsc hst hOk hO9 hW9
        go_wp2_with fail
        go_region_held3 (fun w' => w'.cell? ⟨tb, 1, none⟩ = some (.slice (some ⟨b, off, none⟩) p.nx.length c3) ∧ w'.cell? ⟨gb, k * 2, none⟩ = some (.int .i64 l) ∧ w'.cell? ⟨gb, k * 2 + 1, none⟩ = some (.int .i64 s) ∧ w'.cell? ⟨b, off + l, none⟩ = some (.slice (some ⟨b2, off2, none⟩) (nth FT l).length c2) ∧ w'.cell? ⟨sb2, so + k, none⟩ = some (.int .i64 X))
          (first | exact ⟨x1, g1, g2, ux, hsx⟩ | exact HST.out _ | go_keep) (fail)
        go_wp2_with fail
        exact ⟨⟨k + 1, by omega, by go_num, (hW.trans HW9.out).trans (Within.of_new (by repeat (first | with_reducible exact New.refl _ | with_reducible assumption | with_reducible refine New.alloc ?_ _ | with_reducible refine New.drewN ?_ _ | with_reducible refine New.drew ?_ | with_reducible refine New.trans ?_ (by with_reducible assumption))) _ _), by rw [HFS.out]; exact HO9.out.new (by repeat (first | with_reducible exact New.refl _ | with_reducible assumption | with_reducible refine New.alloc ?_ _ | with_reducible refine New.drewN ?_ _ | with_reducible refine New.drew ?_ | with_reducible refine New.trans ?_ (by with_reducible assumption)))⟩, by simp [intOf]; omega⟩
      · have e : k = GS.length := by omega
        subst e
        have hRi := hRc.within hW (Or.inl (by omega))
        obtain ⟨y0, y1, yf0, yf1⟩ := id hRi
        obtain ⟨t0, t1, _, _⟩ := hRi.fill (.int .i64 p.n) (.slice A3 p.nx.length c3)
        have HOK := hid (HFIN.out _ _ _ _ hOk)
        have HLF := hid (show (fillOf p.nx st).length = p.nx.length from gapTo_len _ _ _ _)
        have HWF := hid (Within.fill wi w.heap.size (.int .i64 p.n) (.slice A3 p.nx.length c3))
        have HNI := hid (hNc.within hW (by omega))
        have hzi := hW.2.2.2.1
        clear hOk
        go_wp2_with fail
        refine bodyPost_ret (v := .agg #[.int .i64 p.n, .slice A3 p.nx.length c3]) (by simp [results, Try.results38, go_sem, t0, t1]) rfl ?_
        refine ⟨_, rfl, HNI.out.within HWF.out (by omega), ⟨_, rfl, (HOK.out.within HWF.out (Or.inr (by omega))).widen (by omega) (by have := HWF.out.2.2.2.1; omega)⟩⟩

end Go.Proofs.Ythbebnfhplacnaa
