/- The program's fillings, and whether an automaton can be reset. -/
import Derived.Test.YthbebnfhplacnaaGreatRows
import Derived.Test.YthbebnfhplacnaaGreatCore
import Derived.Test.YthbebnfhplacnaaGreatInfos
import Derived.Test.YthbebnfhplacnaaGreatPlains
import Derived.Test.YthbebnfhplacnaaGreatDrawT
import Derived.Test.YthbebnfhplacnaaGreatPlainReset
import Derived.Test.YthbebnfhplacnaaGreatPlainFill
import Derived.Test.YthbebnfhplacnaaGreatQuicks
import Derived.Test.YthbebnfhplacnaaGreatIBase
import Derived.Test.YthbebnfhplacnaaGreatI04a
import Derived.Test.YthbebnfhplacnaaGreatITours
import Derived.Test.YthbebnfhplacnaaGreatGapsG
import Derived.Test.YthbebnfhplacnaaGreatIFilled
import Derived.Test.YthbebnfhplacnaaGreatIFills
import Derived.Test.YthbebnfhplacnaaGreatIFirstFill
import Derived.WalkKit
import Derived.WalkSpells
import Derived.WalkLawsBesides
import Derived.Deep.QuietTactic
import Derived.Deep.OwnRows
import Derived.BigQuiet
import Derived.KernelRfl
import Derived.Deep.RegionHeld3
namespace Go.Proofs.YthbebnfhplacnaaGreat
open Go.RowKit

set_option maxHeartbeats 2000000 in
theorem CanReset_any (v : Value) (a : Aut) (w : World) (h : AutAt w v a) (ha : autOk a = true) :
    Calls Tryz.prog 15 #[v] w fun e w' => e = .returned (.tuple #[.bool (firstWord smallB (tourOf a.nx (full a.n))).2, .int .i64 0]) ∧ New w w' := by
  obtain ⟨rv, rfl, hr⟩ := h
  obtain ⟨A, c, rfl⟩ := hr.form
  have h1 : AutAt w (.agg #[.int .i64 a.n, .slice A a.nx.length c]) a := ⟨_, rfl, hr⟩
  obtain ⟨wb, hwb⟩ : ∃ wb, wb = w.alloc (.cells #[.int .i64 a.n, .slice A a.nx.length c] 31) := ⟨_, rfl⟩
  have hnb : New w wb := by rw [hwb]; exact (by repeat (first | with_reducible exact New.refl _ | with_reducible assumption | with_reducible refine New.alloc ?_ _ | with_reducible refine New.drewN ?_ _ | with_reducible refine New.drew ?_ | with_reducible refine New.trans ?_ (by with_reducible assumption)))
  have hb0 : wb.cell? ⟨w.heap.size, 0, none⟩ = some (.int .i64 a.n) := by rw [hwb]; go_simp
  have hb1 : wb.cell? ⟨w.heap.size, 1, none⟩ = some (.slice A a.nx.length c) := by rw [hwb]; go_simp
  have C1 := implShortestReset_any _ a wb (h1.new hnb)
  obtain ⟨R, hR⟩ : ∃ z, z = ShortestReset a := ⟨_, rfl⟩
  cases hb : (firstWord smallB (tourOf a.nx (full a.n))).2 with
  | false =>
    rw [resetOf_no ha hb] at C1
    clear hb ha
    go_enter Tryz.func15, Tryz.ntmps15
    go_wp2_with fail
    rw [← hwb]
    clear hwb
    go_wp2_with fail
    refine C1.mono ?_
    rintro e w1 ⟨q, rfl, hn1, ho1⟩
    go_wp2_with fail
    go_ret2
    exact ⟨rfl, hnb.trans hn1⟩
  | true =>
    have hF := resetOf_yes ha hb
    obtain ⟨W1, hW1⟩ : ∃ z, z = ShortestReset a := ⟨_, rfl⟩
    have hW2 : W1.2 = 0 := by rw [hW1, hF]
    rw [← hW1, hW2] at C1
    clear hb ha hF hW1 hW2 hR R
    go_enter Tryz.func15, Tryz.ntmps15
    go_wp2_with fail
    rw [← hwb]
    clear hwb
    go_wp2_with fail
    refine C1.mono ?_
    rintro e w1 ⟨q, rfl, hn1, ho1⟩
    go_wp2_with fail
    go_ret2
    exact ⟨rfl, hnb.trans hn1⟩
set_option maxHeartbeats 2000000 in
theorem implFillGaps_any (v sv : Value) (p : Aut) (st : List Int) (w : World) (h : AutAt w v p) (hs : IntsAt w sv st) (hp : partOk p = true) (hsl : st.length = (gapsOf p.nx).length) (hst : ∀ i, i < st.length → 0 ≤ nth st i ∧ nth st i < p.n) :
    Calls Tryz.prog 14 #[v, sv] w fun e w' => ∃ r, e = .returned (.tuple #[r, .int .i64 0]) ∧ New w w' ∧ OwnAut w.heap.size w'.heap.size w' r ⟨p.n, fillOf p.nx st⟩ := by
  obtain ⟨rv, rfl, hr⟩ := h
  obtain ⟨A, c, rfl⟩ := hr.form
  obtain ⟨AS, cS, rfl⟩ := hs.form
  have h1 : AutAt w (.agg #[.int .i64 p.n, .slice A p.nx.length c]) p := ⟨_, rfl, hr⟩
  obtain ⟨wb, hwb⟩ : ∃ wb, wb = (w.alloc (.cells #[.int .i64 p.n, .slice A p.nx.length c] 26)).alloc (.cells #[.int .i64 0, .slice none 0 0] 31) := ⟨_, rfl⟩
  have hnb : New w wb := by rw [hwb]; exact (by repeat (first | with_reducible exact New.refl _ | with_reducible assumption | with_reducible refine New.alloc ?_ _ | with_reducible refine New.drewN ?_ _ | with_reducible refine New.drew ?_ | with_reducible refine New.trans ?_ (by with_reducible assumption)))
  have hR : Box2 wb (w.heap.size + 1) (.int .i64 0) (.slice none 0 0) := by rw [hwb]; exact ⟨by go_simp, by go_simp, by go_simp, by go_simp⟩
  have hb0 : wb.cell? ⟨w.heap.size, 0, none⟩ = some (.int .i64 p.n) := by rw [hwb]; go_simp
  have hb1 : wb.cell? ⟨w.heap.size, 1, none⟩ = some (.slice A p.nx.length c) := by rw [hwb]; go_simp
  have C1 := ValidPartial_any _ p wb (h1.new hnb)
  rw [hp] at C1
  have hf := part_facts hp
  have hn1 := hf.n1
  have hn10 := hf.n10
  have hgl : st.length ≤ 30 := by rw [hsl]; exact gaps_len hf
  have HG := hid (fun w1 (hm : New w w1) => (gaps_any _ p w1 (h1.new hm) hf.l3 (fun i hi => by have := hf.row i hi; have := hf.n10; omega)).mono (show ∀ e w', _ → ∃ AG cG, e = .returned (.slice AG st.length cG) ∧ New w1 w' from fun e w' ⟨r, he, hn, hga, _⟩ => by
    obtain ⟨AG, cG, rfl⟩ := hga.form
    exact ⟨AG, cG, by rw [he, hsl], hn⟩))
  have HF := hid (fun w1 (hm : New w w1) => filled_any _ (.slice AS st.length cS) p st w1 (h1.new hm) (hs.new hm) hf hsl)
  have HAW := hid (fun w1 (hm : New w w1) => areWithin_any (.slice AS st.length cS) st 0 (p.n - 1) w1 (hs.new hm))
  have hall : allIn st 0 (p.n - 1) = true := (allIn_iff _ _ _).2 fun i hi => (inB_iff _ _ _).2 (by have := hst i hi; omega)
  rw [hall] at HAW
  have hbe : ((st.length : Int) != st.length) = false := by simp
  have hwz : wb.heap.size = w.heap.size + 2 := by rw [hwb]; simp only [size_alloc]
  have HWZ := hid hwz
  have HLF := hid (show (fillOf p.nx st).length = p.nx.length from gapTo_len _ _ _ _)
  clear hf hp hsl hst hwz hall
  go_enter Tryz.func14, Tryz.ntmps14
  go_wp2_with fail
  rw [← hwb]
  clear hwb
  obtain ⟨pb, hpb⟩ : ∃ z, z = w.heap.size := ⟨_, rfl⟩
  obtain ⟨rb, hrb⟩ : ∃ z, z = w.heap.size + 1 := ⟨_, rfl⟩
  rw [← hrb] at hR ⊢
  rw [← hpb] at hb0 hb1 ⊢
  have HRB := hid hrb
  clear hpb hrb
  go_wp2_with fail
  refine C1.mono ?_
  rintro e w1 ⟨rfl, hn1'⟩
  have z0 := hn1'.cell hb0
  have z1 := hn1'.cell hb1
  have hw64 : Go.RowKit.wrap64 (p.n - 1) = p.n - 1 := IntWalk.wrap64_in _ ⟨by omega, by omega⟩
  have hw64' : IntKind.i64.wrap (p.n - 1) = p.n - 1 := IntWalk.i64_in _ (by omega)
  have hN1 := hnb.trans hn1'
  go_wp2_with (first
    | (go_at_call 40; refine (HG.out _ hN1).mono ?_; rintro e w2 ⟨AG, cG, rfl, hn2⟩; have z02 : w2.cell? ⟨pb, 0, none⟩ = some (.int .i64 p.n) := hn2.cell z0; have z12 := hn2.cell z1; have hN2 : New w w2 := hN1.trans hn2)
    | (go_at_call 41; refine (HAW.out _ hN2).mono ?_; rintro e w3 ⟨rfl, hn3⟩; have hN3 := hN2.trans hn3; have z03 := hn3.cell z02; have z13 := hn3.cell z12)
    | (go_at_call 42; refine (HF.out _ hN3).mono ?_; rintro e w4 ⟨r4, rfl, hn4, ho3⟩; obtain ⟨rv4, rfl, ho4⟩ := ho3; obtain ⟨A4, c4, rfl⟩ := ho4.form; have hR4 := hR.new (((hn1'.trans hn2).trans hn3).trans hn4); obtain ⟨q0, q1, qf0, qf1⟩ := id hR4; obtain ⟨g0, g1, _⟩ := hR4.fill (.int .i64 p.n) (.slice A4 (fillOf p.nx st).length c4)))
  refine bodyPost_ret (v := .tuple #[.agg #[.int .i64 p.n, .slice A4 (fillOf p.nx st).length c4], .int .i64 0]) (by simp [results, Tryz.results14, go_sem, g0, g1]) rfl ?_
  have hwf := Within.fill w4 rb (.int .i64 p.n) (.slice A4 (fillOf p.nx st).length c4)
  have hrb := HRB.out
  have hwz := HWZ.out
  have k1 := hN3.size
  have k2 := hn1'.size
  have k3 := hn2.size
  have k4 := hn3.size
  exact ⟨_, rfl, (hN3.trans hn4).within hwf (by omega), _, rfl, (ho4.within hwf (Or.inr (by omega))).widen k1 hwf.2.2.2.1⟩

end Go.Proofs.YthbebnfhplacnaaGreat
