/- The law of Fillings answers true. -/
import Derived.Test.YthbebnfhplacnaaGreatRows
import Derived.Test.YthbebnfhplacnaaGreatCore
import Derived.Test.YthbebnfhplacnaaGreatInfos
import Derived.Test.YthbebnfhplacnaaGreatPlains
import Derived.Test.YthbebnfhplacnaaGreatDrawT
import Derived.Test.YthbebnfhplacnaaGreatPlainReset
import Derived.Test.YthbebnfhplacnaaGreatPlainFill
import Derived.Test.YthbebnfhplacnaaGreatPlainSure
import Derived.Test.YthbebnfhplacnaaGreatPFils
import Derived.Test.YthbebnfhplacnaaGreatArrs
import Derived.Test.YthbebnfhplacnaaGreatSDraw
import Derived.Test.YthbebnfhplacnaaGreatSFin1
import Derived.Test.YthbebnfhplacnaaGreatSFils
import Derived.Test.YthbebnfhplacnaaGreatSFill2
import Derived.Test.YthbebnfhplacnaaGreatSSures
import Derived.Test.YthbebnfhplacnaaGreatIFil
import Derived.Test.YthbebnfhplacnaaGreatIFirstFill
import Derived.Test.YthbebnfhplacnaaGreatISures
import Derived.Test.YthbebnfhplacnaaGreatI04a
import Derived.Test.YthbebnfhplacnaaGreatITours
import Derived.WalkKit
import Derived.WalkSpells
import Derived.WalkLawsBesides
import Derived.Deep.QuietTactic
import Derived.Deep.OwnRows
import Derived.BigQuiet
import Derived.KernelRfl
import Derived.Carry
import Derived.Deep.RegionHeld3
namespace Go.Proofs.YthbebnfhplacnaaGreat
open Go.RowKit

theorem fill_can (p : Aut) (hf : PartFacts p) (k : Nat) (w5 : World) (v5 : Value) (h5 : AutAt w5 v5 (fillN p k)) : Calls Tryz.prog 15 #[v5] w5 fun e w' => e = .returned (.tuple #[.bool (fillW p k).2, .int .i64 0]) ∧ New w5 w' :=
  CanReset_any v5 (fillN p k) w5 h5 (fillN_ok hf k)
theorem fill_sr0 (p : Aut) (hf : PartFacts p) (k : Nat) (hb : (fillW p k).2 = false) (w5 : World) (v5 : Value) (h5 : AutAt w5 v5 (fillN p k)) : Calls Tryz.prog 16 #[v5] w5 fun e w' => ∃ r, e = .returned (.tuple #[r, .int .i64 6]) ∧ New w5 w' ∧ OwnInts w5.heap.size w'.heap.size w' r [] := by
  have := implShortestReset_any v5 (fillN p k) w5 h5
  have hF : ShortestReset (fillN p k) = ([], 6) := resetOf_no (fillN_ok hf k) hb
  obtain ⟨W1, hW1⟩ : ∃ z, z = ShortestReset (fillN p k) := ⟨_, rfl⟩
  rw [← hW1] at this hF
  subst hF
  exact this
theorem fill_told (p : Aut) (hf : PartFacts p) (k : Nat) (hb : (fillW p k).2 = true) : (ShortestReset (fillN p k)).1 = (fillW p k).1 ∧ (ShortestReset (fillN p k)).2 = 0 := by
  have hF : ShortestReset (fillN p k) = ((fillW p k).1, 0) := resetOf_yes (fillN_ok hf k) hb
  obtain ⟨W1, hW1⟩ : ∃ z, z = ShortestReset (fillN p k) := ⟨_, rfl⟩
  obtain ⟨X, hX⟩ : ∃ X, X = (fillW p k).1 := ⟨_, rfl⟩
  rw [← hX] at hF ⊢
  rw [← hW1] at hF ⊢
  clear hX hW1
  subst hF
  exact ⟨rfl, rfl⟩
theorem fill_sr1 (p : Aut) (hf : PartFacts p) (k : Nat) (hb : (fillW p k).2 = true) (w5 : World) (v5 : Value) (h5 : AutAt w5 v5 (fillN p k)) : Calls Tryz.prog 16 #[v5] w5 fun e w' => ∃ r, e = .returned (.tuple #[r, .int .i64 0]) ∧ New w5 w' ∧ OwnInts w5.heap.size w'.heap.size w' r (fillW p k).1 := by
  have := implShortestReset_any v5 (fillN p k) w5 h5
  obtain ⟨e1, e2⟩ := fill_told p hf k hb
  rw [e1, e2] at this
  exact this
set_option maxRecDepth 20000 in
/-- The contracts of the two searches, with one code. -/
theorem fil_calls (p : Aut) (hp : partOk p = true) (h4 : p.n ≤ 4) (hm : (gapsOf p.nx).length ≤ 2) (W : World) (v : Value) (hv : AutAt W v p) : ∃ (FA : Aut) (Z : Int) (SD : List Int),
    (∀ w5, New W w5 → Calls Tryz.prog 7 #[v] w5 fun e w' => ∃ q, e = .returned (.tuple #[q, .int .i64 Z]) ∧ New w5 w' ∧ OwnAut w5.heap.size w'.heap.size w' q FA) ∧
    (∀ w5, New W w5 → Calls Tryz.prog 8 #[v] w5 fun e w' => ∃ q, e = .returned (.tuple #[q, .int .i64 Z]) ∧ New w5 w' ∧ OwnAut w5.heap.size w'.heap.size w' q FA) ∧
    (∀ w5, New W w5 → Calls Tryz.prog 9 #[v] w5 fun e w' => ∃ q, e = .returned (.tuple #[q, .int .i64 Z]) ∧ New w5 w' ∧ OwnInts w5.heap.size w'.heap.size w' q SD) ∧
    (∀ w5, New W w5 → Calls Tryz.prog 10 #[v] w5 fun e w' => ∃ q, e = .returned (.tuple #[q, .int .i64 Z]) ∧ New w5 w' ∧ OwnInts w5.heap.size w'.heap.size w' q SD) ∧
    (¬ Z = 0 → Z = 6 ∧ ∀ k, k < fillCount p → (fillW p k).2 = false) ∧ (Z = 0 → ∃ k, FA = fillN p k ∧ (fillW p k).2 = true) ∧ (Z = 0 → lettersP p SD ∧ SD.length ≤ 400) ∧ (Z = 0 → 0 < leC p SD (fillCount p)) ∧
    (Z = 0 → ∀ k, k < fillCount p → (fillW p k).2 = true → leC p (fillW p k).1 (fillCount p) ≤ leC p SD (fillCount p)) := by
  obtain ⟨f1, f2, f3, f4, f5, f6⟩ := fil_facts hp h4 hm
  have g1 := fun w5 (hm : New W w5) => implFirstFilling_any v p w5 (hv.new hm)
  have g2 := fun w5 (hm : New W w5) => specFirstFilling_any v p w5 (hv.new hm)
  have g3 := fun w5 (hm : New W w5) => implSurestWord_any v p w5 (hv.new hm)
  have g4 := fun w5 (hm : New W w5) => specSurestWord_any v p w5 (hv.new hm)
  obtain ⟨FF, hFF⟩ : ∃ z, z = FirstFilling p := ⟨_, rfl⟩
  obtain ⟨SW, hSW⟩ : ∃ z, z = SurestWord p := ⟨_, rfl⟩
  rw [← hFF] at f1 f2 f3 f4 f5 f6 g1 g2
  rw [← hSW] at f1 f4 f5 f6 g3 g4
  rw [← f1] at g3 g4
  clear hFF hSW
  exact ⟨FF.1, FF.2, SW.1, g1, g2, g3, g4, f2, f3, f4, f5, f6⟩
set_option maxRecDepth 20000 in
set_option maxHeartbeats 4000000 in
theorem FnFillings_any (v1 v2 : Value) (n1 n2 : Nat) (w : World) (h1 : BytesAt w v1 n1) (h2 : BytesAt w v2 n2) :
    Calls Tryz.prog 3 #[v1, v2] w fun e w' => e = .returned (.bool true) ∧ New w w' := by
  have C1 := f6big_any v1 n1 w h1
  have C2 := f6big_any v2 n2 w h2
  by_cases hl1 : 4096 < n1
  · rw [decide_eq_true hl1] at C1
    clear hl1
    go_enter Tryz.func3, Tryz.ntmps3
    go_wp2_with fail
    refine C1.mono ?_
    rintro e w' ⟨rfl, hww⟩
    rw [hww]
    clear hww w'
    go_wp2_with fail
    go_ret
    exact ⟨rfl, New.refl _⟩
  rw [decide_eq_false hl1] at C1
  by_cases hl2 : 4096 < n2
  · rw [decide_eq_true hl2] at C2
    clear hl1 hl2
    go_enter Tryz.func3, Tryz.ntmps3
    go_wp2_with fail
    refine C1.mono ?_
    rintro e w' ⟨rfl, hww⟩
    rw [hww]
    clear hww w'
    go_wp2_with fail
    refine C2.mono ?_
    rintro e w' ⟨rfl, hww⟩
    rw [hww]
    clear hww w'
    go_wp2_with fail
    go_ret
    exact ⟨rfl, New.refl _⟩
  rw [decide_eq_false hl2] at C2
  have C3 := P6Partial_any v1 n1 2 w h1 (by decide)
  clear hl1 hl2
  go_enter Tryz.func3, Tryz.ntmps3
  go_wp2_with fail
  refine C1.mono ?_
  rintro e w' ⟨rfl, hww⟩
  rw [hww]
  clear hww w'
  go_wp2_with fail
  refine C2.mono ?_
  rintro e w' ⟨rfl, hww⟩
  rw [hww]
  clear hww w'
  go_wp2_with fail
  refine C3.mono ?_
  rintro e w1 ⟨r1, p, rfl, hn1, hat1, hp, h4, hm⟩
  clear C1 C2 C3
  obtain ⟨rv1, rfl, hcu1⟩ := id hat1
  obtain ⟨A1, c1, rfl⟩ := hcu1.form
  clear hcu1
  have hnb : New w1 (w1.alloc (.cells #[.int .i64 p.n, .slice A1 p.nx.length c1] 26)) := (by repeat (first | with_reducible exact New.refl _ | with_reducible assumption | with_reducible refine New.alloc ?_ _ | with_reducible refine New.drewN ?_ _ | with_reducible refine New.drew ?_ | with_reducible refine New.trans ?_ (by with_reducible assumption)))
  have z0 : (w1.alloc (.cells #[.int .i64 p.n, .slice A1 p.nx.length c1] 26)).cell? ⟨w1.heap.size, 0, none⟩ = some (.int .i64 p.n) := by go_simp
  have z1 : (w1.alloc (.cells #[.int .i64 p.n, .slice A1 p.nx.length c1] 26)).cell? ⟨w1.heap.size, 1, none⟩ = some (.slice A1 p.nx.length c1) := by go_simp
  go_wp2_with fail
  obtain ⟨db, hdb⟩ : ∃ db, db = w1.heap.size := ⟨_, rfl⟩
  have HAT := hid (hat1.new hnb)
  have HN := hid (hn1.trans hnb)
  generalize (w1.alloc (.cells #[.int .i64 p.n, .slice A1 p.nx.length c1] 26)) = W at z0 z1 hnb HAT HN ⊢
  rw [← hdb] at z0 z1 ⊢
  clear hdb hat1 hn1 hnb
  have hf := part_facts hp
  have hn1 := hf.n1
  have HON := hid (fun st hl hs => digits_onto p.n.toNat (gapsOf p.nx).length st ⟨by omega, by omega⟩ hm hl hs)
  have HG := hid (fun w5 (hm : New W w5) => specGapsOf_any _ p w5 (HAT.out.new hm) hp)
  obtain ⟨FA, Z, SD, g1, g2, g3, g4, f2, f3, f4, f5, f6⟩ := fil_calls p hp h4 hm W _ HAT.out
  have HF1 := hid g1
  have HF2 := hid g2
  have HW1 := hid g3
  have HW2 := hid g4
  have HST := hid (fun w5 (hm' : New W w5) => P6States_any v2 n2 (gapsOf p.nx).length p.n w5 (h2.new (HN.out.trans hm')) ⟨by omega, by omega⟩ (by omega))
  have HFG := hid (fun w5 sv st (hm : New W w5) (hs : IntsAt w5 sv st) hsl hst => implFillGaps_any _ sv p st w5 (HAT.out.new hm) hs hp hsl hst)
  have HRS := hid (fun w5 wv gA gc ws (hm' : New W w5) (hs : IntsAt w5 wv ws) hl hl4 => f6resets_any _ wv gA gc p ws w5 (HAT.out.new hm') hs hp h4 hm hl hl4)
  have HCN := hid (fun k w5 v5 h5 => fill_can p hf k w5 v5 h5)
  have HSR0 := hid (fun k hb w5 v5 h5 => fill_sr0 p hf k hb w5 v5 h5)
  have HSR1 := hid (fun k hb w5 v5 h5 => fill_sr1 p hf k hb w5 v5 h5)
  have HLT := hid (fun k (hb : (fillW p k).2 = true) => (show lettersP p (fillW p k).1 ∧ (fillW p k).1.length ≤ 400 from ⟨fillW_lets hb, fillW_short hf h4 k⟩))
  have FF2 := hid f2
  have FF3 := hid f3
  have FF4 := hid f4
  have FF5 := hid f5
  have FF6 := hid f6
  obtain ⟨GL, hGL⟩ : ∃ z, z = (gapsOf p.nx).length := ⟨_, rfl⟩
  obtain ⟨CC, hCC⟩ : ∃ z, z = fillCount p := ⟨_, rfl⟩
  have HCC := hid (show CC = p.n.toNat ^ GL by rw [hCC, hGL]; rfl)
  have HGL := hid hGL
  rw [← hGL] at HG HST HRS
  rw [← hCC] at FF2 FF5 FF6 HRS
  clear f2 f3 f4 f5 f6 g1 g2 g3 g4 hGL hCC hf hp HAT hm h4
  have hzz : (Z != Z) = false := by simp
  refine (HG.out W (New.refl _)).mono ?_
  rintro e w3 ⟨gA, gc, rfl, hn3⟩
  have a0 := hn3.cell z0
  have a1 := hn3.cell z1
  go_wp2_with fail
  refine (HF1.out w3 hn3).mono ?_
  rintro e w4 ⟨q4, rfl, hn4, ho4⟩
  obtain ⟨rv4, rfl, ho4'⟩ := ho4
  obtain ⟨A4, c4, rfl⟩ := ho4'.form
  have HA4 := hid ho4'.at
  have a2 := hn4.cell a0
  have a3 := hn4.cell a1
  have HN4 := hid (hn3.trans hn4)
  clear ho4' hn3 hn4 a0 a1 z0 z1
  have hnb : New w4 (w4.alloc (.cells #[.int .i64 FA.n, .slice A4 FA.nx.length c4] 31)) := (by repeat (first | with_reducible exact New.refl _ | with_reducible assumption | with_reducible refine New.alloc ?_ _ | with_reducible refine New.drewN ?_ _ | with_reducible refine New.drew ?_ | with_reducible refine New.trans ?_ (by with_reducible assumption)))
  have y0 : (w4.alloc (.cells #[.int .i64 FA.n, .slice A4 FA.nx.length c4] 31)).cell? ⟨w4.heap.size, 0, none⟩ = some (.int .i64 FA.n) := by go_simp
  have y1 : (w4.alloc (.cells #[.int .i64 FA.n, .slice A4 FA.nx.length c4] 31)).cell? ⟨w4.heap.size, 1, none⟩ = some (.slice A4 FA.nx.length c4) := by go_simp
  have z0 := hnb.cell a2
  have z1 := hnb.cell a3
  go_wp2_with fail
  obtain ⟨fb, hfb⟩ : ∃ fb, fb = w4.heap.size := ⟨_, rfl⟩
  have HN5 := hid (HN4.out.trans hnb)
  have HA5 := hid (HA4.out.new hnb)
  generalize (w4.alloc (.cells #[.int .i64 FA.n, .slice A4 FA.nx.length c4] 31)) = w5 at y0 y1 z0 z1 hnb HN5 HA5 ⊢
  rw [← hfb] at y0 y1 ⊢
  clear hfb hnb a2 a3 HN4 HA4
  refine (HF2.out w5 HN5.out).mono ?_
  rintro e w6 ⟨q6, rfl, hn6, ho6⟩
  obtain ⟨rv6, rfl, ho6'⟩ := ho6
  obtain ⟨A6, c6, rfl⟩ := ho6'.form
  have HA6 := hid ho6'.at
  have HA5' := hid (HA5.out.new hn6)
  have HN6 := hid (HN5.out.trans hn6)
  replace y0 := hn6.cell y0
  replace y1 := hn6.cell y1
  replace z0 := hn6.cell z0
  replace z1 := hn6.cell z1
  clear ho6' hn6 HA5 HN5
  have hnb : New w6 (w6.alloc (.cells #[.int .i64 FA.n, .slice A6 FA.nx.length c6] 31)) := (by repeat (first | with_reducible exact New.refl _ | with_reducible assumption | with_reducible refine New.alloc ?_ _ | with_reducible refine New.drewN ?_ _ | with_reducible refine New.drew ?_ | with_reducible refine New.trans ?_ (by with_reducible assumption)))
  have x0 : (w6.alloc (.cells #[.int .i64 FA.n, .slice A6 FA.nx.length c6] 31)).cell? ⟨w6.heap.size, 0, none⟩ = some (.int .i64 FA.n) := by go_simp
  have x1 : (w6.alloc (.cells #[.int .i64 FA.n, .slice A6 FA.nx.length c6] 31)).cell? ⟨w6.heap.size, 1, none⟩ = some (.slice A6 FA.nx.length c6) := by go_simp
  replace y0 := hnb.cell y0
  replace y1 := hnb.cell y1
  replace z0 := hnb.cell z0
  replace z1 := hnb.cell z1
  go_wp2_with fail
  obtain ⟨mb, hmb⟩ : ∃ mb, mb = w6.heap.size := ⟨_, rfl⟩
  have HN7 := hid (HN6.out.trans hnb)
  have HA7 := hid (HA5'.out.new hnb)
  have HB7 := hid (HA6.out.new hnb)
  generalize (w6.alloc (.cells #[.int .i64 FA.n, .slice A6 FA.nx.length c6] 31)) = w7 at x0 x1 y0 y1 z0 z1 hnb HN7 HA7 HB7 ⊢
  rw [← hmb] at x0 x1 ⊢
  clear hmb hnb HA6 HA5' HN6
  refine (HW1.out w7 HN7.out).mono ?_
  rintro e w8 ⟨q8, rfl, hn8, ho8⟩
  replace x0 := hn8.cell x0
  replace x1 := hn8.cell x1
  replace y0 := hn8.cell y0
  replace y1 := hn8.cell y1
  replace z0 := hn8.cell z0
  replace z1 := hn8.cell z1
  go_wp2_with fail
  refine (HW2.out w8 (HN7.out.trans hn8)).mono ?_
  rintro e w9 ⟨q9, rfl, hn9, ho9⟩
  replace x0 := hn9.cell x0
  replace x1 := hn9.cell x1
  replace y0 := hn9.cell y0
  replace y1 := hn9.cell y1
  replace z0 := hn9.cell z0
  replace z1 := hn9.cell z1
  have HN9 := hid (HN7.out.trans (hn8.trans hn9))
  have HA9 := hid (show AutAt w9 (.agg #[.int .i64 FA.n, .slice A4 FA.nx.length c4]) FA from ⟨_, rfl, HA7.out.new (hn8.trans hn9)⟩)
  have HB9 := hid (show AutAt w9 (.agg #[.int .i64 FA.n, .slice A6 FA.nx.length c6]) FA from ⟨_, rfl, HB7.out.new (hn8.trans hn9)⟩)
  have HC9 := hid (ho8.at.new hn9)
  have HD9 := hid ho9.at
  clear ho8 ho9 hn8 hn9 HN7 HA7 HB7
  go_wp2_with (first
    | (go_at_call 11; refine (SameAutomaton_self _ _ FA w9 HA9.out HB9.out).mono ?_; rintro e w10 ⟨rfl, hn10⟩; replace x0 := hn10.cell x0; replace x1 := hn10.cell x1; replace z0 := hn10.cell z0; replace z1 := hn10.cell z1)
    | (go_at_call 12; refine (f6ints_any _ _ SD w10 (HC9.out.new hn10) (HD9.out.new hn10)).mono ?_; rintro e w11 ⟨rfl, hn11⟩; replace x0 := hn11.cell x0; replace x1 := hn11.cell x1; replace z0 := hn11.cell z0; replace z1 := hn11.cell z1)
    | fail)
  refine (HST.out w11 (HN9.out.trans (hn10.trans hn11))).mono ?_
  rintro e w12 ⟨r12, st, rfl, hn12, ho12, hsl, hst⟩
  replace x0 := hn12.cell x0
  replace x1 := hn12.cell x1
  replace z0 := hn12.cell z0
  replace z1 := hn12.cell z1
  have HN12 := hid (HN9.out.trans ((hn10.trans hn11).trans hn12))
  have HB12 := hid (HB9.out.new ((hn10.trans hn11).trans hn12))
  have HD12 := hid (HD9.out.new ((hn10.trans hn11).trans hn12))
  have HST12 := hid ho12.at
  obtain ⟨k, hk, hks⟩ := HON.out st (by rw [hsl]; exact HGL.out) (fun i hi => by have := hst i hi; omega)
  have CFG := hid (fun w5 (hm : New W w5) (hs : IntsAt w5 r12 st) => HFG.out w5 r12 st hm hs (by rw [hsl]; exact HGL.out) hst)
  rw [show (⟨p.n, fillOf p.nx st⟩ : Aut) = fillN p k from by unfold fillN; rw [hks]] at CFG
  have hkC : k < CC := by rw [HCC.out, HGL.out]; exact hk
  have HKC := hid hkC
  clear hn10 hn11 hn12 HN9 HA9 HB9 HC9 HD9 ho12 hsl hst hk hks HON HFG hkC
  obtain ⟨FB, hFB⟩ : ∃ FB, FB = fillN p k := ⟨_, rfl⟩
  have HCB := hid (fun w5 v5 (h5 : AutAt w5 v5 FB) => HCN.out k w5 v5 (by rw [← hFB]; exact h5))
  have HS0 := hid (fun hb w5 v5 (h5 : AutAt w5 v5 FB) => HSR0.out k hb w5 v5 (by rw [← hFB]; exact h5))
  have HS1 := hid (fun hb w5 v5 (h5 : AutAt w5 v5 FB) => HSR1.out k hb w5 v5 (by rw [← hFB]; exact h5))
  rw [← hFB] at CFG
  clear hFB
  go_wp2_with fail
  refine (CFG.out w12 HN12.out HST12.out).mono ?_
  rintro e w13 ⟨q13, rfl, hn13, ho13⟩
  obtain ⟨rv13, rfl, ho13'⟩ := ho13
  obtain ⟨A13, c13, rfl⟩ := ho13'.form
  have HB13 := hid ho13'.at
  have hnb : New w13 (w13.alloc (.cells #[.int .i64 FB.n, .slice A13 FB.nx.length c13] 31)) := (by repeat (first | with_reducible exact New.refl _ | with_reducible assumption | with_reducible refine New.alloc ?_ _ | with_reducible refine New.drewN ?_ _ | with_reducible refine New.drew ?_ | with_reducible refine New.trans ?_ (by with_reducible assumption)))
  have y0 : (w13.alloc (.cells #[.int .i64 FB.n, .slice A13 FB.nx.length c13] 31)).cell? ⟨w13.heap.size, 0, none⟩ = some (.int .i64 FB.n) := by go_simp
  have y1 : (w13.alloc (.cells #[.int .i64 FB.n, .slice A13 FB.nx.length c13] 31)).cell? ⟨w13.heap.size, 1, none⟩ = some (.slice A13 FB.nx.length c13) := by go_simp
  replace x0 := hnb.cell (hn13.cell x0)
  replace x1 := hnb.cell (hn13.cell x1)
  replace z0 := hnb.cell (hn13.cell z0)
  replace z1 := hnb.cell (hn13.cell z1)
  go_wp2_with fail
  obtain ⟨bb, hbb⟩ : ∃ bb, bb = w13.heap.size := ⟨_, rfl⟩
  have HN14 := hid (HN12.out.trans (hn13.trans hnb))
  have HM14 := hid (HB12.out.new (hn13.trans hnb))
  have HD14 := hid (HD12.out.new (hn13.trans hnb))
  have HB14 := hid (HB13.out.new hnb)
  generalize (w13.alloc (.cells #[.int .i64 FB.n, .slice A13 FB.nx.length c13] 31)) = w14 at x0 x1 y0 y1 z0 z1 hnb HN14 HM14 HD14 HB14 ⊢
  rw [← hbb] at y0 y1 ⊢
  clear hbb hnb hn13 ho13' HB13 HN12 HB12 HD12 CFG HST12
  have HFIN := hid (fun w' (hm : New W w') => HN.out.trans hm)
  refine (HCB.out w14 _ ⟨_, rfl, HB14.out⟩).mono ?_
  rintro e w15 ⟨rfl, hn15⟩
  replace x0 := hn15.cell x0
  replace x1 := hn15.cell x1
  replace y0 := hn15.cell y0
  replace y1 := hn15.cell y1
  replace z0 := hn15.cell z0
  replace z1 := hn15.cell z1
  have HN15 := hid (HN14.out.trans hn15)
  have HM15 := hid (HM14.out.new hn15)
  have HD15 := hid (HD14.out.new hn15)
  have HB15 := hid (HB14.out.new hn15)
  clear hn15 HN14 HM14 HD14 HB14 HCB
  have HNO := hid (fun (h : ¬ Z = 0) => (FF2.out h).2 k HKC.out)
  cases hcan : (fillW p k).2 with
  | false =>
    have HSB := hid (HS0.out hcan)
    clear hcan HS0 HS1
    go_wp2_with fail
    refine (HSB.out w15 _ ⟨_, rfl, HB15.out⟩).mono ?_
    rintro e w16 ⟨r16, rfl, hn16, ho16⟩
    replace x0 := hn16.cell x0
    replace x1 := hn16.cell x1
    replace z0 := hn16.cell z0
    replace z1 := hn16.cell z1
    have hf0 : (false != false) = false := rfl
    have hN16 := HN15.out.trans hn16
    by_cases hZ : Z = 0
    · skip
      obtain ⟨km, hFA, hmt⟩ := FF3.out hZ
      have HCM := hid (fun w5 v5 (h5 : AutAt w5 v5 FA) => HCN.out km w5 v5 (by rw [← hFA]; exact h5))
      rw [hmt] at HCM
      obtain ⟨hl1, hl2⟩ := FF4.out hZ
      have HR1 := hid (fun w5 wv (hm' : New W w5) (hs : IntsAt w5 wv SD) => HRS.out w5 wv gA gc SD hm' hs hl1 hl2)
      have hpos := FF5.out hZ
      obtain ⟨M, hM⟩ : ∃ M, M = leC p SD CC := ⟨_, rfl⟩
      rw [← hM] at HR1 hpos
      have hposi : (0 : Int) < (M : Int) := by omega
      rw [hZ]
      clear hFA hmt hl1 hl2 hM hZ
      go_wp2_with fail
      refine (HCM.out w16 _ (HM15.out.new hn16)).mono ?_
      rintro e w17 ⟨rfl, hn17⟩
      replace z0 := hn17.cell z0
      replace z1 := hn17.cell z1
      have hN17 := hN16.trans hn17
      go_wp2_with fail
      refine (HR1.out w17 _ hN17 ((HD15.out.new hn16).new hn17)).mono ?_
      rintro e w18 ⟨rfl, hn18⟩
      replace z0 := hn18.cell z0
      replace z1 := hn18.cell z1
      have hN18 := hN17.trans hn18
      go_wp2_with fail
      go_ret
      exact ⟨rfl, HFIN.out _ hN18⟩
    · have hz6 := (FF2.out hZ).1
      rw [hz6]
      clear hZ hz6
      go_wp2_with fail
      go_ret
      exact ⟨rfl, HFIN.out _ hN16⟩
  | true =>
    have HSB := hid (HS1.out hcan)
    have hlx := HLT.out k hcan
    have hmo := fun hZ => FF6.out hZ k HKC.out hcan
    obtain ⟨X, hX⟩ : ∃ X, X = (fillW p k).1 := ⟨_, rfl⟩
    rw [← hX] at HSB hlx hmo
    have HLX := hid hlx
    have HMO := hid hmo
    by_cases hZ : Z = 0
    · have HZ := hid hZ
      clear hcan HS0 HS1 hX hlx hmo hZ
      go_wp2_with fail
      refine (HSB.out w15 _ ⟨_, rfl, HB15.out⟩).mono ?_
      rintro e w16 ⟨r16, rfl, hn16, ho16⟩
      replace x0 := hn16.cell x0
      replace x1 := hn16.cell x1
      replace z0 := hn16.cell z0
      replace z1 := hn16.cell z1
      have hN16 := HN15.out.trans hn16
      have hZ := HZ.out
      obtain ⟨km, hFA, hmt⟩ := FF3.out hZ
      have HCM := hid (fun w5 v5 (h5 : AutAt w5 v5 FA) => HCN.out km w5 v5 (by rw [← hFA]; exact h5))
      rw [hmt] at HCM
      obtain ⟨hl1, hl2⟩ := FF4.out hZ
      have HR1 := hid (fun w5 wv (hm' : New W w5) (hs : IntsAt w5 wv SD) => HRS.out w5 wv gA gc SD hm' hs hl1 hl2)
      have hpos := FF5.out hZ
      have hle := HMO.out hZ
      have HR2 := hid (fun w5 wv (hm' : New W w5) (hs : IntsAt w5 wv X) => HRS.out w5 wv gA gc X hm' hs HLX.out.1 HLX.out.2)
      obtain ⟨L, hL⟩ : ∃ L, L = leC p X CC := ⟨_, rfl⟩
      rw [← hL] at hle HR2
      clear hL
      obtain ⟨M, hM⟩ : ∃ M, M = leC p SD CC := ⟨_, rfl⟩
      rw [← hM] at HR1 hpos hle
      have hposi : (0 : Int) < (M : Int) := by omega
      rw [hZ]
      clear hFA hmt hl1 hl2 hM hZ
      go_wp2_with fail
      refine (HCM.out w16 _ (HM15.out.new hn16)).mono ?_
      rintro e w17 ⟨rfl, hn17⟩
      replace z0 := hn17.cell z0
      replace z1 := hn17.cell z1
      have hN17 := hN16.trans hn17
      go_wp2_with fail
      refine (HR1.out w17 _ hN17 ((HD15.out.new hn16).new hn17)).mono ?_
      rintro e w18 ⟨rfl, hn18⟩
      replace z0 := hn18.cell z0
      replace z1 := hn18.cell z1
      have hN18 := hN17.trans hn18
      have hlei : (L : Int) ≤ (M : Int) := by omega
      go_wp2_with (go_at_call 17; refine (HR2.out w18 _ hN18 ((ho16.at.new hn17).new hn18)).mono ?_; rintro e w19 ⟨rfl, hn19⟩)
      go_ret
      exact ⟨rfl, HFIN.out _ (hN18.trans hn19)⟩
    · have := HNO.out hZ
      rw [this] at hcan
      cases hcan

end Go.Proofs.YthbebnfhplacnaaGreat
