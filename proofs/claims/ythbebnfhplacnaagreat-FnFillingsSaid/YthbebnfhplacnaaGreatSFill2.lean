/- The reference's first filling that has a reset word. -/
import Derived.Test.YthbebnfhplacnaaGreatRows
import Derived.Test.YthbebnfhplacnaaGreatCore
import Derived.Test.YthbebnfhplacnaaGreatInfos
import Derived.Test.YthbebnfhplacnaaGreatPlains
import Derived.Test.YthbebnfhplacnaaGreatDrawT
import Derived.Test.YthbebnfhplacnaaGreatPlainReset
import Derived.Test.YthbebnfhplacnaaGreatPlainFill
import Derived.Test.YthbebnfhplacnaaGreatMaps
import Derived.Test.YthbebnfhplacnaaGreatArrs
import Derived.Test.YthbebnfhplacnaaGreatSBase
import Derived.Test.YthbebnfhplacnaaGreatS04a
import Derived.Test.YthbebnfhplacnaaGreatSShort
import Derived.Test.YthbebnfhplacnaaGreatGapsG
import Derived.Test.YthbebnfhplacnaaGreatIColG
import Derived.Test.YthbebnfhplacnaaGreatIFills
import Derived.WalkKit
import Derived.WalkSpells
import Derived.WalkLawsBesides
import Derived.Deep.QuietTactic
import Derived.Deep.OwnRows
import Derived.BigQuiet
import Derived.KernelRfl
import Derived.Deep.RegionHeld3
import Derived.Carry
namespace Go.Proofs.YthbebnfhplacnaaGreat
open Go.RowKit

theorem rem_nat {X n : Nat} (_hn : 0 < n) : Int.tmod (X : Int) (n : Int) = ((X % n : Nat) : Int) := by rw [Int.tmod_eq_emod_of_nonneg (by omega)]; rfl
theorem quo_nat {X n : Nat} (_hn : 0 < n) : Int.tdiv (X : Int) (n : Int) = ((X / n : Nat) : Int) := by rw [Int.tdiv_eq_ediv_of_nonneg (by omega)]; rfl
set_option maxRecDepth 20000 in
set_option maxHeartbeats 400000 in
theorem l04Filling_any (v : Value) (p : Aut) (N : Nat) (w : World) (h : PAut w v p) (hf : PartFacts p) (hN : N ≤ 1000000) :
    Calls Tryz.prog 26 #[v, .int .i64 (N : Nat)] w fun e w' => ∃ r, e = .returned r ∧ New w w' ∧ OwnAut w.heap.size w'.heap.size w' r (fillN p N) := by
  have C1 := fun w1 (hn : New w w1) => l04Gaps_any v p w1 (h.new hn) hf.l3 (fun i hi => by have := hf.row i hi; have := hf.n10; omega)
  have HFI := hid (fun w1 sv (hn : New w w1) (hs : IntsAt w1 sv (digits p.n.toNat (gapsOf p.nx).length N)) => l04Fill_any v sv p (digits p.n.toNat (gapsOf p.nx).length N) w1 (h.new hn) hs hf (digits_len _ _ _))
  have hfn : (⟨p.n, fillOf p.nx (digits p.n.toNat (gapsOf p.nx).length N)⟩ : Aut) = fillN p N := rfl
  simp only [hfn] at HFI
  have hgl := gaps_len hf
  obtain ⟨n, hnn⟩ : ∃ n : Nat, p.n = (n : Int) := ⟨p.n.toNat, by have := hf.n1; omega⟩
  have hn1 : 1 ≤ n := by have := hf.n1; omega
  have hn10 : n ≤ 10 := by have := hf.n10; omega
  obtain ⟨pb, rv, rfl, hp0, hp1, hr⟩ := h
  rw [hnn] at hp0
  rw [hnn, Int.toNat_natCast] at HFI
  obtain ⟨wb, hwb⟩ : ∃ wb, wb = w.alloc (.cells #[.int .i64 0, .slice none 0 0] 31) := ⟨_, rfl⟩
  have hnb : New w wb := by rw [hwb]; exact (by repeat (first | with_reducible exact New.refl _ | with_reducible assumption | with_reducible refine New.alloc ?_ _ | with_reducible refine New.drewN ?_ _ | with_reducible refine New.drew ?_ | with_reducible refine New.trans ?_ (by with_reducible assumption)))
  have hR : Box2 wb w.heap.size (.int .i64 0) (.slice none 0 0) := by rw [hwb]; exact ⟨by go_simp, by go_simp, by go_simp, by go_simp⟩
  have hzb2 : w.heap.size < wb.heap.size := by rw [hwb]; simp only [size_alloc]; omega
  have C2 := C1 wb hnb
  obtain ⟨GS, hGS⟩ : ∃ z, z = gapsOf p.nx := ⟨_, rfl⟩
  rw [← hGS] at C2 HFI hgl
  have hmk := fun w => run_make_row' (P := Tryz.prog) 34 2 (.int .i64 0) 8 Tryz.underlying34 info_i64 rfl .i64 .i64 GS.length (by omega) (by omega) w
  have HNN := hid hnn
  clear C1 hf hGS hnn hfn
  go_enter Tryz.func26, Tryz.ntmps26
  go_wp2_with fail
  rw [← hwb]
  clear hwb
  refine C2.mono ?_
  rintro e w1 ⟨gv, rfl, hn1w, hgp, _⟩
  obtain ⟨AG, cG, rfl⟩ := hgp.form
  have hN1 := hnb.trans hn1w
  have hR1 := hR.new hn1w
  have hz1 := hn1w.size
  clear hgp C2
  have hrow0 := OwnInts.made w1 GS.length 2 (by omega)
  obtain ⟨wm, hwm⟩ : ∃ wm, wm = w1.alloc (.cells (madeCells #[.int .i64 0] GS.length) 2) := ⟨_, rfl⟩
  rw [← hwm] at hrow0
  have hnm : New w1 wm := by rw [hwm]; exact (by repeat (first | with_reducible exact New.refl _ | with_reducible assumption | with_reducible refine New.alloc ?_ _ | with_reducible refine New.drewN ?_ _ | with_reducible refine New.drew ?_ | with_reducible refine New.trans ?_ (by with_reducible assumption)))
  have hzm : wm.heap.size = w1.heap.size + 1 := by rw [hwm]; simp only [size_alloc]
  have HZM := hid hzm
  obtain ⟨sb, hsb⟩ : ∃ sb, sb = w1.heap.size := ⟨_, rfl⟩
  have hsbw : w.heap.size < sb := by omega
  go_wp2_with fail
  rw [← hwm, ← hsb]
  rw [← hsb] at hrow0 HZM
  have hNM := hN1.trans hnm
  have hpm := hNM.cell hp0
  have hRm := hR1.new hnm
  have hpl : pb < w.heap.size := World.block_lt_of_cell? w _ hp0
  have HSB := hid hsb
  clear hmk hwm hzm hsb hz1 hR hR1
  go_loopw [1, 6] (fun nv i wr => ∃ t : Nat, t ≤ GS.length ∧ i = .int .i64 ((GS.length : Int) - 1 - t) ∧ nv = .int .i64 (N / n ^ t : Nat) ∧ But (fun q => q = sb) wm wr ∧ OwnInts sb (sb + 1) wr (.slice (some ⟨sb, 0, none⟩) GS.length GS.length) (digTail n GS.length N t)) (fun _ i _ => (intOf i + 1).toNat)
  case atStart => exact ⟨0, Nat.zero_le _, by simp, by simp, But.refl, by rw [digTail_zero]; exact hrow0⟩
  case round =>
    obtain ⟨t, ht, rfl, rfl, hbu, hOu⟩ := hrel
    clear hrow0
    obtain ⟨wu, rfl⟩ : ∃ wu : World, wu = wr := ⟨_, rfl⟩
    have hpu := hbu.cell hpm (by show ¬ pb = sb; omega)
    by_cases hlt : t < GS.length
    · obtain ⟨j, hj⟩ : ∃ j : Nat, (GS.length : Int) - 1 - t = (j : Int) := ⟨GS.length - 1 - t, by omega⟩
      have hjt : j = GS.length - 1 - t := by omega
      rw [hj]
      have b3 : (0 : Int) ≤ (j : Int) := by omega
      have b4 : (j : Int) < (GS.length : Int) := by omega
      have HX1 := hid (show N / n ^ (t + 1) = N / n ^ t / n by rw [Nat.pow_succ, Nat.div_div_eq_div_mul])
      have HX2 := hid (digTail_step n GS.length N t hlt)
      have hXN : N / n ^ t ≤ N := Nat.div_le_self _ _
      obtain ⟨X, hX⟩ : ∃ X, X = N / n ^ t := ⟨_, rfl⟩
      rw [← hX] at HX1 HX2 hXN ⊢
      have hrem := rem_nat (X := X) (n := n) (by omega)
      have hquo := quo_nat (X := X) (n := n) (by omega)
      have hXq : X / n ≤ X := Nat.div_le_self _ _
      obtain ⟨D, hD⟩ : ∃ D, D = X % n := ⟨_, rfl⟩
      obtain ⟨Y, hY⟩ : ∃ Y, Y = X / n := ⟨_, rfl⟩
      rw [← hD] at hrem HX2
      rw [← hY] at hquo HX1 hXq
      have hne : ¬ (n : Int) = 0 := by omega
      have hne2 : ¬ n = 0 := by omega
      have hwY : IntKind.i64.wrap (Y : Int) = (Y : Int) := IntWalk.i64_in _ (by omega)
      obtain ⟨v0, v1⟩ := hOu.cell_at j (by rw [digTail_len]; omega)
      rw [Nat.zero_add] at v0 v1
      have hset := hOu.set j (by rw [digTail_len]; omega)
      rw [Nat.zero_add] at hset
      have HSET := hid hset
      have HJ := hid hj
      have HJT := hid hjt
      have hps : (wu.setCell ⟨sb, j, none⟩ (.int .i64 D)).cell? ⟨pb, 0, none⟩ = some (.int .i64 n) := by
        rw [World.cell?_setCell_other _ _ _ _ (fun e => by injection e with e; omega)]; exact hpu
      clear hset hj hjt hX hD hY hOu
      go_wp2_with fail
      refine ⟨⟨t + 1, by omega, ?_, ?_, hbu.trans (But.setCell (S := fun q => q = sb) ⟨sb, j, none⟩ _ rfl) (fun q hq => Or.inl hq), by rw [HX2.out, ← HJT.out]; exact HSET.out D⟩, ?_⟩
      · have := HJ.out; congr 1; omega
      · congr 1; rw [HX1.out]
      · have := HJ.out; simp only [intOf]; omega
    · have e : t = GS.length := by omega
      have b3 : ¬ (0 : Int) ≤ (GS.length : Int) - 1 - t := by omega
      rw [e, digTail_all] at hOu
      have hNu := But.new hNM hbu (fun q hq => by omega)
      have HC := hid (HFI.out wu _ hNu hOu.at)
      have hRu := (hRm.within hbu.within1 (Or.inl (by omega)))
      have hzu : w.heap.size + 1 ≤ wu.heap.size := by have := hRu.lt; omega
      clear e
      go_wp2_with fail
      refine HC.out.mono ?_
      rintro e w5 ⟨r5, rfl, hn5, ho5⟩
      obtain ⟨rv5, rfl, ho6⟩ := ho5
      obtain ⟨A5, c5, rfl⟩ := ho6.form
      have hR5 := hRu.new hn5
      obtain ⟨y0, y1, yf0, yf1⟩ := id hR5
      obtain ⟨FN, hFN⟩ : ∃ z, z = fillN p N := ⟨_, rfl⟩
      rw [← hFN] at ho6 ⊢
      have HFN := hid hFN
      obtain ⟨t0, t1, _, _⟩ := hR5.fill (.int .i64 FN.n) (.slice A5 FN.nx.length c5)
      have HWF := hid (Within.fill w5 w.heap.size (.int .i64 FN.n) (.slice A5 FN.nx.length c5))
      have HO6 := hid ho6
      clear ho6 hFN hR5 hOu
      go_wp2_with fail
      refine bodyPost_ret (v := .agg #[.int .i64 FN.n, .slice A5 FN.nx.length c5]) (by simp [results, Tryz.results26, go_sem, t0, t1]) rfl ?_
      rw [← HFN.out]
      exact ⟨_, rfl, (hNu.trans hn5).within HWF.out (Nat.le_refl _), ⟨_, rfl, (HO6.out.within HWF.out (Or.inr (by omega))).widen (by omega) (by have := HWF.out.2.2.2.1; omega)⟩⟩
set_option maxRecDepth 20000 in
set_option maxHeartbeats 1000000 in
theorem specFirstFilling_any (v : Value) (p : Aut) (w : World) (h : AutAt w v p) :
    Calls Tryz.prog 8 #[v] w fun e w' => ∃ q, e = .returned (.tuple #[q, .int .i64 (FirstFilling p).2]) ∧ New w w' ∧ OwnAut w.heap.size w'.heap.size w' q (FirstFilling p).1 := by
  obtain ⟨rv, rfl, hr⟩ := h
  obtain ⟨A, c, rfl⟩ := hr.form
  obtain ⟨wb, hwb⟩ : ∃ wb, wb = (w.alloc (.cells #[.int .i64 p.n, .slice A p.nx.length c] 26)).alloc (.cells #[.int .i64 0, .slice none 0 0] 31) := ⟨_, rfl⟩
  have hnb : New w wb := by rw [hwb]; exact (by repeat (first | with_reducible exact New.refl _ | with_reducible assumption | with_reducible refine New.alloc ?_ _ | with_reducible refine New.drewN ?_ _ | with_reducible refine New.drew ?_ | with_reducible refine New.trans ?_ (by with_reducible assumption)))
  have hb0 : wb.cell? ⟨w.heap.size, 0, none⟩ = some (.int .i64 p.n) := by rw [hwb]; go_simp
  have hb1 : wb.cell? ⟨w.heap.size, 1, none⟩ = some (.slice A p.nx.length c) := by rw [hwb]; go_simp
  have hR : Box2 wb (w.heap.size + 1) (.int .i64 0) (.slice none 0 0) := by rw [hwb]; exact ⟨by go_simp, by go_simp, by go_simp, by go_simp⟩
  have hp : PAut wb (.pointer (some ⟨w.heap.size, 0, none⟩)) p := ⟨_, _, rfl, hb0, hb1, hr.new hnb⟩
  have C1 := l04Ok_any _ p wb hp
  obtain ⟨R, hRR⟩ : ∃ R, R = FirstFilling p := ⟨_, rfl⟩
  rw [← hRR]
  unfold FirstFilling at hRR
  have HR := hid hRR
  clear hRR
  have key := fun (w1 : World) (z : Int) (hn : New w w1) => (show ∃ q, (Ending.returned (.tuple #[.agg #[.int .i64 0, .slice none 0 0], .int .i64 z])) = .returned (.tuple #[q, .int .i64 z]) ∧ New w ((w1.setCell ⟨w.heap.size + 1, 0, none⟩ (.int .i64 0)).setCell ⟨w.heap.size + 1, 1, none⟩ (.slice none 0 0)) ∧ OwnAut w.heap.size ((w1.setCell ⟨w.heap.size + 1, 0, none⟩ (.int .i64 0)).setCell ⟨w.heap.size + 1, 1, none⟩ (.slice none 0 0)).heap.size ((w1.setCell ⟨w.heap.size + 1, 0, none⟩ (.int .i64 0)).setCell ⟨w.heap.size + 1, 1, none⟩ (.slice none 0 0)) q (⟨0, []⟩ : Aut) from
    ⟨_, rfl, New.fill hn (by omega) _ _, _, rfl, none, 0, fun _ => default, rfl, by simp, by simp, by simp, by simp⟩)
  have KEY := hid key
  clear key
  cases hok : partOk p with
  | false =>
    rw [hok] at C1
    have HE := hid (show R = (⟨0, []⟩, 1) by rw [HR.out, hok]; rfl)
    go_enter Tryz.func8, Tryz.ntmps8
    go_wp2_with fail
    rw [← hwb]
    clear hwb
    refine C1.mono ?_
    rintro e w1 ⟨rfl, hn1⟩
    have hR1 := hR.new hn1
    obtain ⟨x0, x1, xf0, xf1⟩ := id hR1
    obtain ⟨t0, t1, _, _⟩ := hR1.fill (.int .i64 0) (.slice none 0 0)
    go_wp2_with fail
    refine bodyPost_ret (v := .tuple #[.agg #[.int .i64 0, .slice none 0 0], .int .i64 1]) (by simp [results, Tryz.results8, go_sem, t0, t1]) rfl ?_
    rw [HE.out]
    exact KEY.out w1 1 (hnb.trans hn1)
  | true =>
    rw [hok] at C1
    have hf := part_facts hok
    have hpn := fun w1 (hn : New wb w1) => PAut.new hp hn
    have HC2 := hid (fun w1 (hn : New wb w1) => l04Fillings_any _ p w1 (hpn w1 hn) hf)
    have HCF := hid (fun w1 (N : Nat) (hn : New wb w1) (hN : N ≤ 1000000) => l04Filling_any _ p N w1 (hpn w1 hn) hf hN)
    have HSR := hid (show ∀ w1 v3 (N : Nat), AutAt w1 v3 (fillN p N) → Calls Tryz.prog 27 #[v3] w1 fun e w' => ∃ r, e = .returned (.tuple #[r, .int .i64 (told (fillW p N)).2]) ∧ New w1 w' ∧ OwnInts w1.heap.size w'.heap.size w' r (told (fillW p N)).1 from fun w1 v3 N h3 => specShortestReset_any v3 (fillN p N) w1 h3 (fillN_ok hf N))
    have hcnt : fillCount p = p.n.toNat ^ (gapsOf p.nx).length := rfl

    have HE0 := hid (show R = (if 5000 < fillCount p then (⟨0, []⟩, 3) else (if hitTo (fillW p) (fillCount p) < 0 then (⟨0, []⟩, 6) else (fillN p (hitTo (fillW p) (fillCount p)).toNat, 0))) by rw [HR.out, if_pos hok])
    unfold cntCut at HC2
    rw [← hcnt] at HC2
    obtain ⟨F, hF⟩ : ∃ F, F = fillW p := ⟨_, rfl⟩
    rw [← hF] at HSR HE0
    obtain ⟨CC, hCC⟩ : ∃ z, z = fillCount p := ⟨_, rfl⟩
    rw [← hCC] at HC2 HE0
    clear hok hf hcnt hF hCC HR hp
    go_enter Tryz.func8, Tryz.ntmps8
    go_wp2_with fail
    rw [← hwb]
    clear hwb
    refine C1.mono ?_
    rintro e w1 ⟨rfl, hn1⟩
    have hR1 := hR.new hn1
    go_wp2_with fail
    refine (HC2.out _ hn1).mono ?_
    rintro e w2 ⟨cv, rfl, hn2, hcut⟩
    have hR2 := hR1.new hn2
    have hnw2 := hn1.trans hn2
    rcases hcut with ⟨h5, rfl⟩ | ⟨h5, h6⟩
    · have b5 : ¬ (5000 : Int) < (CC : Int) := by omega
      have HE1 := hid (show R = (if hitTo F CC < 0 then (⟨0, []⟩, 6) else (fillN p (hitTo F CC).toNat, 0)) by rw [HE0.out, if_neg (by omega)])
      go_wp2_with fail
      go_loopw [5] (fun i wr => ∃ n : Nat, n ≤ CC ∧ i = .int .i64 n ∧ New w2 wr ∧ Hid (hitTo F n < 0)) (fun i _ => CC - (intOf i).toNat)
      case atStart => exact ⟨0, Nat.zero_le _, rfl, New.refl _, hid (by simp [hitTo])⟩
      case round =>
        obtain ⟨n, hnC, rfl, hnn, hneg⟩ := hrel
        obtain ⟨wo, rfl⟩ : ∃ wo : World, wo = wr := ⟨_, rfl⟩
        have hno := hnw2.trans hnn
        have hRo := hR2.new hnn
        obtain ⟨x0, x1, xf0, xf1⟩ := id hRo
        by_cases hlt : n < CC
        · have b1 : (n : Int) < (CC : Int) := by omega
          cases hb : (F n).2 with
          | false =>
            have HN := hid (show hitTo F (n + 1) < 0 by rw [hitTo_no hb]; exact hneg.out)
            have HSRn := hid (fun w1 v3 h3 => HSR.out w1 v3 n h3)
            rw [show (told (F n)) = ([], 6) by unfold told; rw [hb]; rfl] at HSRn
            clear hb
            go_wp2_with (first
              | (go_at_call 26; refine (HCF.out _ n hno (by omega)).mono ?_; rintro e w3 ⟨r3, rfl, hn3, ho3⟩; obtain ⟨rv3, rfl, ho4⟩ := ho3; obtain ⟨A3, c3, rfl⟩ := ho4.form; have ha3 : AutAt _ (.agg #[.int .i64 (fillN p n).n, .slice A3 (fillN p n).nx.length c3]) (fillN p n) := ⟨_, rfl, ho4.at⟩)
              | (go_at_call 27; refine (HSRn.out _ _ (ha3.new (by repeat (first | with_reducible exact New.refl _ | with_reducible assumption | with_reducible refine New.alloc ?_ _ | with_reducible refine New.drewN ?_ _ | with_reducible refine New.drew ?_ | with_reducible refine New.trans ?_ (by with_reducible assumption))))).mono ?_; rintro e w5 ⟨q5, he, hn5, ho5⟩; obtain ⟨A5, c5, rfl⟩ := ho5.form; subst he; have hn5w : New wo w5 := hn3.trans (New.trans (by repeat (first | with_reducible exact New.refl _ | with_reducible assumption | with_reducible refine New.alloc ?_ _ | with_reducible refine New.drewN ?_ _ | with_reducible refine New.drew ?_ | with_reducible refine New.trans ?_ (by with_reducible assumption))) hn5)))
            exact ⟨⟨n + 1, by omega, by go_num, hnn.trans hn5w, HN⟩, by simp [intOf]; omega⟩
          | true =>
            have HY := hid (show hitTo F CC = n by
              have h1 := hitTo_yes hneg.out hb
              have h2 := hitTo_stay (f := F) (n := n + 1) (by omega) (CC - (n + 1))
              rw [show n + 1 + (CC - (n + 1)) = CC by omega] at h2
              omega)
            have HE := hid (show R = (fillN p n, 0) by rw [HE1.out, if_neg (by rw [HY.out]; omega), HY.out]; simp)
            have HSRn := hid (fun w1 v3 h3 => HSR.out w1 v3 n h3)
            rw [show (told (F n)) = ((F n).1, 0) by unfold told; rw [hb]; rfl] at HSRn
            clear hb
            go_wp2_with (first
              | (go_at_call 26; refine (HCF.out _ n hno (by omega)).mono ?_; rintro e w3 ⟨r3, rfl, hn3, ho3⟩; obtain ⟨rv3, rfl, ho4⟩ := ho3; obtain ⟨A3, c3, rfl⟩ := ho4.form; have ha3 : AutAt _ (.agg #[.int .i64 (fillN p n).n, .slice A3 (fillN p n).nx.length c3]) (fillN p n) := ⟨_, rfl, ho4.at⟩; have hR3 := hRo.new hn3)
              | (go_at_call 27; refine (HSRn.out _ _ (ha3.new (by repeat (first | with_reducible exact New.refl _ | with_reducible assumption | with_reducible refine New.alloc ?_ _ | with_reducible refine New.drewN ?_ _ | with_reducible refine New.drew ?_ | with_reducible refine New.trans ?_ (by with_reducible assumption))))).mono ?_; rintro e w5 ⟨q5, he, hn5, ho5⟩; obtain ⟨A5, c5, rfl⟩ := ho5.form; subst he; have hn35 : New w3 w5 := New.trans (by repeat (first | with_reducible exact New.refl _ | with_reducible assumption | with_reducible refine New.alloc ?_ _ | with_reducible refine New.drewN ?_ _ | with_reducible refine New.drew ?_ | with_reducible refine New.trans ?_ (by with_reducible assumption))) hn5; have hR5 := hR3.new hn35; obtain ⟨y0, y1, yf0, yf1⟩ := id hR5; have k0 : w5.cell? ⟨w3.heap.size, 0, none⟩ = some (.int .i64 (fillN p n).n) := hn5.cell (by go_simp); have k1 : w5.cell? ⟨w3.heap.size, 1, none⟩ = some (.slice A3 (fillN p n).nx.length c3) := hn5.cell (by go_simp)))
            obtain ⟨t0, t1, _, _⟩ := hR5.fill (.int .i64 (fillN p n).n) (.slice A3 (fillN p n).nx.length c3)
            have HWF := hid (Within.fill w5 (w.heap.size + 1) (.int .i64 (fillN p n).n) (.slice A3 (fillN p n).nx.length c3))
            refine bodyPost_ret (v := .tuple #[.agg #[.int .i64 (fillN p n).n, .slice A3 (fillN p n).nx.length c3], .int .i64 0]) (by simp [results, Tryz.results8, go_sem, t0, t1]) rfl ?_
            rw [HE.out]
            have hzo : w.heap.size + 2 ≤ wo.heap.size := by have := hRo.lt; omega
            exact ⟨_, rfl, ((hnb.trans hno).trans (hn3.trans hn35)).within HWF.out (by omega), ⟨_, rfl, ((ho4.new hn35).within HWF.out (Or.inr (by omega))).widen (by omega) (by have := HWF.out.2.2.2.1; have := hn35.size; omega)⟩⟩
        · have e : n = CC := by omega
          have b1 : ¬ (n : Int) < (CC : Int) := by omega
          subst e
          have HE := hid (show R = (⟨0, []⟩, 6) by rw [HE1.out, if_pos hneg.out])
          obtain ⟨t0, t1, _, _⟩ := hRo.fill (.int .i64 0) (.slice none 0 0)
          go_wp2_with fail
          refine bodyPost_ret (v := .tuple #[.agg #[.int .i64 0, .slice none 0 0], .int .i64 6]) (by simp [results, Tryz.results8, go_sem, t0, t1]) rfl ?_
          rw [HE.out]
          exact KEY.out wo 6 (hnb.trans hno)
    · have HE := hid (show R = (⟨0, []⟩, 3) by rw [HE0.out, if_pos h5])
      obtain ⟨x0, x1, xf0, xf1⟩ := id hR2
      obtain ⟨t0, t1, _, _⟩ := hR2.fill (.int .i64 0) (.slice none 0 0)
      go_wp2_with fail
      refine bodyPost_ret (v := .tuple #[.agg #[.int .i64 0, .slice none 0 0], .int .i64 3]) (by simp [results, Tryz.results8, go_sem, t0, t1]) rfl ?_
      rw [HE.out]
      exact KEY.out w2 3 (hnb.trans hnw2)

end Go.Proofs.YthbebnfhplacnaaGreat
