/- The program's calls of a function for all fillings. -/
import Derived.Test.YthbebnfhplacnaaGreatRows
import Derived.Test.YthbebnfhplacnaaGreatCore
import Derived.Test.YthbebnfhplacnaaGreatInfos
import Derived.Test.YthbebnfhplacnaaGreatPlains
import Derived.Test.YthbebnfhplacnaaGreatDrawT
import Derived.Test.YthbebnfhplacnaaGreatPlainFill
import Derived.Test.YthbebnfhplacnaaGreatMaps
import Derived.Test.YthbebnfhplacnaaGreatArrs
import Derived.Test.YthbebnfhplacnaaGreatGapsG
import Derived.Test.YthbebnfhplacnaaGreatIFilled
import Derived.Test.YthbebnfhplacnaaGreatIColG
import Derived.WalkKit
import Derived.WalkSpells
import Derived.WalkLawsBesides
import Derived.Deep.QuietTactic
import Derived.Deep.OwnRows
import Derived.BigQuiet
import Derived.KernelRfl
import Derived.Deep.RegionHeld3
import Derived.Laws.EntriesVeiled
namespace Go.Proofs.YthbebnfhplacnaaGreat
open Go.RowKit

theorem OwnInts.butD {S : Nat → Prop} {B E : Nat} {w w' : World} {v : Value} {xs : List Int} (h : OwnInts B E w v xs) (hb : But S w w') (hS : ∀ q, S q → q < B ∨ E ≤ q) : OwnInts B E w' v xs := by
  obtain ⟨A, c, rfl, hl, ha, hc⟩ := h
  refine ⟨A, c, rfl, hl, ha, fun i hi => ?_⟩
  obtain ⟨b, off, rfl, hx, hf⟩ := hc i hi
  have h1 := ha _ rfl
  have hn : ¬ S b := fun q => by have := hS _ q; simp only at h1; omega
  exact ⟨b, off, rfl, hb.cell hx hn, by rw [hb.frozen hx hn]; exact hf⟩
theorem mul_small {X n Y : Nat} (hY : Y = X * n) (h : Y ≤ 50000) : Go.RowKit.wrap64 ((X : Int) * (n : Int)) = (Y : Int) ∧ IntKind.i64.wrap ((X : Int) * (n : Int)) = (Y : Int) := by
  have hmul : (X : Int) * (n : Int) = ((Y : Nat) : Int) := by rw [hY]; simp
  rw [hmul]
  exact ⟨IntWalk.wrap64_in _ ⟨by omega, by omega⟩, IntWalk.i64_in _ (by omega)⟩
set_option maxRecDepth 20000 in
set_option maxHeartbeats 400000 in
theorem fillings_gen (v : Value) (p : Aut) (w0 w : World) (k : Nat) (cap : Array Value) (h : AutAt w0 v p) (hn0 : New w0 w) (hent : ∀ args w, Sem.run Tryz.prog (callFunc k args) w = .ok (.enter k args) w) (hf : PartFacts p)
    (S : Nat → Nat → Prop) (hS : ∀ sb q, w.heap.size < sb → S sb q → w0.heap.size ≤ q ∧ q ≠ w.heap.size ∧ q ≠ sb) (I : Nat → Nat → World → Prop) (go : Nat → Bool)
    (hI : ∀ sb n w1 w2, w.heap.size < sb → I sb n w1 → But (fun q => q = sb) w1 w2 → I sb n w2)
    (hstep : ∀ sb n wp w1 a, w.heap.size < sb → sb < wp.heap.size → New wp w1 → n < fillCount p → fillCount p ≤ 5000 → (∀ m, m < n → go m = true) → I sb n wp → OwnAut wp.heap.size w1.heap.size w1 a (fillN p n) → Calls Tryz.prog k (#[a] ++ cap) w1 fun e w2 => e = .returned (.bool (go n)) ∧ But (S sb) w1 w2 ∧ I sb (n + 1) w2)
    (h0 : ∀ sb, w.heap.size < sb → I sb 0 w) :
    Calls Tryz.prog 23 #[v, .func (.func k) #[] cap] w fun e w' => ∃ sb, w.heap.size < sb ∧ e = .returned (.bool (decide (fillCount p ≤ 5000))) ∧ But (S sb) w w' ∧ (5000 < fillCount p → I sb 0 w') ∧ (fillCount p ≤ 5000 → ∃ N, N ≤ fillCount p ∧ I sb N w' ∧ (∀ m, m + 1 < N → go m = true) ∧ (N < fillCount p → 0 < N ∧ go (N - 1) = false)) := by
  obtain ⟨rv, rfl, hr⟩ := h
  obtain ⟨A, c, rfl⟩ := hr.form
  have h1 : AutAt w0 (.agg #[.int .i64 p.n, .slice A p.nx.length c]) p := ⟨_, rfl, hr⟩
  obtain ⟨n, hnn⟩ : ∃ n : Nat, p.n = (n : Int) := ⟨p.n.toNat, by have := hf.n1; omega⟩
  have hn1 : 1 ≤ n := by have := hf.n1; omega
  have hn10 : n ≤ 10 := by have := hf.n10; omega
  obtain ⟨wb, hwb⟩ : ∃ wb, wb = w.alloc (.cells #[.int .i64 p.n, .slice A p.nx.length c] 26) := ⟨_, rfl⟩
  have hnb : New w wb := by rw [hwb]; exact (by repeat (first | with_reducible exact New.refl _ | with_reducible assumption | with_reducible refine New.alloc ?_ _ | with_reducible refine New.drewN ?_ _ | with_reducible refine New.drew ?_ | with_reducible refine New.trans ?_ (by with_reducible assumption)))
  have hb0 : wb.cell? ⟨w.heap.size, 0, none⟩ = some (.int .i64 n) := by rw [hwb, hnn]; go_simp
  have hb1 : wb.cell? ⟨w.heap.size, 1, none⟩ = some (.slice A p.nx.length c) := by rw [hwb]; go_simp
  have C1 := gaps_any _ p wb (h1.new (hn0.trans hnb)) hf.l3 (fun i hi => by have := hf.row i hi; have := hf.n10; omega)
  have hgl := gaps_len hf
  have hcnt : fillCount p = n ^ (gapsOf p.nx).length := by unfold fillCount; rw [hnn]; rfl
  have HFI := hid (fun (w1 : World) sv (N : Nat) (ha : AutAt w1 (.agg #[.int .i64 p.n, .slice A p.nx.length c]) p) (hs : IntsAt w1 sv (digits p.n.toNat (gapsOf p.nx).length N)) => filled_any _ sv p (digits p.n.toNat (gapsOf p.nx).length N) w1 ha hs hf (digits_len _ _ _))
  have hfn : ∀ N, (⟨p.n, fillOf p.nx (digits p.n.toNat (gapsOf p.nx).length N)⟩ : Aut) = fillN p N := fun _ => rfl
  rw [hnn, Int.toNat_natCast] at HFI hfn
  simp only [hfn] at HFI
  clear hfn
  obtain ⟨GS, hGS⟩ : ∃ z, z = gapsOf p.nx := ⟨_, rfl⟩
  rw [← hGS] at C1 hgl hcnt HFI
  have hmk := fun w => run_make_row' (P := Tryz.prog) 34 2 (.int .i64 0) 8 Tryz.underlying34 info_i64 rfl .i64 .i64 GS.length (by omega) (by omega) w
  obtain ⟨CC, hCC⟩ : ∃ z, z = fillCount p := ⟨_, rfl⟩
  rw [← hCC] at hstep hcnt ⊢
  have HI := hid hI
  have HST := hid hstep
  have HCN := hid hcnt
  rw [hnn]
  clear hI hstep hGS hCC hf hcnt
  go_enter Tryz.func23, Tryz.ntmps23
  go_wp2_with fail
  rw [← hnn, ← hwb]
  clear hwb
  go_wp2_with fail
  refine C1.mono ?_
  rintro e w1 ⟨gv, rfl, hn1w, hgp, _⟩
  obtain ⟨AG, cG, rfl⟩ := hgp.form
  have hn2 := hnb.trans hn1w
  have z0 := hn1w.cell hb0
  have z1 := hn1w.cell hb1
  clear hgp C1
  have hrow0 := OwnInts.made w1 GS.length 2 (by omega)
  obtain ⟨wm, hwm⟩ : ∃ wm, wm = w1.alloc (.cells (madeCells #[.int .i64 0] GS.length) 2) := ⟨_, rfl⟩
  rw [← hwm] at hrow0
  have hnm : New w1 wm := by rw [hwm]; exact (by repeat (first | with_reducible exact New.refl _ | with_reducible assumption | with_reducible refine New.alloc ?_ _ | with_reducible refine New.drewN ?_ _ | with_reducible refine New.drew ?_ | with_reducible refine New.trans ?_ (by with_reducible assumption)))
  have hzm : wm.heap.size = w1.heap.size + 1 := by rw [hwm]; simp only [size_alloc]
  have HZM := hid hzm
  obtain ⟨sb, hsb⟩ : ∃ sb, sb = w1.heap.size := ⟨_, rfl⟩
  have hsbw : w.heap.size < sb := by have := World.block_lt_of_cell? _ _ z0; simp only at this; omega
  go_wp2_with fail
  rw [← hwm]
  rw [← hsb]
  rw [← hsb] at hrow0 HZM
  have HSB := hid hsb
  have hsb1 : sb < wm.heap.size := by have := HZM.out; omega
  clear hmk hwm hzm hsb
  have y0 := hnm.cell z0
  have y1 := hnm.cell z1
  have hNM : New w wm := hn2.trans hnm
  go_loopw [6, 14] (fun mv i wr => ∃ j : Nat, j ≤ GS.length ∧ i = .int .i64 j ∧ mv = .int .i64 (n ^ j : Nat) ∧ wr = wm ∧ Hid (n ^ j ≤ 5000)) (fun _ i _ => GS.length - (intOf i).toNat)
  case atStart => exact ⟨0, Nat.zero_le _, rfl, by simp, rfl, hid (by simp)⟩
  case round =>
    obtain ⟨j, hj, rfl, rfl, hwr, hb⟩ := hrel
    obtain rfl : wm = wr := hwr.symm
    clear hwr
    have HSU := hid (Nat.pow_succ n j)
    obtain ⟨X, hX⟩ : ∃ X, X = n ^ j := ⟨_, rfl⟩
    rw [← hX] at hb HSU ⊢
    have hb' := hb.out
    by_cases hlt : j < GS.length
    · have b1 : (j : Int) < (GS.length : Int) := by omega
      have HMO := hid (Nat.pow_le_pow_right (n := n) hn1 (show j + 1 ≤ GS.length from hlt))
      have key : X * n ≤ 50000 := Nat.mul_le_mul hb' hn10
      obtain ⟨Y, hY⟩ : ∃ Y, Y = X * n := ⟨_, rfl⟩
      rw [← hY] at key HSU
      rw [HSU.out] at HMO
      obtain ⟨hw1, hw2⟩ := mul_small hY key
      clear hX hY hb'
      by_cases h5 : 5000 < Y
      · have b5 : (5000 : Int) < (Y : Int) := by omega
        have HMO2 := HMO.out
        go_wp2_with fail
        go_ret
        have hgt : 5000 < CC := by rw [HCN.out]; omega
        refine ⟨sb, hsbw, by simp; omega, But.of_new hNM, fun _ => HI.out sb 0 w _ hsbw (h0 sb hsbw) (But.of_new hNM), fun h => absurd h (by omega)⟩
      · have b5 : ¬ (5000 : Int) < (Y : Int) := by omega
        go_wp2_with fail
        exact ⟨⟨j + 1, by omega, by go_num, by congr 1; rw [HSU.out], by trivial, by rw [HSU.out]; exact hid (by omega)⟩, by simp [intOf]; omega⟩
    · have e : j = GS.length := by omega
      have hCX : CC = X := by rw [HCN.out, hX, e]
      have HCX := hid hCX
      subst e
      clear hX
      go_wp2_with fail
      have hTB : ∀ q, (S sb q ∨ q = sb) → w0.heap.size ≤ q := fun q hq => by
        have hz0 := hn0.size
        rcases hq with hq | hq
        · exact (hS sb q hsbw hq).1
        · omega
      have HRV := hid (show ∀ w1, But (fun q => S sb q ∨ q = sb) wm w1 → RowsAt w1 (.slice A p.nx.length c) p.nx from fun w1 hb => hr.solidOld (hn0.trans hNM) hTB w1 hb)
      have HY := hid (show ∀ w1, But (fun q => S sb q ∨ q = sb) wm w1 → w1.cell? ⟨w.heap.size, 0, none⟩ = some (.int .i64 n) ∧ w1.cell? ⟨w.heap.size, 1, none⟩ = some (.slice A p.nx.length c) from fun w1 hb => by
        have hno : ¬ (S sb w.heap.size ∨ w.heap.size = sb) := fun hq => by
          rcases hq with hq | hq
          · exact (hS sb _ hsbw hq).2.1 rfl
          · omega
        exact ⟨hb.cell y0 hno, hb.cell y1 hno⟩)
      have h00 := HI.out sb 0 w _ hsbw (h0 sb hsbw) (But.of_new hNM)
      have hSb : ∀ q, S sb q → q < sb ∨ sb + 1 ≤ q := fun q hq => by have := (hS sb q hsbw hq).2.2; omega
      have HLE := hid (show CC ≤ 5000 by rw [hCX]; omega)
      have HFB := hid (show ∀ w', But (fun q => S sb q ∨ q = sb) wm w' → But (S sb) w w' from fun w' hb => (But.of_new (S := S sb) hNM).trans hb (fun q hq => by
        rcases hq with hq | hq
        · exact Or.inl hq
        · exact Or.inr (by omega)))
      clear hCX
      go_loopw [24] (fun i wr => ∃ N : Nat, N ≤ X ∧ i = .int .i64 N ∧ But (fun q => S sb q ∨ q = sb) wm wr ∧ I sb N wr ∧ OwnInts sb (sb + 1) wr (.slice (some ⟨sb, 0, none⟩) GS.length GS.length) (digits n GS.length N) ∧ Hid (∀ m, m < N → go m = true)) (fun i _ => X - (intOf i).toNat)
      case atStart => exact ⟨0, Nat.zero_le _, rfl, But.refl, h00, by rw [digits_zero]; exact hrow0, hid (fun m hm => by omega)⟩
      case round =>
        obtain ⟨N, hN, rfl, hbt, hIN, hOw, hgo⟩ := hrel
        obtain ⟨wo, rfl⟩ : ∃ wo : World, wo = wr := ⟨_, rfl⟩
        clear hrow0 h00
        obtain ⟨q0, q1⟩ := HY.out _ hbt
        by_cases hlt2 : N < X
        · have b2 : (N : Int) < (X : Int) := by omega
          have hRo := HRV.out _ hbt
          have hAo : AutAt wo (.agg #[.int .i64 n, .slice A p.nx.length c]) p := ⟨_, by rw [hnn], hRo⟩
          have HF2 := hid (HFI.out wo _ N hAo hOw.at)
          have hzo : sb < wo.heap.size := by have := hbt.size; have := HZM.out; omega
          cases hg : go N with
          | true =>
            have HG := hid hg
            have HSTn := hid (fun w1 a (hm : New wo w1) (ho : OwnAut wo.heap.size w1.heap.size w1 a (fillN p N)) => HST.out sb N wo w1 a hsbw hzo hm (by rw [HCX.out]; exact hlt2) HLE.out hgo.out hIN ho)
            rw [hg] at HSTn
            clear hg
            go_wp2_with (first
              | (go_at_call 42; refine HF2.out.mono ?_; rintro e w5 ⟨r5, rfl, hn5, ho5⟩)
              | (refine (HSTn.out _ _ hn5 ho5).mono ?_; rintro e w7 ⟨rfl, hb7, hI7⟩))
            have hO7 := (hOw.new hn5).butD hb7 hSb
            have hbt7 : But (fun q => S sb q ∨ q = sb) wm w7 := (hbt.trans (But.of_new (S := fun q => S sb q ∨ q = sb) hn5) (fun q hq => Or.inl hq)).trans hb7 (fun q hq => Or.inl (Or.inl hq))
            have hgo2 := hid (show ∀ m, m < N + 1 → go m = true from fun m hm => by
              rcases Nat.lt_succ_iff_lt_or_eq.1 hm with q | q
              · exact hgo.out m q
              · subst q; exact HG.out)
            have HB7 := hid hbt7
            have HBRK := hid (fun t ht hd hlt => dig_break (n := n) (m := GS.length) (N := N) (t := t) (by omega) ht hd hlt)
            have HCAR := hid (fun t ht hd hlt => dig_carry (n := n) (m := GS.length) (N := N) (t := t) (by omega) ht hd hlt)
            have HOV := hid (fun hd => dig_over (n := n) (m := GS.length) (N := N) (by omega) hd)
            have HDL := hid (fun t => digHead_len n GS.length N t)
            have HND := hid (fun t i hi => nth_digHead n GS.length N t i hi)
            have hL30 : (GS.length : Int) ≤ 30 := by omega
            have HQ7 := hid (show w7.cell? ⟨w.heap.size, 0, none⟩ = some (.int .i64 n) from (HY.out _ hbt7).1)
            have HEND := hid (show ∀ w', But (fun q => q = sb) w7 w' → OwnInts sb (sb + 1) w' (.slice (some ⟨sb, 0, none⟩) GS.length GS.length) (digits n GS.length (N + 1)) → But (fun q => S sb q ∨ q = sb) wm w' ∧ I sb (N + 1) w' ∧ OwnInts sb (sb + 1) w' (.slice (some ⟨sb, 0, none⟩) GS.length GS.length) (digits n GS.length (N + 1)) ∧ Hid (∀ m, m < N + 1 → go m = true) from fun w' hb ho =>
              ⟨hbt7.trans hb (fun q hq => Or.inl (Or.inr hq)), HI.out sb (N + 1) w7 w' (by omega) hI7 hb, ho, hgo2⟩)
            clear hbt hIN hOw hgo hn5 hb7 ho5 hbt7
            go_loopw [7] (fun i wr => ∃ t : Nat, t ≤ GS.length ∧ i = .int .i64 ((GS.length : Int) - 1 - t) ∧ But (fun q => q = sb) w7 wr ∧ OwnInts sb (sb + 1) wr (.slice (some ⟨sb, 0, none⟩) GS.length GS.length) (digHead n GS.length N t) ∧ Hid (n ^ t ∣ N + 1)) (fun i _ => (intOf i + 1).toNat)
            case atStart => exact ⟨0, Nat.zero_le _, by simp, But.refl, by rw [digHead_zero]; exact hO7, hid (by simp)⟩
            case round =>
              obtain ⟨t, ht, rfl, hbu, hOu, hdv⟩ := hrel
              clear hO7
              obtain ⟨wu, rfl⟩ : ∃ wu : World, wu = wr := ⟨_, rfl⟩
              by_cases hlt3 : t < GS.length
              · have b3 : (0 : Int) ≤ (GS.length : Int) - 1 - t := by omega
                obtain ⟨j, hj⟩ : ∃ j : Nat, (GS.length : Int) - 1 - t = (j : Int) := ⟨GS.length - 1 - t, by omega⟩
                have hjt : j = GS.length - 1 - t := by omega
                rw [hj] at b3 ⊢
                have b4 : (j : Int) < (GS.length : Int) := by omega
                obtain ⟨D, hD⟩ : ∃ D, D = N / n ^ t % n := ⟨_, rfl⟩
                have hDl : D < n := by rw [hD]; exact Nat.mod_lt _ (by omega)
                have hnd : nth (digHead n GS.length N t) j = (D : Int) := by
                  rw [HND.out t j (by omega), if_neg (by omega), hD]
                  unfold digAt
                  rw [show GS.length - 1 - j = t by omega]
                have hdl := HDL.out t
                obtain ⟨v0, v1⟩ := hOu.cell_at j (by omega)
                rw [hnd, Nat.zero_add] at v0
                rw [Nat.zero_add] at v1
                have hset := hOu.set j (by omega)
                rw [Nat.zero_add] at hset
                have HSET := hid hset
                have hwD : IntKind.i64.wrap ((D : Int) + 1) = (D : Int) + 1 := IntWalk.i64_in _ (by omega)
                have hqz := hbu.cell HQ7.out (by show ¬ w.heap.size = sb; omega)
                have HBU := hid hbu
                have HOU := hid hOu
                have HJT := hid hjt
                have HJ := hid hj
                have HD := hid hD
                have hqs : (wu.setCell ⟨sb, j, none⟩ (.int .i64 ((D : Int) + 1))).cell? ⟨w.heap.size, 0, none⟩ = some (.int .i64 n) := by
                  rw [World.cell?_setCell_other _ _ _ _ (fun e => by injection e with e; omega)]; exact hqz
                have hqj : (wu.setCell ⟨sb, j, none⟩ (.int .i64 ((D : Int) + 1))).cell? ⟨sb, j, none⟩ = some (.int .i64 ((D : Int) + 1)) := World.cell?_setCell_same _ _ _ v0
                have hqf : (wu.setCell ⟨sb, j, none⟩ (.int .i64 ((D : Int) + 1))).frozen? ⟨sb, j, none⟩ = false := by simpa using v1
                clear hnd hset hbu hOu hjt hj hD hdl
                by_cases hbr : (D : Int) + 1 < (n : Int)
                · go_wp2_with fail
                  have hov := HSET.out ((D : Int) + 1)
                  have hbv : But (fun q => q = sb) w7 (wu.setCell ⟨sb, j, none⟩ (.int .i64 ((D : Int) + 1))) := HBU.out.trans (But.setCell (S := fun q => q = sb) ⟨sb, j, none⟩ _ rfl) (fun q hq => Or.inl hq)
                  have HOV2 := hid hov
                  have HBV := hid hbv
                  clear hov hbv
                  generalize (wu.setCell ⟨sb, j, none⟩ (.int .i64 ((D : Int) + 1))) = wv at hqs hqj hqf HOV2 HBV ⊢
                  go_region_held3 (fun w' => w'.cell? ⟨sb, j, none⟩ = some (.int .i64 ((D : Int) + 1)) ∧ w'.cell? ⟨w.heap.size, 0, none⟩ = some (.int .i64 n))
                    (first | exact ⟨hqj, hqs⟩ | go_keep) (fail)
                  go_wp2_with fail
                  have hov := HOV2.out
                  rw [HJT.out, HD.out, HBRK.out t hlt3 hdv.out (by rw [← HD.out]; omega)] at hov
                  obtain ⟨e1, e2, e3, e4⟩ := HEND.out _ (HBV.out.trans (But.of_new (S := fun q => q = sb) (show New wv wv.drew from (by repeat (first | with_reducible exact New.refl _ | with_reducible assumption | with_reducible refine New.alloc ?_ _ | with_reducible refine New.drewN ?_ _ | with_reducible refine New.drew ?_ | with_reducible refine New.trans ?_ (by with_reducible assumption))))) (fun q hq => Or.inl hq)) (hov.new (by repeat (first | with_reducible exact New.refl _ | with_reducible assumption | with_reducible refine New.alloc ?_ _ | with_reducible refine New.drewN ?_ _ | with_reducible refine New.drew ?_ | with_reducible refine New.trans ?_ (by with_reducible assumption))))
                  exact ⟨⟨N + 1, by omega, by go_num, e1, e2, e3, e4⟩, by simp [intOf]; omega⟩
                · have hov := HSET.out ((D : Int) + 1)
                  have hbv : But (fun q => q = sb) w7 (wu.setCell ⟨sb, j, none⟩ (.int .i64 ((D : Int) + 1))) := HBU.out.trans (But.setCell (S := fun q => q = sb) ⟨sb, j, none⟩ _ rfl) (fun q hq => Or.inl hq)
                  have HOV2 := hid hov
                  have HBV := hid hbv
                  clear hov hbv
                  go_wp2_with fail
                  generalize (wu.setCell ⟨sb, j, none⟩ (.int .i64 ((D : Int) + 1))) = wv at hqs hqj hqf HOV2 HBV ⊢
                  go_region_held3 (fun w' => w'.cell? ⟨sb, j, none⟩ = some (.int .i64 ((D : Int) + 1)) ∧ w'.cell? ⟨w.heap.size, 0, none⟩ = some (.int .i64 n))
                    (first | exact ⟨hqj, hqs⟩ | go_keep) (fail)
                  go_wp2_with fail
                  obtain ⟨k1, k2⟩ := HCAR.out t hlt3 hdv.out (by rw [← HD.out]; omega)
                  have hov := (HOV2.out.new (show New wv wv.drew from (by repeat (first | with_reducible exact New.refl _ | with_reducible assumption | with_reducible refine New.alloc ?_ _ | with_reducible refine New.drewN ?_ _ | with_reducible refine New.drew ?_ | with_reducible refine New.trans ?_ (by with_reducible assumption))))).set j (by rw [List.length_set, HDL.out]; omega) 0
                  rw [Nat.zero_add, List.set_set, HJT.out, k1, ← HJT.out] at hov
                  refine ⟨⟨t + 1, by omega, ?_, ?_, hov, hid k2⟩, ?_⟩
                  · have := HJ.out; congr 1; omega
                  · exact (HBV.out.trans (But.of_new (S := fun q => q = sb) (show New wv wv.drew from (by repeat (first | with_reducible exact New.refl _ | with_reducible assumption | with_reducible refine New.alloc ?_ _ | with_reducible refine New.drewN ?_ _ | with_reducible refine New.drew ?_ | with_reducible refine New.trans ?_ (by with_reducible assumption))))) (fun q hq => Or.inl hq)).trans (But.setCell (S := fun q => q = sb) ⟨sb, j, none⟩ _ rfl) (fun q hq => Or.inl hq)
                  · have := HJ.out; simp only [intOf]; omega
              · have e : t = GS.length := by omega
                have b3 : ¬ (0 : Int) ≤ (GS.length : Int) - 1 - t := by omega
                go_wp2_with fail
                obtain ⟨e1, e2, e3, e4⟩ := HEND.out wu hbu (by rw [← HOV.out (by rw [← e]; exact hdv.out)]; rw [e] at hOu; exact hOu)
                exact ⟨⟨N + 1, by omega, by go_num, e1, e2, e3, e4⟩, by simp [intOf]; omega⟩
          | false =>
            have HG := hid hg
            have HSTn := hid (fun w1 a (hm : New wo w1) (ho : OwnAut wo.heap.size w1.heap.size w1 a (fillN p N)) => HST.out sb N wo w1 a hsbw hzo hm (by rw [HCX.out]; exact hlt2) HLE.out hgo.out hIN ho)
            rw [hg] at HSTn
            clear hg
            go_wp2_with (first
              | (go_at_call 42; refine HF2.out.mono ?_; rintro e w5 ⟨r5, rfl, hn5, ho5⟩)
              | (refine (HSTn.out _ _ hn5 ho5).mono ?_; rintro e w7 ⟨rfl, hb7, hI7⟩))
            go_ret
            have hbt7 : But (fun q => S sb q ∨ q = sb) wm w7 := (hbt.trans (But.of_new (S := fun q => S sb q ∨ q = sb) hn5) (fun q hq => Or.inl hq)).trans hb7 (fun q hq => Or.inl (Or.inl hq))
            exact ⟨sb, hsbw, by simp; exact HLE.out, HFB.out _ hbt7, fun h => absurd HLE.out (by omega), fun _ => ⟨N + 1, by rw [HCX.out]; omega, hI7, fun m hm => hgo.out m (by omega), fun _ => ⟨by omega, by rw [Nat.add_sub_cancel]; exact HG.out⟩⟩⟩
        · have e : N = X := by omega
          have b2 : ¬ (N : Int) < (X : Int) := by omega
          subst e
          go_wp2_with fail
          go_ret
          exact ⟨sb, hsbw, by simp; exact HLE.out, HFB.out _ hbt, fun h => absurd HLE.out (by omega), fun _ => ⟨N, by rw [HCX.out]; omega, hIN, fun m hm => hgo.out m (by omega), fun h => absurd h (by rw [HCX.out]; omega)⟩⟩
theorem fillings_any (v : Value) (p : Aut) (w0 w : World) (k : Nat) (cap : Array Value) (h : AutAt w0 v p) (hn0 : New w0 w) (hent : ∀ args w, Sem.run Tryz.prog (callFunc k args) w = .ok (.enter k args) w) (hf : PartFacts p)
    (S : Nat → Prop) (hS : ∀ q, S q → w0.heap.size ≤ q ∧ q < w.heap.size) (I : Nat → Nat → World → Prop) (go : Nat → Bool)
    (hI : ∀ sb n w1 w2, w.heap.size ≤ sb → I sb n w1 → But (fun q => q = sb) w1 w2 → I sb n w2)
    (hstep : ∀ sb n w1 B a, w.heap.size ≤ sb → sb < B → n < fillCount p → (∀ m, m < n → go m = true) → I sb n w1 → OwnAut B w1.heap.size w1 a (fillN p n) → Calls Tryz.prog k (#[a] ++ cap) w1 fun e w2 => e = .returned (.bool (go n)) ∧ But S w1 w2 ∧ I sb (n + 1) w2)
    (h0 : ∀ sb, w.heap.size ≤ sb → I sb 0 w) :
    Calls Tryz.prog 23 #[v, .func (.func k) #[] cap] w fun e w' => ∃ sb, w.heap.size ≤ sb ∧ e = .returned (.bool (decide (fillCount p ≤ 5000))) ∧ But S w w' ∧ (5000 < fillCount p → I sb 0 w') ∧ (fillCount p ≤ 5000 → ∃ N, N ≤ fillCount p ∧ I sb N w' ∧ (∀ m, m + 1 < N → go m = true) ∧ (N < fillCount p → 0 < N ∧ go (N - 1) = false)) :=
  (fillings_gen v p w0 w k cap h hn0 hent hf (fun _ => S) (fun sb q hsb hq => by have := hS q hq; omega) I go (fun sb n w1 w2 hsb => hI sb n w1 w2 (by omega))
    (fun sb n wp w1 a hsb hsz hnw hn _ hgo hi ho => hstep sb n w1 wp.heap.size a (by omega) hsz hn hgo (hI sb n wp w1 (by omega) hi (But.of_new hnw)) ho) (fun sb hsb => h0 sb (by omega))).mono fun _ _ ⟨sb, q1, q2, q3, q4, q5⟩ => ⟨sb, by omega, q2, q3, q4, q5⟩

end Go.Proofs.YthbebnfhplacnaaGreat
