/- The reference's first filling that has a reset word. -/
import Derived.Test.YthbebnfhplacnaaRows
import Derived.Test.YthbebnfhplacnaaCore
import Derived.Test.YthbebnfhplacnaaInfos
import Derived.Test.YthbebnfhplacnaaPlains
import Derived.Test.YthbebnfhplacnaaDrawT
import Derived.Test.YthbebnfhplacnaaPlainReset
import Derived.Test.YthbebnfhplacnaaPlainFill
import Derived.Test.YthbebnfhplacnaaMaps
import Derived.Test.YthbebnfhplacnaaArrs
import Derived.Test.YthbebnfhplacnaaSBase
import Derived.Test.YthbebnfhplacnaaS04a
import Derived.Test.YthbebnfhplacnaaSShort
import Derived.Test.YthbebnfhplacnaaGrowG
import Derived.Test.YthbebnfhplacnaaIGaps
import Derived.Test.YthbebnfhplacnaaSGaps
import Derived.Test.YthbebnfhplacnaaSFill
import Derived.Test.YthbebnfhplacnaaIAt
import Derived.Test.YthbebnfhplacnaaIFills
import Derived.WalkKit
import Derived.WalkSpells
import Derived.WalkLawsBesides
import Derived.Deep.QuietTactic
import Derived.Deep.OwnRows
import Derived.BigQuiet
import Derived.KernelRfl
import Derived.Deep.RegionHeld3
import Derived.Carry
namespace Go.Proofs.Ythbebnfhplacnaa
open Go.RowKit

theorem rem_nat {X n : Nat} (_hn : 0 < n) : Int.tmod (X : Int) (n : Int) = ((X % n : Nat) : Int) := by rw [Int.tmod_eq_emod_of_nonneg (by omega)]; rfl
theorem quo_nat {X n : Nat} (_hn : 0 < n) : Int.tdiv (X : Int) (n : Int) = ((X / n : Nat) : Int) := by rw [Int.tdiv_eq_ediv_of_nonneg (by omega)]; rfl
set_option maxRecDepth 20000 in
set_option maxHeartbeats 400000 in
theorem l04Filling_any (v : Value) (p : Aut) (N : Nat) (w : World) (h : PAut w v p) (hf : PartFacts p) (hN : N ≤ 1000000) :
    Calls Try.prog 16 #[v, .int .i64 (N : Nat)] w fun e w' => ∃ r, e = .returned r ∧ New w w' ∧ OwnAut w.heap.size w'.heap.size w' r (fillN p N) := by
  have C1 := fun w1 (hn : New w w1) => l04Gaps_any v p w1 (h.new hn) hf.l3 (fun i hi => by have := hf.row i hi; have := hf.n10; omega)
  have HFI := hid (fun w1 sv (hn : New w w1) (hs : IntsAt w1 sv (digits p.n.toNat (gapsOf p.nx).length N)) => l04Fill_any v sv p (digits p.n.toNat (gapsOf p.nx).length N) w1 (h.new hn) hs hf (digits_len _ _ _))
  have hfn : (⟨p.n, fillOf p.nx (digits p.n.toNat (gapsOf p.nx).length N)⟩ : Aut) = fillN p N := rfl
  simp only [hfn] at HFI
  have hgl := gaps_len hf
  obtain ⟨n, hnn⟩ : ∃ n : Nat, p.n = (n : Int) := ⟨p.n.toNat, by have := hf.n1; omega⟩
  have hn1 : 1 ≤ n := by have := hf.n1; omega
  have hn10 : n ≤ 10 := by have := hf.n10; omega
  obtain ⟨pb, rv, rfl, hp0, hp1, hr⟩ := h
  rw [hnn] at hp0
  rw [hnn, Int.toNat_natCast] at HFI
  obtain ⟨wb, hwb⟩ : ∃ wb, wb = w.alloc (.cells #[.int .i64 0, .slice none 0 0] 41) := ⟨_, rfl⟩
  have hnb : New w wb := by rw [hwb]; exact (by repeat (first | with_reducible exact New.refl _ | with_reducible assumption | with_reducible refine New.alloc ?_ _ | with_reducible refine New.drewN ?_ _ | with_reducible refine New.drew ?_ | with_reducible refine New.trans ?_ (by with_reducible assumption)))
  have hR : Box2 wb w.heap.size (.int .i64 0) (.slice none 0 0) := by rw [hwb]; exact ⟨by go_simp, by go_simp, by go_simp, by go_simp⟩
  have hzb2 : w.heap.size < wb.heap.size := by rw [hwb]; simp only [size_alloc]; omega
  have C2 := C1 wb hnb
  obtain ⟨GS, hGS⟩ : ∃ z, z = gapsOf p.nx := ⟨_, rfl⟩
  rw [← hGS] at C2 HFI hgl
  have hmk := fun w => run_make_row' (P := Try.prog) 26 2 (.int .i64 0) 8 Try.underlying26 info_i64 rfl .i64 .i64 GS.length (by omega) (by omega) w
  have HNN := hid hnn
  clear C1 hf hGS hnn hfn
  go_enter Try.func16, Try.ntmps16
  go_wp2_with fail
  rw [← hwb]
  clear hwb
  refine C2.mono ?_
  rintro e w1 ⟨gv, rfl, hn1w, hgp, _⟩
  obtain ⟨AG, cG, rfl⟩ := hgp.form
  have hN1 := hnb.trans hn1w
  have hR1 := hR.new hn1w
  have hz1 := hn1w.size
  clear hgp C2
  have hrow0 := OwnInts.made w1 GS.length 2 (by omega)
  obtain ⟨wm, hwm⟩ : ∃ wm, wm = w1.alloc (.cells (madeCells #[.int .i64 0] GS.length) 2) := ⟨_, rfl⟩
  rw [← hwm] at hrow0
  have hnm : New w1 wm := by rw [hwm]; exact (by repeat (first | with_reducible exact New.refl _ | with_reducible assumption | with_reducible refine New.alloc ?_ _ | with_reducible refine New.drewN ?_ _ | with_reducible refine New.drew ?_ | with_reducible refine New.trans ?_ (by with_reducible assumption)))
  have hzm : wm.heap.size = w1.heap.size + 1 := by rw [hwm]; simp only [size_alloc]
  have HZM := hid hzm
  obtain ⟨sb, hsb⟩ : ∃ sb, sb = w1.heap.size := ⟨_, rfl⟩
  have hsbw : w.heap.size < sb := by omega
  go_wp2_with fail
  rw [← hwm, ← hsb]
  rw [← hsb] at hrow0 HZM
  have hNM := hN1.trans hnm
  have hpm := hNM.cell hp0
  have hRm := hR1.new hnm
  have hpl : pb < w.heap.size := World.block_lt_of_cell? w _ hp0
  have HSB := hid hsb
  clear hmk hwm hzm hsb hz1 hR hR1
  go_loopw [1, 6] (fun nv i wr => ∃ t : Nat, t ≤ GS.length ∧ i = .int .i64 ((GS.length : Int) - 1 - t) ∧ nv = .int .i64 (N / n ^ t : Nat) ∧ But (fun q => q = sb) wm wr ∧ OwnInts sb (sb + 1) wr (.slice (some ⟨sb, 0, none⟩) GS.length GS.length) (digTail n GS.length N t)) (fun _ i _ => (intOf i + 1).toNat)
  case atStart => exact ⟨0, Nat.zero_le _, by simp, by simp, But.refl, by rw [digTail_zero]; exact hrow0⟩
  case round =>
    obtain ⟨t, ht, rfl, rfl, hbu, hOu⟩ := hrel
    clear hrow0
    obtain ⟨wu, rfl⟩ : ∃ wu : World, wu = wr := ⟨_, rfl⟩
    have hpu := hbu.cell hpm (by show ¬ pb = sb; omega)
    by_cases hlt : t < GS.length
    · obtain ⟨j, hj⟩ : ∃ j : Nat, (GS.length : Int) - 1 - t = (j : Int) := ⟨GS.length - 1 - t, by omega⟩
      have hjt : j = GS.length - 1 - t := by omega
      rw [hj]
      have b3 : (0 : Int) ≤ (j : Int) := by omega
      have b4 : (j : Int) < (GS.length : Int) := by omega
      have HX1 := hid (show N / n ^ (t + 1) = N / n ^ t / n by rw [Nat.pow_succ, Nat.div_div_eq_div_mul])
      have HX2 := hid (digTail_step n GS.length N t hlt)
      have hXN : N / n ^ t ≤ N := Nat.div_le_self _ _
      obtain ⟨X, hX⟩ : ∃ X, X = N / n ^ t := ⟨_, rfl⟩
      rw [← hX] at HX1 HX2 hXN ⊢
      have hrem := rem_nat (X := X) (n := n) (by omega)
      have hquo := quo_nat (X := X) (n := n) (by omega)
      have hXq : X / n ≤ X := Nat.div_le_self _ _
      obtain ⟨D, hD⟩ : ∃ D, D = X % n := ⟨_, rfl⟩
      obtain ⟨Y, hY⟩ : ∃ Y, Y = X / n := ⟨_, rfl⟩
      rw [← hD] at hrem HX2
      rw [← hY] at hquo HX1 hXq
      have hne : ¬ (n : Int) = 0 := by omega
      have hne2 : ¬ n = 0 := by omega
      have hwY : IntKind.i64.wrap (Y : Int) = (Y : Int) := IntWalk.i64_in _ (by omega)
      obtain ⟨v0, v1⟩ := hOu.cell_at j (by rw [digTail_len]; omega)
      rw [Nat.zero_add] at v0 v1
      have hset := hOu.set j (by rw [digTail_len]; omega)
      rw [Nat.zero_add] at hset
      have HSET := hid hset
      have HJ := hid hj
      have HJT := hid hjt
      have hps : (wu.setCell ⟨sb, j, none⟩ (.int .i64 D)).cell? ⟨pb, 0, none⟩ = some (.int .i64 n) := by
        rw [World.cell?_setCell_other _ _ _ _ (fun e => by injection e with e; omega)]; exact hpu
      clear hset hj hjt hX hD hY hOu
      go_wp2_with fail
      refine ⟨⟨t + 1, by omega, ?_, ?_, hbu.trans (But.setCell (S := fun q => q = sb) ⟨sb, j, none⟩ _ rfl) (fun q hq => Or.inl hq), by rw [HX2.out, ← HJT.out]; exact HSET.out D⟩, ?_⟩
      · have := HJ.out; congr 1; omega
      · congr 1; rw [HX1.out]
      · have := HJ.out; simp only [intOf]; omega
    · have e : t = GS.length := by omega
      have b3 : ¬ (0 : Int) ≤ (GS.length : Int) - 1 - t := by omega
      rw [e, digTail_all] at hOu
      have hNu := But.new hNM hbu (fun q hq => by omega)
      have HC := hid (HFI.out wu _ hNu hOu.at)
      have hRu := (hRm.within hbu.within1 (Or.inl (by omega)))
      have hzu : w.heap.size + 1 ≤ wu.heap.size := by have := hRu.lt; omega
      clear e
      go_wp2_with fail
      refine HC.out.mono ?_
      rintro e w5 ⟨r5, rfl, hn5, ho5⟩
      obtain ⟨rv5, rfl, ho6⟩ := ho5
      obtain ⟨A5, c5, rfl⟩ := ho6.form
      have hR5 := hRu.new hn5
      obtain ⟨y0, y1, yf0, yf1⟩ := id hR5
      obtain ⟨FN, hFN⟩ : ∃ z, z = fillN p N := ⟨_, rfl⟩
      rw [← hFN] at ho6 ⊢
      have HFN := hid hFN
      obtain ⟨t0, t1, _, _⟩ := hR5.fill (.int .i64 FN.n) (.slice A5 FN.nx.length c5)
      have HWF := hid (Within.fill w5 w.heap.size (.int .i64 FN.n) (.slice A5 FN.nx.length c5))
      have HO6 := hid ho6
      clear ho6 hFN hR5 hOu
      go_wp2_with fail
      refine bodyPost_ret (v := .agg #[.int .i64 FN.n, .slice A5 FN.nx.length c5]) (by simp [results, Try.results16, go_sem, t0, t1]) rfl ?_
      rw [← HFN.out]
      exact ⟨_, rfl, (hNu.trans hn5).within HWF.out (Nat.le_refl _), ⟨_, rfl, (HO6.out.within HWF.out (Or.inr (by omega))).widen (by omega) (by have := HWF.out.2.2.2.1; omega)⟩⟩

end Go.Proofs.Ythbebnfhplacnaa
