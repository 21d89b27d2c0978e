/- The program's test whether an automaton with choices has fewer of them. -/
import Derived.Test.YtoeckejcmojeaaaRows
import Derived.Test.YtoeckejcmojeaaaCore
import Derived.Test.YtoeckejcmojeaaaArrs
import Derived.Test.YtoeckejcmojeaaaInfos
import Derived.Test.YtoeckejcmojeaaaPlains
import Derived.Test.YtoeckejcmojeaaaPlainCho
import Derived.Test.YtoeckejcmojeaaaIBase
import Derived.Test.YtoeckejcmojeaaaI04a
import Derived.Test.YtoeckejcmojeaaaITours
import Derived.Test.YtoeckejcmojeaaaSCho
import Derived.Test.YtoeckejcmojeaaaICho
import Derived.WalkKit
import Derived.WalkSpells
import Derived.WalkLawsBesides
import Derived.Deep.QuietTactic
import Derived.Deep.OwnRows
import Derived.BigQuiet
import Derived.KernelRfl
import Derived.Laws.BitsAllLaws
import Derived.Carry
import Derived.Deep.RegionHeld3
namespace Go.Proofs.Ytoeckejcmojeaaa
open Go.RowKit

def subN (x y : Nat) : Bool := (x &&& (18446744073709551615 - y)) == 0
theorem subN_iff {x y : Nat} (_hx : x < 1024) (hy : y < 1024) : subN x y = true ↔ ∀ i, x.testBit i = true → y.testBit i = true := by
  unfold subN
  rw [beq_iff_eq]
  have hb : ∀ i, (18446744073709551615 - y).testBit i = (decide (i < 64) && !y.testBit i) := fun i => by
    have := Nat.testBit_two_pow_sub_succ (n := 64) (x := y) (by omega) i
    rw [show 2 ^ 64 - (y + 1) = 18446744073709551615 - y by omega] at this
    exact this
  constructor
  · intro h i hi
    have h1 : (x &&& (18446744073709551615 - y)).testBit i = false := by rw [h]; simp
    rw [Nat.testBit_and, hi, hb, Bool.true_and] at h1
    have hi64 : i < 64 := by
      refine Nat.lt_of_not_le fun hge => ?_
      have : x.testBit i = false := Nat.testBit_lt_two_pow (Nat.lt_of_lt_of_le (show x < 2 ^ 10 by omega) (Nat.pow_le_pow_right (by decide) (by omega)))
      rw [this] at hi; cases hi
    rw [decide_eq_true hi64, Bool.true_and] at h1
    simpa using h1
  · intro h
    apply Nat.eq_of_testBit_eq
    intro i
    rw [Nat.testBit_and, hb, Nat.zero_testBit]
    cases hx : x.testBit i with
    | false => rfl
    | true => rw [h i hx]; simp
def refB (c d : Cho) : Bool := (List.range c.nx.length).all fun l => (List.range (nth c.nx l).length).all fun s => subN (orB (nth (nth c.nx l) s)) (orB (nth (nth d.nx l) s))
theorem refB_iff (c d : Cho) : refB c d = true ↔ ∀ l, l < c.nx.length → ∀ s, s < (nth c.nx l).length → subN (orB (nth (nth c.nx l) s)) (orB (nth (nth d.nx l) s)) = true := by
  unfold refB
  simp only [List.all_eq_true, List.mem_range]
set_option maxRecDepth 20000 in
set_option maxHeartbeats 2000000 in
theorem RefineChoice_any (v1 v2 : Value) (c d : Cho) (w : World) (h1 : ChoAt w v1 c) (h2 : ChoAt w v2 d) (hc : choOk c = true) (hd : choOk d = true) (hn : c.n = d.n) (hl : c.nx.length = d.nx.length) (hr : ∀ l, l < c.nx.length → (nth c.nx l).length = (nth d.nx l).length) :
    Calls Try.prog 20 #[v1, v2] w fun e w' => e = .returned (.tuple #[.bool (refB c d), .int .i64 0]) ∧ New w w' := by
  have HA1 := hid h1
  have HA2 := hid h2
  obtain ⟨rv, rfl, hrc⟩ := h1
  obtain ⟨av, rfl, hrd⟩ := h2
  have hcl := hrc.form
  have hdl := hrd.form
  obtain ⟨A, c1, rfl⟩ := hcl
  obtain ⟨A2, c2, rfl⟩ := hdl
  obtain ⟨_, _, e1, hl1, hc1⟩ := id hrc
  cases e1
  obtain ⟨_, _, e2, hl2, hc2⟩ := id hrd
  cases e2
  obtain ⟨wb, hwb⟩ : ∃ wb, wb = (w.alloc (.cells #[.int .i64 c.n, .slice A c.nx.length c1] 39)).alloc (.cells #[.int .i64 d.n, .slice A2 d.nx.length c2] 39) := ⟨_, rfl⟩
  have hnb : New w wb := by rw [hwb]; exact (by repeat (first | with_reducible exact New.refl _ | with_reducible assumption | with_reducible refine New.alloc ?_ _ | with_reducible refine New.drewN ?_ _ | with_reducible refine New.drew ?_ | with_reducible refine New.trans ?_ (by with_reducible assumption)))
  have h0 : wb.cell? ⟨w.heap.size, 0, none⟩ = some (.int .i64 c.n) := by rw [hwb]; go_simp
  have h1 : wb.cell? ⟨w.heap.size, 1, none⟩ = some (.slice A c.nx.length c1) := by rw [hwb]; go_simp
  have j0 : wb.cell? ⟨w.heap.size + 1, 0, none⟩ = some (.int .i64 d.n) := by rw [hwb]; go_simp
  have j1 : wb.cell? ⟨w.heap.size + 1, 1, none⟩ = some (.slice A2 d.nx.length c2) := by rw [hwb]; go_simp
  have HV1 := hid (fun w1 (hm : New w w1) => ValidChoice_any _ c w1 (HA1.out.new hm))
  have HV2 := hid (fun w1 (hm : New w w1) => ValidChoice_any _ d w1 (HA2.out.new hm))
  rw [hc] at HV1
  rw [hd] at HV2
  have HL1 := hid (fun w1 (hm : New w w1) => Cletters_any _ c w1 (HA1.out.new hm))
  have HL2 := hid (fun w1 (hm : New w w1) => Cletters_any _ d w1 (HA2.out.new hm))
  have hb0 : (c.n != d.n) = false := by simp [hn]
  have hb1 : ((c.nx.length : Int) != (d.nx.length : Int)) = false := by simp [hl]
  obtain ⟨hcn, hcl3, hcr⟩ := choOk_parts hc
  obtain ⟨hdn, hdl3, hdr⟩ := choOk_parts hd
  have HCR := hid hcr
  have HDR := hid hdr
  have HLL := hid hl
  have HRR := hid hr
  have HC1 := hid hc1
  have HC2 := hid hc2
  have HLTC := hid (fun l (h : l < c.nx.length) s (h2 : s < c.n.toNat) => cho_orB hc l s h h2)
  have HLTD := hid (fun l (h : l < d.nx.length) s (h2 : s < d.n.toNat) => cho_orB hd l s h h2)
  have HN := hid hn
  clear hc hd hcr hdr hl hr hc1 hc2 hn
  go_enter Try.func20, Try.ntmps20
  go_wp2_with fail
  rw [← hwb]
  clear hwb
  go_wp2_with fail
  refine (HV1.out _ hnb).mono ?_
  rintro e w1 ⟨rfl, hn1⟩
  have g0 := hn1.cell h0
  have g1 := hn1.cell h1
  have k0 := hn1.cell j0
  have k1 := hn1.cell j1
  go_wp2_with fail
  refine (HV2.out _ (hnb.trans hn1)).mono ?_
  rintro e w2 ⟨rfl, hn2⟩
  replace g0 := hn2.cell g0
  replace g1 := hn2.cell g1
  replace k0 := hn2.cell k0
  replace k1 := hn2.cell k1
  have hN2 := (hnb.trans hn1).trans hn2
  clear h0 h1 j0 j1 hn1 hn2
  have CL1 : ∀ e, Calls Try.prog 60 #[.agg #[.int .i64 c.n, .slice A c.nx.length c1]] (ext w2 e) fun e' w' => e' = .returned (.int .i64 c.nx.length) ∧ New (ext w2 e) w' := fun e => HL1.out _ (hN2.trans (ext_new _ e))
  have CL2 : ∀ e, Calls Try.prog 60 #[.agg #[.int .i64 d.n, .slice A2 d.nx.length c2]] (ext w2 e) fun e' w' => e' = .returned (.int .i64 d.nx.length) ∧ New (ext w2 e) w' := fun e => HL2.out _ (hN2.trans (ext_new _ e))
  have x0 := ext_cell g0
  have x1 := ext_cell g1
  have y0 := ext_cell k0
  have y1 := ext_cell k1
  go_wp2_with fail
  refine wp_region_quiet_new (by kernel_rfl) (by kernel_rfl) ?_; (repeat (go_big_quiet_step (((go_at_call 60; first | (with_reducible exact quiet_new (CL1 _)) | (with_reducible exact quiet_new (CL2 _))))))); refine wpQuiet_nil ?_; intro wq hq; have hnq := new_of_ext hq; clear hq
  clear CL1 CL2 x0 x1 y0 y1
  replace g0 := hnq.cell g0
  replace g1 := hnq.cell g1
  replace k0 := hnq.cell k0
  replace k1 := hnq.cell k1
  have hN3 := hN2.trans hnq
  clear hnq hN2
  go_wp2_with fail
  go_loopw [35] (fun i wr => ∃ k : Nat, k ≤ c.nx.length ∧ i = .int .i64 k ∧ New wq wr ∧ Hid (∀ l, l < k → ∀ s, s < (nth c.nx l).length → subN (orB (nth (nth c.nx l) s)) (orB (nth (nth d.nx l) s)) = true)) (fun i _ => c.nx.length - (intOf i).toNat)
  case atStart => exact ⟨0, Nat.zero_le _, rfl, New.refl _, hid (fun l hl => by omega)⟩
  case round =>
    obtain ⟨k, hk, rfl, hw, hS⟩ := hrel
    obtain ⟨wo, rfl⟩ : ∃ wo : World, wo = wr := ⟨_, rfl⟩
    by_cases hlt : k < c.nx.length
    · have b1 : (k : Int) < (c.nx.length : Int) := by omega
      obtain ⟨b, off, r1, rfl, hx, hr1⟩ := HC1.out k hlt
      have hw0 := hN3.trans hw
      replace hx := hw0.cell hx
      obtain ⟨A5, c5, rfl⟩ := hr1.form
      have HR1 := hid (hr1.new hw0)
      obtain ⟨hq1, hq2⟩ := HCR.out k hlt
      have hkd : k < d.nx.length := by have := HLL.out; omega
      have b1d : (k : Int) < (d.nx.length : Int) := by omega
      obtain ⟨bd, offd, rd, rfl, hxd, hrd1⟩ := HC2.out k hkd
      replace hxd := hw0.cell hxd
      obtain ⟨A6, c6, rfl⟩ := hrd1.form
      have HRD := hid (hrd1.new hw0)
      have hrr := HRR.out k hlt
      replace g1 := hw.cell g1
      replace k1 := hw.cell k1
      obtain ⟨RN, hRN⟩ : ∃ RN, RN = (nth c.nx k).length := ⟨_, rfl⟩
      have HRN := hid hRN
      rw [← hRN] at hx hq1 hq2 hrr
      rw [← hrr] at hxd
      clear hr1 hrd1 hRN
      go_wp2_with fail
      go_loopw [42] (fun i wr => ∃ s : Nat, s ≤ RN ∧ i = .int .i64 s ∧ New wo wr ∧ Hid (∀ s', s' < s → subN (orB (nth (nth c.nx k) s')) (orB (nth (nth d.nx k) s')) = true)) (fun i _ => RN - (intOf i).toNat)
      case atStart => exact ⟨0, Nat.zero_le _, rfl, New.refl _, hid (fun s hs => by omega)⟩
      case round =>
        obtain ⟨s, hs, rfl, hw2, hS2⟩ := hrel
        obtain ⟨wi, rfl⟩ : ∃ wi : World, wi = wr := ⟨_, rfl⟩
        by_cases hls : s < RN
        · have b2 : (s : Int) < (RN : Int) := by omega
          obtain ⟨_, _, e4, _, hc4⟩ := HR1.out
          rw [← HRN.out] at e4 hc4
          cases e4
          obtain ⟨b4, o4, s4, rfl, hx4, hs4⟩ := hc4 s hls
          obtain ⟨_, _, e7, _, hc7⟩ := HRD.out
          rw [← hrr] at e7 hc7
          cases e7
          obtain ⟨b7, o7, s7, rfl, hx7, hs7⟩ := hc7 s hls
          have hsc := hq2 s hls
          have hsd := (HDR.out k hkd).2 s (by rw [← hrr]; exact hls)
          have hlc := HLTC.out k hlt s (by omega)
          have hld := HLTD.out k hkd s (by have := HN.out; omega)
          have hinc := fun i hi => setB_in hsc i hi
          have hind := fun i hi => setB_in hsd i hi
          replace hx4 := hw2.cell hx4
          replace hx7 := hw2.cell hx7
          replace hxd := hw2.cell hxd
          replace k1 := hw2.cell k1
          have hc10 : c.n.toNat ≤ 10 := by omega
          have hd10 : d.n.toNat ≤ 10 := by omega
          have hX : orB (nth (nth c.nx k) s) < 1024 := lt_10 hlc hc10
          have hY : orB (nth (nth d.nx k) s) < 1024 := lt_10 hld hd10
          have C1 : ∀ e, Calls Try.prog 61 #[s4] (ext wi e) fun e' w' => e' = .returned (.int .u64 (orB (nth (nth c.nx k) s))) ∧ w' = ext wi e := fun e => flockOf_any _ _ _ ((hs4.new hw2).new (ext_new _ e)) (fun i hi => by have := hinc i hi; omega)
          have C2 : ∀ e, Calls Try.prog 61 #[s7] (ext wi e) fun e' w' => e' = .returned (.int .u64 (orB (nth (nth d.nx k) s))) ∧ w' = ext wi e := fun e => flockOf_any _ _ _ ((hs7.new hw2).new (ext_new _ e)) (fun i hi => by have := hind i hi; omega)
          obtain ⟨X, hXd⟩ : ∃ X, X = orB (nth (nth c.nx k) s) := ⟨_, rfl⟩
          obtain ⟨Y, hYd⟩ : ∃ Y, Y = orB (nth (nth d.nx k) s) := ⟨_, rfl⟩
          rw [← hXd] at hX C1
          rw [← hYd] at hY C2
          have HXY := hid (And.intro hXd hYd)
          obtain ⟨Z, hZ⟩ : ∃ Z, Z = X &&& (18446744073709551615 - Y) := ⟨_, rfl⟩
          have hbits : bits .andNot .u64 (X : Int) (Y : Int) = (Z : Int) := by rw [hZ]; exact u64_andNot_nat X Y (by omega) (by omega)
          have hsub : subN X Y = (Z == 0) := by unfold subN; rw [hZ]
          have y1 := ext_cell k1
          have y2 := ext_cell hx4
          have y3 := ext_cell hx7
          have y4 := ext_cell hxd
          obtain ⟨A8, c8, rfl⟩ := hs4.form
          obtain ⟨A9, c9, rfl⟩ := hs7.form
          clear hs4 hs7 hc4 hc7 hinc hind hsc hsd hlc hld hXd hYd hZ
          by_cases hz : Z = 0
          · have hzb : ((Z : Int) != 0) = false := by subst hz; rfl
            have HSN := hid (show subN X Y = true by rw [hsub, hz]; rfl)
            clear hz hsub
            go_wp2_with fail
            refine wp_region_quiet_new (by kernel_rfl) (by kernel_rfl) ?_; (repeat (go_big_quiet_step (((go_at_call 61; first | (with_reducible exact quiet_same (C1 _)) | (with_reducible exact quiet_same (C2 _))))))); refine wpQuiet_nil ?_; intro wq hq; have hnq := new_of_ext hq; clear hq
            go_wp2
            go_roundw
            case rel => exact ⟨s + 1, by omega, by go_num, hw2.trans hnq, hid (fun s' hs' => by
                rcases Nat.lt_succ_iff_lt_or_eq.1 hs' with h | h
                · exact hS2.out s' h
                · subst h; rw [← HXY.out.1, ← HXY.out.2]; exact HSN.out)⟩
            case measure => simp [intOf]; omega
          · have hzb : ((Z : Int) != 0) = true := by simpa using hz
            have HSN := hid (show subN X Y = false by rw [hsub]; simpa using hz)
            clear hz hsub
            go_wp2_with fail
            refine wp_region_quiet_new (by kernel_rfl) (by kernel_rfl) ?_; (repeat (go_big_quiet_step (((go_at_call 61; first | (with_reducible exact quiet_same (C1 _)) | (with_reducible exact quiet_same (C2 _))))))); refine wpQuiet_nil ?_; intro wq hq; have hnq := new_of_ext hq; clear hq
            go_wp2
            go_ret2
            have hf : refB c d = false := by
              cases hp : refB c d with
              | false => rfl
              | true =>
                have := (refB_iff c d).1 hp k hlt s (by rw [← HRN.out]; exact hls)
                rw [← HXY.out.1, ← HXY.out.2, HSN.out] at this
                cases this
            rw [hf]
            exact ⟨rfl, ((hw0.trans hw2)).trans hnq⟩
        · have e : s = RN := by omega
          subst e
          have b2 : ¬ (s : Int) < (s : Int) := by omega
          go_wp2_with fail
          go_roundw
          case rel => exact ⟨k + 1, by omega, by go_num, hw.trans hw2, hid (fun l hl => by
              rcases Nat.lt_succ_iff_lt_or_eq.1 hl with h | h
              · exact hS.out l h
              · subst h; intro s' hs'; exact hS2.out s' (by rw [HRN.out]; exact hs'))⟩
          case measure => simp [intOf]; omega
    · have e : k = c.nx.length := by omega
      subst e
      have b1 : ¬ (c.nx.length : Int) < (c.nx.length : Int) := by omega
      go_wp2_with fail
      go_ret2
      rw [(refB_iff c d).2 hS.out]
      exact ⟨rfl, hN3.trans hw⟩

end Go.Proofs.Ytoeckejcmojeaaa
