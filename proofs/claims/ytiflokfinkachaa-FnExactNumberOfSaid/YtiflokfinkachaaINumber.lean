/- The program's number of a colouring. -/
import Derived.Test.YtiflokfinkachaaRows
import Derived.Test.YtiflokfinkachaaCore
import Derived.Test.YtiflokfinkachaaInfo
import Derived.Test.YtiflokfinkachaaPlains
import Derived.Test.YtiflokfinkachaaJoins
import Derived.Test.YtiflokfinkachaaPlainNum
import Derived.Test.YtiflokfinkachaaMaps
import Derived.Test.YtiflokfinkachaaCho
import Derived.Test.YtiflokfinkachaaSolid
import Derived.Test.YtiflokfinkachaaArrSt
import Derived.Test.YtiflokfinkachaaBox3
import Derived.Test.YtiflokfinkachaaI01a
import Derived.Test.YtiflokfinkachaaI01b
import Derived.Test.YtiflokfinkachaaIArr
import Derived.Test.YtiflokfinkachaaIArr2
import Derived.Test.YtiflokfinkachaaIPaint
import Derived.Test.YtiflokfinkachaaIRoads
import Derived.Test.YtiflokfinkachaaI05a
import Derived.Test.YtiflokfinkachaaIIsCol
import Derived.WalkKit
import Derived.WalkSpells
import Derived.WalkLawsBesides
import Derived.Deep.QuietTactic
import Derived.Deep.OwnRows
import Derived.BigQuiet
import Derived.KernelRfl
namespace Go.Proofs.Ytiflokfinkachaa
open Go.RowKit

set_option maxHeartbeats 400000 in
theorem NumberOf1_any (v1 v2 : Value) (b : Nat) (xs own : List Int) (w : World) (h1 : IntsAt w v1 xs) (hb : w.cell? ⟨b, 0, none⟩ = some v2) (h2 : IntsAt w v2 own) :
    Calls Try.prog 122 #[v1, .pointer (some ⟨b, 0, none⟩)] w fun e w' => e = .returned (.bool (decide (xs = own))) ∧ New w w' := by
  have e : decide (xs = own) = decide (own = xs) := by simp [eq_comm]
  rw [e]
  clear e
  go_enter Try.func122, Try.ntmps122
  go_wp2_with (go_at_call 123; refine (sliceEqual_any _ _ _ _ _ h2 h1).mono ?_; rintro e w' ⟨rfl, hn⟩)
  go_ret
  exact ⟨rfl, hn⟩
set_option maxRecDepth 20000 in
set_option maxHeartbeats 2000000 in
theorem implNumberOf_any (v1 v2 : Value) (r a : Aut) (w : World) (h1 : AutAt w v1 r) (h2 : AutAt w v2 a) :
    Calls Try.prog 46 #[v1, v2] w fun e w' => e = .returned (.tuple #[.int .i64 (NumberOf r a).1, .int .i64 (NumberOf r a).2]) ∧ New w w' := by
  obtain ⟨rv, rfl, hr⟩ := h1
  obtain ⟨av, rfl, ha⟩ := h2
  obtain ⟨A, c, rfl⟩ := hr.form
  obtain ⟨A2, c2, rfl⟩ := ha.form
  obtain ⟨wb, hwb⟩ : ∃ wb, wb = (w.alloc (.cells #[.int .i64 r.n, .slice A r.nx.length c] 59)).alloc (.cells #[.int .i64 a.n, .slice A2 a.nx.length c2] 40) := ⟨_, rfl⟩
  have hn0 : New w wb := by rw [hwb]; exact (by repeat (first | with_reducible exact New.refl _ | with_reducible assumption | with_reducible refine New.alloc ?_ _ | with_reducible refine New.drew ?_ | with_reducible refine New.drewN ?_ _ | with_reducible refine New.setCell ?_ (by simp <;> omega) _))
  have ha' : AutAt wb (.agg #[.int .i64 a.n, .slice A2 a.nx.length c2]) a := ⟨_, rfl, ha.new hn0⟩
  have hr' : AutAt wb (.agg #[.int .i64 r.n, .slice A r.nx.length c]) r := ⟨_, rfl, hr.new hn0⟩
  have z0 : wb.cell? ⟨w.heap.size, 0, none⟩ = some (.int .i64 r.n) := by rw [hwb]; go_simp
  have z1 : wb.cell? ⟨w.heap.size, 1, none⟩ = some (.slice A r.nx.length c) := by rw [hwb]; go_simp
  have z2 : wb.cell? ⟨w.heap.size + 1, 0, none⟩ = some (.int .i64 a.n) := by rw [hwb]; go_simp
  have z3 : wb.cell? ⟨w.heap.size + 1, 1, none⟩ = some (.slice A2 a.nx.length c2) := by rw [hwb]; go_simp
  obtain ⟨R, hR⟩ : ∃ R, R = NumberOf r a := ⟨_, rfl⟩
  rw [← hR]
  unfold NumberOf at hR
  have C1 := implIsColouring_any _ _ r a _ hr' ha'
  unfold IsColouring at C1
  cases hk : (roadsOk r && autOk a) with
  | false =>
    rw [hk] at C1
    have HE := hid (show R = (0, 1) by rw [hR, hk]; rfl)
    have C2 : Calls Try.prog 118 #[.agg #[.int .i64 r.n, .slice A r.nx.length c], .agg #[.int .i64 a.n, .slice A2 a.nx.length c2]] wb fun e w' => e = .returned (.tuple #[.bool false, .int .i64 1]) ∧ New wb w' := C1
    clear hR C1
    go_enter Try.func46, Try.ntmps46
    go_wp2_with fail
    rw [← hwb]
    clear hwb
    go_wp2_with fail
    refine C2.mono ?_
    rintro e w1 ⟨rfl, hn1⟩
    go_wp2_with fail
    all_goals go_ret2
    all_goals
      rw [HE.out]
      exact ⟨rfl, hn0.trans hn1⟩
  | true =>
    rw [hk] at C1
    cases hq : decide (r = roadsOf a) with
    | false =>
      rw [hq] at C1
      have HE := hid (show R = (0, 4) by rw [hR, hk, hq]; rfl)
      have C2 : Calls Try.prog 118 #[.agg #[.int .i64 r.n, .slice A r.nx.length c], .agg #[.int .i64 a.n, .slice A2 a.nx.length c2]] wb fun e w' => e = .returned (.tuple #[.bool false, .int .i64 0]) ∧ New wb w' := C1
      clear hR C1
      go_enter Try.func46, Try.ntmps46
      go_wp2_with fail
      rw [← hwb]
      clear hwb
      go_wp2_with fail
      refine C2.mono ?_
      rintro e w1 ⟨rfl, hn1⟩
      go_wp2_with fail
      all_goals go_ret2
      all_goals
        rw [HE.out]
        exact ⟨rfl, hn0.trans hn1⟩
    | true =>
      rw [hq] at C1
      have HE := hid (show R = (numOf r a, 0) by rw [hR, hk, hq]; rfl)
      have C2 : Calls Try.prog 118 #[.agg #[.int .i64 r.n, .slice A r.nx.length c], .agg #[.int .i64 a.n, .slice A2 a.nx.length c2]] wb fun e w' => e = .returned (.tuple #[.bool true, .int .i64 0]) ∧ New wb w' := C1
      rw [Bool.and_eq_true] at hk
      have hf := roads_facts hk.1
      have hrn := coloured_n hk.2 (of_decide_eq_true hq)
      have hcl := choices_len r
      have HP := hid (fun w1 (hn : New wb w1) => newPaint_any _ r w1 (hr'.new hn) hf.n7 (fun i hi => by rw [hf.row i hi]; exact hf.l3))
      have HL := hid (fun w1 (hn : New wb w1) (s : Nat) (hs : s < r.nx.length) => leads_any _ a (s : Int) w1 (ha'.new hn) hk.2 ⟨by omega, by omega⟩)
      have HB := hid (fun s (hs : s ≤ r.nx.length) => numTo_big (f := fun s => leadsOf a.nx s) (fun p hp => choices_six hf p hp) (by rw [hcl]; exact hf.n7) s (by rw [hcl]; exact hs))
      have H6 := hid (fun s (hs : s < r.nx.length) => choices_six hf s (by rw [hcl]; exact hs))
      have HN := hid (show numTo (choicesOf r) (fun s => leadsOf a.nx s) r.nx.length = numOf r a from rfl)
      have h7 := hf.n7
      have HCL := hid hcl
      obtain ⟨CS, hCS⟩ : ∃ CS, CS = choicesOf r := ⟨_, rfl⟩
      rw [← hCS] at HP HB HN HCL H6
      clear hR C1 hk hq hf hrn hcl hCS
      have hcl := HCL.out
      go_enter Try.func46, Try.ntmps46
      go_wp2_with fail
      rw [← hwb]
      clear hwb
      go_wp2_with fail
      refine C2.mono ?_
      rintro e w1 ⟨rfl, hn1⟩
      replace z0 := hn1.cell z0
      replace z1 := hn1.cell z1
      replace z2 := hn1.cell z2
      replace z3 := hn1.cell z3
      clear C2
      go_wp2_with fail
      refine (HP.out _ hn1).mono ?_
      rintro e w2 ⟨rv2, rc, rfl, hn2, hrv2, hL2⟩
      obtain ⟨A9, c9, rfl⟩ := hrv2.form
      clear hrv2
      obtain ⟨AC, cC, rfl, hlC, hC⟩ := hL2
      have hfd : (Instr.field 132 (.agg #[.int .i64 r.n, .slice A9 r.nx.length c9, .slice AC r.nx.length cC]) 1).run Try.prog w2 = .ok (.slice AC r.nx.length cC) w2 := by kernel_rfl
      replace z2 := hn2.cell z2
      replace z3 := hn2.cell z3
      have HC := hid hC
      have HCN := hid hcl
      have hn12 := hn1.trans hn2
      rw [hcl]
      clear hC z0 z1 HCL hcl
      go_wp2_with fail
      go_loopw [8, 31] (fun o i wr => ∃ s : Nat, s ≤ r.nx.length ∧ i = .int .i64 s ∧ o = .int .i64 (numTo CS (fun s => leadsOf a.nx s) s) ∧ New w2 wr) (fun _ i _ => r.nx.length - (intOf i).toNat)
      case atStart => exact ⟨0, Nat.zero_le _, rfl, rfl, New.refl _⟩
      case round =>
        obtain ⟨s, hs, rfl, rfl, hns⟩ := hrel
        obtain ⟨wo, rfl⟩ : ∃ wo : World, wo = wr := ⟨_, rfl⟩
        have hbig := HB.out s hs
        have HSU := hid (show numTo CS (fun s => leadsOf a.nx s) (s + 1) = numTo CS (fun s => leadsOf a.nx s) s * ((nth CS s).length : Int) + findL (nth CS s) (leadsOf a.nx s) from rfl)
        obtain ⟨Z, hZ⟩ : ∃ Z, Z = numTo CS (fun s => leadsOf a.nx s) s := ⟨_, rfl⟩
        rw [← hZ] at hbig HSU ⊢
        have HZ := hid hZ
        clear hZ
        by_cases hlt : s < r.nx.length
        · have b1 : (s : Int) < (r.nx.length : Int) := by omega
          obtain ⟨cb, co, tv, rfl, hx, hxt⟩ := HC.out s (by rw [HCN.out]; exact hlt)
          obtain ⟨At, ct, rfl⟩ := hxt.form
          have htl := hxt.len
          have h6 := H6.out s hlt
          obtain ⟨T, hT⟩ : ∃ T, T = nth CS s := ⟨_, rfl⟩
          rw [← hT] at hx hxt htl HSU h6
          have HLS := hid (fun w1 (hn : New wb w1) => HL.out w1 hn s hlt)
          obtain ⟨LD, hLD⟩ : ∃ LD, LD = leadsOf a.nx (s : Int) := ⟨_, rfl⟩
          rw [← hLD] at HLS HSU
          have hfr := findL_range T LD
          have hno := hn12.trans hns
          replace hx := hns.cell hx
          replace z2 := hns.cell z2
          replace z3 := hns.cell z3
          have HXT := hid (hxt.new hns)
          have key : -(6 * 100000000) ≤ Z * (T.length : Int) ∧ Z * (T.length : Int) ≤ 6 * 100000000 := by
            obtain ⟨L, hL⟩ : ∃ L, L = T.length := ⟨_, rfl⟩
            rw [← hL] at h6 ⊢
            have hl : L = 0 ∨ L = 1 ∨ L = 2 ∨ L = 3 ∨ L = 4 ∨ L = 5 ∨ L = 6 := by omega
            rcases hl with h | h | h | h | h | h | h <;> subst h <;> simp <;> omega
          obtain ⟨ZT, hZT⟩ : ∃ z, z = Z * (T.length : Int) := ⟨_, rfl⟩
          have HZT := hid hZT
          rw [← hZT] at key
          obtain ⟨F, hF⟩ : ∃ F, F = findL T LD := ⟨_, rfl⟩
          rw [← hF] at hfr HSU
          have HF := hid hF
          have HIX := hid (fun (w1 : World) (b : Nat) (ov : Value) (hn : New wo w1) (hb : w1.cell? ⟨b, 0, none⟩ = some ov) (ho : IntsAt w1 ov LD) => IndexFuncRows_any (.slice At T.length ct) T 122 #[.pointer (some ⟨b, 0, none⟩)] (fun r => decide (r = LD)) w1 (HXT.out.new hn) (enters Try.func122 (by decide) (by simp [Try.f122]))
            (fun w' hn' i _ rv hrv => NumberOf1_any rv ov b (nth T i) LD w' hrv (hn'.cell hb) (ho.new hn')))
          rw [show idxOf (fun r => decide (r = LD)) T = findL T LD from rfl, ← hF] at HIX
          clear hT hLD hxt hF hZT
          go_wp2_with (first
            | (go_at_call 119; refine (HLS.out _ hno).mono ?_; rintro e w3 ⟨lv, he, hn3, ho3⟩; obtain ⟨A5, c5, rfl⟩ := ho3.form; subst he)
            | (go_at_call 120; refine (sizeRows_any _ _ _ _ htl).mono ?_; rintro e w' ⟨rfl, rfl⟩)
            | (go_at_call 121; refine (HIX.out _ _ _ (by repeat (first | with_reducible exact New.refl _ | with_reducible assumption | with_reducible refine New.alloc ?_ _ | with_reducible refine New.drewN ?_ _ | with_reducible refine New.drew ?_ | with_reducible refine New.trans ?_ (by with_reducible assumption))) (by go_simp) (ho3.at.new (by repeat (first | with_reducible exact New.refl _ | with_reducible assumption | with_reducible refine New.alloc ?_ _ | with_reducible refine New.drewN ?_ _ | with_reducible refine New.drew ?_ | with_reducible refine New.trans ?_ (by with_reducible assumption))))).mono ?_; rintro e w5 ⟨rfl, hn5⟩))
          have w1' : Go.RowKit.wrap64 (Z * (T.length : Int)) = Z * (T.length : Int) := IntWalk.wrap64_in _ (by rw [← HZT.out]; exact ⟨by omega, by omega⟩)
          have w2' : Go.RowKit.wrap64 (Z * (T.length : Int) + F) = Z * (T.length : Int) + F := IntWalk.wrap64_in _ (by rw [← HZT.out]; exact ⟨by omega, by omega⟩)
          refine ⟨⟨s + 1, by omega, by go_num, by rw [w1', w2', HSU.out], hns.trans (New.trans (by repeat (first | with_reducible exact New.refl _ | with_reducible assumption | with_reducible refine New.alloc ?_ _ | with_reducible refine New.drewN ?_ _ | with_reducible refine New.drew ?_ | with_reducible refine New.trans ?_ (by with_reducible assumption))) hn5)⟩, ?_⟩
          simp [intOf]; omega
        · have e : s = r.nx.length := by omega
          subst e
          go_wp2_with fail
          go_ret2
          rw [HE.out, ← HN.out, ← HZ.out]
          exact ⟨rfl, (hn0.trans hn12).trans hns⟩

end Go.Proofs.Ytiflokfinkachaa
