/- The reference's number of a colouring. -/
import Derived.Test.YtiflokfinkachaaRows
import Derived.Test.YtiflokfinkachaaCore
import Derived.Test.YtiflokfinkachaaInfo
import Derived.Test.YtiflokfinkachaaPlains
import Derived.Test.YtiflokfinkachaaJoins
import Derived.Test.YtiflokfinkachaaPlainNum
import Derived.Test.YtiflokfinkachaaMaps
import Derived.Test.YtiflokfinkachaaCho
import Derived.Test.YtiflokfinkachaaSolid
import Derived.Test.YtiflokfinkachaaBox3
import Derived.Test.YtiflokfinkachaaS00a
import Derived.Test.YtiflokfinkachaaS00b
import Derived.Test.YtiflokfinkachaaS01a
import Derived.Test.YtiflokfinkachaaS01f
import Derived.Test.YtiflokfinkachaaS05a
import Derived.Test.YtiflokfinkachaaSRoads
import Derived.Test.YtiflokfinkachaaSArr
import Derived.Test.YtiflokfinkachaaSChoices
import Derived.Test.YtiflokfinkachaaSIsJoined
import Derived.WalkKit
import Derived.WalkSpells
import Derived.WalkLawsBesides
import Derived.Deep.QuietTactic
import Derived.Deep.OwnRows
import Derived.BigQuiet
import Derived.KernelRfl
import Derived.Deep.RegionHeld3
namespace Go.Proofs.Ytiflokfinkachaa
open Go.RowKit

set_option maxRecDepth 20000 in
set_option maxHeartbeats 2000000 in
theorem specNumberOf_any (v1 v2 : Value) (r a : Aut) (w : World) (h1 : CapAut w v1 r) (h2 : AutAt w v2 a) :
    Calls Try.prog 45 #[v1, v2] w fun e w' => e = .returned (.tuple #[.int .i64 (NumberOf r a).1, .int .i64 (NumberOf r a).2]) ∧ New w w' := by
  obtain ⟨rv, rfl, hcr⟩ := h1
  have hr := hcr.rows
  obtain ⟨av, rfl, ha⟩ := h2
  obtain ⟨A, c, rfl⟩ := hr.form
  obtain ⟨A2, c2, rfl⟩ := ha.form
  obtain ⟨wb, hwb⟩ : ∃ wb, wb = (w.alloc (.cells #[.int .i64 r.n, .slice A r.nx.length c] 59)).alloc (.cells #[.int .i64 a.n, .slice A2 a.nx.length c2] 40) := ⟨_, rfl⟩
  have hn0 : New w wb := by rw [hwb]; exact (by repeat (first | with_reducible exact New.refl _ | with_reducible assumption | with_reducible refine New.alloc ?_ _ | with_reducible refine New.drew ?_ | with_reducible refine New.drewN ?_ _ | with_reducible refine New.setCell ?_ (by simp <;> omega) _))
  have hp : PAut wb (.pointer (some ⟨w.heap.size, 0, none⟩)) r := by rw [hwb]; exact (PAut.box hr _).new ((New.refl _).alloc _)
  have hb1 : wb.cell? ⟨w.heap.size, 1, none⟩ = some (.slice A r.nx.length c) := by rw [hwb]; go_simp
  have hq : PAut wb (.pointer (some ⟨w.heap.size + 1, 0, none⟩)) a := by
    rw [hwb]; have := PAut.box (a := a) (ha.new (show New w (w.alloc (.cells #[.int .i64 r.n, .slice A r.nx.length c] 59)) from (by repeat (first | with_reducible exact New.refl _ | with_reducible assumption | with_reducible refine New.alloc ?_ _ | with_reducible refine New.drew ?_ | with_reducible refine New.drewN ?_ _ | with_reducible refine New.setCell ?_ (by simp <;> omega) _)))) 40
    simpa only [size_alloc] using this
  obtain ⟨R, hR⟩ : ∃ R, R = NumberOf r a := ⟨_, rfl⟩
  rw [← hR]
  unfold NumberOf at hR
  have C1 := l05Ok_any _ r _ hp
  cases h1 : roadsOk r with
  | false =>
    rw [h1] at C1
    have e : R = (0, 1) := by rw [hR, h1]; rfl
    rw [e]
    clear hR e
    go_enter Try.func45, Try.ntmps45
    go_wp2_with fail
    rw [← hwb]
    clear hwb
    refine C1.mono ?_
    rintro e w1 ⟨rfl, hn1⟩
    go_wp2_with fail
    go_ret2
    exact ⟨rfl, hn0.trans hn1⟩
  | true =>
    rw [h1] at C1
    have C2 := fun w1 (hn : New wb w1) => l01Ok_any _ a w1 (hq.new hn)
    cases h2 : autOk a with
    | false =>
      rw [h2] at C2
      have e : R = (0, 1) := by rw [hR, h1, h2]; rfl
      rw [e]
      clear hR e
      go_enter Try.func45, Try.ntmps45
      go_wp2_with fail
      rw [← hwb]
      clear hwb
      refine C1.mono ?_
      rintro e w1 ⟨rfl, hn1⟩
      go_wp2_with fail
      refine (C2 _ hn1).mono ?_
      rintro e w2 ⟨rfl, hn2⟩
      go_wp2_with fail
      go_ret2
      exact ⟨rfl, (hn0.trans hn1).trans hn2⟩
    | true =>
      rw [h2] at C2
      have C3 := fun w1 (hn : New wb w1) => l05Coloured_any _ _ r a w1 (hp.new hn) (hq.new hn) h2
      cases h3 : decide (r = roadsOf a) with
      | false =>
        rw [h3] at C3
        have HE := hid (show R = (0, 4) by rw [hR, h1, h2, h3]; rfl)
        clear hR h1 h2 h3
        go_enter Try.func45, Try.ntmps45
        go_wp2_with fail
        rw [← hwb]
        clear hwb
        refine C1.mono ?_
        rintro e w1 ⟨rfl, hn1⟩
        go_wp2_with fail
        refine (C2 _ hn1).mono ?_
        rintro e w2 ⟨rfl, hn2⟩
        go_wp2_with fail
        refine (C3 _ (hn1.trans hn2)).mono ?_
        rintro e w3 ⟨rfl, hn3⟩
        go_wp2_with fail
        go_ret2
        rw [HE.out]
        exact ⟨rfl, ((hn0.trans hn1).trans hn2).trans hn3⟩
      | true =>
        rw [h3] at C3
        have HE := hid (show R = (numOf r a, 0) by rw [hR, h1, h2, h3]; rfl)
        have hf := roads_facts h1
        have hrn := coloured_n h2 (of_decide_eq_true h3)
        have hcl := choices_len r
        have HP := hid (fun w1 (hn : New wb w1) => l05Choices_any w.heap.size (.slice A r.nx.length c) r.nx w1 (hn.cell hb1) (hcr.new (hn0.trans hn)) hf.n7 (fun i hi => by rw [hf.row i hi]; exact hf.l3))
        have HL := hid (fun w1 (hn : New wb w1) (s : Nat) (hs : s < r.nx.length) => l05Letters_any _ a (s : Int) w1 (hq.new hn) h2 ⟨by omega, by omega⟩)
        have HB := hid (fun s (hs : s ≤ r.nx.length) => numTo_big (f := fun s => leadsOf a.nx s) (fun p hp => choices_six hf p hp) (by rw [hcl]; exact hf.n7) s (by rw [hcl]; exact hs))
        have H6 := hid (fun s (hs : s < r.nx.length) => choices_six hf s (by rw [hcl]; exact hs))
        have HN := hid (show numTo (choicesOf r) (fun s => leadsOf a.nx s) r.nx.length = numOf r a from rfl)
        have h7 := hf.n7
        have HCL := hid hcl
        rw [show r.nx.map arrOf = choicesOf r from rfl] at HP
        obtain ⟨CS, hCS⟩ : ∃ CS, CS = choicesOf r := ⟨_, rfl⟩
        rw [← hCS] at HP HB HN HCL H6
        clear hR h1 h2 h3 hf hrn hcl hCS
        have hcl := HCL.out
        go_enter Try.func45, Try.ntmps45
        go_wp2_with fail
        rw [← hwb]
        clear hwb
        refine C1.mono ?_
        rintro e w1 ⟨rfl, hn1⟩
        go_wp2_with fail
        refine (C2 _ hn1).mono ?_
        rintro e w2 ⟨rfl, hn2⟩
        go_wp2_with fail
        refine (C3 _ (hn1.trans hn2)).mono ?_
        rintro e w3 ⟨rfl, hn3⟩
        clear C1 C2 C3
        go_wp2_with fail
        refine (HP.out _ (New.trans (hn1.trans (hn2.trans hn3)) (by repeat (first | with_reducible exact New.refl _ | with_reducible assumption | with_reducible refine New.alloc ?_ _ | with_reducible refine New.drewN ?_ _ | with_reducible refine New.drew ?_ | with_reducible refine New.trans ?_ (by with_reducible assumption))))).mono ?_
        rintro e w4 ⟨rc, rfl, hn4, hL2⟩
        obtain ⟨AC, cC, rfl, hlC, hC⟩ := hL2
        have HC := hid hC
        have HCN := hid hcl
        have hn12 := (hn1.trans (hn2.trans hn3)).trans (New.trans (by repeat (first | with_reducible exact New.refl _ | with_reducible assumption | with_reducible refine New.alloc ?_ _ | with_reducible refine New.drewN ?_ _ | with_reducible refine New.drew ?_ | with_reducible refine New.trans ?_ (by with_reducible assumption))) hn4)
        rw [hcl]
        clear hC HCL hcl
        go_wp2_with fail
        go_loopw [7, 8] (fun o i wr => ∃ s : Nat, s ≤ r.nx.length ∧ i = .int .i64 s ∧ o = .int .i64 (numTo CS (fun s => leadsOf a.nx s) s) ∧ New w4 wr) (fun _ i _ => r.nx.length - (intOf i).toNat)
        case atStart => exact ⟨0, Nat.zero_le _, rfl, rfl, (by repeat (first | with_reducible exact New.refl _ | with_reducible assumption | with_reducible refine New.alloc ?_ _ | with_reducible refine New.drewN ?_ _ | with_reducible refine New.drew ?_ | with_reducible refine New.trans ?_ (by with_reducible assumption)))⟩
        case round =>
          obtain ⟨s, hs, rfl, rfl, hns⟩ := hrel
          obtain ⟨wo, rfl⟩ : ∃ wo : World, wo = wr := ⟨_, rfl⟩
          have hbig := HB.out s hs
          have HSU := hid (show numTo CS (fun s => leadsOf a.nx s) (s + 1) = numTo CS (fun s => leadsOf a.nx s) s * ((nth CS s).length : Int) + findL (nth CS s) (leadsOf a.nx s) from rfl)
          obtain ⟨Z, hZ⟩ : ∃ Z, Z = numTo CS (fun s => leadsOf a.nx s) s := ⟨_, rfl⟩
          rw [← hZ] at hbig HSU ⊢
          have HZ := hid hZ
          clear hZ
          by_cases hlt : s < r.nx.length
          · have b1 : (s : Int) < (r.nx.length : Int) := by omega
            obtain ⟨cb, co, tv, rfl, hx, hxt⟩ := HC.out s (by rw [HCN.out]; exact hlt)
            obtain ⟨At, ct, rfl⟩ := hxt.form
            have h6 := H6.out s hlt
            obtain ⟨T, hT⟩ : ∃ T, T = nth CS s := ⟨_, rfl⟩
            rw [← hT] at hx hxt HSU h6
            have HLS := hid (fun w1 (hn : New wb w1) => HL.out w1 hn s hlt)
            obtain ⟨LD, hLD⟩ : ∃ LD, LD = leadsOf a.nx (s : Int) := ⟨_, rfl⟩
            rw [← hLD] at HLS HSU
            have hfr := findL_range T LD
            have hno := hn12.trans hns
            replace hx := hns.cell hx
            have HXT := hid (hxt.new hns)
            have key : -(6 * 100000000) ≤ Z * (T.length : Int) ∧ Z * (T.length : Int) ≤ 6 * 100000000 := by
              obtain ⟨L, hL⟩ : ∃ L, L = T.length := ⟨_, rfl⟩
              rw [← hL] at h6 ⊢
              have hl : L = 0 ∨ L = 1 ∨ L = 2 ∨ L = 3 ∨ L = 4 ∨ L = 5 ∨ L = 6 := by omega
              rcases hl with h | h | h | h | h | h | h <;> subst h <;> simp <;> omega
            obtain ⟨ZT, hZT⟩ : ∃ z, z = Z * (T.length : Int) := ⟨_, rfl⟩
            have HZT := hid hZT
            rw [← hZT] at key
            obtain ⟨F, hF⟩ : ∃ F, F = findL T LD := ⟨_, rfl⟩
            rw [← hF] at hfr HSU
            have HIX := hid (fun (w1 : World) (lv : Value) (hn : New wo w1) (ho : IntsAt w1 lv LD) => l01Find_any (.slice At T.length ct) lv T LD w1 (HXT.out.new hn) ho)
            rw [← hF] at HIX
            clear hT hLD hxt hF hZT
            go_wp2_with fail
            go_region_held3 (fun w' => w'.cell? ⟨cb, co + s, none⟩ = some (.slice At T.length ct))
              (first | exact New.cell hq7 hx | exact New.cell hq8 hx | go_keep)
              (first
                | (go_at_call 117; refine (HLS.out _ (hno.trans (by repeat (first | with_reducible exact New.refl _ | with_reducible assumption | with_reducible refine New.alloc ?_ _ | with_reducible refine New.drewN ?_ _ | with_reducible refine New.drew ?_ | with_reducible refine New.trans ?_ (by with_reducible assumption))))).mono ?_; rintro e w7 ⟨lv, he, hn7, ho7⟩; obtain ⟨A5, c5, rfl⟩ := ho7.form; subst he; have hq7 : New wo w7 := (by repeat (first | with_reducible exact New.refl _ | with_reducible assumption | with_reducible refine New.alloc ?_ _ | with_reducible refine New.drewN ?_ _ | with_reducible refine New.drew ?_ | with_reducible refine New.trans ?_ (by with_reducible assumption))))
                | (go_at_call 116; refine (HIX.out _ _ hq7 ho7.at).mono ?_; rintro e w8 ⟨rfl, hn8⟩; have hq8 : New wo w8 := (by repeat (first | with_reducible exact New.refl _ | with_reducible assumption | with_reducible refine New.alloc ?_ _ | with_reducible refine New.drewN ?_ _ | with_reducible refine New.drew ?_ | with_reducible refine New.trans ?_ (by with_reducible assumption)))))
            all_goals go_wp2_with fail
            all_goals
              have w1' : IntKind.i64.wrap (Z * (T.length : Int)) = Z * (T.length : Int) := IntWalk.i64_in _ (by rw [← HZT.out]; exact ⟨by omega, by omega⟩)
              have w2' : IntKind.i64.wrap (Z * (T.length : Int) + F) = Z * (T.length : Int) + F := IntWalk.i64_in _ (by rw [← HZT.out]; exact ⟨by omega, by omega⟩)
              refine ⟨⟨s + 1, by omega, by go_num, by rw [w1', w2', HSU.out], hns.trans hq8⟩, ?_⟩
              simp [intOf]; omega
          · have e : s = r.nx.length := by omega
            subst e
            go_wp2_with fail
            go_ret2
            rw [HE.out, ← HN.out, ← HZ.out]
            exact ⟨rfl, (hn0.trans hn12).trans hns⟩

end Go.Proofs.Ytiflokfinkachaa
