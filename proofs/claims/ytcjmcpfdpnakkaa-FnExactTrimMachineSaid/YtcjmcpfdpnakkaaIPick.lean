/- The program's machine of some states. -/
import Derived.Test.YtcjmcpfdpnakkaaRows
import Derived.Test.YtcjmcpfdpnakkaaCore
import Derived.Test.YtcjmcpfdpnakkaaInfo
import Derived.Test.YtcjmcpfdpnakkaaMaps
import Derived.Test.YtcjmcpfdpnakkaaGrow2P
import Derived.Test.YtcjmcpfdpnakkaaGrowIR
import Derived.Test.YtcjmcpfdpnakkaaBox4
import Derived.Test.YtcjmcpfdpnakkaaPlains
import Derived.Test.YtcjmcpfdpnakkaaPlainApart
import Derived.Test.YtcjmcpfdpnakkaaPlainTrim
import Derived.Test.YtcjmcpfdpnakkaaI01a
import Derived.Test.YtcjmcpfdpnakkaaIIdx
import Derived.WalkKit
import Derived.WalkSpells
import Derived.WalkLawsBesides
import Derived.Deep.QuietTactic
import Derived.Deep.OwnRows
import Derived.BigQuiet
import Derived.KernelRfl
import Derived.Carry
import Derived.Deep.RegionHeld3
import Derived.Deep.RegionLaw
import Derived.Deep.Cut
import Derived.StillTailTactics
namespace Go.Proofs.Ytcjmcpfdpnakkaa
open Go.RowKit

def pickS (m : Mach) (st : Int → Int) (k : Nat) (s : Int) : Int := st (nth (nth m.nx k) s.toNat)
def pickU (m : Mach) (k : Nat) (s : Int) : Int := nth (nth m.out k) s.toNat
def pickW (m : Mach) (os : List Int) (st : Int → Int) : Mach := ⟨os.length, m.o, m.nx.map fun row => os.map fun s => st (nth row s.toNat), m.out.map fun row => os.map fun s => nth row s.toNat⟩
theorem pickW_nx (m : Mach) (os : List Int) (st : Int → Int) : (pickW m os st).nx = m.nx.mapIdx fun k _ => os.map (pickS m st k) := by
  apply List.ext_getElem
  · simp [pickW]
  · intro i h1 h2
    have h : i < m.nx.length := by simpa [pickW] using h1
    simp [pickW, pickS, nth_eq _ _ h]
theorem pickW_out (m : Mach) (os : List Int) (st : Int → Int) (hl : m.out.length = m.nx.length) : (pickW m os st).out = m.nx.mapIdx fun k _ => os.map (pickU m k) := by
  apply List.ext_getElem
  · simp [pickW, hl]
  · intro i h1 h2
    have h : i < m.out.length := by simpa [pickW] using h1
    simp [pickW, pickU, nth_eq _ _ h]
set_option maxRecDepth 20000 in
set_option maxHeartbeats 4000000 in
theorem picked_any (v ov : Value) (m : Mach) (os : List Int) (kf : Nat) (cap : Array Value) (st : Int → Int) (w : World) (hp : MachAt w v m) (ho : IntsAt w ov os) (hm : machOk m = true) (h1 : ∀ x, x ∈ os → 0 ≤ x ∧ x < m.n) (hol : os.length ≤ 10)
    (hent : ∀ args w, Sem.run Try.prog (callFunc kf args) w = .ok (.enter kf args) w)
    (hf : ∀ w', New w w' → ∀ x, Calls Try.prog kf (#[.int .i64 x] ++ cap) w' fun e w'' => e = .returned (.int .i64 (st x)) ∧ w'' = w') :
    Calls Try.prog 95 #[v, ov, .func (.func kf) #[] cap] w fun e w' => ∃ r, e = .returned r ∧ New w w' ∧ OwnMach w.heap.size w'.heap.size w' r (pickW m os st) := by
  obtain ⟨rv1, rv2, rfl, hr1, hr2⟩ := hp
  obtain ⟨A1, c1, rfl, _, hc1⟩ := hr1
  obtain ⟨A2, c2, rfl, _, hc2⟩ := hr2
  obtain ⟨AO, cO, rfl, hol', hcO⟩ := ho
  have hml := mach_l hm
  have HC1 := hid hc1
  have HC2 := hid hc2
  have HCO := hid hcO
  have HOS := hid h1
  have HF := hid hf
  have HR := hid (fun l (h : l < m.nx.length) => mach_row hm l h)
  have HO := hid (mach_out hm)
  clear hm hc1 hc2 hcO h1 hf
  have C0 := fun w' => size64_any AO os.length cO w' hol'
  go_enter Try.func95, Try.ntmps95
  go_wp2_with fail
  go_cut [7] from 13 (fun o wr => o = .pointer (some ⟨w.heap.size + 1 + 1, 0, none⟩) ∧ New w wr ∧ w.heap.size + 1 + 1 + 1 ≤ wr.heap.size ∧ XBox wr w.heap.size (.int .i64 m.n) (.int .i64 m.o) (.slice A1 m.nx.length c1) (.slice A2 m.out.length c2) ∧ Box4 wr (w.heap.size + 1) (.int .i64 0) (.int .i64 0) (.slice none 0 0) (.slice none 0 0) ∧ XBox wr (w.heap.size + 1 + 1) (.int .i64 os.length) (.int .i64 m.o) (.slice none 0 0) (.slice none 0 0))
  case first =>
    go_region_held3 (fun w' => w'.cell? ⟨w.heap.size, 1, none⟩ = some (.int .i64 m.o))
      (first | go_keep | (go_simp; done))
      (first | (go_at_call 85; refine (C0 _).mono ?_; rintro e w' ⟨rfl, rfl⟩))
    all_goals go_wp2_with fail
    all_goals go_meet
    all_goals exact ⟨by with_reducible rfl, (by repeat (first | with_reducible exact New.refl _ | with_reducible assumption | with_reducible refine New.alloc ?_ _ | with_reducible refine New.drewN ?_ _ | with_reducible refine New.drew ?_ | with_reducible refine New.trans ?_ (by with_reducible assumption))), (by (try simp only [sizes]) <;> omega), ⟨by go_simp, by go_simp, by go_simp, by go_simp, by go_simp, by go_simp⟩, ⟨⟨by go_simp, by go_simp, by go_simp, by go_simp⟩, by go_simp, by go_simp, by go_simp, by go_simp⟩, ⟨by go_simp, by go_simp, by go_simp, by go_simp, by go_simp, by go_simp⟩⟩
  case rest =>
    obtain ⟨rfl, hN0, hZ0, hMB, hRB, hXB⟩ := hcut
    have hGP : Grow2P (w.heap.size + 1 + 1 + 1) 26 26 wc (.slice none 0 0) (.slice none 0 0) ((m.nx.take 0).mapIdx fun k _ => os.map (pickS m st k)) ((m.nx.take 0).mapIdx fun k _ => os.map (pickU m k)) := Grow2P.nil _ _ _ _
    obtain ⟨_, _, a2, a3, _, _⟩ := id hMB
    clear C0
    go_wp2_with fail
    clear a2 a3
    go_loopw [21] (fun i wr => ∃ (k : Nat) (v1 v2 : Value), i = .int .i64 k ∧ k ≤ m.nx.length ∧ New w wr ∧ w.heap.size + 1 + 1 + 1 ≤ wr.heap.size ∧ XBox wr w.heap.size (.int .i64 m.n) (.int .i64 m.o) (.slice A1 m.nx.length c1) (.slice A2 m.out.length c2) ∧ Box4 wr (w.heap.size + 1) (.int .i64 0) (.int .i64 0) (.slice none 0 0) (.slice none 0 0) ∧ XBox wr (w.heap.size + 1 + 1) (.int .i64 os.length) (.int .i64 m.o) v1 v2 ∧
        Grow2P (w.heap.size + 1 + 1 + 1) 26 26 wr v1 v2 ((m.nx.take k).mapIdx fun k _ => os.map (pickS m st k)) ((m.nx.take k).mapIdx fun k _ => os.map (pickU m k))) (fun i _ => m.nx.length - (intOf i).toNat)
    case atStart => exact ⟨0, _, _, rfl, Nat.zero_le _, hN0, hZ0, hMB, hRB, hXB, hGP⟩
    case round =>
      obtain ⟨k, v1, v2, rfl, hk, hn, hz, hM, hB, hX, hG⟩ := hrel
      clear hN0 hRB hXB hGP hZ0 hMB
      obtain ⟨wo, rfl⟩ : ∃ wo : World, wo = wr := ⟨_, rfl⟩
      by_cases hlt : k < m.nx.length
      · have b1 : (k : Int) < (m.nx.length : Int) := by omega
        obtain ⟨XS1, hXS1⟩ : ∃ z, z = (m.nx.take k).mapIdx fun k _ => os.map (pickS m st k) := ⟨_, rfl⟩
        obtain ⟨XS2, hXS2⟩ : ∃ z, z = (m.nx.take k).mapIdx fun k _ => os.map (pickU m k) := ⟨_, rfl⟩
        have HL1 := hid (show XS1.length = k by rw [hXS1]; simp; omega)
        have HL2 := hid (show XS2.length = k by rw [hXS2]; simp; omega)
        have HS1 := hid (show ((m.nx.take (k + 1)).mapIdx fun k _ => os.map (pickS m st k)) = XS1 ++ [os.map (pickS m st k)] by
          rw [hXS1, take_succ_nth _ k hlt, List.mapIdx_append]; simp [show min k m.nx.length = k by omega])
        have HS2 := hid (show ((m.nx.take (k + 1)).mapIdx fun k _ => os.map (pickU m k)) = XS2 ++ [os.map (pickU m k)] by
          rw [hXS2, take_succ_nth _ k hlt, List.mapIdx_append]; simp [show min k m.nx.length = k by omega])
        rw [← hXS1, ← hXS2] at hG
        clear hXS1 hXS2
        have hII := GrowII.start wo 2 wo.heap.size rfl
        have hnw : New wo ((wo.alloc (.cells #[] 2)).alloc (.cells #[] 2)) := (by repeat (first | with_reducible exact New.refl _ | with_reducible assumption | with_reducible refine New.alloc ?_ _ | with_reducible refine New.drew ?_ | with_reducible refine New.drewN ?_ _ | with_reducible refine New.setCell ?_ (by simp <;> omega) _))
        go_wp2_with fail
        generalize ((wo.alloc (.cells #[] 2)).alloc (.cells #[] 2)) = wn at hII hnw ⊢
        go_loopw [9, 10, 28] (fun o1 o2 x wr => ∃ j : Nat, x = .int .i64 j ∧ j ≤ os.length ∧ New wo wr ∧ GrowII wo.heap.size 2 wr o1 o2 ((os.take j).map (pickS m st k)) ((os.take j).map (pickU m k))) (fun _ _ x _ => os.length - (intOf x).toNat)
        case atStart => exact ⟨0, rfl, Nat.zero_le _, hnw, hII⟩
        case round =>
          obtain ⟨j, rfl, hj, hNj, hGo⟩ := hrel
          clear hII hnw
          obtain ⟨wj, rfl⟩ : ∃ wj : World, wj = wr := ⟨_, rfl⟩
          obtain ⟨Y1, hY1⟩ : ∃ z, z = (os.take j).map (pickS m st k) := ⟨_, rfl⟩
          obtain ⟨Y2, hY2⟩ : ∃ z, z = (os.take j).map (pickU m k) := ⟨_, rfl⟩
          have HY1 := hid hY1
          have HY2 := hid hY2
          have hlY1 : Y1.length = j := by rw [hY1]; simp; omega
          have hlY2 : Y2.length = j := by rw [hY2]; simp; omega
          rw [← hY1, ← hY2] at hGo
          obtain ⟨⟨B1, cc1, rfl⟩, B2, cc2, rfl⟩ := hGo.form
          rw [hlY1, hlY2] at hGo
          have r1 := hGo.row1 hlY1
          have HLY1 := hid hlY1
          have HLY2 := hid hlY2
          rw [hlY1, hlY2]
          clear hY1 hY2 hlY1 hlY2
          by_cases hltj : j < os.length
          · have b3 : (j : Int) < (os.length : Int) := by omega
            obtain ⟨X, hX'⟩ : ∃ z, z = nth os j := ⟨_, rfl⟩
            obtain ⟨x0, x1⟩ := HOS.out X (by rw [hX']; exact nth_mem _ _ hltj)
            obtain ⟨ob, oo, rfl, hox⟩ := HCO.out j hltj
            rw [← hX'] at hox
            have HX := hid hX'
            obtain ⟨R1, R2⟩ := HR.out k hlt
            obtain ⟨Q1, Q2⟩ := HO.out
            obtain ⟨Q3, Q4⟩ := Q2 k (by omega)
            obtain ⟨b4, o4, rv4, rfl, hx4, hr4⟩ := HC1.out k hlt
            obtain ⟨A5, c5, rfl, _, hc5⟩ := hr4
            obtain ⟨b5, o5, rfl, hx5⟩ := hc5 X.toNat (by omega)
            obtain ⟨Z, hZ⟩ : ∃ z, z = nth (nth m.nx k) X.toNat := ⟨_, rfl⟩
            rw [← hZ] at hx5
            obtain ⟨b6, o6, rv6, rfl, hx6, hr6⟩ := HC2.out k (by omega)
            obtain ⟨A7, c7, rfl, _, hc7⟩ := hr6
            obtain ⟨b7, o7, rfl, hx7⟩ := hc7 X.toNat (by omega)
            obtain ⟨U, hU⟩ : ∃ z, z = nth (nth m.out k) X.toNat := ⟨_, rfl⟩
            rw [← hU] at hx7
            have HP1 := hid (show pickS m st k X = st Z by rw [hZ]; rfl)
            have HP2 := hid (show pickU m k X = U by rw [hU]; rfl)
            have g1 : X < ((nth m.nx k).length : Int) := by omega
            have g3 : X < ((nth m.out k).length : Int) := by omega
            have g4 : (k : Int) < (m.out.length : Int) := by omega
            clear hX' hZ hU hc5 hc7 R2 Q2 Q4 Q1 Q3 R1
            obtain ⟨_, _, m2, m3, _, _⟩ := id hM
            have HSS := hid (fun (w' : World) (hm : New wo w') => (show w'.cell? ⟨w.heap.size, 2, none⟩ = some (.slice (some ⟨b4, o4, none⟩) m.nx.length c1) ∧ w'.cell? ⟨b4, o4 + k, none⟩ = some (.slice (some ⟨b5, o5, none⟩) (nth m.nx k).length c5) ∧ w'.cell? ⟨b5, o5 + X.toNat, none⟩ = some (.int .i64 Z) ∧ w'.cell? ⟨w.heap.size, 3, none⟩ = some (.slice (some ⟨b6, o6, none⟩) m.out.length c2) ∧ w'.cell? ⟨b6, o6 + k, none⟩ = some (.slice (some ⟨b7, o7, none⟩) (nth m.out k).length c7) ∧ w'.cell? ⟨b7, o7 + X.toNat, none⟩ = some (.int .i64 U) from
              ⟨hm.cell m2, (hn.trans hm).cell hx4, (hn.trans hm).cell hx5, hm.cell m3, (hn.trans hm).cell hx6, (hn.trans hm).cell hx7⟩))
            have hoxj := (hn.trans hNj).cell hox
            have hwj : New w wj := hn.trans hNj
            have hzj := hNj.size
            clear m2 m3
            obtain ⟨s2, s4, s5, s3, s6, s7⟩ := HSS.out _ hNj
            have hb2 := (GrowII.row2 hGo HLY2.out)
            go_wp2_with fail
            go_region_held3 (fun w' => w'.cell? ⟨w.heap.size, 2, none⟩ = some (.slice (some ⟨b4, o4, none⟩) m.nx.length c1) ∧ w'.cell? ⟨b4, o4 + k, none⟩ = some (.slice (some ⟨b5, o5, none⟩) (nth m.nx k).length c5) ∧ w'.cell? ⟨b5, o5 + X.toNat, none⟩ = some (.int .i64 Z) ∧ w'.cell? ⟨w.heap.size, 3, none⟩ = some (.slice (some ⟨b6, o6, none⟩) m.out.length c2) ∧ w'.cell? ⟨b6, o6 + k, none⟩ = some (.slice (some ⟨b7, o7, none⟩) (nth m.out k).length c7) ∧ w'.cell? ⟨b7, o7 + X.toNat, none⟩ = some (.int .i64 U))
              (first | exact HSS.out _ (by repeat (first | with_reducible exact New.refl _ | with_reducible assumption | with_reducible refine New.alloc ?_ _ | with_reducible refine New.drewN ?_ _ | with_reducible refine New.drew ?_ | with_reducible refine New.trans ?_ (by with_reducible assumption))) | go_keep)
              (first
                | (refine (HF.out _ (by repeat (first | with_reducible exact New.refl _ | with_reducible assumption | with_reducible refine New.alloc ?_ _ | with_reducible refine New.drewN ?_ _ | with_reducible refine New.drew ?_ | with_reducible refine New.trans ?_ (by with_reducible assumption))) _).mono ?_; rintro e w' ⟨rfl, rfl⟩)
                | (refine step_appV1 rfl _ _ _ rfl Try.underlying26 info_i64 rfl (by decide) (B := wo.heap.size) _ j (Y1.map (Value.int .i64)) (.int .i64 (st Z)) rfl _ rfl (ownsRow_new r1 (by repeat (first | with_reducible exact New.refl _ | with_reducible assumption | with_reducible refine New.alloc ?_ _ | with_reducible refine New.drew ?_ | with_reducible refine New.drewN ?_ _ | with_reducible refine New.setCell ?_ (by simp <;> omega) _))) rfl (by go_simp) (by omega) (by (try simp only [sizes]) <;> omega) ?_; intro g8 cap8 w8 ho8 hg8 hloc8; have hn8 : New wo w8 := New.grown (hNj.trans (by repeat (first | with_reducible exact New.refl _ | with_reducible assumption | with_reducible refine New.alloc ?_ _ | with_reducible refine New.drew ?_ | with_reducible refine New.drewN ?_ _ | with_reducible refine New.setCell ?_ (by simp <;> omega) _))) hg8 (fun q hq => (World.ownsRow.lt r1 q hq).1); have hII8 := GrowII.appN1 hg8 (by repeat (first | with_reducible exact New.refl _ | with_reducible assumption | with_reducible refine New.alloc ?_ _ | with_reducible refine New.drewN ?_ _ | with_reducible refine New.drew ?_ | with_reducible refine New.trans ?_ (by with_reducible assumption))) hGo HLY1.out ho8 hloc8; have r2 := hII8.row2 HLY2.out; have hlt8 := fun q hq => (World.ownsRow.lt r1 q hq).2; have hz8 := hn8.size)
                | (refine step_appV1 rfl _ _ _ rfl Try.underlying26 info_i64 rfl (by decide) (B := wo.heap.size) _ j (Y2.map (Value.int .i64)) (.int .i64 U) rfl _ rfl (ownsRow_new r2 (by repeat (first | with_reducible exact New.refl _ | with_reducible assumption | with_reducible refine New.alloc ?_ _ | with_reducible refine New.drew ?_ | with_reducible refine New.drewN ?_ _ | with_reducible refine New.setCell ?_ (by simp <;> omega) _))) rfl (by first | (go_simp; done) | (refine hg8.cell (by go_simp) ?_; intro e; have hk8 := hlt8 _ e.symm; (try simp only at hk8); omega)) (by omega) (by (try simp only [sizes]) <;> omega) ?_; intro g9 cap9 w9 ho9 hg9 hloc9; have hn9 : New wo w9 := New.grown (hn8.trans (by repeat (first | with_reducible exact New.refl _ | with_reducible assumption | with_reducible refine New.alloc ?_ _ | with_reducible refine New.drew ?_ | with_reducible refine New.drewN ?_ _ | with_reducible refine New.setCell ?_ (by simp <;> omega) _))) hg9 (fun q hq => (World.ownsRow.lt r2 q hq).1); have hII9 := GrowII.appN2 hg9 (by repeat (first | with_reducible exact New.refl _ | with_reducible assumption | with_reducible refine New.alloc ?_ _ | with_reducible refine New.drewN ?_ _ | with_reducible refine New.drew ?_ | with_reducible refine New.trans ?_ (by with_reducible assumption))) hII8 HLY2.out ho9 hloc9))
            all_goals go_wp2_with fail
            all_goals (refine ⟨⟨j + 1, by go_num, by omega, hn9, by
                rw [take_succ_nth os j hltj, List.map_append, List.map_append, ← HY1.out, ← HY2.out, ← HX.out]
                show GrowII _ _ _ _ _ (Y1 ++ [pickS m st k X]) (Y2 ++ [pickU m k X])
                rw [HP1.out, HP2.out]; exact hII9⟩, ?_⟩; simp [intOf]; omega)
          · have e : j = os.length := by omega
            subst e
            have b3 : ¬ ((os.length : Nat) : Int) < (os.length : Int) := by omega
            have hY1 := HY1.out
            have hY2 := HY2.out
            rw [List.take_length] at hY1 hY2
            replace HY1 := hid hY1
            replace HY2 := hid hY2
            clear hY1 hY2
            obtain ⟨⟨D1, d1, rfl⟩, D2, d2, rfl⟩ := hG.form
            have hXj := hX.new hNj
            have hBj := hB.new hNj
            have hMj := hM.new hNj
            have hwj : New w wj := hn.trans hNj
            have hzj := hNj.size
            have hbl := hid hG.blocks
            obtain ⟨l1, hl1, hsp1⟩ := Grow2P.app1N hG hNj hz (hGo.1.own (by have := HLY1.out; omega)) (hGo.2.1.own (by have := HLY2.out; omega)) hGo.2.2
            have HSP1 := hid hsp1
            have hXS1l : XS1.length < 1099511627776 := by have := HL1.out; omega
            have hXS2l : XS2.length < 1099511627776 := by have := HL2.out; omega
            have HXX := hid (fun (w' : World) (hm : New wj w') => (show w'.cell? ⟨w.heap.size + 1 + 1, 2, none⟩ = some (.slice D1 XS1.length d1) ∧ w'.cell? ⟨w.heap.size + 1 + 1, 3, none⟩ = some (.slice D2 XS2.length d2) from ⟨hm.cell hXj.2.2.1, hm.cell hXj.2.2.2.1⟩))
            obtain ⟨x2, x3⟩ := HXX.out _ (New.refl _)
            have hzb : w.heap.size + 1 + 1 + 1 ≤ wj.heap.size := by omega
            clear hsp1
            have hwB1 := hid (fun q hq => (hG.blocks.1 q hq).2)
            go_wp2_with fail
            have xa := fun o p v (h : wj.cell? p = some v) => New.cell (New.alloc (New.refl wj) o) h
            have xb := fun o o' p v (h : wj.cell? p = some v) => New.cell (New.alloc (New.alloc (New.refl wj) o) o') h
            have x2a := xa (.cells #[.slice B1 os.length cc1] 26) _ _ x2
            have x3a := xa (.cells #[.slice B1 os.length cc1] 26) _ _ x3
            have x2b := xa (.cells #[.slice B2 os.length cc2] 26) _ _ x2
            have x3b := xa (.cells #[.slice B2 os.length cc2] 26) _ _ x3
            have x2c := xb (.cells #[.slice B1 os.length cc1] 26) (.cells #[.slice B2 os.length cc2] 26) _ _ x2
            have x3c := xb (.cells #[.slice B1 os.length cc1] 26) (.cells #[.slice B2 os.length cc2] 26) _ _ x3
            have x2d := xb (.cells #[.slice B2 os.length cc2] 26) (.cells #[.slice B1 os.length cc1] 26) _ _ x2
            have x3d := xb (.cells #[.slice B2 os.length cc2] 26) (.cells #[.slice B1 os.length cc1] 26) _ _ x3
            clear xa xb
            go_region_law
              (first
                | (refine step_appV1 rfl _ _ _ rfl (B := w.heap.size + 1 + 1 + 1) Try.underlying22 info_ints rfl (by decide) (.slice D1 XS1.length d1) XS1.length l1 (.slice B1 os.length cc1) rfl _ rfl (ownsRow_new hl1 (by repeat (first | with_reducible exact New.refl _ | with_reducible assumption | with_reducible refine New.alloc ?_ _ | with_reducible refine New.drewN ?_ _ | with_reducible refine New.drew ?_ | with_reducible refine New.trans ?_ (by with_reducible assumption)))) rfl (by go_simp) hXS1l (by (try simp only [sizes]) <;> omega) ?_; intro g1 cap1 wd1 hod1 hgd1 hloc1; have hR1 := HSP1.out _ g1 cap1 wd1 (by repeat (first | with_reducible exact New.refl _ | with_reducible assumption | with_reducible refine New.alloc ?_ _ | with_reducible refine New.drewN ?_ _ | with_reducible refine New.drew ?_ | with_reducible refine New.trans ?_ (by with_reducible assumption))) hod1 hgd1 hloc1; have hB1 := Box4.grown (Box4.new hBj (by repeat (first | with_reducible exact New.refl _ | with_reducible assumption | with_reducible refine New.alloc ?_ _ | with_reducible refine New.drewN ?_ _ | with_reducible refine New.drew ?_ | with_reducible refine New.trans ?_ (by with_reducible assumption)))) hgd1 (fun q hq => by have := (hbl.out.1 q hq).1; omega); have hM1 := XBox.grown (XBox.new hMj (by repeat (first | with_reducible exact New.refl _ | with_reducible assumption | with_reducible refine New.alloc ?_ _ | with_reducible refine New.drewN ?_ _ | with_reducible refine New.drew ?_ | with_reducible refine New.trans ?_ (by with_reducible assumption)))) hgd1 (fun q hq => by have := (hbl.out.1 q hq).1; omega); have hX1 := XBox.grown (XBox.new hXj (by repeat (first | with_reducible exact New.refl _ | with_reducible assumption | with_reducible refine New.alloc ?_ _ | with_reducible refine New.drewN ?_ _ | with_reducible refine New.drew ?_ | with_reducible refine New.trans ?_ (by with_reducible assumption)))) hgd1 (fun q hq => by have := (hbl.out.1 q hq).1; omega); have hN1 : New w wd1 := New.grown (New.trans hwj (by repeat (first | with_reducible exact New.refl _ | with_reducible assumption | with_reducible refine New.alloc ?_ _ | with_reducible refine New.drewN ?_ _ | with_reducible refine New.drew ?_ | with_reducible refine New.trans ?_ (by with_reducible assumption)))) hgd1 (fun q hq => by have := (hbl.out.1 q hq).1; omega); have hz1 := hN1.size; have hx1 := hX1.lt; obtain ⟨_, _, y2, y3, _, _⟩ := id hX1; have y3a := fun o => New.cell (New.alloc (New.refl wd1) o) y3; obtain ⟨l2, hl2, hsp2⟩ := hR1.app2N; have hbl2 := hR1.blocks.2; have hs1 := hgd1.size; (try simp only [sizes] at hs1); have y3b := y3a (.cells #[.slice B2 os.length cc2] 26))
                | (refine step_appV1 rfl _ _ _ rfl (B := w.heap.size + 1 + 1 + 1) Try.underlying22 info_ints rfl (by decide) (.slice D2 XS2.length d2) XS2.length l2 (.slice B2 os.length cc2) rfl _ rfl (ownsRow_new hl2 (by repeat (first | with_reducible exact New.refl _ | with_reducible assumption | with_reducible refine New.alloc ?_ _ | with_reducible refine New.drewN ?_ _ | with_reducible refine New.drew ?_ | with_reducible refine New.trans ?_ (by with_reducible assumption)))) rfl (by first | (go_simp; done) | (refine hgd1.cell (by go_simp) ?_; intro e; have hk1 := hwB1.out _ e.symm; (try simp only at hk1); omega)) hXS2l (by (try simp only [sizes]) <;> omega) ?_; intro g2 cap2 wd2 hod2 hgd2 hloc2; have hG2 := hsp2 _ g2 cap2 wd2 (by repeat (first | with_reducible exact New.refl _ | with_reducible assumption | with_reducible refine New.alloc ?_ _ | with_reducible refine New.drewN ?_ _ | with_reducible refine New.drew ?_ | with_reducible refine New.trans ?_ (by with_reducible assumption))) hod2 hgd2 hloc2; have hB2 := Box4.grown (Box4.new hB1 (by repeat (first | with_reducible exact New.refl _ | with_reducible assumption | with_reducible refine New.alloc ?_ _ | with_reducible refine New.drewN ?_ _ | with_reducible refine New.drew ?_ | with_reducible refine New.trans ?_ (by with_reducible assumption)))) hgd2 (fun q hq => by have := (hbl2 q hq).1; omega); have hM2 := XBox.grown (XBox.new hM1 (by repeat (first | with_reducible exact New.refl _ | with_reducible assumption | with_reducible refine New.alloc ?_ _ | with_reducible refine New.drewN ?_ _ | with_reducible refine New.drew ?_ | with_reducible refine New.trans ?_ (by with_reducible assumption)))) hgd2 (fun q hq => by have := (hbl2 q hq).1; omega); have hX2 := XBox.grown (XBox.new hX1 (by repeat (first | with_reducible exact New.refl _ | with_reducible assumption | with_reducible refine New.alloc ?_ _ | with_reducible refine New.drewN ?_ _ | with_reducible refine New.drew ?_ | with_reducible refine New.trans ?_ (by with_reducible assumption)))) hgd2 (fun q hq => by have := (hbl2 q hq).1; omega); have hN2 : New w wd2 := New.grown (New.trans hN1 (by repeat (first | with_reducible exact New.refl _ | with_reducible assumption | with_reducible refine New.alloc ?_ _ | with_reducible refine New.drewN ?_ _ | with_reducible refine New.drew ?_ | with_reducible refine New.trans ?_ (by with_reducible assumption)))) hgd2 (fun q hq => by have := (hbl2 q hq).1; omega); have hs2 := hgd2.size; (try simp only [sizes] at hs2); obtain ⟨_, _, u2, u3, uf2, uf3⟩ := id hX2; obtain ⟨_, _, _, t3, _, tf3⟩ := hX2.set2 (.slice (some ⟨g1, 0, none⟩) (XS1.length + 1) cap1)))
            all_goals
              have hGf := (hG2.low (grown_setCell wd2 ⟨w.heap.size + 1 + 1, 2, none⟩ (.slice (some ⟨g1, 0, none⟩) (XS1.length + 1) cap1)) (Nat.lt_succ_self _)).low (grown_setCell _ ⟨w.heap.size + 1 + 1, 3, none⟩ (.slice (some ⟨g2, 0, none⟩) (XS2.length + 1) cap2)) (Nat.lt_succ_self _)
              have hNf : New w ((wd2.setCell ⟨w.heap.size + 1 + 1, 2, none⟩ (.slice (some ⟨g1, 0, none⟩) (XS1.length + 1) cap1)).setCell ⟨w.heap.size + 1 + 1, 3, none⟩ (.slice (some ⟨g2, 0, none⟩) (XS2.length + 1) cap2)) := (hN2.setCell (p := ⟨w.heap.size + 1 + 1, 2, none⟩) (Nat.le_trans (Nat.le_succ _) (Nat.le_succ _)) _).setCell (p := ⟨w.heap.size + 1 + 1, 3, none⟩) (Nat.le_trans (Nat.le_succ _) (Nat.le_succ _)) _
              have hBf := (hB2.other ⟨w.heap.size + 1 + 1, 2, none⟩ (Nat.succ_ne_self _) (.slice (some ⟨g1, 0, none⟩) (XS1.length + 1) cap1)).other ⟨w.heap.size + 1 + 1, 3, none⟩ (Nat.succ_ne_self _) (.slice (some ⟨g2, 0, none⟩) (XS2.length + 1) cap2)
              have hMf := (hM2.other ⟨w.heap.size + 1 + 1, 2, none⟩ (by simp; omega) (.slice (some ⟨g1, 0, none⟩) (XS1.length + 1) cap1)).other ⟨w.heap.size + 1 + 1, 3, none⟩ (by simp; omega) (.slice (some ⟨g2, 0, none⟩) (XS2.length + 1) cap2)
              have hXf := (hX2.set2 (.slice (some ⟨g1, 0, none⟩) (XS1.length + 1) cap1)).set3 (.slice (some ⟨g2, 0, none⟩) (XS2.length + 1) cap2)
              have hzf : w.heap.size + 1 + 1 + 1 ≤ wd2.heap.size := by omega
              clear hG2 hB2 hM2 hX2 hN2 u2 u3 uf2 uf3 t3 tf3 hod1 hod2 hgd1 hgd2 hloc1 hloc2
              go_wp2_with fail
            all_goals
              refine ⟨⟨k + 1, _, _, by go_num, by omega, hNf, by simp only [size_setCell]; exact hzf, hMf, hBf, hXf, by rw [HS1.out, HS2.out, ← HY1.out, ← HY2.out]; exact hGf⟩, ?_⟩
              simp [intOf]; omega
      · have e : k = m.nx.length := by omega
        have b1 : ¬ (k : Int) < (m.nx.length : Int) := by omega
        subst e
        have HOL := hid ((HO.out).1)
        obtain ⟨XS1, hXS1⟩ : ∃ z, z = (m.nx.take m.nx.length).mapIdx fun k _ => os.map (pickS m st k) := ⟨_, rfl⟩
        obtain ⟨XS2, hXS2⟩ : ∃ z, z = (m.nx.take m.nx.length).mapIdx fun k _ => os.map (pickU m k) := ⟨_, rfl⟩
        rw [← hXS1, ← hXS2] at hG
        have HS1 := hid (show (pickW m os st).nx = XS1 by rw [hXS1, List.take_length]; exact pickW_nx m os st)
        have HS2 := hid (show (pickW m os st).out = XS2 by rw [hXS2, List.take_length]; exact pickW_out m os st HOL.out)
        clear hXS1 hXS2
        obtain ⟨⟨D1, d1, rfl⟩, D2, d2, rfl⟩ := hG.form
        obtain ⟨x0, x1, x2, x3, xf2, xf3⟩ := id hX
        obtain ⟨⟨e0, e1, e2, e3⟩, f0, f1, f2, f3⟩ := id hB
        obtain ⟨⟨g0, g1, g2, g3⟩, _⟩ := hB.fill (.int .i64 os.length) (.int .i64 m.o) (.slice D1 XS1.length d1) (.slice D2 XS2.length d2)
        have HW := hid (Within.fill4 wo (w.heap.size + 1) (.int .i64 os.length) (.int .i64 m.o) (.slice D1 XS1.length d1) (.slice D2 XS2.length d2))
        go_wp2_with fail
        refine bodyPost_ret (v := .agg #[.int .i64 os.length, .int .i64 m.o, .slice D1 XS1.length d1, .slice D2 XS2.length d2]) (by simp [results, Try.results95, go_sem, g0, g1, g2, g3]) rfl ?_
        have hNn := hn.within HW.out (Nat.le_succ _)
        refine ⟨_, rfl, hNn, ?_⟩
        have hG' : Grow2P (w.heap.size + 1 + 1 + 1) 26 26 wo (.slice D1 XS1.length d1) (.slice D2 XS2.length d2) (pickW m os st).nx (pickW m os st).out := by rw [HS1.out, HS2.out]; exact hG
        have hM := hG'.mach (by have := hml; unfold pickW; simp; omega) (by have := hml; have := HOL.out; unfold pickW; simp; omega)
        exact (hM.within HW.out (Or.inr (by omega))).widen (by omega) HW.out.2.2.2.1

end Go.Proofs.Ytcjmcpfdpnakkaa
