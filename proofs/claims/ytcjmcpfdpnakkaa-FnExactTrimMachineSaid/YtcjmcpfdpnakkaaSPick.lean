/- The reference's machine of some states. -/
import Derived.Test.YtcjmcpfdpnakkaaRows
import Derived.Test.YtcjmcpfdpnakkaaCore
import Derived.Test.YtcjmcpfdpnakkaaInfo
import Derived.Test.YtcjmcpfdpnakkaaPlains
import Derived.Test.YtcjmcpfdpnakkaaPlainMon
import Derived.Test.YtcjmcpfdpnakkaaPlainApart
import Derived.Test.YtcjmcpfdpnakkaaPlainTrim
import Derived.Test.YtcjmcpfdpnakkaaMaps
import Derived.Test.YtcjmcpfdpnakkaaGrow2P
import Derived.Test.YtcjmcpfdpnakkaaGrowIR
import Derived.Test.YtcjmcpfdpnakkaaBox4
import Derived.Test.YtcjmcpfdpnakkaaS00a
import Derived.Test.YtcjmcpfdpnakkaaS01a
import Derived.Test.YtcjmcpfdpnakkaaSOwn
import Derived.WalkKit
import Derived.WalkSpells
import Derived.WalkLawsBesides
import Derived.Deep.QuietTactic
import Derived.Deep.OwnRows
import Derived.BigQuiet
import Derived.KernelRfl
import Derived.Deep.RegionHeld3
namespace Go.Proofs.Ytcjmcpfdpnakkaa
open Go.RowKit

def pickT (m : Mach) (os T : List Int) : Mach := ⟨os.length, m.o, m.nx.map fun row => os.map fun s => nth T (nth row s.toNat).toNat, m.out.map fun row => os.map fun s => nth row s.toNat⟩
def pickN (m : Mach) (T : List Int) (k : Nat) (s : Int) : Int := nth T (nth (nth m.nx k) s.toNat).toNat
def pickO (m : Mach) (k : Nat) (s : Int) : Int := nth (nth m.out k) s.toNat
theorem pickT_nx (m : Mach) (os T : List Int) : (pickT m os T).nx = m.nx.mapIdx fun k _ => os.map (pickN m T k) := by
  apply List.ext_getElem
  · simp [pickT]
  · intro i h1 h2
    have h : i < m.nx.length := by simpa [pickT] using h1
    simp [pickT, pickN, nth_eq _ _ h]
theorem pickT_out (m : Mach) (os T : List Int) (hl : m.out.length = m.nx.length) : (pickT m os T).out = m.nx.mapIdx fun k _ => os.map (pickO m k) := by
  apply List.ext_getElem
  · simp [pickT, hl]
  · intro i h1 h2
    have h : i < m.out.length := by simpa [pickT] using h1
    simp [pickT, pickO, nth_eq _ _ h]
set_option maxRecDepth 20000 in
set_option maxHeartbeats 4000000 in
theorem l06Pick_any (pv ov tv : Value) (m : Mach) (os T : List Int) (w : World) (hp : PMach w pv m) (ho : IntsAt w ov os) (ht : IntsAt w tv T) (hm : machOk m = true) (h1 : ∀ x, x ∈ os → 0 ≤ x ∧ x < m.n) (hT : (T.length : Int) = m.n) (hol : os.length ≤ 10) :
    Calls Try.prog 158 #[pv, ov, tv] w fun e w' => ∃ r, e = .returned r ∧ New w w' ∧ OwnMach w.heap.size w'.heap.size w' r (pickT m os T) := by
  obtain ⟨pb, rv1, rv2, rfl, hp0, hp1, hp2, hp3, hr1, hr2⟩ := hp
  obtain ⟨A1, c1, rfl, _, hc1⟩ := hr1
  obtain ⟨A2, c2, rfl, _, hc2⟩ := hr2
  obtain ⟨AO, cO, rfl, _, hcO⟩ := ho
  obtain ⟨AT, cT, rfl, _, hcT⟩ := ht
  have hml := mach_l hm
  have HC1 := hid hc1
  have HC2 := hid hc2
  have HCO := hid hcO
  have HCT := hid hcT
  have HOS := hid h1
  have HTL := hid hT
  have HR := hid (fun l (h : l < m.nx.length) => mach_row hm l h)
  have HO := hid (mach_out hm)
  clear hm hc1 hc2 hcO hcT h1 hT
  have hpb : pb < w.heap.size := World.block_lt_of_cell? w _ hp0
  go_enter Try.func158, Try.ntmps158
  go_wp2
  obtain ⟨W0, hW0⟩ : ∃ W0, W0 = ((w.alloc (.cells #[.int .i64 0, .int .i64 0, .slice none 0 0, .slice none 0 0] 29)).alloc (.cells #[.int .i64 os.length, .int .i64 m.o, .slice none 0 0, .slice none 0 0] 29)) := ⟨_, rfl⟩
  have hN0 : New w W0 := by rw [hW0]; exact (by repeat (first | with_reducible exact New.refl _ | with_reducible assumption | with_reducible refine New.alloc ?_ _ | with_reducible refine New.drewN ?_ _ | with_reducible refine New.drew ?_ | with_reducible refine New.trans ?_ (by with_reducible assumption)))
  have hRB : Box4 W0 w.heap.size (.int .i64 0) (.int .i64 0) (.slice none 0 0) (.slice none 0 0) := by rw [hW0]; exact ⟨⟨by go_simp, by go_simp, by go_simp, by go_simp⟩, by go_simp, by go_simp, by go_simp, by go_simp⟩
  have hXB : XBox W0 (w.heap.size + 1) (.int .i64 os.length) (.int .i64 m.o) (.slice none 0 0) (.slice none 0 0) := by rw [hW0]; exact ⟨by go_simp, by go_simp, by go_simp, by go_simp, by go_simp, by go_simp⟩
  have hGP : Grow2P (w.heap.size + 1 + 1) 26 26 W0 (.slice none 0 0) (.slice none 0 0) ((m.nx.take 0).mapIdx fun k _ => os.map (pickN m T k)) ((m.nx.take 0).mapIdx fun k _ => os.map (pickO m k)) := Grow2P.nil _ _ _ _
  have hZ0 : w.heap.size + 1 + 1 ≤ W0.heap.size := by rw [hW0]; simp only [size_alloc]; omega
  rw [← hW0]
  clear hW0
  go_loopw [8] (fun i wr => ∃ (k : Nat) (v1 v2 : Value), i = .int .i64 k ∧ k ≤ m.nx.length ∧ New w wr ∧ w.heap.size + 1 + 1 ≤ wr.heap.size ∧ Box4 wr w.heap.size (.int .i64 0) (.int .i64 0) (.slice none 0 0) (.slice none 0 0) ∧ XBox wr (w.heap.size + 1) (.int .i64 os.length) (.int .i64 m.o) v1 v2 ∧
      Grow2P (w.heap.size + 1 + 1) 26 26 wr v1 v2 ((m.nx.take k).mapIdx fun k _ => os.map (pickN m T k)) ((m.nx.take k).mapIdx fun k _ => os.map (pickO m k))) (fun i _ => m.nx.length - (intOf i).toNat)
  case atStart => exact ⟨0, _, _, rfl, Nat.zero_le _, hN0, hZ0, hRB, hXB, hGP⟩
  case round =>
    obtain ⟨k, v1, v2, rfl, hk, hn, hz, hB, hX, hG⟩ := hrel
    clear hN0 hRB hXB hGP hZ0
    obtain ⟨wo, rfl⟩ : ∃ wo : World, wo = wr := ⟨_, rfl⟩
    have y2 := hn.cell hp2
    by_cases hlt : k < m.nx.length
    · have b1 : (k : Int) < (m.nx.length : Int) := by omega
      obtain ⟨XS1, hXS1⟩ : ∃ z, z = (m.nx.take k).mapIdx fun k _ => os.map (pickN m T k) := ⟨_, rfl⟩
      obtain ⟨XS2, hXS2⟩ : ∃ z, z = (m.nx.take k).mapIdx fun k _ => os.map (pickO m k) := ⟨_, rfl⟩
      have HL1 := hid (show XS1.length = k by rw [hXS1]; simp; omega)
      have HL2 := hid (show XS2.length = k by rw [hXS2]; simp; omega)
      have HS1 := hid (show ((m.nx.take (k + 1)).mapIdx fun k _ => os.map (pickN m T k)) = XS1 ++ [os.map (pickN m T k)] by
        rw [hXS1, take_succ_nth _ k hlt, List.mapIdx_append]; simp [show min k m.nx.length = k by omega])
      have HS2 := hid (show ((m.nx.take (k + 1)).mapIdx fun k _ => os.map (pickO m k)) = XS2 ++ [os.map (pickO m k)] by
        rw [hXS2, take_succ_nth _ k hlt, List.mapIdx_append]; simp [show min k m.nx.length = k by omega])
      rw [← hXS1, ← hXS2] at hG
      clear hXS1 hXS2
      have hII := GrowII.start wo 2 wo.heap.size rfl
      have hnw : New wo ((wo.alloc (.cells #[] 2)).alloc (.cells #[] 2)) := (by repeat (first | with_reducible exact New.refl _ | with_reducible assumption | with_reducible refine New.alloc ?_ _ | with_reducible refine New.drew ?_ | with_reducible refine New.drewN ?_ _ | with_reducible refine New.setCell ?_ (by simp <;> omega) _))
      go_wp2_with fail
      generalize ((wo.alloc (.cells #[] 2)).alloc (.cells #[] 2)) = wn at hII hnw ⊢
      go_loopw [9, 10, 11] (fun o1 o2 x wr => ∃ j : Nat, x = .int .i64 j ∧ j ≤ os.length ∧ New wo wr ∧ GrowII wo.heap.size 2 wr o1 o2 ((os.take j).map (pickN m T k)) ((os.take j).map (pickO m k))) (fun _ _ x _ => os.length - (intOf x).toNat)
      case atStart => exact ⟨0, rfl, Nat.zero_le _, hnw, hII⟩
      case round =>
        obtain ⟨j, rfl, hj, hNj, hGo⟩ := hrel
        clear hII hnw
        obtain ⟨wj, rfl⟩ : ∃ wj : World, wj = wr := ⟨_, rfl⟩
        obtain ⟨Y1, hY1⟩ : ∃ z, z = (os.take j).map (pickN m T k) := ⟨_, rfl⟩
        obtain ⟨Y2, hY2⟩ : ∃ z, z = (os.take j).map (pickO m k) := ⟨_, rfl⟩
        have HY1 := hid hY1
        have HY2 := hid hY2
        have hlY1 : Y1.length = j := by rw [hY1]; simp; omega
        have hlY2 : Y2.length = j := by rw [hY2]; simp; omega
        rw [← hY1, ← hY2] at hGo
        obtain ⟨⟨B1, cc1, rfl⟩, B2, cc2, rfl⟩ := hGo.form
        rw [hlY1, hlY2] at hGo
        have r1 := hGo.row1 hlY1
        have HLY1 := hid hlY1
        have HLY2 := hid hlY2
        rw [hlY1, hlY2]
        clear hY1 hY2 hlY1 hlY2
        by_cases hltj : j < os.length
        · have b3 : (j : Int) < (os.length : Int) := by omega
          obtain ⟨X, hX⟩ : ∃ z, z = nth os j := ⟨_, rfl⟩
          obtain ⟨x0, x1⟩ := HOS.out X (by rw [hX]; exact nth_mem _ _ hltj)
          obtain ⟨ob, oo, rfl, hox⟩ := HCO.out j hltj
          rw [← hX] at hox
          have HX := hid hX
          obtain ⟨R1, R2⟩ := HR.out k hlt
          obtain ⟨Q1, Q2⟩ := HO.out
          obtain ⟨Q3, Q4⟩ := Q2 k (by omega)
          obtain ⟨b4, o4, rv4, rfl, hx4, hr4⟩ := HC1.out k hlt
          obtain ⟨A5, c5, rfl, _, hc5⟩ := hr4
          obtain ⟨b5, o5, rfl, hx5⟩ := hc5 X.toNat (by omega)
          obtain ⟨z0, z1⟩ := R2 X.toNat (by omega)
          obtain ⟨Z, hZ⟩ : ∃ z, z = nth (nth m.nx k) X.toNat := ⟨_, rfl⟩
          rw [← hZ] at hx5 z0 z1
          obtain ⟨tb, to, rfl, htx⟩ := HCT.out Z.toNat (by have := HTL.out; omega)
          obtain ⟨b6, o6, rv6, rfl, hx6, hr6⟩ := HC2.out k (by omega)
          obtain ⟨A7, c7, rfl, _, hc7⟩ := hr6
          obtain ⟨b7, o7, rfl, hx7⟩ := hc7 X.toNat (by omega)
          have HP1 := hid (show pickN m T k X = nth T Z.toNat by rw [hZ]; rfl)
          have g1 : X < ((nth m.nx k).length : Int) := by omega
          have g2 : Z < (T.length : Int) := by have := HTL.out; omega
          have g3 : X < ((nth m.out k).length : Int) := by omega
          have g4 : (k : Int) < (m.out.length : Int) := by omega
          clear hX hZ hc5 hc7 R2 Q2 Q4 Q1 Q3 R1
          have HSS := hid (fun (w' : World) (hm : New wo w') => (show w'.cell? ⟨pb, 2, none⟩ = some (.slice (some ⟨b4, o4, none⟩) m.nx.length c1) ∧ w'.cell? ⟨b4, o4 + k, none⟩ = some (.slice (some ⟨b5, o5, none⟩) (nth m.nx k).length c5) ∧ w'.cell? ⟨ob, oo + j, none⟩ = some (.int .i64 X) ∧ w'.cell? ⟨b5, o5 + X.toNat, none⟩ = some (.int .i64 Z) ∧ w'.cell? ⟨tb, to + Z.toNat, none⟩ = some (.int .i64 (nth T Z.toNat)) from
            ⟨(hn.trans hm).cell hp2, (hn.trans hm).cell hx4, (hn.trans hm).cell hox, (hn.trans hm).cell hx5, (hn.trans hm).cell htx⟩))
          have HTT := hid (fun (w' : World) (hm : New wo w') => (show w'.cell? ⟨pb, 3, none⟩ = some (.slice (some ⟨b6, o6, none⟩) m.out.length c2) ∧ w'.cell? ⟨b6, o6 + k, none⟩ = some (.slice (some ⟨b7, o7, none⟩) (nth m.out k).length c7) ∧ w'.cell? ⟨ob, oo + j, none⟩ = some (.int .i64 X) ∧ w'.cell? ⟨b7, o7 + X.toNat, none⟩ = some (.int .i64 (nth (nth m.out k) X.toNat)) from
            ⟨(hn.trans hm).cell hp3, (hn.trans hm).cell hx6, (hn.trans hm).cell hox, (hn.trans hm).cell hx7⟩))
          have hzj := hNj.size
          obtain ⟨s2, s4, so, s5, s6⟩ := HSS.out _ hNj
          go_wp2_with fail
          go_region_held3 (fun w' => w'.cell? ⟨pb, 2, none⟩ = some (.slice (some ⟨b4, o4, none⟩) m.nx.length c1) ∧ w'.cell? ⟨b4, o4 + k, none⟩ = some (.slice (some ⟨b5, o5, none⟩) (nth m.nx k).length c5) ∧ w'.cell? ⟨ob, oo + j, none⟩ = some (.int .i64 X) ∧ w'.cell? ⟨b5, o5 + X.toNat, none⟩ = some (.int .i64 Z) ∧ w'.cell? ⟨tb, to + Z.toNat, none⟩ = some (.int .i64 (nth T Z.toNat)))
            (first | exact HSS.out _ (by repeat (first | with_reducible exact New.refl _ | with_reducible assumption | with_reducible refine New.alloc ?_ _ | with_reducible refine New.drewN ?_ _ | with_reducible refine New.drew ?_ | with_reducible refine New.trans ?_ (by with_reducible assumption))) | go_keep)
            (first | (refine step_appV1 rfl _ _ _ rfl Try.underlying26 info_i64 rfl (by decide) (B := wo.heap.size) _ j (Y1.map (Value.int .i64)) (.int .i64 (nth T Z.toNat)) rfl _ rfl (ownsRow_new r1 (by repeat (first | with_reducible exact New.refl _ | with_reducible assumption | with_reducible refine New.alloc ?_ _ | with_reducible refine New.drew ?_ | with_reducible refine New.drewN ?_ _ | with_reducible refine New.setCell ?_ (by simp <;> omega) _))) rfl (by go_simp) (by omega) (by (try simp only [sizes]) <;> omega) ?_; intro g8 cap8 w8 ho8 hg8 hloc8; have hn8 : New wo w8 := New.grown (hNj.trans (by repeat (first | with_reducible exact New.refl _ | with_reducible assumption | with_reducible refine New.alloc ?_ _ | with_reducible refine New.drew ?_ | with_reducible refine New.drewN ?_ _ | with_reducible refine New.setCell ?_ (by simp <;> omega) _))) hg8 (fun q hq => (World.ownsRow.lt r1 q hq).1); have hII8 := (hGo.new (w' := wj.drew.alloc _) (by repeat (first | with_reducible exact New.refl _ | with_reducible assumption | with_reducible refine New.alloc ?_ _ | with_reducible refine New.drew ?_ | with_reducible refine New.drewN ?_ _ | with_reducible refine New.setCell ?_ (by simp <;> omega) _))).app1 HLY1.out ho8 hg8 hloc8))
          all_goals
            have r2 := hII8.row2 HLY2.out
            have hz8 := hn8.size
            clear s2 s4 so s5 s6 r1
            obtain ⟨t3, t6, tox, t7⟩ := HTT.out _ hn8
            go_wp2_with fail
            go_region_held3 (fun w' => w'.cell? ⟨pb, 3, none⟩ = some (.slice (some ⟨b6, o6, none⟩) m.out.length c2) ∧ w'.cell? ⟨b6, o6 + k, none⟩ = some (.slice (some ⟨b7, o7, none⟩) (nth m.out k).length c7) ∧ w'.cell? ⟨ob, oo + j, none⟩ = some (.int .i64 X) ∧ w'.cell? ⟨b7, o7 + X.toNat, none⟩ = some (.int .i64 (nth (nth m.out k) X.toNat)))
              (first | exact HTT.out _ (by repeat (first | with_reducible exact New.refl _ | with_reducible assumption | with_reducible refine New.alloc ?_ _ | with_reducible refine New.drewN ?_ _ | with_reducible refine New.drew ?_ | with_reducible refine New.trans ?_ (by with_reducible assumption))) | go_keep)
              (first | (refine step_appV1 rfl _ _ _ rfl Try.underlying26 info_i64 rfl (by decide) (B := wo.heap.size) _ j (Y2.map (Value.int .i64)) (.int .i64 (nth (nth m.out k) X.toNat)) rfl _ rfl (ownsRow_new r2 (by repeat (first | with_reducible exact New.refl _ | with_reducible assumption | with_reducible refine New.alloc ?_ _ | with_reducible refine New.drew ?_ | with_reducible refine New.drewN ?_ _ | with_reducible refine New.setCell ?_ (by simp <;> omega) _))) rfl (by go_simp) (by omega) (by (try simp only [sizes]) <;> omega) ?_; intro g9 cap9 w9 ho9 hg9 hloc9; have hn9 : New wo w9 := New.grown (hn8.trans (by repeat (first | with_reducible exact New.refl _ | with_reducible assumption | with_reducible refine New.alloc ?_ _ | with_reducible refine New.drew ?_ | with_reducible refine New.drewN ?_ _ | with_reducible refine New.setCell ?_ (by simp <;> omega) _))) hg9 (fun q hq => (World.ownsRow.lt r2 q hq).1); have hII9 := (hII8.new (w' := w8.drew.alloc _) (by repeat (first | with_reducible exact New.refl _ | with_reducible assumption | with_reducible refine New.alloc ?_ _ | with_reducible refine New.drew ?_ | with_reducible refine New.drewN ?_ _ | with_reducible refine New.setCell ?_ (by simp <;> omega) _))).app2 HLY2.out ho9 hg9 hloc9))
            all_goals go_wp2_with fail
            go_roundw
            case rel => exact ⟨j + 1, by go_num, by omega, hn9, by
                rw [take_succ_nth os j hltj, List.map_append, List.map_append, ← HY1.out, ← HY2.out, ← HX.out]
                show GrowII _ _ _ _ _ (Y1 ++ [pickN m T k X]) (Y2 ++ [pickO m k X])
                rw [HP1.out]; exact hII9⟩
            case measure => simp [intOf]; omega
        · have e : j = os.length := by omega
          subst e
          have b3 : ¬ ((os.length : Nat) : Int) < (os.length : Int) := by omega
          have hY1 := HY1.out
          have hY2 := HY2.out
          rw [List.take_length] at hY1 hY2
          replace HY1 := hid hY1
          replace HY2 := hid hY2
          clear hY1 hY2
          obtain ⟨⟨D1, d1, rfl⟩, D2, d2, rfl⟩ := hG.form
          have hXj := hX.new hNj
          have hBj := hB.new hNj
          have hzj := hNj.size
          have hbl := hid hG.blocks
          obtain ⟨l1, hl1, hsp1⟩ := Grow2P.app1 hG hNj hz (hGo.1.own (by have := HLY1.out; omega)) (hGo.2.1.own (by have := HLY2.out; omega)) hGo.2.2
          have hXS1l : XS1.length < 1099511627776 := by have := HL1.out; omega
          have hXS2l : XS2.length < 1099511627776 := by have := HL2.out; omega
          obtain ⟨x0, x1, x2, x3, xf2, xf3⟩ := id hXj
          have hzb : w.heap.size + 1 + 1 ≤ wj.heap.size := by omega
          clear x0 x1
          go_wp2_with (first
            | (at_builtin; refine wpList_appV (w1 := wj) rfl _ _ _ rfl (B := w.heap.size + 1 + 1) Try.underlying22 info_ints rfl (by decide) rfl (.slice D1 XS1.length d1) XS1.length l1 rfl hl1 rfl hXS1l hzb ?_; intro g1 cap1 wd1 hod1 hgd1 hlocd1; have hsd1 := hgd1.size; have hR1 := hsp1 g1 cap1 wd1 hod1 hgd1 (hlocd1.imp id Nat.le_of_lt); have hB1 := hBj.grown hgd1 (fun q hq => by have := (hbl.out.1 q hq).1; omega); have hN1 : New w wd1 := New.grown (hn.trans hNj) hgd1 (fun q hq => by have := (hbl.out.1 q hq).1; omega); have hX1 := hXj.grown hgd1 (fun q hq => by have := (hbl.out.1 q hq).1; omega); obtain ⟨_, _, x2, x3, xf2, xf3⟩ := id hX1; obtain ⟨_, _, _, u3, _, uf3⟩ := hX1.set2 (.slice (some ⟨g1, 0, none⟩) (XS1.length + 1) cap1); have hR2 := hR1.low (grown_setCell wd1 ⟨w.heap.size + 1, 2, none⟩ (.slice (some ⟨g1, 0, none⟩) (XS1.length + 1) cap1)) (Nat.lt_succ_self _); obtain ⟨l2, hl2, hsp2⟩ := hR2.app2)
            | (at_builtin; refine wpList_appV (w1 := wd1.setCell ⟨w.heap.size + 1, 2, none⟩ (.slice (some ⟨g1, 0, none⟩) (XS1.length + 1) cap1)) rfl _ _ _ rfl (B := w.heap.size + 1 + 1) Try.underlying22 info_ints rfl (by decide) rfl (.slice D2 XS2.length d2) XS2.length l2 rfl hl2 (by rw [size_setCell]; rfl) hXS2l (by simp only [size_setCell]; omega) ?_; intro g2 cap2 wd2 hod2 hgd2 hlocd2; have hsd2 := hgd2.size; have hG2 := hsp2 g2 cap2 wd2 hod2 hgd2 (hlocd2.imp id Nat.le_of_lt); have hXn := hX1.set2 (.slice (some ⟨g1, 0, none⟩) (XS1.length + 1) cap1); have hX2 := hXn.grown hgd2 (fun q hq => by have := (hbl.out.2 q hq).1; omega); obtain ⟨_, _, _, y3, _, yf3⟩ := id hX2))
          have hGf := hG2.low (grown_setCell wd2 ⟨w.heap.size + 1, 3, none⟩ (.slice (some ⟨g2, 0, none⟩) (XS2.length + 1) cap2)) (Nat.lt_succ_self _)
          have hNf : New w (wd2.setCell ⟨w.heap.size + 1, 3, none⟩ (.slice (some ⟨g2, 0, none⟩) (XS2.length + 1) cap2)) := (New.grown (hN1.setCell (p := ⟨w.heap.size + 1, 2, none⟩) (Nat.le_succ _) _) hgd2 (fun q hq => by have := (hbl.out.2 q hq).1; omega)).setCell (p := ⟨w.heap.size + 1, 3, none⟩) (Nat.le_succ _) _
          have hBf := ((hB1.other ⟨w.heap.size + 1, 2, none⟩ (Nat.succ_ne_self _) (.slice (some ⟨g1, 0, none⟩) (XS1.length + 1) cap1)).grown hgd2 (fun q hq => by have := (hbl.out.2 q hq).1; omega)).other ⟨w.heap.size + 1, 3, none⟩ (Nat.succ_ne_self _) (.slice (some ⟨g2, 0, none⟩) (XS2.length + 1) cap2)
          have hXf := hX2.set3 (.slice (some ⟨g2, 0, none⟩) (XS2.length + 1) cap2)
          rw [size_setCell] at hsd2
          refine ⟨⟨k + 1, _, _, by go_num, by omega, hNf, by rw [size_setCell]; omega, hBf, hXf, by rw [HS1.out, HS2.out, ← HY1.out, ← HY2.out]; exact hGf⟩, ?_⟩
          simp [intOf]; omega
    · have e : k = m.nx.length := by omega
      have b1 : ¬ (k : Int) < (m.nx.length : Int) := by omega
      subst e
      have HOL := hid ((HO.out).1)
      obtain ⟨XS1, hXS1⟩ : ∃ z, z = (m.nx.take m.nx.length).mapIdx fun k _ => os.map (pickN m T k) := ⟨_, rfl⟩
      obtain ⟨XS2, hXS2⟩ : ∃ z, z = (m.nx.take m.nx.length).mapIdx fun k _ => os.map (pickO m k) := ⟨_, rfl⟩
      rw [← hXS1, ← hXS2] at hG
      have HS1 := hid (show (pickT m os T).nx = XS1 by rw [hXS1, List.take_length]; exact pickT_nx m os T)
      have HS2 := hid (show (pickT m os T).out = XS2 by rw [hXS2, List.take_length]; exact pickT_out m os T HOL.out)
      clear hXS1 hXS2
      obtain ⟨⟨D1, d1, rfl⟩, D2, d2, rfl⟩ := hG.form
      obtain ⟨x0, x1, x2, x3, xf2, xf3⟩ := id hX
      obtain ⟨⟨e0, e1, e2, e3⟩, f0, f1, f2, f3⟩ := id hB
      obtain ⟨⟨g0, g1, g2, g3⟩, _⟩ := hB.fill (.int .i64 os.length) (.int .i64 m.o) (.slice D1 XS1.length d1) (.slice D2 XS2.length d2)
      have HW := hid (Within.fill4 wo w.heap.size (.int .i64 os.length) (.int .i64 m.o) (.slice D1 XS1.length d1) (.slice D2 XS2.length d2))
      go_wp2_with fail
      refine bodyPost_ret (v := .agg #[.int .i64 os.length, .int .i64 m.o, .slice D1 XS1.length d1, .slice D2 XS2.length d2]) (by simp [results, Try.results158, go_sem, g0, g1, g2, g3]) rfl ?_
      have hNn := hn.within HW.out (Nat.le_refl _)
      refine ⟨_, rfl, hNn, ?_⟩
      have hG' : Grow2P (w.heap.size + 1 + 1) 26 26 wo (.slice D1 XS1.length d1) (.slice D2 XS2.length d2) (pickT m os T).nx (pickT m os T).out := by rw [HS1.out, HS2.out]; exact hG
      have hM := hG'.mach (by have := hml; unfold pickT; simp; omega) (by have := hml; have := HOL.out; unfold pickT; simp; omega)
      exact (hM.within HW.out (Or.inr (by omega))).widen (by omega) HW.out.2.2.2.1

end Go.Proofs.Ytcjmcpfdpnakkaa
