/- The reference's actions of all words. -/
import Derived.Test.YtcjmcpfdpnakkaaRows
import Derived.Test.YtcjmcpfdpnakkaaCore
import Derived.Test.YtcjmcpfdpnakkaaInfo
import Derived.Test.YtcjmcpfdpnakkaaPlains
import Derived.Test.YtcjmcpfdpnakkaaPlainMon
import Derived.Test.YtcjmcpfdpnakkaaMaps
import Derived.Test.YtcjmcpfdpnakkaaS00a
import Derived.Test.YtcjmcpfdpnakkaaS01a
import Derived.Test.YtcjmcpfdpnakkaaS01f
import Derived.Test.YtcjmcpfdpnakkaaS01g
import Derived.Test.YtcjmcpfdpnakkaaSOwn
import Derived.WalkKit
import Derived.WalkSpells
import Derived.WalkLawsBesides
import Derived.Deep.QuietTactic
import Derived.Deep.OwnRows
import Derived.BigQuiet
import Derived.KernelRfl
import Derived.Deep.RegionHeld3
namespace Go.Proofs.Ytcjmcpfdpnakkaa
open Go.RowKit

set_option maxRecDepth 20000 in
set_option maxHeartbeats 4000000 in
theorem l01Monoid_any (p : Value) (a : Aut) (w : World) (hp : PAut w p a) (ha : autOk a = true) :
    Calls Try.prog 81 #[p] w fun e w' => ∃ r1 r2, e = .returned (.tuple #[r1, r2, .bool (monFew a)]) ∧ New w w' ∧ (monFew a = true → Grow2 w.heap.size 26 26 w' r1 r2 (monT a 401).list (monT a 401).words) := by
  obtain ⟨pb, rv, rfl, hp0, hp1, hpr⟩ := hp
  obtain ⟨A2, c2, rfl, hl2, hc2⟩ := hpr
  have han := autOk_n ha
  have hal := autOk_l ha
  have HA := hid ha
  have HC2 := hid hc2
  have HB := hid (fun k => mon_bok ha k)
  have HROW := hid (fun (t' : Bfs (List Int)) (h : BOk (monP a) a.nx.length t') k (hk : k < t'.list.length) l (hl' : l ≤ a.nx.length) => h.row (g := monG a) (fun l x y hl'' hx hg => monG_ok ha l x y hl'' hx hg) k hk l hl')
  have HR := hid (fun l (h : l < a.nx.length) => autOk_row ha l h)
  have HM := hid (fun k => mon_many a k)
  have HE := hid (fun k => mon_end a k)
  clear ha hc2
  obtain ⟨FEW, hFEW⟩ : ∃ z, z = monFew a := ⟨_, rfl⟩
  obtain ⟨TL, hTL⟩ : ∃ z, z = monT a 401 := ⟨_, rfl⟩
  rw [← hFEW, ← hTL] at HE
  rw [← hFEW] at HM
  rw [← hFEW, ← hTL]
  clear hFEW hTL
  go_enter Try.func81, Try.ntmps81
  go_wp2_with (go_at_call 151; refine (l01All_any _ _ (by omega) (by omega)).mono ?_; rintro e w1 ⟨r0, he, hn1, ho1⟩; obtain ⟨A0, c0, hr0⟩ := ho1.form; subst hr0; subst he)
  have hG0 := Grow2.startR w1 w.heap.size w1.heap.size w.heap.size rfl _ _ (Nat.le_refl _) hn1.size ho1 2 26
  have hN0 : New w (((w1.alloc (.cells #[.slice A0 (iota 0 a.n.toNat).length c0] 26)).alloc (.cells #[] 2)).alloc (.cells #[.slice (some ⟨w1.heap.size + 1, 0, none⟩) 0 0] 26)) := (by repeat (first | with_reducible exact New.refl _ | with_reducible assumption | with_reducible refine New.alloc ?_ _ | with_reducible refine New.drewN ?_ _ | with_reducible refine New.drew ?_ | with_reducible refine New.trans ?_ (by with_reducible assumption)))
  generalize (((w1.alloc (.cells #[.slice A0 (iota 0 a.n.toNat).length c0] 26)).alloc (.cells #[] 2)).alloc (.cells #[.slice (some ⟨w1.heap.size + 1, 0, none⟩) 0 0] 26)) = w2 at hG0 hN0 ⊢
  clear ho1 hn1
  go_loopw [5, 6, 7] (fun v1 v2 i wr => ∃ k : Nat, i = .int .i64 k ∧ k ≤ (monT a k).list.length ∧ (monT a k).list.length ≤ 400 ∧ New w wr ∧ Grow2 w.heap.size 26 26 wr v1 v2 (monT a k).list (monT a k).words) (fun _ _ i _ => 1025 - (intOf i).toNat)
  case atStart => exact ⟨0, rfl, Nat.zero_le _, by show (1 : Nat) ≤ 400; decide, hN0, hG0⟩
  case round =>
    obtain ⟨k, rfl, hk, hk4, hn, hG⟩ := hrel
    clear hG0 hN0
    obtain ⟨wo, rfl⟩ : ∃ wo : World, wo = wr := ⟨_, rfl⟩
    have hbok := HB.out k
    have HLW := hid hbok.lw
    obtain ⟨⟨B1, cc1, rfl⟩, B2, cc2, rfl⟩ := hG.form
    by_cases hlt : k < (monT a k).list.length
    · have b1 : (k : Int) < ((monT a k).list.length : Int) := by omega
      obtain ⟨X, hX⟩ : ∃ X, X = nth (monT a k).list k := ⟨_, rfl⟩
      have hXok := hbok.ok X (by rw [hX]; exact nth_mem _ _ hlt)
      have HXD := hid hX
      obtain ⟨X1, X2⟩ := hXok
      have HX2 := hid X2
      clear hX X2
      have y1 := hn.cell hp1
      go_wp2_with fail
      go_loopw [5, 6, 8] (fun v1 v2 x wr => ∃ l : Nat, x = .int .i64 l ∧ l ≤ a.nx.length ∧ New w wr ∧ Grow2 w.heap.size 26 26 wr v1 v2 (bRow (monG a) k (monT a k) l).list (bRow (monG a) k (monT a k) l).words) (fun _ _ x _ => a.nx.length - (intOf x).toNat)
      case atStart => exact ⟨0, rfl, Nat.zero_le _, hn, hG⟩
      case round =>
        obtain ⟨l, rfl, hll, hNi, hGi⟩ := hrel
        clear hG hn y1
        obtain ⟨wi, rfl⟩ : ∃ wi : World, wi = wr := ⟨_, rfl⟩
        have y1 := hNi.cell hp1
        have hbok2 := HROW.out _ hbok k hlt l hll
        have hlen2 := bRow_len (monG a) k (monT a k) l
        have HPRE := hid (bRow_pre' (g := monG a) k (monT a k) l)
        by_cases hltl : l < a.nx.length
        · have b2 : (l : Int) < (a.nx.length : Int) := by omega
          have hk2 : k < (bRow (monG a) k (monT a k) l).list.length := by have := HPRE.out.1; omega
          have hk2w : k < (bRow (monG a) k (monT a k) l).words.length := by rw [hbok2.lw]; exact hk2
          have hlw2 := hid hbok2.lw
          have HWE := hid (show nth (bRow (monG a) k (monT a k) l).words k = nth (monT a k).words k from (HPRE.out.2 k hlt).2 HLW.out)
          have hwl := hbok2.wl k hk2
          have HSUCC := hid (bRow_succ (monG a) k (monT a k) l)
          have HNTH := hid (show nth (bRow (monG a) k (monT a k) l).list k = X by rw [(HPRE.out.2 k hlt).1, HXD.out])
          obtain ⟨T', hT'⟩ : ∃ T', T' = bRow (monG a) k (monT a k) l := ⟨_, rfl⟩
          rw [← hT'] at hGi hlen2 hk2 hk2w HWE hwl HSUCC HNTH hbok2 hlw2
          clear hT'
          obtain ⟨⟨B1, cc1, rfl⟩, B2, cc2, rfl⟩ := hGi.form
          have hzi := hNi.size
          obtain ⟨br1, cr1, Ar1, kr1, e1, hr1, ho1⟩ := hGi.row1 k hk2
          rw [HNTH.out] at hr1 ho1
          injection e1 with e1 e1' e1''
          subst e1
          clear e1' e1''
          have hnw : New wi (wi.alloc (.cells #[] 2)) := (by repeat (first | with_reducible exact New.refl _ | with_reducible assumption | with_reducible refine New.alloc ?_ _ | with_reducible refine New.drew ?_ | with_reducible refine New.drewN ?_ _ | with_reducible refine New.setCell ?_ (by simp <;> omega) _))
          have hz9 : wi.heap.size < (wi.alloc (.cells #[] 2)).heap.size := (by (try simp only [sizes]) <;> omega)
          have hGr := Grow.empty wi.heap.size 2 wi (Nat.le_refl _)
          obtain ⟨R1, R2⟩ := HR.out l hltl
          have HR2 := hid R2
          clear R2
          go_wp2_with fail
          go_loopw [9, 10] (fun o x wr => ∃ j : Nat, x = .int .i64 j ∧ j ≤ X.length ∧ New wi wr ∧ Grow wi.heap.size 2 wr o (monA a l (X.take j))) (fun _ x _ => X.length - (intOf x).toNat)
          case atStart => exact ⟨0, rfl, Nat.zero_le _, hnw, hGr⟩
          case round =>
            obtain ⟨j, rfl, hj, hNj, hGo⟩ := hrel
            clear hGr hnw hz9 y1
            obtain ⟨wj, rfl⟩ : ∃ wj : World, wj = wr := ⟨_, rfl⟩
            have y1 := (hNi.trans hNj).cell hp1
            have yr1 := hNj.cell hr1
            have hGj := hGi.new hNj
            by_cases hltj : j < X.length
            · have b3 : (j : Int) < (X.length : Int) := by omega
              obtain ⟨Aj, cj, ej, _, _, hcj⟩ := id ho1.1
              injection ej with ej1 ej2 ej3
              subst ej1
              obtain ⟨xb, xo, rfl, hxj, _⟩ := hcj j hltj
              obtain ⟨x0, x1⟩ := HX2.out j hltj
              obtain ⟨b4, o4, rv4, rfl, hx4, hr4⟩ := HC2.out l hltl
              obtain ⟨A5, c5, rfl, _, hc5⟩ := hr4
              obtain ⟨b5, o5, rfl, hx5⟩ := hc5 (nth X j).toNat (by omega)
              have g1 : nth X j < ((nth a.nx l).length : Int) := by omega
              have hlj : (monA a l (X.take j)).length = j := by unfold monA; simp; omega
              clear hcj hc5 ej2 ej3
              have HSS := hid (fun (w' : World) (hm : New wi w') => (show w'.cell? ⟨pb, 1, none⟩ = some (.slice (some ⟨b4, o4, none⟩) a.nx.length c2) ∧ w'.cell? ⟨b4, o4 + l, none⟩ = some (.slice (some ⟨b5, o5, none⟩) (nth a.nx l).length c5) ∧ w'.cell? ⟨br1, k, none⟩ = some (.slice (some ⟨xb, xo, none⟩) X.length kr1) ∧ w'.cell? ⟨xb, xo + j, none⟩ = some (.int .i64 (nth X j)) ∧ w'.cell? ⟨b5, o5 + (nth X j).toNat, none⟩ = some (.int .i64 (nth (nth a.nx l) (nth X j).toNat)) from
                ⟨(hNi.trans hm).cell hp1, (hNi.trans hm).cell hx4, hm.cell hr1, hm.cell hxj, (hNi.trans hm).cell hx5⟩))
              have hzj := hNj.size
              go_wp2_with fail
              go_region_held3 (fun w' => w'.cell? ⟨pb, 1, none⟩ = some (.slice (some ⟨b4, o4, none⟩) a.nx.length c2) ∧ w'.cell? ⟨b4, o4 + l, none⟩ = some (.slice (some ⟨b5, o5, none⟩) (nth a.nx l).length c5) ∧ w'.cell? ⟨br1, k, none⟩ = some (.slice (some ⟨xb, xo, none⟩) X.length kr1) ∧ w'.cell? ⟨xb, xo + j, none⟩ = some (.int .i64 (nth X j)) ∧ w'.cell? ⟨b5, o5 + (nth X j).toNat, none⟩ = some (.int .i64 (nth (nth a.nx l) (nth X j).toNat)))
                (first | exact HSS.out _ (by repeat (first | with_reducible exact New.refl _ | with_reducible assumption | with_reducible refine New.alloc ?_ _ | with_reducible refine New.drewN ?_ _ | with_reducible refine New.drew ?_ | with_reducible refine New.trans ?_ (by with_reducible assumption))) | go_keep)
                (first | (refine step_app1 rfl _ _ _ rfl Try.underlying26 info_i64 _ _ (nth (nth a.nx l) (nth X j).toNat) _ rfl (hGo.new (by repeat (first | with_reducible exact New.refl _ | with_reducible assumption | with_reducible refine New.alloc ?_ _ | with_reducible refine New.drew ?_ | with_reducible refine New.drewN ?_ _ | with_reducible refine New.setCell ?_ (by simp <;> omega) _))) rfl (by go_simp) (by omega) (by (try simp only [sizes]) <;> omega) ?_; intro g8 cap8 w8 ho8 hg8; have hn8 : New wi w8 := New.app (a := wi) (hNj.trans (by repeat (first | with_reducible exact New.refl _ | with_reducible assumption | with_reducible refine New.alloc ?_ _ | with_reducible refine New.drew ?_ | with_reducible refine New.drewN ?_ _ | with_reducible refine New.setCell ?_ (by simp <;> omega) _))) hg8 (hGo.new (w' := wj.drew.alloc _) (by repeat (first | with_reducible exact New.refl _ | with_reducible assumption | with_reducible refine New.alloc ?_ _ | with_reducible refine New.drew ?_ | with_reducible refine New.drewN ?_ _ | with_reducible refine New.setCell ?_ (by simp <;> omega) _))) (Nat.le_refl _)))
              all_goals go_wp2_with fail
              go_roundw
              case rel => exact ⟨j + 1, by go_num, by omega, hn8, by
                  rw [take_succ_nth X j hltj]
                  unfold monA at ho8 ⊢
                  rw [List.map_append]
                  rw [show (List.map (fun s => nth (nth a.nx l) s.toNat) (List.take j X)).length = j by simp; omega] at ho8
                  exact ho8⟩
              case measure => simp [intOf]; omega
            · have e : j = X.length := by omega
              subst e
              rw [List.take_length] at hGo
              obtain ⟨Y, hY⟩ : ∃ Y, Y = monA a l X := ⟨_, rfl⟩
              have hYl : Y.length ≤ 10 := by rw [hY]; simp [monA]; omega
              have HG := hid (show monG a l X = some Y by rw [hY]; rfl)
              rw [← hY] at hGo
              clear hY
              have hoY := hGo.own (by omega)
              obtain ⟨AY, cY, rfl⟩ := hoY.form
              have hRY := hid (RowIn.fresh (v1 := .slice (some ⟨br1, 0, none⟩) T'.list.length cc1) (v2 := .slice B2 T'.words.length cc2) hoY hzi (fun q hq => (hGi.blocks.1 q hq).2) (fun q hq => (hGi.blocks.2 q hq).2))
              obtain ⟨hrows1, _⟩ := hGj.rows (by omega) (by rw [hlw2.out]; omega)
              have CF := l01Find_any _ _ _ _ _ hrows1 hoY.at
              have hV := hGi.blocks
              have HV1 := hid hV.1
              have HV2 := hid hV.2
              clear hrows1 hGo hoY hGi ho1 hV
              by_cases hm : Y ∈ T'.list
              · obtain ⟨jj, _, hj', _⟩ := findL_mem hm
                rw [hj'] at CF
                have HS := hid (show bRow (monG a) k (monT a k) (l + 1) = T' by rw [HSUCC.out, bStep_has _ _ _ _ Y (by rw [HNTH.out]; exact HG.out) hm])
                have hneg : ¬ ((jj : Int) < 0) := by omega
                clear hm hj'
                go_wp2_with (go_at_call 82; refine CF.mono ?_; rintro e wc ⟨rfl, hnc⟩)
                refine ⟨⟨l + 1, by go_num, by omega, (hNi.trans hNj).trans hnc, by rw [HS.out]; exact hGj.new hnc⟩, ?_⟩
                simp [intOf]; omega
              · have hj' := findL_not hm
                rw [hj'] at CF
                have HS := hid (show bRow (monG a) k (monT a k) (l + 1) = ⟨T'.list ++ [Y], T'.words ++ [nth T'.words k ++ [(l : Int)]]⟩ by rw [HSUCC.out, bStep_new _ _ _ _ Y (by rw [HNTH.out]; exact HG.out) hm])
                have hRl : T'.list.length < 1099511627776 := by omega
                have hWl : T'.words.length < 1099511627776 := by rw [hlw2.out]; omega
                clear hm hj'
                go_wp2_with (first
                  | (go_at_call 82; refine CF.mono ?_; rintro e wc ⟨rfl, hnc⟩; have hGc := hGj.new hnc; have hRc := hRY.out.new hnc; have hNc := (hNi.trans hNj).trans hnc; have hzc := hNc.size; obtain ⟨⟨l1, hl1, _⟩, _⟩ := hGc.spine)
                  | (at_builtin; refine wpList_appV rfl _ _ _ rfl (B := w.heap.size) Try.underlying22 info_ints rfl (by decide) rfl (.slice (some ⟨br1, 0, none⟩) T'.list.length cc1) T'.list.length l1 rfl hl1 rfl hRl hzc ?_; intro g1 cap1 wd1 hod1 hgd1 hlocd1; have hG1 := hGc.app1 hl1 hRc.1 hRc.2.1 hRc.2.2 hod1 hgd1 (hlocd1.imp id Nat.le_of_lt); have hN1 := New.grown hNc hgd1 (fun q hq => (HV1.out q hq).1); have hz1 := hN1.size; obtain ⟨bw, cw, Aw, kw, e2, hw2, hoW⟩ := hG1.row2 k hk2w; injection e2 with e2 e2' e2''; subst e2; clear e2' e2''; obtain ⟨_, l2, hl2, _⟩ := hG1.spine)
                  | (go_at_call 73; refine (l00OwnG_any _ _ _ hoW.1.at (by omega)).mono ?_; rintro e w7 ⟨r7, he, hn7, ho7⟩; obtain ⟨A77, c77, rfl⟩ := ho7.form; subst he; have hz7 := hn7.size)
                  | (at_builtin; refine wpList_app rfl _ _ _ rfl Try.underlying26 info_i64 _ _ rfl ho7 rfl (by omega) (by omega) ?_; intro g8 cap8 w8 ho8 hg8; have hn8 : New wd1 w8 := New.app (a := wd1) hn7 hg8 ho7 (Nat.le_refl _); have hG8 := hG1.new hn8; have hz8 := hn8.size; obtain ⟨_, l3, hl3, _⟩ := hG8.spine; have ho8' := ho8.own (by simp; omega))
                  | (at_builtin; refine wpList_appV (w1 := w8) rfl _ _ _ rfl (B := w.heap.size) Try.underlying22 info_ints rfl (by decide) rfl _ T'.words.length l3 rfl hl3 rfl hWl (by omega) ?_; intro g2 cap2 wd2 hod2 hgd2 hlocd2))
                have hb1 := hG1.blocks
                have hRW := RowIn.fresh (B := w.heap.size) ho8' hz1 (fun q hq => (hb1.1 q hq).2) (fun q hq => (hb1.2 q hq).2)
                have hG3 := hG8.app2 hl3 hRW.1 hRW.2.1 hRW.2.2 hod2 hgd2 (hlocd2.imp id Nat.le_of_lt)
                refine ⟨⟨l + 1, by go_num, by omega, New.grown (hN1.trans hn8) hgd2 (fun q hq => (HV2.out q hq).1), by rw [HS.out]; exact hG3⟩, ?_⟩
                simp [intOf]; omega
        · have e : l = a.nx.length := by omega
          subst e
          have HE1 := hid (show monT a (k + 1) = bRow (monG a) k (monT a k) a.nx.length by unfold monT at hlt ⊢; rw [bTo_succ, if_pos hlt])
          obtain ⟨⟨B1, cc1, rfl⟩, B2, cc2, rfl⟩ := hGi.form
          have hpre1 := HPRE.out.1
          by_cases hm4 : 400 < (bRow (monG a) k (monT a k) a.nx.length).list.length
          · have b4 : (400 : Int) < ((bRow (monG a) k (monT a k) a.nx.length).list.length : Int) := by omega
            have HF := hid (HM.out k hlt hk4 (by rw [HE1.out]; exact hm4))
            clear hm4
            go_wp2_with fail
            go_ret3
            rw [HF.out]
            exact ⟨_, _, rfl, hNi, fun h => by cases h⟩
          · have b4 : ¬ (400 : Int) < ((bRow (monG a) k (monT a k) a.nx.length).list.length : Int) := by omega
            go_wp2_with fail
            go_roundw
            case rel => exact ⟨k + 1, by go_num, by rw [HE1.out]; omega, by rw [HE1.out]; omega, hNi, by rw [HE1.out]; exact hGi⟩
            case measure => simp [intOf]; omega
    · have e : k = (monT a k).list.length := by omega
      have HF := hid (HE.out k hk4 e.symm)
      have b1 : ¬ (k : Int) < ((monT a k).list.length : Int) := by omega
      clear e
      go_wp2_with fail
      go_ret3
      rw [HF.out.1]
      exact ⟨_, _, rfl, hn, fun _ => by rw [HF.out.2]; exact hG⟩

end Go.Proofs.Ytcjmcpfdpnakkaa
