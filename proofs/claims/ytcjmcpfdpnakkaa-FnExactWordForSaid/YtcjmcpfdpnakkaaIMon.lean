/- The program's actions of all words. -/
import Derived.Test.YtcjmcpfdpnakkaaRows
import Derived.Test.YtcjmcpfdpnakkaaCore
import Derived.Test.YtcjmcpfdpnakkaaInfo
import Derived.Test.YtcjmcpfdpnakkaaPlains
import Derived.Test.YtcjmcpfdpnakkaaPlainMon
import Derived.Test.YtcjmcpfdpnakkaaMaps
import Derived.Test.YtcjmcpfdpnakkaaSMap
import Derived.Test.YtcjmcpfdpnakkaaIKey
import Derived.Test.YtcjmcpfdpnakkaaI01a
import Derived.Test.YtcjmcpfdpnakkaaI01b
import Derived.Test.YtcjmcpfdpnakkaaI01c
import Derived.Test.YtcjmcpfdpnakkaaIClone
import Derived.WalkKit
import Derived.WalkSpells
import Derived.WalkLawsBesides
import Derived.Deep.QuietTactic
import Derived.Deep.OwnRows
import Derived.BigQuiet
import Derived.KernelRfl
import Derived.Deep.RegionLaw
namespace Go.Proofs.Ytcjmcpfdpnakkaa
open Go.RowKit

theorem mon_small {a : Aut} (ha : autOk a = true) (x : List Int) (h : monP a x) : smallL x := fun i hi => by
  have := h.2 i hi
  have := autOk_n ha
  omega
theorem zero_bool (w : World) : (zeroValue 4).run Try.prog w = .ok (.bool false) w := by kernel_rfl
set_option maxRecDepth 20000 in
set_option maxHeartbeats 4000000 in
theorem monoid_any (v1 : Value) (a : Aut) (w : World) (h1 : AutAt w v1 a) (ha : autOk a = true) :
    Calls Try.prog 87 #[v1] w fun e w' => ∃ r1 r2, e = .returned (.tuple #[r1, r2, .bool (monFew a)]) ∧ New w w' ∧ (monFew a = true → Grow2 w.heap.size 26 26 w' r1 r2 (monT a 401).list (monT a 401).words) := by
  obtain ⟨rv, rfl, hr⟩ := h1
  obtain ⟨A2, c2, rfl, hl2, hc2⟩ := id hr
  have h1 : AutAt w (.agg #[.int .i64 a.n, .slice A2 a.nx.length c2]) a := ⟨_, rfl, hr⟩
  obtain ⟨wb, hwb⟩ : ∃ wb, wb = w.alloc (.cells #[.int .i64 a.n, .slice A2 a.nx.length c2] 42) := ⟨_, rfl⟩
  have hnb : New w wb := by rw [hwb]; exact (by repeat (first | with_reducible exact New.refl _ | with_reducible assumption | with_reducible refine New.alloc ?_ _ | with_reducible refine New.drew ?_ | with_reducible refine New.drewN ?_ _ | with_reducible refine New.setCell ?_ (by simp <;> omega) _))
  have hzb : wb.heap.size = w.heap.size + 1 := by rw [hwb]; simp only [size_alloc]
  have hb0 : wb.cell? ⟨w.heap.size, 0, none⟩ = some (.int .i64 a.n) := by rw [hwb]; go_simp
  have hb1 : wb.cell? ⟨w.heap.size, 1, none⟩ = some (.slice A2 a.nx.length c2) := by rw [hwb]; go_simp
  have hmm := @run_makeMap Try.prog
  have han := autOk_n ha
  have hal := autOk_l ha
  have HA := hid ha
  have HC2 := hid hc2
  have HB := hid (fun k => mon_bok ha k)
  have HST := hid (mon_start ha)
  have HSM := hid (fun x h => mon_small ha x h)
  have HINJ := hid (fun x y (hx : monP a x) (hy : monP a y) (e : bytesOf x = bytesOf y) => bytesOf_inj x y (mon_small ha x hx) (mon_small ha y hy) e)
  have HROW := hid (fun (t' : Bfs (List Int)) (h : BOk (monP a) a.nx.length t') k (hk : k < t'.list.length) l (hl' : l ≤ a.nx.length) => h.row (g := monG a) (fun l x y hl'' hx hg => monG_ok ha l x y hl'' hx hg) k hk l hl')
  have HR := hid (fun l (h : l < a.nx.length) => autOk_row ha l h)
  have HOKS := hid (fun l x (hl : l < a.nx.length) (hx : monP a x) => monG_ok ha l x (monA a l x) hl hx rfl)
  have HM := hid (fun k => mon_many a k)
  have HE := hid (fun k => mon_end a k)
  have C1 := action_any _ _ a [] _ (h1.new hnb) ⟨none, 0, rfl, by simp, by simp⟩ ha (fun i hi => by simp at hi)
  rw [actOf_nil] at C1
  clear ha hc2
  have hil := iota_length 0 a.n.toNat
  obtain ⟨I, hI⟩ : ∃ z, z = iota 0 a.n.toNat := ⟨_, rfl⟩
  have HT0 := hid (show monT a 0 = ⟨[I], [[]]⟩ by rw [hI]; rfl)
  rw [← hI] at C1 hil HST
  have hIl : 0 < I.length := by omega
  have hIl2 : I.length ≤ 10 := by omega
  clear hI hil
  obtain ⟨FEW, hFEW⟩ : ∃ z, z = monFew a := ⟨_, rfl⟩
  obtain ⟨TL, hTL⟩ : ∃ z, z = monT a 401 := ⟨_, rfl⟩
  rw [← hFEW, ← hTL] at HE
  rw [← hFEW] at HM
  rw [← hFEW, ← hTL]
  clear hFEW hTL
  go_enter Try.func87, Try.ntmps87
  go_wp2_with fail
  rw [← hwb]
  clear hwb
  refine C1.mono ?_
  rintro e w1 ⟨r0, he, hn1, ho1⟩
  obtain ⟨A0, c0, rfl⟩ := ho1.form
  subst he
  have hS0 : SMap Try.prog 9 (monP a) ((((w1.alloc (.cells #[.slice A0 I.length c0] 26)).alloc (.cells #[] 2)).alloc (.cells #[.slice (some ⟨w1.heap.size + 1, 0, none⟩) 0 0] 26)).alloc (.map #[] 0)) (w1.heap.size + 1 + 1 + 1) [] := by
    have := SMap.empty Try.prog 9 (monP a) (((w1.alloc (.cells #[.slice A0 I.length c0] 26)).alloc (.cells #[] 2)).alloc (.cells #[.slice (some ⟨w1.heap.size + 1, 0, none⟩) 0 0] 26))
    simp only [size_alloc] at this
    exact this
  have hG0 := (Grow2.startR w1 wb.heap.size w1.heap.size wb.heap.size rfl _ _ (Nat.le_refl _) hn1.size ho1 2 26).new ((New.refl _).alloc (.map #[] 0))
  have ho1' : IntsAt ((((w1.alloc (.cells #[.slice A0 I.length c0] 26)).alloc (.cells #[] 2)).alloc (.cells #[.slice (some ⟨w1.heap.size + 1, 0, none⟩) 0 0] 26)).alloc (.map #[] 0)) (.slice A0 I.length c0) I := ho1.at.new (by repeat (first | with_reducible exact New.refl _ | with_reducible assumption | with_reducible refine New.alloc ?_ _ | with_reducible refine New.drew ?_ | with_reducible refine New.drewN ?_ _ | with_reducible refine New.setCell ?_ (by simp <;> omega) _))
  have hN0 : New wb ((((w1.alloc (.cells #[.slice A0 I.length c0] 26)).alloc (.cells #[] 2)).alloc (.cells #[.slice (some ⟨w1.heap.size + 1, 0, none⟩) 0 0] 26)).alloc (.map #[] 0)) := (by repeat (first | with_reducible exact New.refl _ | with_reducible assumption | with_reducible refine New.alloc ?_ _ | with_reducible refine New.drewN ?_ _ | with_reducible refine New.drew ?_ | with_reducible refine New.trans ?_ (by with_reducible assumption)))
  have hzM : w1.heap.size < ((((w1.alloc (.cells #[.slice A0 I.length c0] 26)).alloc (.cells #[] 2)).alloc (.cells #[.slice (some ⟨w1.heap.size + 1, 0, none⟩) 0 0] 26)).alloc (.map #[] 0)).heap.size := (by (try simp only [sizes]) <;> omega)
  have hc00 : ((((w1.alloc (.cells #[.slice A0 I.length c0] 26)).alloc (.cells #[] 2)).alloc (.cells #[.slice (some ⟨w1.heap.size + 1, 0, none⟩) 0 0] 26)).alloc (.map #[] 0)).cell? ⟨w1.heap.size, 0, none⟩ = some (.slice A0 I.length c0) := by go_simp
  have hn1s := hn1.size
  clear ho1 C1
  go_wp2_with fail
  obtain ⟨mb, hmb⟩ : ∃ mb, mb = w1.heap.size + 1 + 1 + 1 := ⟨_, rfl⟩
  have hmbB : wb.heap.size ≤ mb := by omega
  rw [← hmb] at hS0 ⊢
  clear hmb
  generalize ((((w1.alloc (.cells #[.slice A0 I.length c0] 26)).alloc (.cells #[] 2)).alloc (.cells #[.slice (some ⟨w1.heap.size + 1, 0, none⟩) 0 0] 26)).alloc (.map #[] 0)) = wM at hS0 hG0 ho1' hN0 hzM hc00 ⊢
  refine (keyOf_any _ _ _ ho1' (HSM.out _ HST.out) hIl (by omega)).mono ?_
  rintro e w3 ⟨rfl, hn3⟩
  obtain ⟨w4, hrun, hg4, hS4⟩ := (hS0.new hn3).put Try.underlying9 (T := 187) (E := 4) Try.underlying187 HINJ.out (fun x hx => by simp at hx) I HST.out (by omega) (by simp) (by simp)
  rw [List.nil_append] at hS4
  obtain ⟨F0, hF0⟩ := (hS0.new hn3).map
  have hG4 := (hG0.new hn3).mapped hF0 hg4
  have hN4 : New wb w4 := New.grown (hN0.trans hn3) hg4 (fun q hq => by cases hq; exact hmbB)
  clear hS0 hG0 ho1' hN0 hF0 hg4 hc00 hzM hn3
  go_wp2_with fail
  clear hrun hmm
  go_loopw [5, 6, 8] (fun v1 v2 i wr => ∃ k : Nat, i = .int .i64 k ∧ k ≤ (monT a k).list.length ∧ (monT a k).list.length ≤ 400 ∧ New wb wr ∧ Grow2 wb.heap.size 26 26 wr v1 v2 (monT a k).list (monT a k).words ∧ SMap Try.prog 9 (monP a) wr mb (monT a k).list) (fun _ _ i _ => 1025 - (intOf i).toNat)
  case atStart => exact ⟨0, rfl, Nat.zero_le _, by show (1 : Nat) ≤ 400; decide, hN4, by rw [HT0.out]; exact hG4, by rw [HT0.out]; exact hS4⟩
  case round =>
    obtain ⟨k, rfl, hk, hk4, hn, hG, hS⟩ := hrel
    clear hG4 hN4 hS4 HT0
    obtain ⟨wo, rfl⟩ : ∃ wo : World, wo = wr := ⟨_, rfl⟩
    have hbok := HB.out k
    have HLW := hid hbok.lw
    obtain ⟨⟨B1, cc1, rfl⟩, B2, cc2, rfl⟩ := hG.form
    by_cases hlt : k < (monT a k).list.length
    · have b1 : (k : Int) < ((monT a k).list.length : Int) := by omega
      obtain ⟨X, hX⟩ : ∃ X, X = nth (monT a k).list k := ⟨_, rfl⟩
      have hXok := hbok.ok X (by rw [hX]; exact nth_mem _ _ hlt)
      have HXD := hid hX
      have HXO := hid hXok
      obtain ⟨X1, X2⟩ := hXok
      have HX2 := hid X2
      clear hX X2
      have y1 := hn.cell hb1
      go_wp2_with fail
      go_loopw [5, 6, 35] (fun v1 v2 x wr => ∃ l : Nat, x = .int .i64 l ∧ l ≤ a.nx.length ∧ New wb wr ∧ Grow2 wb.heap.size 26 26 wr v1 v2 (bRow (monG a) k (monT a k) l).list (bRow (monG a) k (monT a k) l).words ∧ SMap Try.prog 9 (monP a) wr mb (bRow (monG a) k (monT a k) l).list) (fun _ _ x _ => a.nx.length - (intOf x).toNat)
      case atStart => exact ⟨0, rfl, Nat.zero_le _, hn, hG, hS⟩
      case round =>
        obtain ⟨l, rfl, hll, hNi, hGi, hSi⟩ := hrel
        clear hG hn y1 hS
        obtain ⟨wi, rfl⟩ : ∃ wi : World, wi = wr := ⟨_, rfl⟩
        have hbok2 := HROW.out _ hbok k hlt l hll
        have hlen2 := bRow_len (monG a) k (monT a k) l
        have HPRE := hid (bRow_pre' (g := monG a) k (monT a k) l)
        by_cases hltl : l < a.nx.length
        · have b2 : (l : Int) < (a.nx.length : Int) := by omega
          have hk2 : k < (bRow (monG a) k (monT a k) l).list.length := by have := HPRE.out.1; omega
          have hk2w : k < (bRow (monG a) k (monT a k) l).words.length := by rw [hbok2.lw]; exact hk2
          have hlw2 := hid hbok2.lw
          have HWE := hid (show nth (bRow (monG a) k (monT a k) l).words k = nth (monT a k).words k from (HPRE.out.2 k hlt).2 HLW.out)
          have hwl := hbok2.wl k hk2
          have HSUCC := hid (bRow_succ (monG a) k (monT a k) l)
          have HNTH := hid (show nth (bRow (monG a) k (monT a k) l).list k = X by rw [(HPRE.out.2 k hlt).1, HXD.out])
          have HOK2 := hid hbok2.ok
          obtain ⟨T', hT'⟩ : ∃ T', T' = bRow (monG a) k (monT a k) l := ⟨_, rfl⟩
          rw [← hT'] at hGi hSi hlen2 hk2 hk2w HWE hwl HSUCC HNTH HOK2 hlw2
          clear hT' hbok2
          obtain ⟨⟨B1, cc1, rfl⟩, B2, cc2, rfl⟩ := hGi.form
          have hzi := hNi.size
          obtain ⟨br1, cr1, Ar1, kr1, e1, hr1, ho1⟩ := hGi.row1 k hk2
          rw [HNTH.out] at hr1 ho1
          injection e1 with e1 e1' e1''
          subst e1
          clear e1' e1''
          have hnw : New wi (wi.alloc (.cells #[] 2)) := (by repeat (first | with_reducible exact New.refl _ | with_reducible assumption | with_reducible refine New.alloc ?_ _ | with_reducible refine New.drew ?_ | with_reducible refine New.drewN ?_ _ | with_reducible refine New.setCell ?_ (by simp <;> omega) _))
          have hGr := Grow.empty wi.heap.size 2 wi (Nat.le_refl _)
          obtain ⟨R1, R2⟩ := HR.out l hltl
          have HR2 := hid R2
          clear R2
          obtain ⟨b4, o4, rv4, rfl, hx4, hr4⟩ := HC2.out l hltl
          obtain ⟨A5, c5, rfl, _, hc5⟩ := hr4
          have HC5 := hid hc5
          clear hc5
          have u4 := (hnb.trans hNi).cell hx4
          have y1 := hNi.cell hb1
          have hbl1 : br1 < wi.heap.size := World.block_lt_of_cell? wi _ hr1
          go_wp2_with fail
          clear hbl1 y1 u4
          go_loopw [11, 46] (fun o x wr => ∃ j : Nat, x = .int .i64 j ∧ j ≤ X.length ∧ New wi wr ∧ Grow wi.heap.size 2 wr o (monA a l (X.take j))) (fun _ x _ => X.length - (intOf x).toNat)
          case atStart => exact ⟨0, rfl, Nat.zero_le _, hnw, hGr⟩
          case round =>
            obtain ⟨j, rfl, hj, hNj, hGo⟩ := hrel
            clear hGr hnw
            obtain ⟨wj, rfl⟩ : ∃ wj : World, wj = wr := ⟨_, rfl⟩
            have hzj := hNj.size
            by_cases hltj : j < X.length
            · have b3 : (j : Int) < (X.length : Int) := by omega
              obtain ⟨Aj, cj, ej, _, _, hcj⟩ := id ho1.1
              injection ej with ej1 ej2 ej3
              subst ej1
              obtain ⟨xb, xo, rfl, hxj, _⟩ := hcj j hltj
              obtain ⟨x0, x1⟩ := HX2.out j hltj
              obtain ⟨b5, o5, rfl, hx5⟩ := HC5.out (nth X j).toNat (by omega)
              have g1 : nth X j < ((nth a.nx l).length : Int) := by omega
              replace hxj := hNj.cell hxj
              replace hx5 := ((hnb.trans hNi).trans hNj).cell hx5
              have hlj : (monA a l (X.take j)).length = j := by unfold monA; simp; omega
              clear hcj ej2 ej3
              go_wp2_with (at_builtin; refine wpList_app rfl _ _ _ rfl Try.underlying26 info_i64 _ _ rfl hGo rfl (by omega) hzj ?_; intro g8 cap8 w8 ho8 hg8)
              go_roundw
              case rel => exact ⟨j + 1, by go_num, by omega, New.app (a := wi) hNj hg8 hGo (Nat.le_refl _), by
                  rw [take_succ_nth X j hltj]
                  unfold monA at ho8 ⊢
                  rw [List.map_append]
                  rw [show (List.map (fun s => nth (nth a.nx l) s.toNat) (List.take j X)).length = j by simp; omega] at ho8
                  exact ho8⟩
              case measure => simp [intOf]; omega
            · have e : j = X.length := by omega
              subst e
              rw [List.take_length] at hGo
              obtain ⟨Y, hY⟩ : ∃ Y, Y = monA a l X := ⟨_, rfl⟩
              have hYl : Y.length ≤ 10 := by rw [hY]; simp [monA]; omega
              have hYl0 : 0 < Y.length := by rw [hY]; simp [monA]; omega
              have HG := hid (show monG a l X = some Y by rw [hY]; rfl)
              have HYO := hid (show monP a Y by rw [hY]; exact HOKS.out l X hltl HXO.out)
              rw [← hY] at hGo
              clear hY
              have hoY := hGo.own (by omega)
              obtain ⟨AY, cY, rfl⟩ := hoY.form
              have hGj := hGi.new hNj
              have hSj := hSi.new hNj
              have hNj2 := hNi.trans hNj
              have hRY := hid (RowIn.fresh (v1 := .slice (some ⟨br1, 0, none⟩) T'.list.length cc1) (v2 := .slice B2 T'.words.length cc2) hoY hzi (fun q hq => (hGi.blocks.1 q hq).2) (fun q hq => (hGi.blocks.2 q hq).2))
              have CK := keyOf_any _ _ _ hoY.at (HSM.out _ HYO.out) hYl0 (by omega)
              clear hGo hoY hGi ho1 hSi hNi
              by_cases hm : Y ∈ T'.list
              · have HS := hid (show bRow (monG a) k (monT a k) (l + 1) = T' by rw [HSUCC.out, bStep_has _ _ _ _ Y (by rw [HNTH.out]; exact HG.out) hm])
                have HLK := hid (fun (wx : World) (hn : New wj wx) => ((hSj.new hn).look Try.underlying9 (T := 187) (E := 4) Try.underlying187 zero_bool Y HYO.out (by omega)).1 hm)
                clear hm
                go_wp2_with (go_at_call 156; refine CK.mono ?_; rintro e wc ⟨rfl, hnc⟩; have hlk := HLK.out wc hnc)
                first
                  | (refine ⟨⟨l + 1, by go_num, by omega, hNj2.trans hnc, by rw [HS.out]; exact hGj.new hnc, by rw [HS.out]; exact hSj.new hnc⟩, ?_⟩
                     simp [intOf]; omega)
                  | (go_roundw
                     case rel => exact ⟨l + 1, by go_num, by omega, hNj2.trans hnc, by rw [HS.out]; exact hGj.new hnc, by rw [HS.out]; exact hSj.new hnc⟩
                     case measure => simp [intOf]; omega)
              · have HS := hid (show bRow (monG a) k (monT a k) (l + 1) = ⟨T'.list ++ [Y], T'.words ++ [nth T'.words k ++ [(l : Int)]]⟩ by rw [HSUCC.out, bStep_new _ _ _ _ Y (by rw [HNTH.out]; exact HG.out) hm])
                have HLK := hid (fun (wx : World) (hn : New wj wx) => ((hSj.new hn).look Try.underlying9 (T := 187) (E := 4) Try.underlying187 zero_bool Y HYO.out (by omega)).2 hm)
                have HPUT := hid (fun (wx : World) (hn : New wj wx) => (hSj.new hn).put Try.underlying9 (T := 187) (E := 4) Try.underlying187 HINJ.out HOK2.out Y HYO.out (by omega) hm (by omega))
                have HMAP := hid hSj.map
                have hRl : T'.list.length < 1099511627776 := by omega
                have hWl : T'.words.length < 1099511627776 := by rw [hlw2.out]; omega
                clear hm
                go_wp2_with (go_at_call 156; refine CK.mono ?_; rintro e wc ⟨rfl, hnc⟩; have hlk := HLK.out wc hnc; obtain ⟨w5, hrun, hg5, hS5⟩ := HPUT.out wc hnc)
                obtain ⟨F5, hF5⟩ := HMAP.out
                have hG5 := (hGj.new hnc).mapped (hF5.new hnc) hg5
                have hR5 := (hRY.out.new hnc).mapped (hF5.new hnc) hg5
                have hN5 : New wb w5 := New.grown (hNj2.trans hnc) hg5 (fun q hq => by cases hq; exact hmbB)
                have hz5 := hN5.size
                obtain ⟨bw, cw, Aw, kw, e2, hw2, hoW⟩ := hG5.row2 k hk2w
                injection e2 with e2 e2' e2''
                subst e2
                clear e2' e2''
                obtain ⟨⟨l1, hl1, _⟩, l2, hl2, _⟩ := hG5.spine
                obtain ⟨F6, hF6⟩ := hS5.map
                have hmb1 := hF6.ne_row hl1
                have hmb2 := hF6.ne_row hl2
                clear hl2 hF6
                have hv := hG5.blocks
                have hv1 : br1 < w5.heap.size := (hv.1 _ rfl).2
                have hv1B : wb.heap.size ≤ br1 := (hv.1 _ rfl).1
                have hv2 : bw < w5.heap.size := (hv.2 _ rfl).2
                have hv2B : wb.heap.size ≤ bw := (hv.2 _ rfl).1
                have hvne : bw ≠ br1 := by
                  rcases hG5.apart with h | h
                  · intro e; exact h (by rw [e]; rfl)
                  · simp [Value.ownBlock] at h
                clear hv hrun hlk hg5 hF5 HMAP HPUT HLK hGj hSj hNj hNj2 hnc CK hRY hr1 hx4 hzi hzj
                have hw2d : w5.drew.cell? ⟨bw, k, none⟩ = some (.slice Aw (nth T'.words k).length kw) := hw2
                go_wp2_with fail
                go_region_law
                  (first
                    | (refine step_appV1 rfl _ _ _ rfl (B := wb.heap.size) Try.underlying22 info_ints rfl (by decide) (.slice (some ⟨br1, 0, none⟩) T'.list.length cc1) T'.list.length l1 (.slice AY Y.length cY) rfl _ rfl (ownsRow_new hl1 (by repeat (first | with_reducible exact New.refl _ | with_reducible assumption | with_reducible refine New.alloc ?_ _ | with_reducible refine New.drewN ?_ _ | with_reducible refine New.drew ?_ | with_reducible refine New.trans ?_ (by with_reducible assumption)))) rfl (by go_simp) hRl (by (try simp only [sizes]) <;> omega) ?_; intro g1 cap1 wd1 hod1 hgd1 hloc1; have hG6 := Grow2.appN1 hgd1 (by repeat (first | with_reducible exact New.refl _ | with_reducible assumption | with_reducible refine New.alloc ?_ _ | with_reducible refine New.drewN ?_ _ | with_reducible refine New.drew ?_ | with_reducible refine New.trans ?_ (by with_reducible assumption))) hG5 hR5 hl1 hod1 hloc1; have hoW6 := RowIn.appN1 (n := T'.list.length + 1) (cap := cap1) hgd1 (by repeat (first | with_reducible exact New.refl _ | with_reducible assumption | with_reducible refine New.alloc ?_ _ | with_reducible refine New.drewN ?_ _ | with_reducible refine New.drew ?_ | with_reducible refine New.trans ?_ (by with_reducible assumption))) hoW hloc1; have hw6 : wd1.cell? ⟨bw, k, none⟩ = some (.slice Aw (nth T'.words k).length kw) := hgd1.cell (New.cell (w := w5) (by repeat (first | with_reducible exact New.refl _ | with_reducible assumption | with_reducible refine New.alloc ?_ _ | with_reducible refine New.drewN ?_ _ | with_reducible refine New.drew ?_ | with_reducible refine New.trans ?_ (by with_reducible assumption))) hw2) (by simp [Value.ownBlock]; exact hvne); have hb6 : bw < wd1.heap.size := World.block_lt_of_cell? wd1 _ hw6; have hN6 : New wb wd1 := New.grown (New.trans hN5 (by repeat (first | with_reducible exact New.refl _ | with_reducible assumption | with_reducible refine New.alloc ?_ _ | with_reducible refine New.drewN ?_ _ | with_reducible refine New.drew ?_ | with_reducible refine New.trans ?_ (by with_reducible assumption)))) hgd1 (fun q hq => by simp [Value.ownBlock] at hq; omega))
                    | (go_simp; go_at_call 78; refine (Clone64_any _ _ _ (hoW6.1.at.new (by repeat (first | with_reducible exact New.refl _ | with_reducible assumption | with_reducible refine New.alloc ?_ _ | with_reducible refine New.drewN ?_ _ | with_reducible refine New.drew ?_ | with_reducible refine New.trans ?_ (by with_reducible assumption)))) (by omega)).mono ?_; rintro e w7 ⟨r, he, hq7, ho7⟩; obtain ⟨Ar, cr, rfl⟩ := ho7.form; subst he; have hn7 : New wd1 w7 := (by repeat (first | with_reducible exact New.refl _ | with_reducible assumption | with_reducible refine New.alloc ?_ _ | with_reducible refine New.drewN ?_ _ | with_reducible refine New.drew ?_ | with_reducible refine New.trans ?_ (by with_reducible assumption))); have hz7 := hq7.size; try simp only [size_alloc] at hz7)
                    | (refine step_app1 rfl _ _ _ rfl Try.underlying26 info_i64 _ _ (l : Int) _ rfl (ho7.new (by repeat (first | with_reducible exact New.refl _ | with_reducible assumption | with_reducible refine New.alloc ?_ _ | with_reducible refine New.drewN ?_ _ | with_reducible refine New.drew ?_ | with_reducible refine New.trans ?_ (by with_reducible assumption)))) rfl (by first | (go_simp; done) | (refine hq7.cell ?_; go_simp; done) | (refine hq7.cell (hgd1.cell (by go_simp) (by simp [Value.ownBlock]; omega)))) (by omega) (by (try simp only [sizes]) <;> omega) ?_; intro g8 cap8 w8 ho8 hg8; have hn8 : New wd1 w8 := New.app (a := wd1) (by repeat (first | with_reducible exact New.refl _ | with_reducible assumption | with_reducible refine New.alloc ?_ _ | with_reducible refine New.drewN ?_ _ | with_reducible refine New.drew ?_ | with_reducible refine New.trans ?_ (by with_reducible assumption))) hg8 (ho7.new (by repeat (first | with_reducible exact New.refl _ | with_reducible assumption | with_reducible refine New.alloc ?_ _ | with_reducible refine New.drewN ?_ _ | with_reducible refine New.drew ?_ | with_reducible refine New.trans ?_ (by with_reducible assumption)))) (by (try simp only [sizes]) <;> omega); obtain ⟨_, l3, hl3, _⟩ := (hG6.new hn8).spine; have hz8 := hn8.size)
                    | (refine step_appV1 rfl _ _ _ rfl (B := wb.heap.size) Try.underlying22 info_ints rfl (by decide) (.slice (some ⟨bw, 0, none⟩) T'.words.length cc2) T'.words.length l3 (.slice (some ⟨g8, 0, none⟩) ((nth T'.words k).length + 1) cap8) rfl _ rfl (ownsRow_new hl3 (by repeat (first | with_reducible exact New.refl _ | with_reducible assumption | with_reducible refine New.alloc ?_ _ | with_reducible refine New.drewN ?_ _ | with_reducible refine New.drew ?_ | with_reducible refine New.trans ?_ (by with_reducible assumption)))) rfl (by go_simp) hWl (by have := hN6.size; (try simp only [sizes]) <;> omega) ?_; intro g2 cap2 wd2 hod2 hgd2 hloc2))
                all_goals go_wp2_with fail
                all_goals have hb1 := hG6.blocks
                all_goals have hRW := RowIn.fresh (B := wb.heap.size) (w := w8) ((ho8.own (by simp; omega)).widen (B' := wd1.heap.size) (by (try simp only [sizes]) <;> omega) (Nat.le_refl _)) hN6.size (fun q hq => (hb1.1 q hq).2) (fun q hq => (hb1.2 q hq).2)
                all_goals have hG9 := Grow2.appN2 hgd2 (by repeat (first | with_reducible exact New.refl _ | with_reducible assumption | with_reducible refine New.alloc ?_ _ | with_reducible refine New.drewN ?_ _ | with_reducible refine New.drew ?_ | with_reducible refine New.trans ?_ (by with_reducible assumption))) (hG6.new hn8) hRW hl3 hod2 hloc2
                all_goals have hS9 := SMap.kept (SMap.new (SMap.new (SMap.kept (SMap.new hS5 (by repeat (first | with_reducible exact New.refl _ | with_reducible assumption | with_reducible refine New.alloc ?_ _ | with_reducible refine New.drewN ?_ _ | with_reducible refine New.drew ?_ | with_reducible refine New.trans ?_ (by with_reducible assumption)))) hgd1 hmb1) hn8) (by repeat (first | with_reducible exact New.refl _ | with_reducible assumption | with_reducible refine New.alloc ?_ _ | with_reducible refine New.drewN ?_ _ | with_reducible refine New.drew ?_ | with_reducible refine New.trans ?_ (by with_reducible assumption)))) hgd2 hmb2
                all_goals have hN9 : New wb wd2 := New.grown (New.trans (hN6.trans hn8) (by repeat (first | with_reducible exact New.refl _ | with_reducible assumption | with_reducible refine New.alloc ?_ _ | with_reducible refine New.drewN ?_ _ | with_reducible refine New.drew ?_ | with_reducible refine New.trans ?_ (by with_reducible assumption)))) hgd2 (fun q hq => by simp [Value.ownBlock] at hq; omega)
                all_goals first
                  | (refine ⟨⟨l + 1, by go_num, by omega, hN9, by rw [HS.out]; exact hG9, by rw [HS.out]; exact hS9⟩, ?_⟩
                     simp [intOf]; omega)
                  | (go_roundw
                     case rel => exact ⟨l + 1, by go_num, by omega, hN9, by rw [HS.out]; exact hG9, by rw [HS.out]; exact hS9⟩
                     case measure => simp [intOf]; omega)
        · have e : l = a.nx.length := by omega
          subst e
          have HE1 := hid (show monT a (k + 1) = bRow (monG a) k (monT a k) a.nx.length by unfold monT at hlt ⊢; rw [bTo_succ, if_pos hlt])
          obtain ⟨⟨B1, cc1, rfl⟩, B2, cc2, rfl⟩ := hGi.form
          have hpre1 := HPRE.out.1
          by_cases hm4 : 400 < (bRow (monG a) k (monT a k) a.nx.length).list.length
          · have b4 : (400 : Int) < ((bRow (monG a) k (monT a k) a.nx.length).list.length : Int) := by omega
            have HF := hid (HM.out k hlt hk4 (by rw [HE1.out]; exact hm4))
            clear hm4
            go_wp2_with fail
            go_ret3
            rw [HF.out]
            exact ⟨_, _, rfl, hnb.trans hNi, fun h => by cases h⟩
          · have b4 : ¬ (400 : Int) < ((bRow (monG a) k (monT a k) a.nx.length).list.length : Int) := by omega
            go_wp2_with fail
            go_roundw
            case rel => exact ⟨k + 1, by go_num, by rw [HE1.out]; omega, by rw [HE1.out]; omega, hNi, by rw [HE1.out]; exact hGi, by rw [HE1.out]; exact hSi⟩
            case measure => simp [intOf]; omega
    · have e : k = (monT a k).list.length := by omega
      have HF := hid (HE.out k hk4 e.symm)
      have b1 : ¬ (k : Int) < ((monT a k).list.length : Int) := by omega
      clear e
      go_wp2_with fail
      go_ret3
      rw [HF.out.1]
      exact ⟨_, _, rfl, hnb.trans hn, fun _ => by rw [HF.out.2]; exact hG.base (by omega)⟩

end Go.Proofs.Ytcjmcpfdpnakkaa
