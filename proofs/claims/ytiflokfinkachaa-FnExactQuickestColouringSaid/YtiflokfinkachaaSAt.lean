/- The reference's colouring with a number. -/
import Derived.Test.YtiflokfinkachaaRows
import Derived.Test.YtiflokfinkachaaCore
import Derived.Test.YtiflokfinkachaaInfos
import Derived.Test.YtiflokfinkachaaPlains
import Derived.Test.YtiflokfinkachaaMaps
import Derived.Test.YtiflokfinkachaaArrs
import Derived.Test.YtiflokfinkachaaJoins
import Derived.Test.YtiflokfinkachaaSArr
import Derived.Test.YtiflokfinkachaaSChoices
import Derived.WalkKit
import Derived.WalkSpells
import Derived.WalkLawsBesides
import Derived.Deep.QuietTactic
import Derived.Deep.OwnRows
import Derived.BigQuiet
import Derived.KernelRfl
import Derived.Carry
import Derived.Deep.RegionLaw
import Derived.Deep.RegionHeld3
namespace Go.Proofs.Ytiflokfinkachaa
open Go.RowKit

theorem pick_rows {w : World} {AC : Option Addr} {m cC : Nat} {cs : List (List (List Int))} (h : ListAt RowsAt w (.slice AC m cC) cs) (N : Nat) (hpos : ∀ p, p < cs.length → 0 < (nth cs p).length) :
    ∃ r : Nat → Value, ∀ p, p < cs.length → ∃ cb co ct tb to, AC = some ⟨cb, co, none⟩ ∧ w.cell? ⟨cb, co + p, none⟩ = some (.slice (some ⟨tb, to, none⟩) (nth cs p).length ct) ∧ w.cell? ⟨tb, to + numAt cs N (cs.length - 1 - p) % (nth cs p).length, none⟩ = some (r p) ∧ IntsAt w (r p) (pickAt cs N p) := by
  obtain ⟨A, c, e, hl, hx⟩ := h
  injection e with e1 e2 e3
  subst e1
  have hex : ∀ p, ∃ rv : Value, p < cs.length → ∃ cb co ct tb to, AC = some ⟨cb, co, none⟩ ∧ w.cell? ⟨cb, co + p, none⟩ = some (.slice (some ⟨tb, to, none⟩) (nth cs p).length ct) ∧ w.cell? ⟨tb, to + numAt cs N (cs.length - 1 - p) % (nth cs p).length, none⟩ = some rv ∧ IntsAt w rv (pickAt cs N p) := by
    intro p
    by_cases hp : p < cs.length
    · obtain ⟨cb, co, q, h1, h2, A2, ct, rfl, h3, h4⟩ := hx p hp
      obtain ⟨tb, to, rv, h5, h6, h7⟩ := h4 _ (Nat.mod_lt (numAt cs N (cs.length - 1 - p)) (hpos p hp))
      subst h5
      exact ⟨rv, fun _ => ⟨cb, co, ct, tb, to, h1, h2, h6, h7⟩⟩
    · exact ⟨default, fun h => absurd h hp⟩
  exact Classical.axiomOfChoice hex
set_option maxRecDepth 20000 in
set_option maxHeartbeats 4000000 in
theorem l05At_any (cv : Value) (cs : List (List (List Int))) (L N : Nat) (w : World) (hc : ListAt RowsAt w cv cs) (h1 : 1 ≤ cs.length) (h7 : cs.length ≤ 7) (hL : 1 ≤ L ∧ L ≤ 3)
    (hpos : ∀ p, p < cs.length → 0 < (nth cs p).length) (hrow : ∀ p, p < cs.length → ∀ i, i < (nth cs p).length → (nth (nth cs p) i).length = L) (hlen : ∀ p, p < cs.length → (nth cs p).length ≤ 1000) (hN : N ≤ 4611686018427387904) :
    Calls Try.prog 103 #[cv, .int .i64 N] w fun e w' => ∃ r, e = .returned r ∧ New w w' ∧ OwnAut w.heap.size w'.heap.size w' r ⟨cs.length, atRows cs N L⟩ := by
  obtain ⟨AC, cC, rfl, _, _⟩ := id hc
  obtain ⟨r, hr⟩ := pick_rows hc N hpos
  have hrl : ∀ p, p < cs.length → (pickAt cs N p).length = L := fun p hp => hrow p hp _ (Nat.mod_lt _ (hpos p hp))
  have HR := hid hr
  have HRL := hid hrl
  have HPOS := hid hpos
  have HLEN := hid hlen
  have hmk := fun w => run_make_row' (P := Try.prog) 22 26 (.slice none 0 0) 24 Try.underlying22 info_ints rfl .i64 .i64 cs.length (by omega) (by omega) w
  have hkw : IntKind.i64.wrap ((cs.length : Int) - 1) = (cs.length : Int) - 1 := IntWalk.i64_in _ (by omega)
  clear hr hrl hpos hrow hlen
  obtain ⟨W0, hW0⟩ : ∃ W0, W0 = (w.alloc (.cells #[.int .i64 0, .slice none 0 0] 40)).alloc (.cells (madeCells #[.slice none 0 0] cs.length) 26) := ⟨_, rfl⟩
  have hn0 : New w W0 := by rw [hW0]; exact (by repeat (first | with_reducible exact New.refl _ | with_reducible assumption | with_reducible refine New.alloc ?_ _ | with_reducible refine New.drewN ?_ _ | with_reducible refine New.drew ?_ | with_reducible refine New.trans ?_ (by with_reducible assumption)))
  have hz0 : W0.heap.size = w.heap.size + 2 := by rw [hW0]; simp only [size_alloc]
  have hR0 : Box2 W0 w.heap.size (.int .i64 0) (.slice none 0 0) := by rw [hW0]; exact ⟨by go_simp, by go_simp, by go_simp, by go_simp⟩
  have hrow0 : W0.rowIs (w.heap.size + 1) 26 cs.length (fun p => if cs.length ≤ p + 0 then r p else .slice none 0 0) := by
    rw [hW0]
    have := (World.rowIs_made (w.alloc (.cells #[.int .i64 0, .slice none 0 0] 40)) (.slice none 0 0) cs.length 26)
    rw [size_alloc] at this
    exact this.congr (fun i hi => by rw [if_neg (by omega)])
  go_enter Try.func103, Try.ntmps103
  go_wp2_with fail
  rw [← hW0]
  clear hW0
  go_loopw [1, 7] (fun num s wr => ∃ j : Nat, j ≤ cs.length ∧ s = .int .i64 ((cs.length : Int) - 1 - j) ∧ num = .int .i64 (numAt cs N j) ∧ But (fun q => q = w.heap.size + 1) W0 wr ∧ wr.rowIs (w.heap.size + 1) 26 cs.length (fun p => if cs.length ≤ p + j then r p else .slice none 0 0)) (fun _ s _ => (intOf s + 1).toNat)
  case atStart => exact ⟨0, Nat.zero_le _, by simp, rfl, But.refl, hrow0⟩
  case round =>
    obtain ⟨j, hj, rfl, rfl, hb, hrw⟩ := hrel
    clear hrow0
    obtain ⟨wo, rfl⟩ : ∃ wo : World, wo = wr := ⟨_, rfl⟩
    have hno : New w wo := But.new hn0 hb (fun q hq => by omega)
    have hzo := hb.size
    have hMN : numAt cs N j ≤ N := by
      clear hj hrw
      induction j with
      | zero => exact Nat.le_refl _
      | succ j ih => exact Nat.le_trans (Nat.div_le_self _ _) ih
    obtain ⟨M, hM⟩ : ∃ M, M = numAt cs N j := ⟨_, rfl⟩
    rw [← hM] at hMN ⊢
    by_cases hlt : j < cs.length
    · obtain ⟨p, hp⟩ : ∃ p, p = cs.length - 1 - j := ⟨_, rfl⟩
      have hs : (cs.length : Int) - 1 - j = (p : Int) := by omega
      have hplt : p < cs.length := by omega
      rw [hs]
      have b2 : (p : Int) < (cs.length : Int) := by omega
      obtain ⟨cb, co, ct, tb, to, rfl, hx, hxr, hxi⟩ := HR.out p hplt
      rw [show cs.length - 1 - p = j by omega, ← hM] at hxr
      obtain ⟨T, hT⟩ : ∃ T, T = nth cs p := ⟨_, rfl⟩
      have hTpos := HPOS.out p hplt
      have hTl := HLEN.out p hplt
      rw [← hT] at hx hxr hTpos hTl
      have HM := hid hM
      have HT := hid hT
      have HP := hid hp
      have hmod : M % T.length < T.length := Nat.mod_lt _ hTpos
      have hrem : Int.tmod (M : Int) (T.length : Int) = ((M % T.length : Nat) : Int) := by rw [Int.tmod_eq_emod_of_nonneg (by omega)]; rfl
      have hquo : Int.tdiv (M : Int) (T.length : Int) = ((M / T.length : Nat) : Int) := by rw [Int.tdiv_eq_ediv_of_nonneg (by omega)]; rfl
      have hmodI : ((M % T.length : Nat) : Int) < (T.length : Int) := by omega
      have hm0 : (0 : Int) ≤ (M : Int) % (T.length : Int) := Int.emod_nonneg _ (by omega)
      have hm1 : (M : Int) % (T.length : Int) < (T.length : Int) := Int.emod_lt_of_pos _ (by omega)
      have hT0 : ¬ T = [] := by rintro rfl; simp at hTpos
      have hmn : ((M : Int) % (T.length : Int)).toNat = M % T.length := Int.toNat_natCast (M % T.length)
      rw [← hmn] at hxr; clear hmn
      have hcb : ¬ w.heap.size + 1 = cb := by have := World.block_lt_of_cell? w _ hx; simp only at this; omega
      have htb : ¬ w.heap.size + 1 = tb := by have := World.block_lt_of_cell? w _ hxr; simp only at this; omega
      replace hx := hno.cell hx
      replace hxr := hno.cell hxr
      have hcell := hrw.cell (i := p) hplt
      have hfr := hrw.frozen p
      have HRW := hid hrw
      have HQUO := hid hquo
      have HXI := hid hxi
      obtain ⟨Ax, cx, hrp⟩ := hxi.form
      rw [HRL.out p hplt] at hrp
      rw [hrp] at hxr
      have HRP := hid hrp
      clear hM hT hp hs hrw hxi hrp
      go_wp2_with fail
      go_region_held3 (fun w' => w'.cell? ⟨cb, co + p, none⟩ = some (.slice (some ⟨tb, to, none⟩) T.length ct) ∧ w'.cell? ⟨tb, to + ((M : Int) % (T.length : Int)).toNat, none⟩ = some (.slice Ax L cx))
        (first | exact ⟨hx, hxr⟩ | go_keep)
        (fail)
      have HN1 := hid (show numAt cs N (j + 1) = M / T.length by show numAt cs N j / (nth cs (cs.length - 1 - j)).length = _; rw [← HM.out, ← HP.out, ← HT.out])
      have HW := hid (show Go.RowKit.wrap64 ((M : Int) / (T.length : Int)) = ((M / T.length : Nat) : Int) by
        obtain ⟨Q, hQ⟩ : ∃ Q, Q = M / T.length := ⟨_, rfl⟩
        have hQM : Q ≤ M := by rw [hQ]; exact Nat.div_le_self _ _
        have e1 : (M : Int) / (T.length : Int) = (Q : Int) := by rw [hQ]; first | rfl | simp
        rw [e1, ← hQ]
        exact IntWalk.wrap64_in _ ⟨by omega, by omega⟩)
      have hq2 : IntKind.i64.wrap ((p : Int) - 1) = (p : Int) - 1 := IntWalk.i64_in _ (by omega)
      have hquo := HQUO.out
      clear hrem hmodI hmod hm0 hm1
      go_wp2_with fail
      refine ⟨⟨j + 1, by omega, ?_, by rw [HN1.out, HW.out], (hb.trans (But.setCell (S := fun q => q = w.heap.size + 1) ⟨w.heap.size + 1, p, none⟩ (.slice Ax L cx) rfl) (fun q hq => Or.inl hq)).trans (But.of_new (S := fun q => q = w.heap.size + 1) ((New.refl _).drew)) (fun q hq => Or.inl hq), ?_⟩, ?_⟩
      · rw [show (p : Int) - 1 = (cs.length : Int) - 1 - ((j + 1 : Nat) : Int) by have := HP.out; omega]
      · refine ((HRW.out.set p (.slice Ax L cx)).congr (fun i hi => ?_)).drew
        have := HP.out
        by_cases e : i = p
        · subst e; rw [if_pos rfl, if_pos (by omega), HRP.out]
        · rw [if_neg e]
          by_cases h2 : cs.length ≤ i + j
          · rw [if_pos h2, if_pos (by omega)]
          · rw [if_neg h2, if_neg (by omega)]
      · simp [intOf] <;> omega
    · have e : j = cs.length := by omega
      subst e
      have b2 : ¬ (0 : Int) ≤ (cs.length : Int) - 1 - (cs.length : Int) := by omega
      have hR1 : Box2 wo w.heap.size (.int .i64 0) (.slice none 0 0) := hR0.block (hb.2.2.2.2 _ hR0.lt (by omega))
      have HLST := hid (fun (w' : World) (hn : New wo w') (p : Nat) (hp : p < cs.length) => (show w'.cell? ⟨w.heap.size + 1, p, none⟩ = some (r p) ∧ IntsAt w' (r p) (pickAt cs N p) from
        ⟨hn.cell (by have := hrw.cell (i := p) hp; rw [if_pos (by omega)] at this; exact this), by obtain ⟨_, _, _, _, _, _, _, _, hxi⟩ := HR.out p hp; exact hxi.new (hno.trans hn)⟩))
      clear hR0 hrw hb hM
      have hG : GrowRows (wo.heap.size + 1) 26 (wo.alloc (.cells #[.int .i64 cs.length, .slice none 0 0] 40)) (.slice none 0 0) ((atRows cs N L).take 0) := GrowRows.nil _ _ _
      have hO : Box2 (wo.alloc (.cells #[.int .i64 cs.length, .slice none 0 0] 40)) wo.heap.size (.int .i64 cs.length) (.slice none 0 0) := ⟨by go_simp, by go_simp, by go_simp, by go_simp⟩
      have hn2 : New wo (wo.alloc (.cells #[.int .i64 cs.length, .slice none 0 0] 40)) := (by repeat (first | with_reducible exact New.refl _ | with_reducible assumption | with_reducible refine New.alloc ?_ _ | with_reducible refine New.drewN ?_ _ | with_reducible refine New.drew ?_ | with_reducible refine New.trans ?_ (by with_reducible assumption)))
      have hz2 : wo.heap.size + 1 ≤ (wo.alloc (.cells #[.int .i64 cs.length, .slice none 0 0] 40)).heap.size := by simp only [size_alloc]; omega
      have hal : (atRows cs N L).length = L := tab_length _ _ _
      go_wp2_with fail
      generalize (wo.alloc (.cells #[.int .i64 cs.length, .slice none 0 0] 40)) = w2 at hG hO hn2 hz2 ⊢
      have hzo2 : w.heap.size + 2 ≤ wo.heap.size := by omega
      clear hmk hkw hz0 hn0 hMN
      go_loopw [10] (fun i wr => ∃ (x : Nat) (v : Value), i = .int .i64 x ∧ x ≤ L ∧ New wo wr ∧ wo.heap.size + 1 ≤ wr.heap.size ∧ Box2 wr wo.heap.size (.int .i64 cs.length) v ∧ GrowRows (wo.heap.size + 1) 26 wr v ((atRows cs N L).take x)) (fun i _ => L - (intOf i).toNat)
      case atStart => exact ⟨0, _, rfl, Nat.zero_le _, hn2, hz2, hO, hG⟩
      case round =>
        obtain ⟨x, v, rfl, hx, hnx, hzx, hOx, hGx⟩ := hrel
        clear hn2 hz2 hO hG
        obtain ⟨wx, rfl⟩ : ∃ wx : World, wx = wr := ⟨_, rfl⟩
        obtain ⟨hl0, hi0⟩ := HLST.out wx hnx 0 h1
        obtain ⟨A0, c0, hr0⟩ := hi0.form
        rw [HRL.out 0 h1] at hr0
        rw [hr0] at hl0
        have m0 : (0 : Int) < (cs.length : Int) := by omega
        have HR0 := hid hr0
        clear hr0 hi0
        by_cases hlx : x < L
        · have b1 : (x : Int) < (L : Int) := by omega
          obtain ⟨XS, hXS⟩ : ∃ z, z = (atRows cs N L).take x := ⟨_, rfl⟩
          have HXL := hid (show XS.length < 1099511627776 by rw [hXS]; simp; omega)
          have HE := hid (show (atRows cs N L).take (x + 1) = XS ++ [(List.range cs.length).map fun p => nth (pickAt cs N p) x] by
            rw [take_succ_nth _ x (by omega), ← hXS]
            unfold atRows
            rw [nth_tab _ _ _ _ hlx])
          rw [← hXS] at hGx
          clear hXS
          obtain ⟨D, d, rfl⟩ := hGx.form
          have hY0 := Grow.empty wx.heap.size 2 wx (Nat.le_refl _)
          have hny0 : New wx (wx.alloc (.cells #[] 2)) := (by repeat (first | with_reducible exact New.refl _ | with_reducible assumption | with_reducible refine New.alloc ?_ _ | with_reducible refine New.drewN ?_ _ | with_reducible refine New.drew ?_ | with_reducible refine New.trans ?_ (by with_reducible assumption)))
          go_wp2_with fail
          generalize (wx.alloc (.cells #[] 2)) = w3 at hY0 hny0 ⊢
          go_loopw [11, 12] (fun ov i wr => ∃ s : Nat, s ≤ cs.length ∧ i = .int .i64 s ∧ New wx wr ∧ Grow wx.heap.size 2 wr ov ((List.range s).map fun p => nth (pickAt cs N p) x)) (fun _ i _ => cs.length - (intOf i).toNat)
          case atStart => exact ⟨0, Nat.zero_le _, rfl, hny0, hY0⟩
          case round =>
            obtain ⟨s, hs, rfl, hns, hYs⟩ := hrel
            clear hY0 hny0
            obtain ⟨ws, rfl⟩ : ∃ ws : World, ws = wr := ⟨_, rfl⟩
            obtain ⟨ZS, hZS⟩ : ∃ z, z = (List.range s).map fun p => nth (pickAt cs N p) x := ⟨_, rfl⟩
            have hZl : ZS.length = s := by rw [hZS]; simp
            rw [← hZS] at hYs
            by_cases hls : s < cs.length
            · have b3 : (s : Int) < (cs.length : Int) := by omega
              have HE2 := hid (show ((List.range (s + 1)).map fun p => nth (pickAt cs N p) x) = ZS ++ [nth (pickAt cs N s) x] by rw [list_range_snoc, ← hZS])
              obtain ⟨hls1, his⟩ := HLST.out ws (hnx.trans hns) s hls
              obtain ⟨As, c9, hrs, _, hcs⟩ := id his
              have hPL := HRL.out s hls
              obtain ⟨sb, so, rfl, hxs⟩ := hcs x (by omega)
              rw [hPL] at hrs
              rw [hrs] at hls1
              have HZL := hid hZl
              have hZlt : ZS.length < 1099511627776 := by omega
              have hzs := hns.size
              obtain ⟨DZ, dZ, rfl⟩ := hYs.form
              clear hZS hcs his hrs hZl hPL
              go_wp2_with (at_builtin; refine wpList_app (w1 := ws) rfl _ _ _ rfl Try.underlying26 info_i64 (.slice DZ ZS.length dZ) ZS rfl hYs rfl hZlt hzs ?_; intro g cap w12 ho12 hg12)
              refine ⟨⟨s + 1, by omega, by go_num, New.app hns hg12 hYs (Nat.le_refl _), by rw [HE2.out]; exact ho12⟩, ?_⟩
              simp [intOf]; omega
            · have e : s = cs.length := by omega
              subst e
              have b3 : ¬ (cs.length : Int) < (cs.length : Int) := by omega
              have hown := hYs.own (by omega)
              have HZS := hid hZS
              have hzs := hns.size
              obtain ⟨DZ, dZ, rfl⟩ := hYs.form
              have hOs := hOx.new hns
              obtain ⟨o0, o1, of0, of1⟩ := id hOs
              have hblk := hid hGx.block
              have hXlt := HXL.out
              clear hZS hZl
              go_wp2_with (at_builtin; refine wpList_appRows (w1 := ws) rfl _ _ _ rfl Try.underlying22 info_ints (.slice D XS.length d) XS ZS rfl hGx hns hown rfl hXlt hzx ?_; intro g cap w12 ho12 hg12; have hO12 := hOs.grown hg12 (fun q hq => by have := (hblk.out q hq).1; omega); obtain ⟨u0, u1, uf0, uf1⟩ := id hO12)
              have hn12 : New wo w12 := New.grown (hnx.trans hns) hg12 (fun q hq => by have := (hblk.out q hq).1; omega)
              have hW1 := within_setCell w12 ⟨wo.heap.size, 1, none⟩ (.slice (some ⟨g, 0, none⟩) (XS.length + 1) cap)
              have hz12 := hn12.size
              have hz13 := hg12.size
              refine ⟨⟨x + 1, _, by go_num, by omega, hn12.setCell (p := ⟨wo.heap.size, 1, none⟩) (Nat.le_refl _) _, by rw [size_setCell]; omega, hO12.set1 _, by rw [HE.out, ← HZS.out]; exact ho12.within hW1 (Nat.le_refl _)⟩, ?_⟩
              simp [intOf]; omega
        · have e : x = L := by omega
          subst e
          have b1 : ¬ (x : Int) < (x : Int) := by omega
          rw [List.take_of_length_le (by omega)] at hGx
          obtain ⟨D, d, rfl⟩ := hGx.form
          have hOW := hGx.own (by omega)
          rw [hal] at hOW hOx
          have hRx := hR1.new hnx
          obtain ⟨o0, o1, of0, of1⟩ := id hOx
          obtain ⟨q0, q1, qf0, qf1⟩ := id hRx
          obtain ⟨g0, g1, _⟩ := hRx.fill (.int .i64 cs.length) (.slice D x d)
          have HW := hid (Within.fill wx w.heap.size (.int .i64 cs.length) (.slice D x d))
          have hNx := hno.trans hnx
          clear hal hGx
          go_wp2_with fail
          refine bodyPost_ret (v := .agg #[.int .i64 cs.length, .slice D x d]) (by simp [results, Try.results103, go_sem, g0, g1]) rfl ?_
          have hNn := hNx.within HW.out (Nat.le_refl _)
          exact ⟨_, rfl, hNn, _, rfl, (hOW.within HW.out (Or.inr (by omega))).widen (by omega) HW.out.2.2.2.1⟩

end Go.Proofs.Ytiflokfinkachaa
