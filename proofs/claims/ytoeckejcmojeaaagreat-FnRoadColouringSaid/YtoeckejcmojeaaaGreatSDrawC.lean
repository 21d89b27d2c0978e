/- The reference's drawn roads. -/
import Derived.Test.YtoeckejcmojeaaaGreatRows
import Derived.Test.YtoeckejcmojeaaaGreatCore
import Derived.Test.YtoeckejcmojeaaaGreatInfos
import Derived.Test.YtoeckejcmojeaaaGreatArrs
import Derived.Test.YtoeckejcmojeaaaGreatPlains
import Derived.Test.YtoeckejcmojeaaaGreatDrawT
import Derived.Test.YtoeckejcmojeaaaGreatMaps
import Derived.Test.YtoeckejcmojeaaaGreatSDraw
import Derived.Test.YtoeckejcmojeaaaGreatSDrawA
import Derived.Test.YtoeckejcmojeaaaGreatSDrawB
import Derived.Test.YtoeckejcmojeaaaGreatRowsC
import Derived.Test.YtoeckejcmojeaaaGreatSRoadsC
import Derived.WalkKit
import Derived.WalkSpells
import Derived.WalkLawsBesides
import Derived.Deep.QuietTactic
import Derived.Deep.OwnRows
import Derived.BigQuiet
import Derived.KernelRfl
import Derived.Carry
import Derived.Deep.RegionHeld3
namespace Go.Proofs.YtoeckejcmojeaaaGreat
open Go.RowKit

theorem OwnRows.take {B E c n : Nat} {A : Option Addr} {w : World} {xss : List (List Int)} (h : OwnRows B E w (.slice A n c) xss) (k : Nat) (hk : k ≤ xss.length) : OwnRows B E w (.slice A k c) (xss.take k) := by
  obtain ⟨A', c', rv, e, hl, ha, hc, hd⟩ := h
  cases e
  have el : (xss.take k).length = k := by rw [List.length_take]; omega
  refine ⟨A, c, rv, by rw [el], by omega, ha, fun i hi => ?_, fun i j hij hj => hd i j hij (by omega)⟩
  rw [el] at hi
  obtain ⟨h1, h2⟩ := hc i (by omega)
  refine ⟨h1, ?_⟩
  have e2 : nth (xss.take k) i = nth xss i := by
    rw [nth_eq _ _ (by omega), nth_eq _ _ (by omega), List.getElem_take]
  rw [e2]; exact h2
theorem mapOk_set {xs : List Int} {m : Int} (h : mapOk xs m = true) (i : Nat) (z : Int) (h0 : 0 ≤ z) (h1 : z < m) : mapOk (xs.set i z) m = true := by
  obtain ⟨hl, hh⟩ := (mapOk_iff _ _).1 h
  refine (mapOk_iff _ _).2 ⟨by simpa using hl, fun j hj => ?_⟩
  simp at hj
  by_cases e : i < xs.length
  · rw [nth_set _ _ _ _ e]
    split
    · exact ⟨h0, h1⟩
    · exact hh j hj
  · rw [List.set_eq_of_length_le (by omega)]; exact hh j hj
theorem autOk_put {m : Int} {RS : List (List Int)} (h : autOk ⟨m, RS⟩ = true) (x i : Nat) (hx : x < RS.length) (z : Int) (h0 : 0 ≤ z) (h1 : z < m) : autOk ⟨m, putAt RS x i z⟩ = true := by
  rw [autOk_iff] at h ⊢
  obtain ⟨a1, a2, a3⟩ := h
  refine ⟨a1, by simpa [putAt_len] using a2, fun j hj => ?_⟩
  simp only [putAt_len] at hj
  have hr : mapOk (nth (putAt RS x i z) j) m = true := by
    unfold putAt
    rw [nth_set _ _ _ _ hx]
    split
    · exact mapOk_set (a3 x hx) i z h0 h1
    · exact a3 j hj
  exact hr
theorem autOk_take2 {m : Int} {RS : List (List Int)} (h : autOk ⟨m, RS⟩ = true) (hl : 2 < RS.length) : autOk ⟨m, RS.take 2⟩ = true := by
  rw [autOk_iff] at h ⊢
  obtain ⟨a1, a2, a3⟩ := h
  have el : (RS.take 2).length = 2 := by rw [List.length_take]; omega
  refine ⟨a1, by show 1 ≤ (RS.take 2).length ∧ (RS.take 2).length ≤ 3; omega, fun j hj => ?_⟩
  have hj' : j < 2 := by have hj2 : j < (RS.take 2).length := hj; omega
  have e2 : nth (RS.take 2) j = nth RS j := by
    rw [nth_eq _ _ (by omega), nth_eq _ _ (by omega), List.getElem_take]
  show mapOk (nth (RS.take 2) j) m = true
  rw [e2]; exact a3 j (by show j < RS.length; omega)
theorem CapRows.keep {B E B' E' : Nat} {w w' : World} {v : Value} {xss : List (List Int)} (h : CapRows w v xss) (ho : OwnRows B E w v xss) (hw : Within B' E' w w') (hd : E ≤ B' ∨ E' ≤ B) : CapRows w' v xss := by
  obtain ⟨A, c, rv, rfl, hl, ha, hc, hdd⟩ := ho
  obtain ⟨A2, c2, e, hl2, hc2⟩ := h
  cases e
  refine ⟨A, c, rfl, hl2, fun i hi => ?_⟩
  obtain ⟨⟨b, off, hA, hx, hb⟩, hr⟩ := hc i hi
  obtain ⟨b', off', q, hA', hx', h1, h2⟩ := hc2 i hi
  subst hA
  cases hA'
  rw [hx] at hx'
  cases hx'
  have hb' := ha _ rfl
  exact ⟨b, off, rv i, rfl, hw.cell hx (by simp at hb' ⊢; omega), (hr.within hw hd).at, h2⟩
set_option maxRecDepth 20000 in
set_option maxHeartbeats 4000000 in
theorem l05Drawn_any (sb n K : Nat) (w : World) (h : SrcAt w sb n K) (hK : K ≤ 100000000) :
    Calls Tryz.prog 58 #[.pointer (some ⟨sb, 0, none⟩)] w fun e w' => ∃ r a, e = .returned r ∧ Within sb (sb + 1) w w' ∧ SrcAt w' sb n (K + 4000) ∧ OwnAut w.heap.size w'.heap.size w' r (roadsOf a) ∧ CapAut w' r (roadsOf a) ∧ autOk a = true ∧ a.n ≤ 6 := by
  have hsb := h.lt
  obtain ⟨W0, hW0⟩ : ∃ W0, W0 = w.alloc (.cells #[.int .i64 0, .slice none 0 0] 47) := ⟨_, rfl⟩
  have hn0 : New w W0 := by rw [hW0]; exact (by repeat (first | with_reducible exact New.refl _ | with_reducible assumption | with_reducible refine New.alloc ?_ _ | with_reducible refine New.drewN ?_ _ | with_reducible refine New.drew ?_ | with_reducible refine New.trans ?_ (by with_reducible assumption)))
  have hz0 : W0.heap.size = w.heap.size + 1 := by rw [hW0]; simp only [size_alloc]
  have hR0 : Box2 W0 w.heap.size (.int .i64 0) (.slice none 0 0) := by rw [hW0]; exact ⟨by go_simp, by go_simp, by go_simp, by go_simp⟩
  have hs0 := h.new hn0
  have HP := hid (fun (w1 : World) (K1 : Nat) (m : Int) (hs : SrcAt w1 sb n K1) (hk : K1 ≤ 2000000000) (hm : m ≤ 1000000) => pick_any sb n K1 m w1 hs (by omega) hm)
  clear h
  go_enter Tryz.func58, Tryz.ntmps58
  refine wp_cut3 (fun a' w' => ∃ (m : Int) (A : Option Addr) (c : Nat) (RS : List (List Int)) (B E qb : Nat) (u4 u5 u6 u7 u8 u9 u10 u11 u12 u13 u14 u15 u16 u17 u18 u19 u20 u21 u22 u23 u24 u25 u26 u27 u28 u29 u30 u31 u32 u33 u34 u35 u36 u37 u38 u39 u40 u41 u42 u43 u44 u45 u46 u47 u48 u49 u50 u51 u52 u53 u54 u55 u56 u57 u58 u59 u60 u61 u62 u63 u64 u65 u66 u67 : Value), ((autOk ⟨m, RS⟩ = true ∧ m ≤ 6 ∧ RS.length ≤ c ∧ (qb < B ∨ E ≤ qb) ∧ w.heap.size < B ∧ w.heap.size < qb ∧ E ≤ w'.heap.size) ∧ Within sb (sb + 1) w w' ∧ SrcAt w' sb n (K + 3900) ∧ Box2 w' w.heap.size (.int .i64 0) (.slice none 0 0) ∧ Box2 w' qb (.int .i64 m) (.slice A RS.length c) ∧ OwnRows B E w' (.slice A RS.length c) RS) ∧ a' = ⟨#[.pointer (some ⟨sb, 0, none⟩), undef, .pointer (some ⟨w.heap.size, 0, none⟩), .pointer (some ⟨qb, 0, none⟩), u4, u5, u6, u7, u8, u9, u10, u11, u12, u13, u14, u15, u16, u17, u18, u19, u20, u21, u22, u23, u24, u25, u26, u27, u28, u29, u30, u31, u32, u33, u34, u35, u36, u37, u38, u39, u40, u41, u42, u43, u44, u45, u46, u47, u48, u49, u50, u51, u52, u53, u54, u55, u56, u57, u58, u59, u60, u61, u62, u63, u64, u65, u66, u67, undef, undef, undef, undef, undef, undef, undef, undef, undef, undef, undef, undef, undef, undef], []⟩) ?_ ?_
  case refine_2 =>
    intro J J2 HJ hJ K2 hK2 K1 hK1
    go_wp2_with fail
    rw [← hW0]
    clear hW0
    refine (l01Drawn_any sb n K 5 W0 hs0 (by omega) ⟨by decide, by decide⟩).mono ?_
    rintro e w1 ⟨rq, q, rfl, hW1', hs1, hoq, hq, hq5, hcap⟩
    have hW1 : Within sb (sb + 1) w w1 := (Within.of_new hn0 _ _).trans hW1'
    have hR1 := hR0.within hW1' (Or.inr (by omega))
    have hz1 : W0.heap.size ≤ w1.heap.size := hW1'.2.2.2.1
    obtain ⟨rv, rfl, hoq2⟩ := hoq
    obtain ⟨AQ, cQ, rfl⟩ := hoq2.form
    have hc1 := hcap _ _ _ _ rfl
    have hqn := autOk_n hq
    have hql := autOk_l hq
    have hn2 : New w1 (w1.alloc (.cells #[.int .i64 q.n, .slice AQ q.nx.length cQ] 31)) := (by repeat (first | with_reducible exact New.refl _ | with_reducible assumption | with_reducible refine New.alloc ?_ _ | with_reducible refine New.drewN ?_ _ | with_reducible refine New.drew ?_ | with_reducible refine New.trans ?_ (by with_reducible assumption)))
    have hB2 : Box2 (w1.alloc (.cells #[.int .i64 q.n, .slice AQ q.nx.length cQ] 31)) w1.heap.size (.int .i64 q.n) (.slice AQ q.nx.length cQ) := ⟨by go_simp, by go_simp, by go_simp, by go_simp⟩
    have hs2 := hs1.new hn2
    have hR2 := hR1.new hn2
    have hO2 := hoq2.new hn2
    have hW2 := hW1.trans (Within.of_new hn2 sb (sb + 1))
    have hz2 : w1.heap.size + 1 = (w1.alloc (.cells #[.int .i64 q.n, .slice AQ q.nx.length cQ] 31)).heap.size := by simp only [size_alloc]
    go_wp2_with fail
    generalize (w1.alloc (.cells #[.int .i64 q.n, .slice AQ q.nx.length cQ] 31)) = w2 at hs2 hB2 hR2 hO2 hW2 hz2 ⊢
    clear hn0 hR0 hs0 hW1' hs1 hR1 hoq2 hn2 hW1 hcap
    obtain ⟨qb, hqb⟩ : ∃ qb, qb = w1.heap.size := ⟨_, rfl⟩
    rw [← hqb] at hB2 ⊢
    have hqb1 : w.heap.size < qb := by omega
    have hqb2 : qb < w2.heap.size := by omega
    have hOW : OwnRows (w.heap.size + 1) qb w2 (.slice AQ q.nx.length cQ) q.nx := hO2.widen (by omega) (by omega)
    clear hO2 hqb hz2 hz1 hz0
    refine (HP.out w2 _ 5 hs2 (by omega) (by omega)).mono ?_
    rintro e w3 ⟨x3, rfl, hx3, hb3, hs3⟩
    have hW3 := hW2.trans hb3.within1
    have hR3 := hR2.within hb3.within1 (Or.inr (by omega))
    have hB3 := hB2.within hb3.within1 (Or.inr (by omega))
    have hO3 := hOW.within hb3.within1 (Or.inr (by omega))
    have hz3 : w2.heap.size ≤ w3.heap.size := hb3.within1.2.2.2.1
    clear hb3 hs2 hB2 hR2 hOW hW2
    have HQ := hid hq
    clear hq
    by_cases k0 : x3 = 0
    · subst k0
      go_wp2_with fail
      refine (l01Alike_any sb n _ w3 hs3 (by omega)).mono ?_
      rintro e w4 ⟨r4, cl, a4, rfl, hW4', hs4, hoa, ha4, ha6, hca⟩
      obtain ⟨rv4, rfl, hoa2⟩ := hoa
      obtain ⟨A4, c4, rfl⟩ := hoa2.form
      have hc4 := hca _ _ _ _ rfl
      have hB4 := hB3.within hW4' (Or.inr (by omega))
      have hR4 := hR3.within hW4' (Or.inr (by omega))
      have hW4 := hW3.trans hW4'
      have hz4 : w3.heap.size ≤ w4.heap.size := hW4'.2.2.2.1
      obtain ⟨o0, o1, of0, of1⟩ := id hB4
      have HFB := hid (hB4.fill (.int .i64 a4.n) (.slice A4 a4.nx.length c4))
      have HW := hid (Within.fill w4 qb (.int .i64 a4.n) (.slice A4 a4.nx.length c4))
      have hW5 : Within sb (sb + 1) w ((w4.setCell ⟨qb, 0, none⟩ (.int .i64 a4.n)).setCell ⟨qb, 1, none⟩ (.slice A4 a4.nx.length c4)) := Within.of_above (Within.of_above hW4 (grown_setCell w4 ⟨qb, 0, none⟩ _) (fun q hq => by cases hq; show w.heap.size ≤ qb; omega)) (grown_setCell _ ⟨qb, 1, none⟩ _) (fun q hq => by cases hq; show w.heap.size ≤ qb; omega)
      have hs5 := hs4.but (HW.out.but1) (fun q hq => by omega)
      have hR5 := hR4.within HW.out (Or.inl (by omega))
      have hO5 := hoa2.within HW.out (Or.inr (by omega))
      have HSZ := hid (show w4.heap.size ≤ ((w4.setCell ⟨qb, 0, none⟩ (.int .i64 a4.n)).setCell ⟨qb, 1, none⟩ (.slice A4 a4.nx.length c4)).heap.size from HW.out.2.2.2.1)
      have HA4 := hid ha4
      clear ha4 hs4 hR4 hB4 hoa2 hca
      go_wp2_with fail
      exact Met.intro (HJ.out _ _ (by exact ⟨_, _, _, _, _, _, _, _, _, _, _, _, _, _, _, _, _, _, _, _, _, _, _, _, _, _, _, _, _, _, _, _, _, _, _, _, _, _, _, _, _, _, _, _, _, _, _, _, _, _, _, _, _, _, _, _, _, _, _, _, _, _, _, _, _, _, _, _, _, _, _, ⟨⟨HA4.out, ha6, hc4, Or.inl (show qb < w3.heap.size by omega), by omega, hqb1, HSZ.out⟩, hW5, hs5.mono (by omega), hR5, HFB.out, hO5⟩, rfl⟩))
    · have k0' : (x3 == 0) = false := by simpa using k0
      obtain ⟨N, hN⟩ : ∃ N : Nat, q.n = (N : Int) := ⟨q.n.toNat, by omega⟩
      have HLE := hid (show N ≤ 5 ∧ 1 ≤ N by omega)
      have HLL := hid hql
      have HQ2 := hid (show autOk ⟨(N : Int), q.nx⟩ = true by rw [← hN]; exact HQ.out)
      rw [hN] at hB3
      clear HQ hN hqn hq5 hql
      by_cases k1 : x3 = 1
      · subst k1
        go_wp2_with fail
        go_loopw [4] (fun i wr => ∃ (k : Nat) (RS : List (List Int)), (k : Int) ≤ N ∧ i = .int .i64 k ∧ Within sb (sb + 1) w wr ∧ SrcAt wr sb n (K + 1002 + 20 * k) ∧ Box2 wr w.heap.size (.int .i64 0) (.slice none 0 0) ∧ Box2 wr qb (.int .i64 N) (.slice AQ q.nx.length cQ) ∧ OwnRows (w.heap.size + 1) qb wr (.slice AQ q.nx.length cQ) RS ∧ w2.heap.size ≤ wr.heap.size ∧ Hid (RS.length = q.nx.length ∧ autOk ⟨(N : Int), RS⟩ = true)) (fun i _ => ((N : Int) - intOf i).toNat)
        case atStart => exact ⟨0, q.nx, by omega, rfl, hW3, hs3.mono (by omega), hR3, hB3, hO3, hz3, hid ⟨rfl, HQ2.out⟩⟩
        case round =>
          obtain ⟨k, RS, hkN, rfl, hWk, hsk, hRk, hBk, hOk, hzk, hRS⟩ := hrel
          clear hW3 hs3 hR3 hB3 hO3 hz3 HQ2
          obtain ⟨wk, rfl⟩ : ∃ wk : World, wk = wr := ⟨_, rfl⟩
          obtain ⟨c0, c1, _⟩ := id hBk
          by_cases hlk : (k : Int) < N
          · go_wp2_with fail
            go_loopw [5] (fun i wr => ∃ (x : Nat) (RS : List (List Int)), (x : Int) ≤ q.nx.length ∧ i = .int .i64 x ∧ Within sb (sb + 1) w wr ∧ SrcAt wr sb n (K + 1002 + 20 * k + 2 * x) ∧ Box2 wr w.heap.size (.int .i64 0) (.slice none 0 0) ∧ Box2 wr qb (.int .i64 N) (.slice AQ q.nx.length cQ) ∧ OwnRows (w.heap.size + 1) qb wr (.slice AQ q.nx.length cQ) RS ∧ w2.heap.size ≤ wr.heap.size ∧ Hid (RS.length = q.nx.length ∧ autOk ⟨(N : Int), RS⟩ = true)) (fun i _ => ((q.nx.length : Int) - intOf i).toNat)
            case atStart => exact ⟨0, RS, by omega, rfl, hWk, hsk.mono (by omega), hRk, hBk, hOk, hzk, hRS⟩
            case round =>
              clear hWk hsk hRk hBk hOk hzk hRS c0 c1
              obtain ⟨x, RX, hxl, rfl, hWx, hsx, hRx, hBx, hOx, hzx, hRX⟩ := hrel
              obtain ⟨wx, rfl⟩ : ∃ wx : World, wx = wr := ⟨_, rfl⟩
              obtain ⟨c0, c1, _⟩ := id hBx
              by_cases hlx : (x : Int) < (q.nx.length : Int)
              · have hrl : ((nth RX x).length : Int) = N := (autOk_row hRX.out.2 x (by show x < RX.length; have := hRX.out.1; omega)).1
                obtain ⟨b, off, b2, off2, c2, hA, ux, uxs, uxf, ux1, ux2, hput⟩ := hOx.put x k (by have := hRX.out.1; omega) (by omega)
                cases hA
                have hne := hOx.row_ne x (by have := hRX.out.1; omega) ux
                have hm1 : (k : Int) < ((nth RX x).length : Int) := by omega
                have hOB := hid (show w.heap.size + 1 ≤ b ∧ b < qb by obtain ⟨_, _, _, e, _, ha, _⟩ := id hOx; injection e with e1; exact ha _ e1.symm)
                have HST := hid (fun (w' : World) (z : Value) (hb : But (fun q => q = sb) wx w') => (show (w'.setCell ⟨b2, off2 + k, none⟩ z).cell? ⟨qb, 1, none⟩ = some (.slice (some ⟨b, off, none⟩) q.nx.length cQ) ∧ (w'.setCell ⟨b2, off2 + k, none⟩ z).cell? ⟨qb, 0, none⟩ = some (.int .i64 N) ∧ (w'.setCell ⟨b2, off2 + k, none⟩ z).cell? ⟨b, off + x, none⟩ = some (.slice (some ⟨b2, off2, none⟩) (nth RX x).length c2) from
                  ⟨by rw [World.cell?_setCell_other _ _ _ _ (fun e => by injection e with e; omega)]; exact hb.cell c1 (by show ¬ qb = sb; omega), by rw [World.cell?_setCell_other _ _ _ _ (fun e => by injection e with e; omega)]; exact hb.cell c0 (by show ¬ qb = sb; omega), by rw [World.cell?_setCell_other _ _ _ _ (fun e => hne (by injection e))]; exact hb.cell ux (by show ¬ b = sb; have := hOB.out; omega)⟩))
                have HOX := hid hOx
                have HPU := hid hput
                clear hput hOx
                go_wp2_with fail
                go_region_held3 (fun w' => w'.cell? ⟨qb, 1, none⟩ = some (.slice (some ⟨b, off, none⟩) q.nx.length cQ) ∧ w'.cell? ⟨qb, 0, none⟩ = some (.int .i64 N) ∧ w'.cell? ⟨b, off + x, none⟩ = some (.slice (some ⟨b2, off2, none⟩) (nth RX x).length c2))
                  (first | exact hc3 | exact ⟨c1, c0, ux⟩ | exact HST.out _ _ hb3 | go_keep)
                  (first | (go_at_call 49; refine (HP.out _ (K + 1002 + 20 * k + 2 * x) 2 (hsx.new (by repeat (first | with_reducible exact New.refl _ | with_reducible assumption | with_reducible refine New.alloc ?_ _ | with_reducible refine New.drewN ?_ _ | with_reducible refine New.drew ?_ | with_reducible refine New.trans ?_ (by with_reducible assumption)))) (by have := HLE.out; have := HLL.out; omega) (by omega)).mono ?_; rintro e w3 ⟨y3, rfl, hy3, hb3', hs3⟩; have hb3 : But (fun q => q = sb) wx w3 := (But.of_new (S := fun q => q = sb) (by repeat (first | with_reducible exact New.refl _ | with_reducible assumption | with_reducible refine New.alloc ?_ _ | with_reducible refine New.drewN ?_ _ | with_reducible refine New.drew ?_ | with_reducible refine New.trans ?_ (by with_reducible assumption)))).trans hb3' (fun q hq => Or.inl hq); have hc3 : w3.cell? ⟨qb, 1, none⟩ = some (.slice (some ⟨b, off, none⟩) q.nx.length cQ) ∧ w3.cell? ⟨qb, 0, none⟩ = some (.int .i64 N) ∧ w3.cell? ⟨b, off + x, none⟩ = some (.slice (some ⟨b2, off2, none⟩) (nth RX x).length c2) := ⟨hb3.cell c1 (by show ¬ qb = sb; omega), hb3.cell c0 (by show ¬ qb = sb; omega), hb3.cell ux (by show ¬ b = sb; have := hOB.out; omega)⟩; have hy4 : 0 ≤ y3 ∧ y3 < 2 := ⟨hy3.1, hy3.2.2 (by decide)⟩; have hwA : IntKind.i64.wrap (2 * y3) = 2 * y3 := IntWalk.i64_in _ (by omega); have hwB : IntKind.i64.wrap ((k : Int) + 1 + 2 * y3) = (k : Int) + 1 + 2 * y3 := IntWalk.i64_in _ (by have := HLE.out; omega); have hrem : Int.tmod ((k : Int) + 1 + 2 * y3) N = ((k : Int) + 1 + 2 * y3) % N := Int.tmod_eq_emod_of_nonneg (by omega); have hNz : ¬ (N : Int) = 0 := (by omega); have hNz2 : ¬ N = 0 := (by omega); have hu3 : w3.cell? ⟨b2, off2 + k, none⟩ = some (.int .i64 (nth (nth RX x) k)) := hb3.cell uxs (by show ¬ b2 = sb; omega); have hf3 : w3.frozen? ⟨b2, off2 + k, none⟩ = false := (by rw [hb3.frozen uxs (by show ¬ b2 = sb; omega)]; exact uxf)))
                go_wp2_with fail
                have hk5 := HLE.out
                have hl5 := HLL.out
                obtain ⟨Z, hZ⟩ : ∃ Z, Z = (Go.RowKit.wrap64 (Go.RowKit.wrap64 ((k : Int) + 1) + 2 * y3)).tmod (N : Int) := ⟨_, rfl⟩
                have hZ2 : 0 ≤ Z ∧ Z < N := by
                  rw [hZ, IntWalk.wrap64_in ((k : Int) + 1) ⟨by omega, by omega⟩, IntWalk.wrap64_in _ ⟨by omega, by omega⟩, hrem]
                  exact ⟨Int.emod_nonneg _ hNz, Int.emod_lt_of_pos _ (by omega)⟩
                rw [← hZ]
                clear hZ
                have hO3x := HOX.out.within hb3.within1 (Or.inr (by omega))
                obtain ⟨b', off', b2', off2', c2', hA', ux', _, _, _, _, hput'⟩ := hO3x.put x k (by have := hRX.out.1; omega) (by omega)
                cases hA'
                have e2 := ux'.symm.trans hc3.2.2
                injection e2 with e2
                injection e2 with e2 e3 e4
                injection e2 with e2
                injection e2 with e2 e5
                subst e2 e5
                obtain ⟨hO9, hW9⟩ := hput' Z
                rw [IntWalk.wrap64_in ((x : Int) + 1) ⟨by omega, by omega⟩]
                have hz9 := hb3.size
                refine ⟨⟨x + 1, putAt RX x k Z, by omega, by go_num, ?_, ?_, ?_, ?_, hO9, by rw [size_setCell]; omega, hid ⟨by rw [putAt_len]; exact hRX.out.1, autOk_put hRX.out.2 x k (by have := hRX.out.1; omega) Z hZ2.1 hZ2.2⟩⟩, by simp [intOf]; omega⟩
                · exact Within.of_above (hWx.trans hb3.within1) (grown_setCell _ _ _) (fun q hq => by cases hq; show w.heap.size ≤ b2'; omega)
                · exact (hs3.but (But.setCell (S := fun q => q = b2') ⟨b2', off2' + k, none⟩ _ rfl) (fun q hq => by omega)).mono (by omega)
                · exact (hRx.within hb3.within1 (Or.inr (by omega))).other _ (by show b2' ≠ w.heap.size; omega) _
                · exact (hBx.within hb3.within1 (Or.inr (by omega))).other _ (by show b2' ≠ qb; omega) _
              · have hxe : (x : Int) = q.nx.length := by omega
                go_wp2_with fail
                have hl5 := HLL.out
                have hk5 := HLE.out
                rw [IntWalk.wrap64_in ((k : Int) + 1) ⟨by omega, by omega⟩]
                exact ⟨⟨k + 1, RX, by omega, by go_num, hWx, hsx.mono (by omega), hRx, hBx, hOx, hzx, hRX⟩, by simp [intOf]; omega⟩
          · have hke : (k : Int) = N := by omega
            go_wp2_with fail
            have hl5 := HLE.out
            have hRl := hRS.out.1
            have HC := hid hc1
            exact Met.intro (HJ.out _ _ (by exact ⟨(N : Int), AQ, cQ, RS, w.heap.size + 1, qb, qb, _, _, _, _, _, _, _, _, _, _, _, _, _, _, _, _, _, _, _, _, _, _, _, _, _, _, _, _, _, _, _, _, _, _, _, _, _, _, _, _, _, _, _, _, _, _, _, _, _, _, _, _, _, _, _, _, _, _, _, _, _, _, _, _, ⟨⟨hRS.out.2, by omega, by omega, Or.inr (Nat.le_refl _), by omega, hqb1, by omega⟩, hWk, hsk.mono (by omega), hRk, by rw [hRl]; exact hBk, by rw [hRl]; exact hOk⟩, rfl⟩))
      · by_cases k2 : x3 = 2
        · subst k2
          go_wp2_with fail
          go_loopw [6] (fun i wr => ∃ (k : Nat) (RS : List (List Int)), (k : Int) ≤ N ∧ i = .int .i64 k ∧ Within sb (sb + 1) w wr ∧ SrcAt wr sb n (K + 1002) ∧ Box2 wr w.heap.size (.int .i64 0) (.slice none 0 0) ∧ Box2 wr qb (.int .i64 N) (.slice AQ q.nx.length cQ) ∧ OwnRows (w.heap.size + 1) qb wr (.slice AQ q.nx.length cQ) RS ∧ w2.heap.size ≤ wr.heap.size ∧ Hid (RS.length = q.nx.length ∧ autOk ⟨(N : Int), RS⟩ = true)) (fun i _ => ((N : Int) - intOf i).toNat)
          case atStart => exact ⟨0, q.nx, by omega, rfl, hW3, hs3.mono (by omega), hR3, hB3, hO3, hz3, hid ⟨rfl, HQ2.out⟩⟩
          case round =>
            obtain ⟨k, RS, hkN, rfl, hWk, hsk, hRk, hBk, hOk, hzk, hRS⟩ := hrel
            clear hW3 hs3 hR3 hB3 hO3 hz3 HQ2
            obtain ⟨wk, rfl⟩ : ∃ wk : World, wk = wr := ⟨_, rfl⟩
            obtain ⟨c0, c1, _⟩ := id hBk
            by_cases hlk : (k : Int) < N
            · have hl0 := HLL.out
              have hn5 := HLE.out
              have hql0 : (0 : Int) < (q.nx.length : Int) := by omega
              have hql1 : 0 < q.nx.length := by omega
              have hrl : ((nth RS 0).length : Int) = N := (autOk_row hRS.out.2 0 (by show 0 < RS.length; have := hRS.out.1; omega)).1
              obtain ⟨b, off, b2, off2, c2, hA, ux, uxs, uxf, ux1, ux2, hput⟩ := hOk.put 0 k (by have := hRS.out.1; omega) (by omega)
              cases hA
              have ux' : wk.cell? ⟨b, off, none⟩ = some (.slice (some ⟨b2, off2, none⟩) (nth RS 0).length c2) := ux
              have hne := hOk.row_ne 0 (by have := hRS.out.1; omega) ux
              have hm1 : (k : Int) < ((nth RS 0).length : Int) := by omega
              have hrem : Int.tmod ((k : Int) + 1) N = ((k : Int) + 1) % N := Int.tmod_eq_emod_of_nonneg (by omega)
              have hNz : ¬ (N : Int) = 0 := by omega
              have hNz2 : ¬ N = 0 := by omega
              have hm0 : (0 : Int) ≤ ((k : Int) + 1) % N := Int.emod_nonneg _ hNz
              have hm2 : ((k : Int) + 1) % N < N := Int.emod_lt_of_pos _ (by omega)
              have hOB := hid (show w.heap.size + 1 ≤ b ∧ b < qb by obtain ⟨_, _, _, e, _, ha, _⟩ := id hOk; injection e with e1; exact ha _ e1.symm)
              obtain ⟨Z, hZ⟩ : ∃ Z, Z = ((k : Int) + 1) % N := ⟨_, rfl⟩
              have HZ := hid hZ
              rw [← hZ] at hm0 hm2
              obtain ⟨hO9, hW9⟩ := hput Z
              have HPU := hid hO9
              have HOX := hid hOk
              have HST := hid (fun (z : Value) => (show (wk.setCell ⟨b2, off2 + k, none⟩ z).cell? ⟨qb, 1, none⟩ = some (.slice (some ⟨b, off, none⟩) q.nx.length cQ) ∧ (wk.setCell ⟨b2, off2 + k, none⟩ z).cell? ⟨qb, 0, none⟩ = some (.int .i64 N) ∧ (wk.setCell ⟨b2, off2 + k, none⟩ z).cell? ⟨b, off, none⟩ = some (.slice (some ⟨b2, off2, none⟩) (nth RS 0).length c2) from
                  ⟨by rw [World.cell?_setCell_other _ _ _ _ (fun e => by injection e with e; omega)]; exact c1, by rw [World.cell?_setCell_other _ _ _ _ (fun e => by injection e with e; omega)]; exact c0, by rw [World.cell?_setCell_other _ _ _ _ (fun e => hne (by injection e))]; exact ux'⟩))
              clear hput hOk hO9 hZ
              go_wp2_with fail
              go_region_held3 (fun w' => w'.cell? ⟨qb, 1, none⟩ = some (.slice (some ⟨b, off, none⟩) q.nx.length cQ) ∧ w'.cell? ⟨qb, 0, none⟩ = some (.int .i64 N) ∧ w'.cell? ⟨b, off, none⟩ = some (.slice (some ⟨b2, off2, none⟩) (nth RS 0).length c2))
                (first | exact ⟨c1, c0, ux'⟩ | exact HST.out _ | go_keep) (fail)
              go_wp2_with fail
              have hzz : ((k : Int) + 1) % N = Z := HZ.out.symm
              rw [hzz]
              have hd : New (wk.setCell ⟨b2, off2 + k, none⟩ (.int .i64 Z)) ((wk.setCell ⟨b2, off2 + k, none⟩ (.int .i64 Z)).drew) := (by repeat (first | with_reducible exact New.refl _ | with_reducible assumption | with_reducible refine New.alloc ?_ _ | with_reducible refine New.drewN ?_ _ | with_reducible refine New.drew ?_ | with_reducible refine New.trans ?_ (by with_reducible assumption)))
              refine ⟨⟨k + 1, putAt RS 0 k Z, by omega, by go_num, ?_, ?_, ?_, ?_, HPU.out.new hd, by rw [size_drew, size_setCell]; omega, hid ⟨by rw [putAt_len]; exact hRS.out.1, autOk_put hRS.out.2 0 k (by have := hRS.out.1; omega) Z hm0 hm2⟩⟩, by simp [intOf]; omega⟩
              · exact (Within.of_above hWk (grown_setCell _ _ _) (fun q hq => by cases hq; show w.heap.size ≤ b2; omega)).trans (Within.of_new hd _ _)
              · exact ((hsk.but (But.setCell (S := fun q => q = b2) ⟨b2, off2 + k, none⟩ _ rfl) (fun q hq => by omega)).mono (by omega)).new hd
              · exact (hRk.other _ (by show b2 ≠ w.heap.size; omega) _).new hd
              · exact (hBk.other _ (by show b2 ≠ qb; omega) _).new hd
            · have hke : (k : Int) = N := by omega
              go_wp2_with fail
              have hl5 := HLE.out
              have hRl := hRS.out.1
              have HC := hid hc1
              exact Met.intro (HJ.out _ _ (by exact ⟨(N : Int), AQ, cQ, RS, w.heap.size + 1, qb, qb, _, _, _, _, _, _, _, _, _, _, _, _, _, _, _, _, _, _, _, _, _, _, _, _, _, _, _, _, _, _, _, _, _, _, _, _, _, _, _, _, _, _, _, _, _, _, _, _, _, _, _, _, _, _, _, _, _, _, _, _, _, _, _, _, ⟨⟨hRS.out.2, by omega, by omega, Or.inr (Nat.le_refl _), by omega, hqb1, by omega⟩, hWk, hsk.mono (by omega), hRk, by rw [hRl]; exact hBk, by rw [hRl]; exact hOk⟩, rfl⟩))
        · have k1' : (x3 == 1) = false := by simpa using k1
          have k2' : (x3 == 2) = false := by simpa using k2
          go_wp2_with fail
          have hl5 := HLE.out
          exact Met.intro (HJ.out _ _ (by exact ⟨(N : Int), AQ, cQ, q.nx, w.heap.size + 1, qb, qb, _, _, _, _, _, _, _, _, _, _, _, _, _, _, _, _, _, _, _, _, _, _, _, _, _, _, _, _, _, _, _, _, _, _, _, _, _, _, _, _, _, _, _, _, _, _, _, _, _, _, _, _, _, _, _, _, _, _, _, _, _, _, _, _, ⟨⟨HQ2.out, by omega, hc1, Or.inr (Nat.le_refl _), by omega, hqb1, by omega⟩, hW3, hs3.mono (by omega), hR3, hB3, hO3⟩, rfl⟩))
  case refine_1 =>
    rintro a' w3 ⟨m, A, c, RS, B, E, qb, u4, u5, u6, u7, u8, u9, u10, u11, u12, u13, u14, u15, u16, u17, u18, u19, u20, u21, u22, u23, u24, u25, u26, u27, u28, u29, u30, u31, u32, u33, u34, u35, u36, u37, u38, u39, u40, u41, u42, u43, u44, u45, u46, u47, u48, u49, u50, u51, u52, u53, u54, u55, u56, u57, u58, u59, u60, u61, u62, u63, u64, u65, u66, u67, ⟨⟨hok, hm6, hcl, hqo, hB1, hq1, hE⟩, hW3, hs3, hR3, hB3, hO3⟩, rfl⟩
    have hn := autOk_n hok
    have hl := autOk_l hok
    obtain ⟨c0, c1, cf0, cf1⟩ := id hB3
    obtain ⟨r0, r1, rf0, rf1⟩ := id hR3
    have hB3l := hB3.lt
    have hmN : m ≤ 6 := hm6
    by_cases hcut : 2 < RS.length
    · have g1 : (2 : Int) < (RS.length : Int) := by omega
      by_cases hm4 : 4 < m
      · have g2 : (2 : Int) ≤ (c : Int) := by omega
        have hok4 := autOk_take2 hok hcut
        have hB4 := hB3.set1 (.slice A 2 c)
        have hS4 : Within qb (qb + 1) w3 (w3.setCell ⟨qb, 1, none⟩ (.slice A 2 c)) := within_setCell w3 ⟨qb, 1, none⟩ _
        have hO4 := (hO3.take 2 (by omega)).within hS4 (by omega)
        have hp4 : PAut (w3.setCell ⟨qb, 1, none⟩ (.slice A 2 c)) (.pointer (some ⟨qb, 0, none⟩)) ⟨m, RS.take 2⟩ := ⟨qb, _, rfl, hB4.1, by rw [hB4.2.1], hO4.at⟩
        have hW4 : Within sb (sb + 1) w (w3.setCell ⟨qb, 1, none⟩ (.slice A 2 c)) := Within.of_above hW3 (grown_setCell w3 ⟨qb, 1, none⟩ _) (fun q hq => by cases hq; show w.heap.size ≤ qb; omega)
        have hs4 : SrcAt (w3.setCell ⟨qb, 1, none⟩ (.slice A 2 c)) sb n (K + 3900) := hs3.but (But.setCell (S := fun q => q = qb) ⟨qb, 1, none⟩ _ rfl) (fun q hq => by omega)
        have hR4 := hR3.other ⟨qb, 1, none⟩ (by show qb ≠ w.heap.size; omega) (.slice A 2 c)
        clear hO3 hO4 hB4 hok
        go_wp2_with fail
        refine (l05OfC_any (.pointer (some ⟨qb, 0, none⟩)) ⟨m, RS.take 2⟩ (w3.setCell ⟨qb, 1, none⟩ (.slice A 2 c)) hp4 hok4).mono ?_
        rintro e w5 ⟨r5, rfl, hn5, ho5, hc5⟩
        obtain ⟨rv5, rfl, ho6⟩ := ho5
        obtain ⟨A5, c5, rfl⟩ := ho6.form
        have hR5 := (hR4).new hn5
        obtain ⟨q0, q1, qf0, qf1⟩ := id hR5
        obtain ⟨g0, g1, _⟩ := hR5.fill (.int .i64 (roadsOf ⟨m, RS.take 2⟩).n) (.slice A5 (roadsOf ⟨m, RS.take 2⟩).nx.length c5)
        have HW := hid (Within.fill w5 w.heap.size (.int .i64 (roadsOf ⟨m, RS.take 2⟩).n) (.slice A5 (roadsOf ⟨m, RS.take 2⟩).nx.length c5))
        have HS5 := hid ((hs4).new hn5)
        have HW5 := hid ((hW4).trans (Within.of_new hn5 sb (sb + 1)))
        have HZ5 := hid (show w.heap.size + 1 ≤ ((w3.setCell ⟨qb, 1, none⟩ (.slice A 2 c))).heap.size by (try simp only [size_setCell]); omega)
        have HOK5 := hid hok4
        have HO6 := hid ho6
        have HC5 := hid hc5
        clear ho6 hc5 hR5
        obtain ⟨RR, hRR⟩ : ∃ RR, RR = roadsOf ⟨m, RS.take 2⟩ := ⟨_, rfl⟩
        have HRR := hid hRR
        rw [← hRR] at g0 g1 HW HO6 HC5 ⊢
        clear hRR
        go_wp2_with fail
        refine bodyPost_ret (v := .agg #[.int .i64 RR.n, .slice A5 RR.nx.length c5]) (by simp [results, Tryz.results58, go_sem, g0, g1]) rfl ?_
        have hs9 := HS5.out.but (HW.out.but1) (fun q hq => by omega)
        have hWf : Within sb (sb + 1) w ((w5.setCell ⟨w.heap.size, 0, none⟩ (.int .i64 RR.n)).setCell ⟨w.heap.size, 1, none⟩ (.slice A5 RR.nx.length c5)) := Within.of_above (Within.of_above HW5.out (grown_setCell w5 ⟨w.heap.size, 0, none⟩ _) (fun q hq => by cases hq; exact Nat.le_refl _)) (grown_setCell _ ⟨w.heap.size, 1, none⟩ _) (fun q hq => by cases hq; exact Nat.le_refl _)
        have hOF := HO6.out.within HW.out (Or.inr HZ5.out)
        have hCF : CapAut ((w5.setCell ⟨w.heap.size, 0, none⟩ (.int .i64 RR.n)).setCell ⟨w.heap.size, 1, none⟩ (.slice A5 RR.nx.length c5)) (.agg #[.int .i64 RR.n, .slice A5 RR.nx.length c5]) RR := by
          obtain ⟨rv9, e9, hc9⟩ := HC5.out
          cases e9
          exact ⟨_, rfl, hc9.keep HO6.out HW.out (Or.inr HZ5.out)⟩
        exact ⟨_, ⟨m, RS.take 2⟩, rfl, hWf, hs9.mono (by omega), by rw [← HRR.out]; exact ⟨_, rfl, hOF.widen (by have := HZ5.out; omega) HW.out.2.2.2.1⟩, by rw [← HRR.out]; exact hCF, HOK5.out, hmN⟩
      · clear hcut
        have hp4 : PAut w3 (.pointer (some ⟨qb, 0, none⟩)) ⟨m, RS⟩ := ⟨qb, _, rfl, c0, c1, hO3.at⟩
        clear hO3
        go_wp2_with fail
        refine (l05OfC_any (.pointer (some ⟨qb, 0, none⟩)) ⟨m, RS⟩ w3 hp4 hok).mono ?_
        rintro e w5 ⟨r5, rfl, hn5, ho5, hc5⟩
        obtain ⟨rv5, rfl, ho6⟩ := ho5
        obtain ⟨A5, c5, rfl⟩ := ho6.form
        have hR5 := (hR3).new hn5
        obtain ⟨q0, q1, qf0, qf1⟩ := id hR5
        obtain ⟨g0, g1, _⟩ := hR5.fill (.int .i64 (roadsOf ⟨m, RS⟩).n) (.slice A5 (roadsOf ⟨m, RS⟩).nx.length c5)
        have HW := hid (Within.fill w5 w.heap.size (.int .i64 (roadsOf ⟨m, RS⟩).n) (.slice A5 (roadsOf ⟨m, RS⟩).nx.length c5))
        have HS5 := hid ((hs3).new hn5)
        have HW5 := hid ((hW3).trans (Within.of_new hn5 sb (sb + 1)))
        have HZ5 := hid (show w.heap.size + 1 ≤ (w3).heap.size by (try simp only [size_setCell]); omega)
        have HOK5 := hid hok
        have HO6 := hid ho6
        have HC5 := hid hc5
        clear ho6 hc5 hR5
        obtain ⟨RR, hRR⟩ : ∃ RR, RR = roadsOf ⟨m, RS⟩ := ⟨_, rfl⟩
        have HRR := hid hRR
        rw [← hRR] at g0 g1 HW HO6 HC5 ⊢
        clear hRR
        go_wp2_with fail
        refine bodyPost_ret (v := .agg #[.int .i64 RR.n, .slice A5 RR.nx.length c5]) (by simp [results, Tryz.results58, go_sem, g0, g1]) rfl ?_
        have hs9 := HS5.out.but (HW.out.but1) (fun q hq => by omega)
        have hWf : Within sb (sb + 1) w ((w5.setCell ⟨w.heap.size, 0, none⟩ (.int .i64 RR.n)).setCell ⟨w.heap.size, 1, none⟩ (.slice A5 RR.nx.length c5)) := Within.of_above (Within.of_above HW5.out (grown_setCell w5 ⟨w.heap.size, 0, none⟩ _) (fun q hq => by cases hq; exact Nat.le_refl _)) (grown_setCell _ ⟨w.heap.size, 1, none⟩ _) (fun q hq => by cases hq; exact Nat.le_refl _)
        have hOF := HO6.out.within HW.out (Or.inr HZ5.out)
        have hCF : CapAut ((w5.setCell ⟨w.heap.size, 0, none⟩ (.int .i64 RR.n)).setCell ⟨w.heap.size, 1, none⟩ (.slice A5 RR.nx.length c5)) (.agg #[.int .i64 RR.n, .slice A5 RR.nx.length c5]) RR := by
          obtain ⟨rv9, e9, hc9⟩ := HC5.out
          cases e9
          exact ⟨_, rfl, hc9.keep HO6.out HW.out (Or.inr HZ5.out)⟩
        exact ⟨_, ⟨m, RS⟩, rfl, hWf, hs9.mono (by omega), by rw [← HRR.out]; exact ⟨_, rfl, hOF.widen (by have := HZ5.out; omega) HW.out.2.2.2.1⟩, by rw [← HRR.out]; exact hCF, HOK5.out, hmN⟩
    · have g1 : ¬ (2 : Int) < (RS.length : Int) := by omega
      have hp4 : PAut w3 (.pointer (some ⟨qb, 0, none⟩)) ⟨m, RS⟩ := ⟨qb, _, rfl, c0, c1, hO3.at⟩
      clear hO3 hcut
      go_wp2_with fail
      refine (l05OfC_any (.pointer (some ⟨qb, 0, none⟩)) ⟨m, RS⟩ w3 hp4 hok).mono ?_
      rintro e w5 ⟨r5, rfl, hn5, ho5, hc5⟩
      obtain ⟨rv5, rfl, ho6⟩ := ho5
      obtain ⟨A5, c5, rfl⟩ := ho6.form
      have hR5 := (hR3).new hn5
      obtain ⟨q0, q1, qf0, qf1⟩ := id hR5
      obtain ⟨g0, g1, _⟩ := hR5.fill (.int .i64 (roadsOf ⟨m, RS⟩).n) (.slice A5 (roadsOf ⟨m, RS⟩).nx.length c5)
      have HW := hid (Within.fill w5 w.heap.size (.int .i64 (roadsOf ⟨m, RS⟩).n) (.slice A5 (roadsOf ⟨m, RS⟩).nx.length c5))
      have HS5 := hid ((hs3).new hn5)
      have HW5 := hid ((hW3).trans (Within.of_new hn5 sb (sb + 1)))
      have HZ5 := hid (show w.heap.size + 1 ≤ (w3).heap.size by (try simp only [size_setCell]); omega)
      have HOK5 := hid hok
      have HO6 := hid ho6
      have HC5 := hid hc5
      clear ho6 hc5 hR5
      obtain ⟨RR, hRR⟩ : ∃ RR, RR = roadsOf ⟨m, RS⟩ := ⟨_, rfl⟩
      have HRR := hid hRR
      rw [← hRR] at g0 g1 HW HO6 HC5 ⊢
      clear hRR
      go_wp2_with fail
      refine bodyPost_ret (v := .agg #[.int .i64 RR.n, .slice A5 RR.nx.length c5]) (by simp [results, Tryz.results58, go_sem, g0, g1]) rfl ?_
      have hs9 := HS5.out.but (HW.out.but1) (fun q hq => by omega)
      have hWf : Within sb (sb + 1) w ((w5.setCell ⟨w.heap.size, 0, none⟩ (.int .i64 RR.n)).setCell ⟨w.heap.size, 1, none⟩ (.slice A5 RR.nx.length c5)) := Within.of_above (Within.of_above HW5.out (grown_setCell w5 ⟨w.heap.size, 0, none⟩ _) (fun q hq => by cases hq; exact Nat.le_refl _)) (grown_setCell _ ⟨w.heap.size, 1, none⟩ _) (fun q hq => by cases hq; exact Nat.le_refl _)
      have hOF := HO6.out.within HW.out (Or.inr HZ5.out)
      have hCF : CapAut ((w5.setCell ⟨w.heap.size, 0, none⟩ (.int .i64 RR.n)).setCell ⟨w.heap.size, 1, none⟩ (.slice A5 RR.nx.length c5)) (.agg #[.int .i64 RR.n, .slice A5 RR.nx.length c5]) RR := by
        obtain ⟨rv9, e9, hc9⟩ := HC5.out
        cases e9
        exact ⟨_, rfl, hc9.keep HO6.out HW.out (Or.inr HZ5.out)⟩
      exact ⟨_, ⟨m, RS⟩, rfl, hWf, hs9.mono (by omega), by rw [← HRR.out]; exact ⟨_, rfl, hOF.widen (by have := HZ5.out; omega) HW.out.2.2.2.1⟩, by rw [← HRR.out]; exact hCF, HOK5.out, hmN⟩

end Go.Proofs.YtoeckejcmojeaaaGreat
