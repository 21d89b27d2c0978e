/- The reference's kernels of the least rank. -/
import Derived.Test.YtoeckejcmojeaaaRows
import Derived.Test.YtoeckejcmojeaaaCore
import Derived.Test.YtoeckejcmojeaaaInfos
import Derived.Test.YtoeckejcmojeaaaPlains
import Derived.Test.YtoeckejcmojeaaaPers
import Derived.Test.YtoeckejcmojeaaaPQuos
import Derived.Test.YtoeckejcmojeaaaPOrds
import Derived.Test.YtoeckejcmojeaaaPMerg
import Derived.Test.YtoeckejcmojeaaaPKerns
import Derived.Test.YtoeckejcmojeaaaMaps
import Derived.Test.YtoeckejcmojeaaaRowsSwap
import Derived.Test.YtoeckejcmojeaaaRowsPut
import Derived.Test.YtoeckejcmojeaaaSBase
import Derived.Test.YtoeckejcmojeaaaS01b
import Derived.Test.YtoeckejcmojeaaaS01f
import Derived.Test.YtoeckejcmojeaaaSTidy
import Derived.Test.YtoeckejcmojeaaaSReach
import Derived.Test.YtoeckejcmojeaaaSPuts
import Derived.Test.YtoeckejcmojeaaaSRankW
import Derived.Test.YtoeckejcmojeaaaSKern1
import Derived.WalkKit
import Derived.WalkSpells
import Derived.WalkLawsBesides
import Derived.Deep.QuietTactic
import Derived.Deep.OwnRows
import Derived.BigQuiet
import Derived.KernelRfl
import Derived.Deep.RegionHeld3
namespace Go.Proofs.Ytoeckejcmojeaaa
open Go.RowKit

theorem kT2_zero (a : Aut) (P : List Int × Bool) (h : P = rankP a) : kT2 a 0 = bStart (kern a P.1) := by
  rw [h]; unfold kT2; rw [bTo_zero]
theorem kT2_succ (a : Aut) (k : Nat) (h : k < (kT2 a k).list.length) : kT2 a (k + 1) = bRow (kG2 a (rankA a)) k (kT2 a k) a.nx.length := by
  unfold kT2 at h ⊢
  rw [bTo_succ, if_pos h]
theorem rankP_parts {a : Aut} (ha : autOk a = true) (P : List Int × Bool) (h : P = rankP a) : letters a P.1 ∧ dcnt (actOf a P.1) = rankA a := by
  rw [h]; exact rankP_ok ha
set_option maxRecDepth 20000 in
set_option maxHeartbeats 4000000 in
theorem specLeastKernels_any (v1 : Value) (a : Aut) (w : World) (h1 : AutAt w v1 a) :
    Calls Try.prog 7 #[v1] w fun e w' => ∃ r, e = .returned (.tuple #[r, .int .i64 (LeastKernels a).2]) ∧ New w w' ∧ OwnRows w.heap.size w'.heap.size w' r (LeastKernels a).1 := by
  have HA1 := hid h1
  obtain ⟨rv, rfl, hr⟩ := h1
  obtain ⟨A, c, rfl⟩ := hr.form
  obtain ⟨wb, hwb⟩ : ∃ wb, wb = w.alloc (.cells #[.int .i64 a.n, .slice A a.nx.length c] 28) := ⟨_, rfl⟩
  have hp : PAut wb (.pointer (some ⟨w.heap.size, 0, none⟩)) a := by rw [hwb]; exact PAut.box hr _
  have hnb : New w wb := by rw [hwb]; exact (by repeat (first | with_reducible exact New.refl _ | with_reducible assumption | with_reducible refine New.alloc ?_ _ | with_reducible refine New.drew ?_ | with_reducible refine New.drewN ?_ _ | with_reducible refine New.setCell ?_ (by simp <;> omega) _))
  have hb0 : wb.cell? ⟨w.heap.size, 0, none⟩ = some (.int .i64 a.n) := by rw [hwb]; go_simp
  have hb1 : wb.cell? ⟨w.heap.size, 1, none⟩ = some (.slice A a.nx.length c) := by rw [hwb]; go_simp
  obtain ⟨R, hR⟩ : ∃ R, R = LeastKernels a := ⟨_, rfl⟩
  rw [← hR]
  unfold LeastKernels at hR
  have HR := hid hR
  clear hR
  have C1 := l01Ok_any _ a _ hp
  cases ha : autOk a with
  | false =>
    rw [ha] at C1
    have HE := hid (show R = ([], 1) by rw [HR.out, ha]; rfl)
    go_enter Try.func7, Try.ntmps7
    go_wp2_with fail
    rw [← hwb]
    refine C1.mono ?_
    rintro e w1 ⟨rfl, hn1⟩
    have hz1 := (hnb.trans hn1).size
    go_wp2
    go_ret2
    rw [HE.out]
    exact ⟨_, rfl, (hnb.trans hn1).alloc _, (GrowRows.empty w.heap.size 42 w1 hz1).own (by simp)⟩
  | true =>
    rw [ha] at C1
    have han := autOk_n ha
    have hal := autOk_l ha
    have HC2 := hid (fun w1 (hm : New w w1) => specRankWord_any _ a w1 (HA1.out.new hm) ha)
    obtain ⟨PW, hPW⟩ : ∃ P, P = rankP a := ⟨_, rfl⟩
    have hpp := rankP_parts ha PW hPW
    have HT0 := hid (kT2_zero a PW hPW)
    rw [← hPW] at HC2
    have HE := hid (show R = (buildR lexLt (kT2 a kN).list, 0) by rw [HR.out, if_pos ha, ← kern_same ha])
    have HCL := hid (show clsN (kern a PW.1) = (rankA a : Int) by rw [kern_cls, hpp.2])
    have HDF := hid (show Div a.n.toNat (kern a PW.1) from ⟨_, actOf_len _ _, rfl⟩)
    have HLET := hid hpp.1
    have HC3 := hid (fun r w1 (hm : New wb w1) (h : IntsAt w1 r PW.1) => l01Action_any _ r a PW.1 w1 (hp.new hm) h ha HLET.out)
    have HAL := hid (actOf_len a PW.1)
    have HFD := hid (show kern a PW.1 = tidyOf (actOf a PW.1) from rfl)
    clear hPW hpp
    obtain ⟨F, hF⟩ : ∃ F, F = kern a PW.1 := ⟨_, rfl⟩
    obtain ⟨AC, hAC⟩ : ∃ AC, AC = actOf a PW.1 := ⟨_, rfl⟩
    obtain ⟨P, hP⟩ : ∃ P, P = PW.1 := ⟨_, rfl⟩
    rw [← hF] at HT0 HCL HDF HFD
    rw [← hAC] at HC3 HAL HFD
    rw [← hP] at HC2 HC3 HLET
    clear hF hAC hP PW
    have HB := hid (fun k => k2_bok ha k)
    have HBD := hid (fun (t : Bfs (List Int)) (ht : BOk (Div a.n.toNat) a.nx.length t) => k_bound ha ht)
    have HEND := hid (fun k h => k2_end ha k h)
    have HROW := hid (fun (t' : Bfs (List Int)) (h : BOk (Div a.n.toNat) a.nx.length t') k (hk : k < t'.list.length) l (hl' : l ≤ a.nx.length) => h.row (g := kG2 a (rankA a)) (fun l x y hl'' hx hg => kG2_ok ha _ l x y hl'' hx hg) k hk l hl')
    have HSUC := hid (fun k (h : k < (kT2 a k).list.length) => kT2_succ a k h)
    have HG1 := hid (fun l X (h : clsN (kerS (nth a.nx l) X) = (rankA a : Int)) => show kG2 a (rankA a) l X = some (kerS (nth a.nx l) X) by unfold kG2; rw [if_pos h])
    have HG0 := hid (fun l X (h : ¬ clsN (kerS (nth a.nx l) X) = (rankA a : Int)) => show kG2 a (rankA a) l X = none by unfold kG2; rw [if_neg h])
    have HARW := hid (fun l (h : l < a.nx.length) => autOk_row ha l h)
    obtain ⟨KT, hKT⟩ : ∃ KT, KT = kT2 a := ⟨_, rfl⟩
    obtain ⟨G, hG⟩ : ∃ G, G = kG2 a (rankA a) := ⟨_, rfl⟩
    obtain ⟨rk, hrk⟩ : ∃ rk : Int, rk = (rankA a : Int) := ⟨_, rfl⟩
    rw [← hKT] at HT0 HE HB HEND HSUC
    rw [← hG] at HROW HSUC HG1 HG0
    rw [← hrk] at HCL HG1 HG0
    clear hKT hG hrk
    obtain ⟨n, hn⟩ : ∃ n : Nat, a.n = (n : Int) := ⟨a.n.toNat, by omega⟩
    have HN := hid hn
    have hnt : a.n.toNat = n := by omega
    rw [hnt] at HB HBD HROW HDF HAL
    have hn10 : n ≤ 10 := by omega
    have hn0 : 0 < n := by omega
    have hFl : F.length = n := HDF.out.len
    have HFL := hid hFl
    clear ha hn hnt han hFl HR
    go_enter Try.func7, Try.ntmps7
    go_wp2_with fail
    rw [← hwb]
    clear hwb
    refine C1.mono ?_
    rintro e w1 ⟨rfl, hn1⟩
    have hN1 := hnb.trans hn1
    have y0 := hn1.cell hb0
    have y1 := hn1.cell hb1
    clear C1
    go_wp2_with (first
      | (go_at_call 36; refine (HC2.out _ hN1).mono ?_; rintro e w2 ⟨r2, he, hn2, ho2⟩; obtain ⟨A2, c2, hf2⟩ := ho2.form; subst hf2; subst he)
      | (go_at_call 38; refine (HC3.out _ _ (hn1.trans hn2) ho2.at).mono ?_; rintro e w3 ⟨r3, he, hn3, ho3⟩; obtain ⟨A3, c3, hf3⟩ := ho3.form; subst hf3; subst he)
      | (go_at_call 37; refine (l01Tidied_any _ _ w3 ho3.at (by rw [HAL.out]; omega)).mono ?_; rintro e w4 ⟨r4, he, hn4, ho4⟩; rw [← HFD.out] at ho4; obtain ⟨A4, c4, hf4⟩ := ho4.form; rw [HFL.out] at hf4; subst hf4; subst he))
    have hNb4 := ((hn1.trans hn2).trans hn3).trans hn4
    have hN4 := hnb.trans hNb4
    have hzb4 := hNb4.size
    have hs2 := hn2.size
    have hs3 := hn3.size
    have hs4 := hn4.size
    have hs1 := hn1.size
    obtain ⟨wM, hwM⟩ : ∃ wM, wM = w4.alloc (.cells #[.slice A4 n c4] 42) := ⟨_, rfl⟩
    have hnM : New w4 wM := by rw [hwM]; exact (by repeat (first | with_reducible exact New.refl _ | with_reducible assumption | with_reducible refine New.alloc ?_ _ | with_reducible refine New.drewN ?_ _ | with_reducible refine New.drew ?_ | with_reducible refine New.trans ?_ (by with_reducible assumption)))
    have HO4 := hid ho4
    have HF4 := hid ho4.at
    have hG0 : GrowRows wb.heap.size 42 wM (.slice (some ⟨w4.heap.size, 0, none⟩) 1 1) [F] := by
      refine ⟨fun _ => .slice A4 n c4, ?_, fun i hi => ?_, fun i j hij hj => by simp at hj; omega⟩
      · rw [hwM]; simpa using ownsRow_one (B := wb.heap.size) (e := 42) (w := w4) (x := .slice A4 n c4) hzb4
      · have e : i = 0 := by simpa using hi
        subst e
        refine ⟨((HO4.out.new hnM).widen (by omega) hnM.size), Or.inl (fun e => ?_)⟩
        have h1 := (HO4.out.block w4.heap.size e).2
        omega
    have hL0 := hid (show ∀ q, (Value.slice (some ⟨w4.heap.size, 0, none⟩) 1 1).ownBlock = some q → w4.heap.size ≤ q from fun q hq => by cases hq; exact Nat.le_refl _)
    rw [← hwM]
    clear hwM hn1 hn2 hn3 hn4 ho2 ho3 ho4 hs1 hs2 hs3 hs4 hN1 y0 y1
    obtain ⟨lb, hlb⟩ : ∃ lb, lb = w4.heap.size := ⟨_, rfl⟩
    rw [← hlb] at hG0 hL0 ⊢
    have HLB := hid hlb
    clear hlb
    go_loopw [7, 8] (fun lv i wr => ∃ k : Nat, i = .int .i64 k ∧ k ≤ (KT k).list.length ∧ New w4 wr ∧ GrowRows wb.heap.size 42 wr lv (KT k).list ∧ Hid (∀ q, lv.ownBlock = some q → lb ≤ q)) (fun _ i _ => 131072 - (intOf i).toNat)
    case atStart => exact ⟨0, rfl, Nat.zero_le _, hnM, by rw [HT0.out]; exact hG0, hL0⟩
    case round =>
      obtain ⟨k, rfl, hk, hn, hG, hL⟩ := hrel
      clear hG0 hL0 hnM HT0
      obtain ⟨wo, rfl⟩ : ∃ wo : World, wo = wr := ⟨_, rfl⟩
      have hbok := HB.out k
      have hlen := HBD.out _ hbok
      obtain ⟨B1, cc1, hf1⟩ := hG.form
      subst hf1
      by_cases hlt : k < (KT k).list.length
      · have b1 : (k : Int) < ((KT k).list.length : Int) := by omega
        obtain ⟨X, hX⟩ : ∃ X, X = nth (KT k).list k := ⟨_, rfl⟩
        have HXO := hid (hbok.ok X (by rw [hX]; exact nth_mem _ _ hlt))
        have HXD := hid hX
        clear hX
        go_wp2_with fail
        go_loopw [7, 9] (fun lv x wr => ∃ l : Nat, x = .int .i64 l ∧ l ≤ a.nx.length ∧ New w4 wr ∧ GrowRows wb.heap.size 42 wr lv (bRow G k (KT k) l).list ∧ Hid (∀ q, lv.ownBlock = some q → lb ≤ q)) (fun _ x _ => a.nx.length - (intOf x).toNat)
        case atStart => exact ⟨0, rfl, Nat.zero_le _, hn, hG, hL⟩
        case round =>
          obtain ⟨l, rfl, hll, hNi, hGi, hLi⟩ := hrel
          clear hG hn hL
          obtain ⟨wi, rfl⟩ : ∃ wi : World, wi = wr := ⟨_, rfl⟩
          have hbok2 := HROW.out _ hbok k hlt l hll
          have hlen2 := HBD.out _ hbok2
          have HPRE := hid (bRow_pre' (g := G) k (KT k) l)
          have hNbi := hNb4.trans hNi
          have z1 := hNbi.cell hb1
          by_cases hltl : l < a.nx.length
          · have b2 : (l : Int) < (a.nx.length : Int) := by omega
            have hk2 : k < (bRow G k (KT k) l).list.length := by have := HPRE.out.1; omega
            have HSUCC := hid (bRow_succ G k (KT k) l)
            have HNTH := hid (show nth (bRow G k (KT k) l).list k = X by rw [(HPRE.out.2 k hlt).1, HXD.out])
            obtain ⟨T', hT'⟩ : ∃ T', T' = bRow G k (KT k) l := ⟨_, rfl⟩
            rw [← hT'] at hGi hlen2 hk2 HSUCC HNTH
            clear hT' hbok2
            obtain ⟨B2, cc2, hf2⟩ := hGi.form
            subst hf2
            obtain ⟨g1, cap1, Ax, nx', e1, hxr, _, hox⟩ := hGi.rowAt k hk2
            rw [HNTH.out] at hxr hox
            obtain ⟨hrA, hrB⟩ := HARW.out l hltl
            obtain ⟨_, _, e4, _, hc4⟩ := id hr
            cases e4
            obtain ⟨b4, o4, rv4, hA4, hx4, hr4⟩ := hc4 l hltl
            subst hA4
            obtain ⟨A5, c5, hf5⟩ := hr4.form
            subst hf5
            obtain ⟨RW, hRW⟩ : ∃ RW, RW = nth a.nx l := ⟨_, rfl⟩
            rw [← hRW] at hrA hrB hr4 hx4
            have hRl : RW.length = n := by have := HN.out; omega
            have hXl : X.length = n := HXO.out.len
            have HRB := hid (show ∀ i, i < RW.length → 0 ≤ nth RW i ∧ nth RW i < (X.length : Int) from fun i hi => by have := hrB i hi; have := HN.out; omega)
            have HRW := hid hRW
            have HR4 := hid (hr4.new (hnb.trans hNbi))
            rw [hXl] at hxr
            rw [hRl] at hx4
            have hx4i := (hnb.trans hNbi).cell hx4
            have HRL := hid hRl
            have HXL := hid hXl
            clear hRW hrA hrB hc4 hr4 hx4
            injection e1 with e1 _ e1''
            subst e1
            subst e1''
            have hz5 := hNi.size
            have HSS := hid (fun (w' : World) (hm : New wi w') => (show w'.cell? ⟨w.heap.size, 1, none⟩ = some (.slice (some ⟨b4, o4, none⟩) a.nx.length c) ∧ w'.cell? ⟨b4, o4 + l, none⟩ = some (.slice A5 n c5) ∧ w'.cell? ⟨g1, k, none⟩ = some (.slice Ax n nx') from ⟨hm.cell z1, hm.cell hx4i, hm.cell hxr⟩))
            have HK := hid (fun (w' : World) (hm : New wi w') => by
              have := l03Kernel_any (.slice A5 RW.length c5) (.slice Ax X.length nx') RW X w' (HR4.out.new hm) (hox.at.new hm) (by omega) HRB.out
              rw [HRL.out, HXL.out] at this
              exact this)
            obtain ⟨Y, hY⟩ : ∃ Y, Y = kerS RW X := ⟨_, rfl⟩
            rw [← hY] at HK
            have HDY := hid (show Div n Y from ⟨RW.map fun t => nth X t.toNat, by rw [List.length_map]; exact HRL.out, by rw [hY]; rfl⟩)
            have HYE := hid (show Y = kerS (nth a.nx l) X by rw [hY, HRW.out])
            have HYL := hid HDY.out.len
            clear hY hox
            go_wp2_with fail
            go_region_held3 (fun w' => w'.cell? ⟨w.heap.size, 1, none⟩ = some (.slice (some ⟨b4, o4, none⟩) a.nx.length c) ∧ w'.cell? ⟨b4, o4 + l, none⟩ = some (.slice A5 n c5) ∧ w'.cell? ⟨g1, k, none⟩ = some (.slice Ax n nx'))
              (first | exact HSS.out _ (by repeat (first | with_reducible exact New.refl _ | with_reducible assumption | with_reducible refine New.alloc ?_ _ | with_reducible refine New.drewN ?_ _ | with_reducible refine New.drew ?_ | with_reducible refine New.trans ?_ (by with_reducible assumption))) | go_keep)
              (first | (go_at_call 39; refine (HK.out _ (by repeat (first | with_reducible exact New.refl _ | with_reducible assumption | with_reducible refine New.alloc ?_ _ | with_reducible refine New.drewN ?_ _ | with_reducible refine New.drew ?_ | with_reducible refine New.trans ?_ (by with_reducible assumption)))).mono ?_; rintro e w7 ⟨r7, rfl, hq7, ho7⟩; replace hq7 : New wi w7 := New.trans (by repeat (first | with_reducible exact New.refl _ | with_reducible assumption | with_reducible refine New.alloc ?_ _ | with_reducible refine New.drewN ?_ _ | with_reducible refine New.drew ?_ | with_reducible refine New.trans ?_ (by with_reducible assumption))) hq7; obtain ⟨A7, c7, hf7⟩ := ho7.form; rw [HYL.out] at hf7; subst hf7))
            replace ho7 := ho7.widen (B' := wi.heap.size) (by (try simp only [sizes]) <;> omega) (Nat.le_refl _)
            have HO7 := hid ho7
            have hz7 := hq7.size
            have HYB := hid (show ∀ i, i < Y.length → 0 ≤ nth Y i ∧ nth Y i < 1000 from fun i hi => by have := HDY.out.lt i hi; omega)
            have HFB := hid (show ∀ i, i < F.length → 0 ≤ nth F i ∧ nth F i < 1000 from fun i hi => by have := HDF.out.lt i hi; omega)
            have HCTY := hid (fun w1 (hm : New w7 w1) => l03Count_any _ Y w1 (HO7.out.at.new hm) HYB.out)
            have HCTF := hid (fun w1 (hm : New w4 w1) => l03Count_any _ F w1 (HF4.out.new hm) HFB.out)
            have HFND := hid (fun w1 (hm : New w7 w1) => l01Find_any _ _ T'.list Y w1 ((hGi.new (hq7.trans hm)).own (by omega)).at (HO7.out.at.new hm))
            rw [HCL.out] at HCTF
            obtain ⟨cy, hcy⟩ : ∃ cy, cy = clsN Y := ⟨_, rfl⟩
            rw [← hcy] at HCTY
            have HCY := hid hcy
            clear hcy ho7
            by_cases hq : cy = rk
            · have HGS := hid (show G l X = some Y by rw [HYE.out]; exact HG1.out l X (by rw [← HYE.out, ← HCY.out]; exact hq))
              have e1 : (cy == rk) = true := by simp [hq]
              clear hq
              by_cases hm : Y ∈ T'.list
              · obtain ⟨jj, _, hj', _⟩ := findL_mem hm
                rw [hj'] at HFND
                have HS := hid (show bRow G k (KT k) (l + 1) = T' by rw [HSUCC.out, bStep_has _ _ _ _ Y (by rw [HNTH.out]; exact HGS.out) hm])
                have hneg : ¬ ((jj : Int) < 0) := by omega
                clear hm hj'
                go_wp2_with fail
                refine (HCTY.out _ (New.refl _)).mono ?_
                rintro e w8 ⟨rfl, hn8⟩
                go_wp2_with fail
                refine (HCTF.out _ (hNi.trans (hq7.trans hn8))).mono ?_
                rintro e w9 ⟨rfl, hn9⟩
                go_wp2_with (first
                  | (go_at_call 41; refine (HFND.out _ (hn8.trans hn9)).mono ?_; rintro e w10 ⟨rfl, hn10⟩))
                go_roundw
                case rel => exact ⟨l + 1, by go_num, by omega, hNi.trans (hq7.trans ((hn8.trans hn9).trans hn10)), by rw [HS.out]; exact hGi.new (hq7.trans ((hn8.trans hn9).trans hn10)), hLi⟩
                case measure => simp [intOf]; omega
              · have hj' := findL_not hm
                rw [hj'] at HFND
                have HS := hid (show (bRow G k (KT k) (l + 1)).list = T'.list ++ [Y] by rw [HSUCC.out, bStep_new _ _ _ _ Y (by rw [HNTH.out]; exact HGS.out) hm])
                have hRl : T'.list.length < 1099511627776 := by omega
                have hzB : wb.heap.size ≤ wi.heap.size := hNbi.size
                clear hm hj'
                go_wp2_with fail
                refine (HCTY.out _ (New.refl _)).mono ?_
                rintro e w8 ⟨rfl, hn8⟩
                go_wp2_with fail
                refine (HCTF.out _ (hNi.trans (hq7.trans hn8))).mono ?_
                rintro e w9 ⟨rfl, hn9⟩
                go_wp2_with (first
                  | (go_at_call 41; refine (HFND.out _ (hn8.trans hn9)).mono ?_; rintro e w10 ⟨rfl, hn10⟩; have hn70 := (hn8.trans hn9).trans hn10; have hni0 := hq7.trans hn70; have ho10 := (HO7.out.new hn70).widen (Nat.le_refl _) hn70.size)
                  | (at_builtin; refine wpList_appRowsL (w0 := wi) (w1 := w10) rfl _ _ _ rfl Try.underlying22 info_ints (.slice (some ⟨g1, 0, none⟩) T'.list.length cc2) T'.list Y rfl hGi hni0 ho10 rfl hRl hzB ?_; intro g11 cap11 w11 ho11 hg11 hloc11))
                have hz10 := hni0.size
                go_roundw
                case rel => exact ⟨l + 1, by go_num, by omega, New.grown (hNi.trans hni0) hg11 (fun q hq => by rw [← HLB.out]; exact hLi.out q hq), by rw [HS.out]; exact ho11, hid (fun q hq => by
                  have e := HLB.out
                  cases hq
                  show lb ≤ g11
                  rcases hloc11 with h | h
                  · exact hLi.out _ h
                  · omega)⟩
                case measure => simp [intOf]; omega
            · have HGS := hid (show G l X = none from HG0.out l X (by rw [← HYE.out, ← HCY.out]; exact hq))
              have e1 : (cy == rk) = false := by simp [hq]
              have HS := hid (show bRow G k (KT k) (l + 1) = T' by rw [HSUCC.out, bStep_none _ _ _ _ (by rw [HNTH.out]; exact HGS.out)])
              clear hq
              go_wp2_with fail
              refine (HCTY.out _ (New.refl _)).mono ?_
              rintro e w8 ⟨rfl, hn8⟩
              go_wp2_with fail
              refine (HCTF.out _ (hNi.trans (hq7.trans hn8))).mono ?_
              rintro e w9 ⟨rfl, hn9⟩
              go_wp2_with fail
              go_roundw
              case rel => exact ⟨l + 1, by go_num, by omega, hNi.trans (hq7.trans (hn8.trans hn9)), by rw [HS.out]; exact hGi.new (hq7.trans (hn8.trans hn9)), hLi⟩
              case measure => simp [intOf]; omega
          · have e : l = a.nx.length := by omega
            subst e
            have b2 : ¬ ((a.nx.length : Nat) : Int) < (a.nx.length : Int) := by omega
            have HE1 := hid (HSUC.out k hlt)
            have hpre1 := HPRE.out.1
            go_wp2_with fail
            go_roundw
            case rel => exact ⟨k + 1, by go_num, by rw [HE1.out]; omega, hNi, by rw [HE1.out]; exact hGi, hLi⟩
            case measure => simp [intOf]; omega
      · have e : k = (KT k).list.length := by omega
        have HTE := hid (HEND.out k e.symm)
        have b1 : ¬ (k : Int) < ((KT k).list.length : Int) := by omega
        have hx0 : 0 < (KT k).list.length := hbok.pos
        have hnd := hbok.nodup
        clear e hk
        obtain ⟨L, hLL⟩ : ∃ L, L = (KT k).list := ⟨_, rfl⟩
        rw [← hLL] at hG hL hlen b1 hx0 hnd ⊢
        have HLL := hid hLL
        obtain ⟨g5, cap5, A5, n5, e5, _, _, _⟩ := hG.rowAt 0 hx0
        have q5 : B1 = some ⟨g5, 0, none⟩ := by injection e5
        subst q5
        clear e5 hLL hlt
        obtain ⟨rvA, k1, k2, k3⟩ := id hG
        have HK2 := hid k2
        have HK3 := hid k3
        have HCELL := hid (fun j (hj : j < L.length) w' (hw : New wo w') => (show w'.cell? ⟨g5, j, none⟩ = some (rvA j) from by
          obtain ⟨b, _, ⟨c', e2⟩, _, _, hc, hfz⟩ := ownsRow_cells k1 j (by simpa using hj)
          cases e2
          have : wo.cell? ⟨g5, j, none⟩ = some (rvA j) := by rw [hc]; simp
          exact hw.cell this))
        have HND := hid hnd
        have HTK := hid (fun j (hj : j < L.length) => take_succ_nth L j hj)
        clear k1 k2 k3 hnd
        have ho0 : (wo.alloc (.cells #[] 42)).ownsRow wo.heap.size 42 1 (.slice (some ⟨wo.heap.size, 0, none⟩) 0 0) 0 (([] : List Nat).map rvA) :=
          World.ownsRow_made (w := wo) (base := wo.heap.size) (e := 42) (size := 1) #[] 0 (Nat.le_refl _) (by simp) (by simp)
        have hn0' : New wo (wo.alloc (.cells #[] 42)) := (by repeat (first | with_reducible exact New.refl _ | with_reducible assumption | with_reducible refine New.alloc ?_ _ | with_reducible refine New.drew ?_ | with_reducible refine New.drewN ?_ _ | with_reducible refine New.setCell ?_ (by simp <;> omega) _))
        go_wp2_with fail
        go_loopw [11, 12] (fun o i wr => ∃ (j g cap : Nat) (idx : List Nat), i = .int .i64 j ∧ o = .slice (some ⟨g, 0, none⟩) j cap ∧ j ≤ L.length ∧ New wo wr ∧ Hid (idx.Perm (List.range j)) ∧ Hid (idx.map (nth L) = insAllL lexLt (L.take j)) ∧ wr.ownsRow wo.heap.size 42 1 (.slice (some ⟨g, 0, none⟩) j cap) j (idx.map rvA)) (fun _ i _ => L.length - (intOf i).toNat)
        case atStart => exact ⟨0, _, _, [], rfl, rfl, Nat.zero_le _, hn0', hid (List.Perm.refl _), hid rfl, ho0⟩
        case round =>
          obtain ⟨j, g, cap, idx, rfl, rfl, hj, hnr, hpm, hix, ho⟩ := hrel
          clear ho0 hn0'
          obtain ⟨wj, rfl⟩ : ∃ wj : World, wj = wr := ⟨_, rfl⟩
          have hzj := hnr.size
          by_cases hjl : j < L.length
          · have b3 : (j : Int) < (L.length : Int) := by omega
            have hcj := HCELL.out j hjl wj hnr
            have hoj := (HK2.out j hjl).1
            obtain ⟨Aj, cj, hfj⟩ := hoj.form
            have HFJ := hid hfj
            rw [hfj] at hcj hoj
            have hIL : idx.length = j := by simpa using hpm.out.length_eq
            have HNX := hid (show nth L j ∉ idx.map (nth L) from fun h => by
              obtain ⟨q, q1, q2⟩ := List.mem_map.1 h
              have q3 := List.mem_range.1 (hpm.out.subset q1)
              rw [nth_eq _ _ (by omega), nth_eq _ _ hjl] at q2
              have := (List.getElem_inj HND.out).1 q2
              omega)
            have HPUT := hid (l03Put_idx g j cap j idx rvA L j _ wj hIL ho (fun q hq => ((HK2.out q (by have := List.mem_range.1 (hpm.out.subset hq); omega)).1.new hnr).at) HFJ.out.symm (hoj.new hnr).at (by omega) HNX.out)
            have HSB := hid (show insL lexLt (nth L j) (idx.map (nth L)) = insAllL lexLt (L.take (j + 1)) by rw [HTK.out j hjl, insAllL_snoc, hix.out])
            clear hIL hfj hoj
            go_wp2_with (go_at_call 42; refine HPUT.out.mono ?_; rintro e w6 ⟨g2, cap2, idx', rfl, hn6, hp6, hi6, ho6⟩)
            have HP6 := hid hp6
            have HI6 := hid hi6
            clear hp6 hi6
            go_roundw
            case rel => exact ⟨j + 1, g2, cap2, idx', by go_num, rfl, by omega, hnr.trans hn6, hid (by
              rw [List.range_succ]
              exact (HP6.out.trans (List.Perm.cons j hpm.out)).trans (List.perm_append_singleton j (List.range j)).symm), hid (by rw [HI6.out, HSB.out]), ownsRow_base ho6 hzj⟩
            case measure => simp [intOf]; omega
          · have ej : j = L.length := by omega
            subst ej
            have b3 : ¬ ((L.length : Nat) : Int) < (L.length : Int) := by omega
            go_wp2_with fail
            go_ret2
            rw [HE.out, HTE.out, ← HLL.out, ← insAllL_build lex_total]
            have hfin := GrowRows.reorder HK2.out HK3.out hnr hpm.out (Nat.le_trans hNb4.size hn.size) (Nat.le_refl _) ho
            rw [hix.out, List.take_length] at hfin
            have hl9 : (insAllL lexLt L).length = L.length := by rw [insAllL_build lex_total, buildR_len]
            refine ⟨_, rfl, (hN4.trans hn).trans hnr, ?_⟩
            exact (hfin.own (by rw [hl9]; omega)).widen (by have := hnb.size; omega) (Nat.le_refl _)

end Go.Proofs.Ytoeckejcmojeaaa
