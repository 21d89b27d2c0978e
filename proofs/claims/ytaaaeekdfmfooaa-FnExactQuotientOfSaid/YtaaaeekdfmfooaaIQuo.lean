/- The program's automaton of classes. -/
import Derived.Test.YtaaaeekdfmfooaaRows
import Derived.Test.YtaaaeekdfmfooaaBase
import Derived.Test.YtaaaeekdfmfooaaAut
import Derived.Test.YtaaaeekdfmfooaaApp
import Derived.Test.YtaaaeekdfmfooaaAppRows
import Derived.Test.YtaaaeekdfmfooaaInfo
import Derived.Test.YtaaaeekdfmfooaaPlain1
import Derived.Test.YtaaaeekdfmfooaaPlainRun
import Derived.Test.YtaaaeekdfmfooaaPlainSet
import Derived.Test.YtaaaeekdfmfooaaPlainRen
import Derived.Test.YtaaaeekdfmfooaaPlainDiv
import Derived.Test.YtaaaeekdfmfooaaPlainTidy
import Derived.Test.YtaaaeekdfmfooaaPlainQuo
import Derived.Test.YtaaaeekdfmfooaaI01a
import Derived.Test.YtaaaeekdfmfooaaI01b
import Derived.Test.YtaaaeekdfmfooaaI01c
import Derived.Test.YtaaaeekdfmfooaaI01d
import Derived.Test.YtaaaeekdfmfooaaI01e
import Derived.Test.YtaaaeekdfmfooaaIIdx
import Derived.Test.YtaaaeekdfmfooaaIsCong
import Derived.WalkKit
import Derived.WalkSpells
import Derived.WalkLawsBesides
import Derived.Deep.QuietTactic
import Derived.Deep.OwnRows
import Derived.BigQuiet
import Derived.KernelRfl
namespace Go.Proofs.Ytaaaeekdfmfooaa
open Go.RowKit

set_option maxHeartbeats 400000 in
theorem max64_any (v : Value) (xs : List Int) (w : World) (h : IntsAt w v xs) (hne : 0 < xs.length) (hl : xs.length ≤ 1000) (hx : ∀ i, i < xs.length → 0 ≤ nth xs i ∧ nth xs i < 1000) :
    Calls Try.prog 120 #[v] w fun e w' => e = .returned (.int .i64 (clsN xs - 1)) ∧ w' = w := by
  obtain ⟨A, c, rfl, _, hc⟩ := h
  have HX := hid hx
  have HC := hid hc
  obtain ⟨b, off, rfl, hx0⟩ := hc 0 hne
  rw [Nat.add_zero] at hx0
  have k1 : (1 : Int) ≤ (xs.length : Int) := by omega
  have k0 : (0 : Int) < (xs.length : Int) := by omega
  clear hx hc
  go_enter Try.func120, Try.ntmps120
  go_wp2
  go_loop [3, 4] (fun q i => ∃ (k : Nat) (z : Int), 0 < k ∧ k ≤ xs.length ∧ i = .int .i64 k ∧ q = .int .i64 z ∧ Hid (z = clsTo xs k - 1)) (fun _ i => xs.length - (intOf i).toNat)
  case atStart => exact ⟨1, _, Nat.zero_lt_one, by omega, rfl, rfl, hid (by rw [clsTo_succ xs 0 hne, clsTo_zero]; have := HX.out 0 hne; split <;> omega)⟩
  case round =>
    obtain ⟨k, z, hk0, hk, rfl, rfl, hz⟩ := hrel
    by_cases hlt : k < xs.length
    · obtain ⟨b', off', e', hx⟩ := HC.out k hlt
      cases e'
      have b1 : (k : Int) < (xs.length : Int) := by omega
      have hzz : z = clsTo xs k - 1 := hz.out
      have HS := hid (clsTo_succ xs k hlt)
      have HZ := hid hzz
      clear hzz hz
      go_wp2
      go_round
      case rel =>
        refine ⟨k + 1, _, by omega, by omega, by go_num, rfl, hid ?_⟩
        rw [HS.out]
        have := HZ.out
        first | (split <;> omega) | (split <;> split <;> omega)
      case measure => simp [intOf]; omega
    · have e : k = xs.length := by omega
      subst e
      go_wp2
      go_ret
      exact ⟨ret_int hz.out, rfl⟩
set_option maxRecDepth 20000 in
set_option maxHeartbeats 1000000 in
theorem implQuotientOf_any (v1 v2 : Value) (a : Aut) (cl : List Int) (w : World) (h1 : AutAt w v1 a) (h2 : IntsAt w v2 cl) :
    Calls Try.prog 47 #[v1, v2] w fun e w' => ∃ r, e = .returned (.tuple #[r, .int .i64 (QuotientOf a cl).2]) ∧ New w w' ∧ OwnAut w.heap.size w'.heap.size w' r (QuotientOf a cl).1 := by
  obtain ⟨rv, rfl, hr⟩ := h1
  obtain ⟨A2, c2, rfl, hl2, hc2⟩ := id hr
  obtain ⟨A, c, rfl, hl, hc⟩ := id h2
  have h1 : AutAt w (.agg #[.int .i64 a.n, .slice A2 a.nx.length c2]) a := ⟨_, rfl, hr⟩
  obtain ⟨wb, hwb⟩ : ∃ wb, wb = (w.alloc (.cells #[.int .i64 a.n, .slice A2 a.nx.length c2] 27)).alloc (.cells #[.int .i64 0, .slice none 0 0] 27) := ⟨_, rfl⟩
  have hnb : New w wb := by rw [hwb]; exact (by repeat (first | with_reducible exact New.refl _ | with_reducible assumption | with_reducible refine New.alloc ?_ _ | with_reducible refine New.drew ?_ | with_reducible refine New.drewN ?_ _ | with_reducible refine New.setCell ?_ (by simp <;> omega) _))
  have hzb : w.heap.size + 2 = wb.heap.size := by rw [hwb]; simp only [size_alloc]
  have hb0 : wb.cell? ⟨w.heap.size, 0, none⟩ = some (.int .i64 a.n) := by rw [hwb]; go_simp
  have hb1 : wb.cell? ⟨w.heap.size, 1, none⟩ = some (.slice A2 a.nx.length c2) := by rw [hwb]; go_simp
  have hb : Box2 wb (w.heap.size + 1) (.int .i64 0) (.slice none 0 0) := by rw [hwb]; exact ⟨by go_simp, by go_simp, by go_simp, by go_simp⟩
  have C := implIsCongruence_any (.agg #[.int .i64 a.n, .slice A2 a.nx.length c2]) (.slice A cl.length c) a cl wb (h1.new hnb) (h2.new hnb)
  obtain ⟨R, hR⟩ : ∃ R, R = QuotientOf a cl := ⟨_, rfl⟩
  rw [← hR]
  unfold QuotientOf at hR
  have HR := hid hR
  clear hR
  have bad : ∀ (b : Bool) (k k' : Int), (IsCongruence a cl) = (b, k) → R = (⟨0, []⟩, k') → (k ≠ 0 ∧ k' = k ∧ 0 ≤ k ∧ k < 10 ∨ k = 0 ∧ b = false ∧ k' = 4) → Calls Try.prog 47 #[.agg #[.int .i64 a.n, .slice A2 a.nx.length c2], .slice A cl.length c] w fun e w' => ∃ r, e = .returned (.tuple #[r, .int .i64 R.2]) ∧ New w w' ∧ OwnAut w.heap.size w'.heap.size w' r R.1 := by
    intro b k k' e1 e2 e3
    rw [e1] at C
    rw [e2]
    rcases e3 with ⟨e4, rfl, e5, e6⟩ | ⟨rfl, rfl, rfl⟩
    · have q1 : (k' == 0) = false := by simpa using e4
      have q2 : (k' != 0) = true := by simpa using e4
      clear e1 e2 HR e4
      go_enter Try.func47, Try.ntmps47
      go_wp2_with fail
      rw [← hwb]
      refine C.mono ?_
      rintro e w1 ⟨rfl, hn1⟩
      obtain ⟨x0, x1, x2, x3⟩ := hb.new hn1
      go_wp2_with fail
      obtain ⟨g0, g1, _, _⟩ := (hb.new hn1).fill (.int .i64 0) (.slice none 0 0)
      refine bodyPost_ret (v := .tuple #[.agg #[.int .i64 0, .slice none 0 0], .int .i64 k']) (by simp [results, Try.results47, go_sem, g0, g1]) rfl ?_
      exact ⟨_, rfl, New.fill (by repeat (first | with_reducible exact New.refl _ | with_reducible assumption | with_reducible refine New.alloc ?_ _ | with_reducible refine New.drewN ?_ _ | with_reducible refine New.drew ?_ | with_reducible refine New.trans ?_ (by with_reducible assumption))) (by omega) _ _, _, rfl, none, 0, fun _ => default, rfl, by simp, by simp, by simp, by simp⟩
    · clear e1 e2 HR
      go_enter Try.func47, Try.ntmps47
      go_wp2_with fail
      rw [← hwb]
      refine C.mono ?_
      rintro e w1 ⟨rfl, hn1⟩
      obtain ⟨x0, x1, x2, x3⟩ := hb.new hn1
      go_wp2_with fail
      obtain ⟨g0, g1, _, _⟩ := (hb.new hn1).fill (.int .i64 0) (.slice none 0 0)
      refine bodyPost_ret (v := .tuple #[.agg #[.int .i64 0, .slice none 0 0], .int .i64 4]) (by simp [results, Try.results47, go_sem, g0, g1]) rfl ?_
      exact ⟨_, rfl, New.fill (by repeat (first | with_reducible exact New.refl _ | with_reducible assumption | with_reducible refine New.alloc ?_ _ | with_reducible refine New.drewN ?_ _ | with_reducible refine New.drew ?_ | with_reducible refine New.trans ?_ (by with_reducible assumption))) (by omega) _ _, _, rfl, none, 0, fun _ => default, rfl, by simp, by simp, by simp, by simp⟩
  cases ha : autOk a with
  | false => exact bad false 1 1 (by unfold IsCongruence; rw [ha]; rfl) (by rw [HR.out, ha]; rfl) (Or.inl (by omega))
  | true =>
    cases hd : isDiv cl a.n with
    | false => exact bad false 2 2 (by unfold IsCongruence; rw [ha, hd]; rfl) (by rw [HR.out, ha, hd]; rfl) (Or.inl (by omega))
    | true =>
      cases hq : congB a.nx cl with
      | false => exact bad false 0 4 (by unfold IsCongruence; rw [ha, hd, hq]; rfl) (by rw [HR.out, ha, hd, hq]; rfl) (Or.inr ⟨rfl, rfl, rfl⟩)
      | true =>
        clear bad
        have e1 : IsCongruence a cl = (true, 0) := by unfold IsCongruence; rw [ha, hd, hq]; rfl
        have e2 : R = (quoOf a cl, 0) := by rw [HR.out, ha, hd, hq]; rfl
        rw [e1] at C
        have HE := hid e2
        have han := autOk_n ha
        have hal := autOk_l ha
        obtain ⟨hd1, hd2⟩ := isDiv_parts hd
        have hin : ∀ i, i < cl.length → 0 ≤ nth cl i ∧ nth cl i < 1000 := fun i hi => by have := divOk_in cl 0 (by omega) hd1 i hi; omega
        have hN := cls_le hd
        obtain ⟨m, hm⟩ : ∃ m : Nat, clsN cl = (m : Int) := ⟨(clsN cl).toNat, by omega⟩
        have hm11 : m ≤ 11 := by omega
        have CM := max64_any (.slice A cl.length c) cl
        rw [hm] at CM
        have HCM := hid (fun w1 (hm : New w w1) => CM w1 (h2.new hm) (by omega) (by omega) hin)
        have HA := hid ha
        have HC2 := hid hc2
        have HCC := hid hc
        have HIN := hid hin
        have HL := hid hd2
        have HHAS := hid (fun (j : Nat) (hj : j < m) => placeOf_mem cl (j : Int) (cls_has hd (j : Int) (by omega) (by omega)))
        have HM := hid hm
        have hm1 : 1 ≤ m := by omega
        have kw : Go.RowKit.wrap64 ((m : Int) - 1) = (m : Int) - 1 := by unfold Go.RowKit.wrap64; omega
        clear e1 e2 HR ha hd hq hd1 hin hN hm CM hc2 hc
        go_enter Try.func47, Try.ntmps47
        go_wp2_with fail
        rw [← hwb]
        refine C.mono ?_
        rintro e w1 ⟨rfl, hn1⟩
        replace hb0 := hn1.cell hb0
        replace hb1 := hn1.cell hb1
        have hz1 := hn1.size
        have hbr := hb.new hn1
        have hnn : New w w1 := hnb.trans hn1
        have zb0 : w.heap.size < w1.heap.size := by omega
        have zb1 : w.heap.size + 1 < w1.heap.size := by omega
        clear hb hwb C
        go_wp2_with (go_at_call 120; refine (HCM.out _ hnn).mono ?_; rintro e w' ⟨rfl, rfl⟩)
        obtain ⟨ob, hob⟩ : ∃ ob, ob = w'.heap.size := ⟨_, rfl⟩
        obtain ⟨wx, hwx⟩ : ∃ wx, wx = w'.alloc (.cells #[.int .i64 m, .slice none 0 0] 27) := ⟨_, rfl⟩
        have hbo : Box2 wx ob (.int .i64 m) (.slice none 0 0) := by rw [hwx, hob]; exact ⟨by go_simp, by go_simp, by go_simp, by go_simp⟩
        have hnx : New w' wx := by rw [hwx]; exact (by repeat (first | with_reducible exact New.refl _ | with_reducible assumption | with_reducible refine New.alloc ?_ _ | with_reducible refine New.drew ?_ | with_reducible refine New.drewN ?_ _ | with_reducible refine New.setCell ?_ (by simp <;> omega) _))
        have hzx : wx.heap.size = ob + 1 := by rw [hwx, hob, size_alloc]
        have hba : wx.cell? ⟨w.heap.size, 0, none⟩ = some (.int .i64 a.n) ∧ wx.cell? ⟨w.heap.size, 1, none⟩ = some (.slice A2 a.nx.length c2) := ⟨hnx.cell hb0, hnx.cell hb1⟩
        have hbrx := hbr.new hnx
        have hnw : New w wx := hnn.trans hnx
        rw [← hwx, ← hob]
        have hobw : w.heap.size + 2 ≤ ob := by omega
        clear hwx hob hb0 hb1 hbr hnx hnn zb0 zb1 hz1 hn1
        go_loopw [36] (fun i wr => ∃ (k : Nat) (v : Value), k ≤ a.nx.length ∧ i = .int .i64 k ∧ New w wr ∧ wr.cell? ⟨w.heap.size, 1, none⟩ = some (.slice A2 a.nx.length c2) ∧ Box2 wr (w.heap.size + 1) (.int .i64 0) (.slice none 0 0) ∧
            Box2 wr ob (.int .i64 m) v ∧ ob + 1 ≤ wr.heap.size ∧ GrowRows (ob + 1) 25 wr v ((a.nx.take k).map fun row => quoRow cl row)) (fun i _ => a.nx.length - (intOf i).toNat)
        case atStart => exact ⟨0, _, Nat.zero_le _, rfl, hnw, hba.2, hbrx, hbo, by omega, by simpa using GrowRows.nil _ _ _⟩
        case round =>
          obtain ⟨k, v, hk, rfl, hn, hy1, hbr, hbo', hsz, hg⟩ := hrel
          obtain ⟨wo, rfl⟩ : ∃ wo : World, wo = wr := ⟨_, rfl⟩
          clear hbo hba hbrx hnw hzx
          obtain ⟨z0, z1, zf0, zf1⟩ := id hbo'
          by_cases hlt : k < a.nx.length
          · obtain ⟨b2, off2, rv, rfl, hx2, hr2⟩ := HC2.out k hlt
            obtain ⟨A3, c3, rfl, hl3, hc3⟩ := hr2
            have b1 : (k : Int) < (a.nx.length : Int) := by omega
            obtain ⟨r1, r2⟩ := autOk_row HA.out k hlt
            replace hx2 := hn.cell hx2
            have hkl : ((a.nx.take k).map fun row => quoRow cl row).length = k := by simp; omega
            have HR1 := hid r1
            have HR2 := hid r2
            have HC3 := hid hc3
            have HG := hid hg
            obtain ⟨Av, cv, rfl⟩ := hg.form
            rw [hkl] at HG z1 hbo'
            have zob : ob < wo.heap.size := by omega
            clear hc3 r1 r2 hg
            go_wp2
            go_loopw [11, 43] (fun o i wr => ∃ j : Nat, j ≤ m ∧ i = .int .i64 j ∧ Grow wo.heap.size 2 wr o ((iota 0 j).map fun c => quoAt cl (nth a.nx k) c) ∧ New wo wr) (fun _ i _ => m - (intOf i).toNat)
            case atStart => exact ⟨0, Nat.zero_le _, rfl, Grow.empty _ _ _ (Nat.le_refl _), (by repeat (first | with_reducible exact New.refl _ | with_reducible assumption | with_reducible refine New.alloc ?_ _ | with_reducible refine New.drew ?_ | with_reducible refine New.drewN ?_ _ | with_reducible refine New.setCell ?_ (by simp <;> omega) _))⟩
            case round =>
              obtain ⟨j, hj, rfl, hgo, hn2⟩ := hrel
              by_cases hltj : j < m
              · have bj : (j : Int) < (m : Int) := by omega
                obtain ⟨p, hp1, hp2, hp3, hp4⟩ := HHAS.out j hltj
                have hpn : p < (nth a.nx k).length := by have := HR1.out; have := HL.out; omega
                obtain ⟨b4, off4, rfl, hx4⟩ := HC3.out p hpn
                obtain ⟨t0, t1⟩ := HR2.out p hpn
                have kt : (nth (nth a.nx k) p) < (cl.length : Int) := by have := HL.out; omega
                obtain ⟨b, off, rfl, hx⟩ := HCC.out (nth (nth a.nx k) p).toNat (by omega)
                have kp : (p : Int) < ((nth a.nx k).length : Int) := by omega
                have hnn := hn.trans hn2
                replace hx := hnn.cell hx
                replace hx4 := hnn.cell hx4
                have hzr := hn2.size
                have hlj : ((iota 0 j).map fun c => quoAt cl (nth a.nx k) c).length = j := by simp [iota_length]
                have HQ := hid (show quoAt cl (nth a.nx k) (j : Int) = nth cl (nth (nth a.nx k) p).toNat by unfold quoAt; rw [hp3, Int.toNat_natCast])
                have HI := hid (fun w1 (hm : New w w1) => Index64_any _ cl (j : Int) w1 (h2.new hm))
                rw [show idxOf (fun x => decide (x = (j : Int))) cl = (p : Int) from hp3] at HI
                clear hp2 hp3 hp4
                go_wp2_with (first
                  | (go_at_call 121; refine (HI.out _ hnn).mono ?_; rintro e w' ⟨rfl, rfl⟩)
                  | (at_builtin; refine wpList_app rfl _ _ _ rfl Try.underlying25 info_i64 _ _ rfl hgo rfl (by omega) (by omega) ?_; intro g cap w2 ho2 hg2))
                go_roundw
                case rel => exact ⟨j + 1, by omega, by go_num, by rw [iota_snoc, List.map_append, Int.zero_add]; show Grow _ _ _ _ (_ ++ [quoAt cl (nth a.nx k) (j : Int)]); rw [HQ.out]; rw [hlj] at ho2; exact ho2, hn2.app hg2 hgo (Nat.le_refl _)⟩
                case measure => simp [intOf]; omega
              · have e : j = m := by omega
                subst e
                have hzr := hn2.size
                have hy1' := hn2.cell hy1
                obtain ⟨w0', w1', wf0', wf1'⟩ := hbo'.new hn2
                have hgo' := hgo.own (by simp [iota_length]; omega)
                obtain ⟨Ao, co, hof⟩ := hgo'.form
                rw [hof] at hgo'
                rw [List.length_map, iota_length] at hof hgo'
                have HGO := hid (show OwnInts wo.heap.size wr.heap.size wr _ (quoRow cl (nth a.nx k)) by unfold quoRow; rw [HM.out, Int.toNat_natCast]; exact hgo')
                have hkl' := hkl
                clear hgo hgo' z0 z1 zf0 zf1
                subst hof
                go_wp2_with (at_builtin; refine wpList_appRows rfl _ _ _ rfl Try.underlying22 info_ints (.slice Av k cv) ((a.nx.take k).map fun row => quoRow cl row) (quoRow cl (nth a.nx k)) rfl HG.out hn2 HGO.out rfl (by omega) (by omega) ?_; intro g cap w3 ho3 hg3; have hbo3 := (hbo'.new hn2).grown hg3 (fun q hq => by have := HG.out.block q hq; omega); obtain ⟨x0', x1', xf0', xf1'⟩ := id hbo3)
                go_roundw
                case rel =>
                  have hW := within_setCell w3 ⟨ob, 1, none⟩ (.slice (some ⟨g, 0, none⟩) (k + 1) cap)
                  have hn3 : New w w3 := New.grown (hn.trans hn2) hg3 (fun q hq => by have := HG.out.block q hq; omega)
                  have hs3 := hg3.size
                  rw [hkl'] at ho3
                  refine ⟨k + 1, _, by omega, by go_num, hn3.setCell (by show w.heap.size ≤ ob; omega) _, ?_, ?_, hbo3.set1 _, (by (try simp only [size_alloc, size_drew, size_drewN, size_setCell]) <;> omega), ?_⟩
                  · rw [World.cell?_setCell_other]
                    · exact hg3.cell hy1' (fun e => by have := HG.out.block _ e.symm; simp at this; omega)
                    · intro e; injection e with e1 _ _; omega
                  · exact ((hbr.new hn2).grown hg3 (fun q hq => by have := HG.out.block q hq; omega)).other _ (by simp; omega) _
                  · rw [take_succ_nth a.nx k hlt, List.map_append]
                    exact ho3.within hW (by simp)
                case measure => simp [intOf]; omega
          · have e : k = a.nx.length := by omega
            subst e
            rw [List.take_length] at hg
            obtain ⟨v0, v1, vf0, vf1⟩ := id hbr
            obtain ⟨Av, cv, rfl⟩ := hg.form
            rw [List.length_map] at hg z1
            rw [List.length_map] at hbo'
            have HG := hid hg
            clear hg
            go_wp2_with fail
            obtain ⟨g0, g1, _, _⟩ := (hbr.set0 (.int .i64 m)).set1 (.slice Av a.nx.length cv)
            refine bodyPost_ret (v := .tuple #[.agg #[.int .i64 m, .slice Av a.nx.length cv], .int .i64 0]) ?_ rfl ?_
            · simp [results, Try.results47, go_sem, g0, g1]
            · have hW : Within (w.heap.size + 1) (w.heap.size + 2) wo ((wo.setCell ⟨w.heap.size + 1, 0, none⟩ (.int .i64 m)).setCell ⟨w.heap.size + 1, 1, none⟩ (.slice Av a.nx.length cv)) :=
                Within.setCell (Within.setCell (Within.refl _ _ _) (by simp) (by simp) _) (by simp) (by simp) _
              have hO := (HG.out.within hW (by omega)).own (by simp; omega)
              rw [HE.out]
              exact ⟨_, rfl, hn.within hW (by omega), _, by unfold quoOf; rw [HM.out], hO.widen (by omega) (Nat.le_refl _)⟩

end Go.Proofs.Ytaaaeekdfmfooaa
