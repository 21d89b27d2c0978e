/- The reference's roads of the classes of a division. -/
import Derived.Test.YtdaaglfemaoigaaRows
import Derived.Test.YtdaaglfemaoigaaBase
import Derived.Test.YtdaaglfemaoigaaAut
import Derived.Test.YtdaaglfemaoigaaApp
import Derived.Test.YtdaaglfemaoigaaAppRows
import Derived.Test.YtdaaglfemaoigaaAppStep
import Derived.Test.YtdaaglfemaoigaaInfo
import Derived.Test.YtdaaglfemaoigaaPlain1
import Derived.Test.YtdaaglfemaoigaaPlainRun
import Derived.Test.YtdaaglfemaoigaaPlainSet
import Derived.Test.YtdaaglfemaoigaaPlainSort
import Derived.Test.YtdaaglfemaoigaaPlainDiv
import Derived.Test.YtdaaglfemaoigaaPlainQuo
import Derived.Test.YtdaaglfemaoigaaPlainRoads
import Derived.Test.YtdaaglfemaoigaaPlainCtr
import Derived.Test.YtdaaglfemaoigaaOwnC
import Derived.Test.YtdaaglfemaoigaaS00a
import Derived.Test.YtdaaglfemaoigaaS00b
import Derived.Test.YtdaaglfemaoigaaS01a
import Derived.Test.YtdaaglfemaoigaaS01d
import Derived.Test.YtdaaglfemaoigaaSSort
import Derived.Test.YtdaaglfemaoigaaSRoads
import Derived.Test.YtdaaglfemaoigaaS05a
import Derived.WalkKit
import Derived.WalkSpells
import Derived.WalkLawsBesides
import Derived.Deep.QuietTactic
import Derived.Deep.OwnRows
import Derived.BigQuiet
import Derived.KernelRfl
namespace Go.Proofs.Ytdaaglfemaoigaa
open Go.RowKit

theorem New.setBoth {a b : World} (h : New a b) (p : Addr) (u : Value) : New (a.setCell p u) (b.setCell p u) := by
  refine ⟨h.os, h.tape, h.output, by simpa using h.size, fun k hk => ?_⟩
  have hk' : k < a.heap.size := by simpa using hk
  have hb := h.block k hk'
  unfold World.setCell
  simp only [Array.getElem?_modify]
  rw [hb]
set_option maxRecDepth 20000 in
set_option maxHeartbeats 1000000 in
theorem l05Led_any (p v : Value) (r : Aut) (cl : List Int) (s : Nat) (w : World) (hp : PAut w p r) (h : IntsAt w v cl) (hs : s < r.nx.length) (hl : (nth r.nx s).length ≤ 3) (hin : ∀ k, k < (nth r.nx s).length → 0 ≤ nth (nth r.nx s) k ∧ nth (nth r.nx s) k < (cl.length : Int)) :
    Calls Try.prog 128 #[p, v, .int .i64 s] w fun e w' => ∃ q, e = .returned q ∧ New w w' ∧ OwnInts w.heap.size w'.heap.size w' q (ledOf r.nx cl s) := by
  obtain ⟨b, rv, rfl, hp0, hp1, hr⟩ := hp
  obtain ⟨A2, c2, rfl, hl2, hc2⟩ := hr
  obtain ⟨b2, off2, rv, rfl, hx2, hr2⟩ := hc2 s hs
  obtain ⟨A3, c3, rfl, hl3, hc3⟩ := hr2
  obtain ⟨A, c, rfl, hlc, hcc⟩ := h
  have ks : (s : Int) < (r.nx.length : Int) := by omega
  have HIN := hid hin
  have HC3 := hid hc3
  have HCC := hid hcc
  have HLS := hid (fun v (xs : List Int) w1 (h : IntsAt w1 v xs) (hl : xs.length ≤ 3) => l05Sorted_any v xs w1 h (by omega))
  clear hin hc3 hcc hc2
  go_enter Try.func128, Try.ntmps128
  go_wp2
  go_loopw [7, 8] (fun o i wr => ∃ k : Nat, k ≤ (nth r.nx s).length ∧ i = .int .i64 k ∧ Grow w.heap.size 2 wr o (((nth r.nx s).take k).map fun t => nth cl t.toNat) ∧ New w wr) (fun _ i _ => (nth r.nx s).length - (intOf i).toNat)
  case atStart => exact ⟨0, Nat.zero_le _, rfl, Grow.empty _ _ _ (Nat.le_refl _), (by repeat (first | with_reducible exact New.refl _ | with_reducible assumption | with_reducible refine New.alloc ?_ _ | with_reducible refine New.drew ?_ | with_reducible refine New.drewN ?_ _ | with_reducible refine New.setCell ?_ (by simp <;> omega) _))⟩
  case round =>
    obtain ⟨k, hk, rfl, ho, hn⟩ := hrel
    replace hp1 := hn.cell hp1
    replace hx2 := hn.cell hx2
    by_cases hlt : k < (nth r.nx s).length
    · obtain ⟨b4, off4, rfl, hx4⟩ := HC3.out k hlt
      have b1 : (k : Int) < ((nth r.nx s).length : Int) := by omega
      obtain ⟨n0, n1⟩ := HIN.out k hlt
      obtain ⟨b5, off5, rfl, hx5⟩ := HCC.out (nth (nth r.nx s) k).toNat (by omega)
      replace hx4 := hn.cell hx4
      replace hx5 := hn.cell hx5
      have hkl : (((nth r.nx s).take k).map fun t => nth cl t.toNat).length = k := by simp; omega
      have HKL := hid hkl
      have hzr := hn.size
      clear hkl
      go_wp2_with (at_builtin; refine wpList_app rfl _ _ _ rfl Try.underlying36 info_i64 _ _ rfl ho rfl (by have := HKL.out; omega) (by omega) ?_; intro g cap w2 ho2 hg2)
      go_roundw
      case rel => exact ⟨k + 1, by omega, by go_num, by rw [take_succ_nth _ k hlt, List.map_append]; rw [HKL.out] at ho2; exact ho2, hn.app hg2 ho (Nat.le_refl _)⟩
      case measure => simp [intOf]; omega
    · have e : k = (nth r.nx s).length := by omega
      subst e
      rw [List.take_length] at ho
      have hzr := hn.size
      go_wp2_with fail
      refine (HLS.out _ _ _ (ho.own (by simp; omega)).at (by simp; omega)).mono ?_
      rintro e w2 ⟨q, rfl, hn2, ho2⟩
      go_wp2_with fail
      go_ret
      exact ⟨_, rfl, hn.trans hn2, ho2.widen hzr (Nat.le_refl _)⟩
set_option maxRecDepth 20000 in
set_option maxHeartbeats 2000000 in
theorem specContractRoads_any (v1 v2 : Value) (r : Aut) (cl : List Int) (w : World) (h1 : AutAt w v1 r) (h2 : IntsAt w v2 cl) :
    Calls Try.prog 55 #[v1, v2] w fun e w' => ∃ q, e = .returned (.tuple #[q, .int .i64 (ContractRoads r cl).2]) ∧ New w w' ∧ OwnAut w.heap.size w'.heap.size w' q (ContractRoads r cl).1 := by
  obtain ⟨rv, rfl, hr⟩ := h1
  obtain ⟨A1, c1, rfl⟩ := hr.form
  obtain ⟨wb, hwb⟩ : ∃ wb, wb = (w.alloc (.cells #[.int .i64 r.n, .slice A1 r.nx.length c1] 71)).alloc (.cells #[.int .i64 0, .slice none 0 0] 71) := ⟨_, rfl⟩
  have hp : PAut wb (.pointer (some ⟨w.heap.size, 0, none⟩)) r := by rw [hwb]; exact (PAut.box hr _).new ((New.refl _).alloc _)
  have hnb : New w wb := by rw [hwb]; exact (by repeat (first | with_reducible exact New.refl _ | with_reducible assumption | with_reducible refine New.alloc ?_ _ | with_reducible refine New.drew ?_ | with_reducible refine New.drewN ?_ _ | with_reducible refine New.setCell ?_ (by simp <;> omega) _))
  have hzb : w.heap.size + 2 = wb.heap.size := by rw [hwb]; simp only [size_alloc]
  have hb0 : wb.cell? ⟨w.heap.size, 0, none⟩ = some (.int .i64 r.n) := by rw [hwb]; go_simp
  have hr0 : Box2 wb (w.heap.size + 1) (.int .i64 0) (.slice none 0 0) := by rw [hwb]; exact ⟨by go_simp, by go_simp, by go_simp, by go_simp⟩
  obtain ⟨R, hR⟩ : ∃ R, R = ContractRoads r cl := ⟨_, rfl⟩
  rw [← hR]
  unfold ContractRoads at hR
  have HR := hid hR
  clear hR
  have C1 := l05Ok_any _ r _ hp
  have key : ∀ (code : Int) (w1 : World), New w w1 → R = (⟨0, []⟩, code) → ∃ q, (Ending.returned (.tuple #[.agg #[.int .i64 0, .slice none 0 0], .int .i64 code]) = .returned (.tuple #[q, .int .i64 R.2])) ∧ New w ((w1.setCell ⟨w.heap.size + 1, 0, none⟩ (.int .i64 0)).setCell ⟨w.heap.size + 1, 1, none⟩ (.slice none 0 0)) ∧ OwnAut w.heap.size ((w1.setCell ⟨w.heap.size + 1, 0, none⟩ (.int .i64 0)).setCell ⟨w.heap.size + 1, 1, none⟩ (.slice none 0 0)).heap.size ((w1.setCell ⟨w.heap.size + 1, 0, none⟩ (.int .i64 0)).setCell ⟨w.heap.size + 1, 1, none⟩ (.slice none 0 0)) q R.1 := fun code w1 hn1 e => by
    rw [e]
    exact ⟨_, rfl, New.fill hn1 (by omega) _ _, _, rfl, none, 0, fun _ => default, rfl, by simp, by simp, by simp, by simp⟩
  cases ha : roadsOk r with
  | false =>
    rw [ha] at C1
    have KEY := hid (fun w1 hn1 => key 1 w1 hn1 (by rw [HR.out, ha]; rfl))
    clear key
    go_enter Try.func55, Try.ntmps55
    go_wp2_with fail
    rw [← hwb]
    refine C1.mono ?_
    rintro e w1 ⟨rfl, hn1⟩
    obtain ⟨x0, x1, x2, x3⟩ := hr0.new hn1
    go_wp2_with fail
    obtain ⟨g0, g1, _, _⟩ := (hr0.new hn1).fill (.int .i64 0) (.slice none 0 0)
    exact bodyPost_ret (v := .tuple #[.agg #[.int .i64 0, .slice none 0 0], .int .i64 1]) (by simp [results, Try.results55, go_sem, g0, g1]) rfl (KEY.out _ (hnb.trans hn1))
  | true =>
    rw [ha] at C1
    have HA := hid ha
    have C2 := fun w1 (hn : New w w1) => l01Division_any v2 cl r.n w1 (h2.new hn)
    cases hd : isDiv cl r.n with
    | false =>
      rw [hd] at C2
      have KEY := hid (fun w1 hn1 => key 2 w1 hn1 (by rw [HR.out, ha, hd]; rfl))
      clear key ha
      go_enter Try.func55, Try.ntmps55
      go_wp2_with fail
      rw [← hwb]
      refine C1.mono ?_
      rintro e w1 ⟨rfl, hn1⟩
      replace hb0 := hn1.cell hb0
      go_wp2_with fail
      refine (C2 _ (hnb.trans hn1)).mono ?_
      rintro e w2 ⟨rfl, hq2⟩
      subst hq2
      have hn3 := hn1
      obtain ⟨x0, x1, x2, x3⟩ := hr0.new hn3
      go_wp2_with fail
      obtain ⟨g0, g1, _, _⟩ := (hr0.new hn3).fill (.int .i64 0) (.slice none 0 0)
      exact bodyPost_ret (v := .tuple #[.agg #[.int .i64 0, .slice none 0 0], .int .i64 2]) (by simp [results, Try.results55, go_sem, g0, g1]) rfl (KEY.out _ (hnb.trans hn3))
    | true =>
      rw [hd] at C2
      have hE : R = ctrOut r.nx cl := by rw [HR.out, ha, hd]; rfl
      obtain ⟨f1, f2, f3, f4, f5⟩ := ctr_facts ha hd
      obtain ⟨hd1, _⟩ := isDiv_parts hd
      have HD := hid (fun k (hk : k < cl.length) => div_le cl hd1 k hk)
      have HLEN := hid (fun k acc (hk : k ≤ cl.length) h => ctrTo_len (nx := r.nx) hd1 k acc hk h)
      have HLE := hid (fun k acc h => ctrTo_le (nx := r.nx) (cl := cl) k acc h)
      have HC := hid (fun (s : Nat) w1 (hm : New wb w1) (hs : s < cl.length) => l05Led_any _ _ r cl s w1 (hp.new hm) (h2.new (hnb.trans hm)) (by omega) (f4 s hs).2 (f5 s hs))
      have F4 := hid f4
      have HE := hid hE
      have KEY := hid (fun w1 hn1 (hno : ctrTo r.nx cl cl.length = none) => key 4 w1 hn1 (by rw [hE]; unfold ctrOut; rw [hno]))
      have h2' := h2
      obtain ⟨A, c, rfl, hlc, hcc⟩ := h2
      have HCC := hid hcc
      have F1 := hid f1
      clear key ha hd f1 f4 f5 hE hcc HR
      go_enter Try.func55, Try.ntmps55
      go_wp2_with fail
      rw [← hwb]
      refine C1.mono ?_
      rintro e w1 ⟨rfl, hn1⟩
      replace hb0 := hn1.cell hb0
      go_wp2_with fail
      refine (C2 _ (hnb.trans hn1)).mono ?_
      rintro e w2 ⟨rfl, hq2⟩
      subst hq2
      have hn3 := hn1
      have hr3 := hr0.new hn3
      have hz3 := hn3.size
      have hN3 := hnb.trans hn3
      clear hn1 hr0 hb0 C1 C2
      clear hwb
      go_wp2
      have hb6 : Box2 (w2.alloc (.cells #[.int .i64 0, .slice none 0 0] 71)) w2.heap.size (.int .i64 0) (.slice none 0 0) := ⟨by go_simp, by go_simp, by go_simp, by go_simp⟩
      have hb4 : Box2 (w2.alloc (.cells #[.int .i64 0, .slice none 0 0] 71)) (w.heap.size + 1) (.int .i64 0) (.slice none 0 0) := hr3.new ((New.refl _).alloc _)
      have hnw : New wb (w2.alloc (.cells #[.int .i64 0, .slice none 0 0] 71)) := hn3.alloc _
      obtain ⟨tb, htb⟩ : ∃ tb, tb = w2.heap.size := ⟨_, rfl⟩
      rw [← htb] at hb6 ⊢
      have hzw : (w2.alloc (.cells #[.int .i64 0, .slice none 0 0] 71)).heap.size = tb + 1 := by rw [size_alloc, htb]
      generalize w2.alloc (.cells #[.int .i64 0, .slice none 0 0] 71) = wq at hb6 hnw hb4 hzw ⊢
      have htb2 : w.heap.size + 2 ≤ tb := by omega
      clear htb hn3 hr3 hz3 hN3
      go_loopw [7] (fun i wr => ∃ (k : Nat) (v : Value) (acc : List (List Int)), k ≤ cl.length ∧ i = .int .i64 k ∧ New wb wr ∧ Box2 wr (w.heap.size + 1) (.int .i64 0) (.slice none 0 0) ∧
          Box2 wr tb (.int .i64 acc.length) v ∧ tb + 1 ≤ wr.heap.size ∧ GrowRows (tb + 1) 36 wr v acc ∧ Hid (ctrTo r.nx cl k = some acc)) (fun i _ => cl.length - (intOf i).toNat)
      case atStart => exact ⟨0, _, [], Nat.zero_le _, rfl, hnw, hb4, hb6, by omega, GrowRows.nil _ _ _, rfl⟩
      case round =>
        obtain ⟨k, v, acc, hk, rfl, hn, hbr, hbo, hsz, hg, hacc⟩ := hrel
        obtain ⟨wo, rfl⟩ : ∃ wo : World, wo = wr := ⟨_, rfl⟩
        clear hb4 hb6 hnw hzw
        obtain ⟨Av, cv, rfl⟩ := hg.form
        by_cases hlt : k < cl.length
        · have b1 : (k : Int) < (cl.length : Int) := by omega
          obtain ⟨d0, d1⟩ := HD.out k hlt
          have HAL := hid (HLEN.out k acc hk hacc.out)
          have hal2 := (HLE.out k acc hacc.out).1
          obtain ⟨b5, off5, rfl, hx5⟩ := HCC.out k hlt
          go_wp2_with fail
          refine (HC.out k _ hn hlt).mono ?_
          rintro e w3 ⟨q, he, hn3, ho3⟩
          obtain ⟨Aq, cq, rfl⟩ := ho3.form
          subst he
          obtain ⟨z0, z1, zf0, zf1⟩ := hbo.new hn3
          have hx6 := ((hnb.trans hn).trans hn3).cell hx5
          have hs3 := hn3.size
          by_cases hnew : nth cl k = (acc.length : Int)
          · have hq : (nth cl k == (acc.length : Int)) = true := by simp [hnew]
            have HN := hid hnew
            clear hnew
            go_wp2_with fail
            go_quiet (fail)
            have hn4 : New wo (w3.drewN nq) := hn3.drewN nq
            have ho4 : OwnInts wo.heap.size (w3.drewN nq).heap.size (w3.drewN nq) (.slice Aq (ledOf r.nx cl k).length cq) (ledOf r.nx cl k) := ho3.new ((New.refl _).drewN nq)
            have hbo4 := hbo.new hn4
            have hbr4 := hbr.new hn4
            clear z0 z1 zf0 zf1 hx6 hx5 hn3 ho3 hs3
            generalize w3.drewN nq = w4 at hn4 ho4 hbo4 hbr4 ⊢
            obtain ⟨z0, z1, zf0, zf1⟩ := id hbo4
            have hbo5 := hbo4.set0 (.int .i64 ((acc.length : Int) + 1))
            obtain ⟨z0', z1', zf0', zf1'⟩ := id hbo5
            have hn5 := hn4.setBoth ⟨tb, 0, none⟩ (.int .i64 ((acc.length : Int) + 1))
            have HG := hid (hg.within (within_setCell wo ⟨tb, 0, none⟩ (.int .i64 ((acc.length : Int) + 1))) (by simp))
            have hs4 := hn4.size
            have HO := hid (show OwnInts (wo.setCell ⟨tb, 0, none⟩ (.int .i64 ((acc.length : Int) + 1))).heap.size (w4.setCell ⟨tb, 0, none⟩ (.int .i64 ((acc.length : Int) + 1))).heap.size (w4.setCell ⟨tb, 0, none⟩ (.int .i64 ((acc.length : Int) + 1))) (.slice Aq (ledOf r.nx cl k).length cq) (ledOf r.nx cl k) by
              rw [size_setCell, size_setCell]
              exact ho4.within (within_setCell w4 ⟨tb, 0, none⟩ (.int .i64 ((acc.length : Int) + 1))) (Or.inr (by show tb + 1 ≤ wo.heap.size; omega)))
            have hszB : tb + 1 ≤ (wo.setCell ⟨tb, 0, none⟩ (.int .i64 ((acc.length : Int) + 1))).heap.size := by rw [size_setCell]; exact hsz
            have kw : IntKind.i64.wrap ((acc.length : Int) + 1) = (acc.length : Int) + 1 := IntWalk.i64_in _ (by omega)
            go_wp2_with (at_builtin; refine wpList_appRows (w1 := w4.setCell ⟨tb, 0, none⟩ (.int .i64 ((acc.length : Int) + 1))) rfl _ _ _ rfl Try.underlying22 info_ints (.slice Av acc.length cv) acc (ledOf r.nx cl k) rfl HG.out hn5 HO.out (by rw [size_setCell]; rfl) (by omega) hszB ?_; intro g cap w5 ho5 hg5; have hbo6 := hbo5.grown hg5 (fun q hq => by have := HG.out.block q hq; omega); obtain ⟨q0, q1, qf0, qf1⟩ := id hbo6)
            go_roundw
            case rel =>
              have hs5 := hg5.size
              have hbr6 := (hbr4.within (within_setCell w4 ⟨tb, 0, none⟩ (.int .i64 ((acc.length : Int) + 1))) (Or.inl (by show _ < tb; omega))).grown hg5 (fun q hq => by have := HG.out.block q hq; omega)
              have hN5 : New wb w5 := New.grown ((hn.trans hn4).setCell (by show wb.heap.size ≤ tb; omega) _) hg5 (fun q hq => by have := HG.out.block q hq; omega)
              have hW := within_setCell w5 ⟨tb, 1, none⟩ (.slice (some ⟨g, 0, none⟩) (acc.length + 1) cap)
              have hlen : ((acc ++ [ledOf r.nx cl k]).length : Int) = (acc.length : Int) + 1 := by simp
              refine ⟨k + 1, _, acc ++ [ledOf r.nx cl k], by omega, by go_num, hN5.setCell (by show wb.heap.size ≤ tb; omega) _, hbr6.other _ (by show tb ≠ _; omega) _, by rw [hlen]; exact hbo6.set1 _, by simp only [size_setCell] at *; omega, ho5.within hW (by simp), ?_⟩
              show _ = _
              rw [ctrTo_succ hacc.out]; unfold ctrStep; rw [if_pos HN.out]
            case measure => simp [intOf]; omega
          · have hq : (nth cl k == (acc.length : Int)) = false := by simp [hnew]
            have hlt2 : (nth cl k).toNat < acc.length := by have := HAL.out; omega
            have hcI : nth cl k < (acc.length : Int) := by have := HAL.out; omega
            obtain ⟨A7, c7, e7, _, hrows⟩ := (hg.own (by omega)).at
            cases e7
            obtain ⟨b7, o7, rv7, rfl, hx7, hr7⟩ := hrows (nth cl k).toNat hlt2
            obtain ⟨A8, c8, rfl⟩ := hr7.form
            replace hx7 := hn3.cell hx7
            have HNEW := hid hnew
            clear hnew hrows
            go_wp2_with fail
            go_quiet (fail)
            have hn4 : New wo (w3.drewN nq) := hn3.drewN nq
            have hn34 : New w3 (w3.drewN nq) := (New.refl _).drewN nq
            have ho4 := ho3.new hn34
            have hr4 := hr7.new (hn3.trans hn34)
            have y6 := hn34.cell hx6
            have y7 := hn34.cell hx7
            have hbo4 := hbo.new hn4
            have hbr4 := hbr.new hn4
            have hg4 := hg.new hn4
            clear z0 z1 zf0 zf1 hx6 hx5 hx7 hn3 ho3 hs3 hn34 hr7
            generalize w3.drewN nq = w4 at hn4 ho4 hr4 y6 y7 hbo4 hbr4 hg4 ⊢
            obtain ⟨z0, z1, _, _⟩ := id hbo4
            have e1 := ext_cell z1
            have e2 := ext_cell y6
            have e3 := ext_cell y7
            have C : ∀ e, Calls Try.prog 129 #[.slice A8 (nth acc (nth cl k).toNat).length c8, .slice Aq (ledOf r.nx cl k).length cq] (ext w4 e) fun e' w' => e' = .returned (.bool (decide (nth acc (nth cl k).toNat = ledOf r.nx cl k))) ∧ New (ext w4 e) w' := fun e => l00Same_any _ _ _ _ _ (hr4.new (ext_new _ e)) (ho4.at.new (ext_new _ e))
            cases hq2 : decide (nth acc (nth cl k).toNat = ledOf r.nx cl k) with
            | true =>
              rw [hq2] at C
              have HSTEP := hid (show ctrTo r.nx cl (k + 1) = some acc by rw [ctrTo_succ hacc.out]; unfold ctrStep; rw [if_neg HNEW.out, if_pos (of_decide_eq_true hq2)])
              clear hq2
              go_wp2_with fail
              refine wp_region_quiet_new (by kernel_rfl) (by kernel_rfl) ?_; (repeat (go_big_quiet_step (((go_at_call 129; exact quiet_new (C _)))))); refine wpQuiet_nil ?_; intro wq hq; have hnq := new_of_ext hq; clear hq
              go_wp2
              go_roundw
              case rel => exact ⟨k + 1, _, acc, by omega, by go_num, (hn.trans hn4).trans hnq, hbr4.new hnq, hbo4.new hnq, by have := hnq.size; have := hn4.size; omega, hg4.new hnq, HSTEP⟩
              case measure => simp [intOf]; omega
            | false =>
              rw [hq2] at C
              have HNONE := hid (show ctrTo r.nx cl cl.length = none from ctrTo_none (k := k + 1) (by rw [ctrTo_succ hacc.out]; unfold ctrStep; rw [if_neg HNEW.out, if_neg (of_decide_eq_false hq2)]) _ (by omega))
              clear hq2
              go_wp2_with fail
              refine wp_region_quiet_new (by kernel_rfl) (by kernel_rfl) ?_; (repeat (go_big_quiet_step (((go_at_call 129; exact quiet_new (C _)))))); refine wpQuiet_nil ?_; intro wq hq; have hnq := new_of_ext hq; clear hq
              obtain ⟨x0, x1, x2, x3⟩ := hbr4.new hnq
              go_wp2_with fail
              obtain ⟨g0, g1, _, _⟩ := (hbr4.new hnq).fill (.int .i64 0) (.slice none 0 0)
              exact bodyPost_ret (v := .tuple #[.agg #[.int .i64 0, .slice none 0 0], .int .i64 4]) (by simp [results, Try.results55, go_sem, g0, g1]) rfl (KEY.out _ (hnb.trans ((hn.trans hn4).trans hnq)) HNONE.out)
        · have e : k = cl.length := by omega
          have hal2 := (HLE.out k acc hacc.out).1
          have HEE := hid (show R = (⟨(acc.length : Int), acc⟩, 0) by
            rw [HE.out]; unfold ctrOut; rw [← e, hacc.out])
          obtain ⟨z0', z1', _, _⟩ := id hbo
          obtain ⟨x0, x1, x2, x3⟩ := id hbr
          have hk9 : acc.length ≤ 1099511627776 := by have := F1.out; omega
          have HOWN := hid (hg.own hk9)
          have hlt' : ¬ (k : Int) < (cl.length : Int) := by omega
          clear e
          go_wp2_with fail
          obtain ⟨g0, g1, _, _⟩ := hbr.fill (.int .i64 acc.length) (.slice Av acc.length cv)
          refine bodyPost_ret (v := .tuple #[.agg #[.int .i64 acc.length, .slice Av acc.length cv], .int .i64 0]) (by simp [results, Try.results55, go_sem, g0, g1]) rfl ?_
          rw [HEE.out]
          have hfin := HOWN.out.within (Within.fill wo (w.heap.size + 1) (.int .i64 acc.length) (.slice Av acc.length cv)) (Or.inr (by omega))
          exact ⟨_, rfl, New.fill (hnb.trans hn) (by omega) _ _, _, rfl, hfin.widen (by omega) (by simp)⟩

end Go.Proofs.Ytdaaglfemaoigaa
