/- The program's survey of an automaton. -/
import Derived.Test.YtoeckejcmojeaaaGreatRows
import Derived.Test.YtoeckejcmojeaaaGreatCore
import Derived.Test.YtoeckejcmojeaaaGreatInfos
import Derived.Test.YtoeckejcmojeaaaGreatPlains
import Derived.Test.YtoeckejcmojeaaaGreatQuicks
import Derived.Test.YtoeckejcmojeaaaGreatMaps
import Derived.Test.YtoeckejcmojeaaaGreatArrs
import Derived.WalkKit
import Derived.WalkSpells
import Derived.WalkLawsBesides
import Derived.Deep.QuietTactic
import Derived.Deep.OwnRows
import Derived.BigQuiet
import Derived.KernelRfl
import Derived.Carry
import Derived.Deep.WholeRow
import Derived.Deep.RegionLaw
import Derived.Deep.Cut
import Derived.Deep.RegionHeld3
namespace Go.Proofs.YtoeckejcmojeaaaGreat
open Go.RowKit

theorem info_flockS : (Tryz.prog.info? 73).map (fun i => (i.zero, i.size, i.bytes)) = some (some (.int .u64 0), 1, 8) := by kernel_rfl
/-- A block of small numbers that may be written. -/
def I16At (w : World) (b n : Nat) (F : Nat → Int) : Prop := ∀ x, x < n → w.cell? ⟨b, x, none⟩ = some (.int .i16 (F x)) ∧ w.frozen? ⟨b, x, none⟩ = false
theorem I16At.block {w w' : World} {b n : Nat} {F : Nat → Int} (h : I16At w b n F) (hb : w'.heap[b]? = w.heap[b]?) : I16At w' b n F := fun x hx =>
  ⟨by rw [World.cell?_of_block (w := w) hb]; exact (h x hx).1, by rw [World.frozen?_of_block (w := w) hb]; exact (h x hx).2⟩
theorem I16At.lt {w : World} {b n : Nat} {F : Nat → Int} (h : I16At w b n F) (hn : 0 < n) : b < w.heap.size := World.block_lt_of_cell? w _ (h 0 hn).1
theorem I16At.new {w w' : World} {b n : Nat} {F : Nat → Int} (h : I16At w b n F) (hn : New w w') (h0 : 0 < n) : I16At w' b n F := h.block (hn.block b (h.lt h0))
theorem I16At.grown {w w' : World} {b n : Nat} {F : Nat → Int} {r : Option Nat} (h : I16At w b n F) (h0 : 0 < n) (hg : w.grownBy w' r) (hr : some b ≠ r) : I16At w' b n F := h.block (hg.block b (h.lt h0) hr)
theorem I16At.set {w : World} {b n : Nat} {F : Nat → Int} (h : I16At w b n F) (x : Nat) (v : Int) : I16At (w.setCell ⟨b, x, none⟩ (.int .i16 v)) b n (fun y => if y = x then v else F y) := fun y hy => by
  by_cases e : y = x
  · subst e
    refine ⟨?_, by simpa using (h y hy).2⟩
    show _ = some (Value.int .i16 (if y = y then v else F y))
    rw [if_pos rfl]; exact World.cell?_setCell_same _ _ _ (h y hy).1
  · refine ⟨?_, by simpa using (h y hy).2⟩
    show _ = some (Value.int .i16 (if y = x then v else F y))
    rw [if_neg e, World.cell?_setCell_other]
    · exact (h y hy).1
    · intro h; injection h with _ h _; exact e (by omega)
theorem I16At.congr {w : World} {b n : Nat} {F G : Nat → Int} (h : I16At w b n F) (e : ∀ x, x < n → F x = G x) : I16At w b n G := fun x hx => by rw [← e x hx]; exact h x hx
theorem zero128 : Tryz.zeroCells181 = (List.replicate 128 (Value.int .i16 0)).toArray := by kernel_rfl
theorem I16At.made (w : World) (t : TypeId) (n : Nat) : I16At (w.alloc (.cells (List.replicate n (Value.int .i16 0)).toArray t)) w.heap.size n (fun _ => 0) := fun x hx => by
  constructor
  · unfold World.cell?
    rw [heap_alloc_new]
    simp [hx]
  · unfold World.frozen?
    rw [heap_alloc_new]
    simp
set_option maxRecDepth 20000 in
set_option maxHeartbeats 2000000 in
theorem survey_any (v : Value) (a : Aut) (w : World) (h : AutAt w v a) (ha : autOk a = true) (h7 : a.n ≤ 7) :
    Calls Tryz.prog 116 #[v] w fun e w' => e = .returned (.tuple #[.int .i64 (surveyOf a).1, .int .i64 (surveyOf a).2]) ∧ New w w' := by
  obtain ⟨rv, rfl, hr⟩ := h
  obtain ⟨A, c, rfl, hl, hc⟩ := hr
  have hn := autOk_n ha
  have hal := autOk_l ha
  have HC := hid hc
  have HR := hid (fun l hl => autOk_row ha l hl)
  obtain ⟨f, hf⟩ : ∃ f, f = full a.n := ⟨_, rfl⟩
  have hflt : f < 128 := by
    have h1 := full_lt a.n
    have h2 : 2 ^ a.n.toNat ≤ 2 ^ 7 := Nat.pow_le_pow_right (by decide) (by omega)
    rw [hf]; omega
  have HOK := hid (fun k => TOk.to ha (full a.n) (full_lt a.n) k)
  have HROW := hid (fun (t : Tour) (h : TOk a t) (i : Nat) (hi : i < t.sets.length) (k : Nat) (hk : k ≤ a.nx.length) => h.row ha i hi k hk)
  have HPRE := hid (fun (t : Tour) (h : TOk a t) (i : Nat) (hi : i < t.sets.length) (k : Nat) (hk : k ≤ a.nx.length) => tRow_pre ha h i hi k hk)
  have HS := hid (fun k => survey_sets ha h7 k)
  have HZ := hid (fun k => survey_zero ha h7 k)
  have HHIT := hid (fun k hk hk2 hs hq => survey_hit ha k hk hk2 hs hq)
  have HNONE := hid (fun k hk hs => survey_none ha k hk hs)
  have HLT := hid (fun (t : Tour) (h : TOk a t) => (show t.sets.length ≤ 128 by
    have h1 := nodup_bound _ _ h.nodup h.lt
    have h2 : 2 ^ a.n.toNat ≤ 2 ^ 7 := Nat.pow_le_pow_right (by decide) (by omega)
    omega))
  have HLT2 := hid (fun (t : Tour) (h : TOk a t) x (hx : x ∈ t.sets) => (show x < 128 by
    have h1 := h.lt x hx
    have h2 : 2 ^ a.n.toNat ≤ 2 ^ 7 := Nat.pow_le_pow_right (by decide) (by omega)
    omega))
  have HMV := hid (fun (l F : Nat) (hl : l < a.nx.length) (hF : F < 2 ^ a.n.toNat) => (show moved (nth a.nx l) F = moveB (nth a.nx l) F a.n.toNat from moved_eq _ hF (by omega)))
  rw [← hf] at HOK HS HZ HHIT HNONE
  obtain ⟨R, hR⟩ : ∃ R, R = surveyOf a := ⟨_, rfl⟩
  rw [← hR] at HHIT HNONE ⊢
  have hw1 : IntKind.u64.wrap (IntKind.u64.wrap ((2 : Int) ^ a.n.toNat) - 1) = (f : Int) := by
    have h2 : 2 ^ a.n.toNat ≤ 2 ^ 7 := Nat.pow_le_pow_right (by decide) (by omega)
    have h3 := Nat.two_pow_pos a.n.toNat
    rw [cast_pow, wrap_u64_nat _ (by omega), hf]
    unfold full
    rw [show ((2 ^ a.n.toNat : Nat) : Int) - 1 = ((2 ^ a.n.toNat - 1 : Nat) : Int) by omega]
    exact wrap_u64_nat _ (by omega)
  have HF := hid hf
  obtain ⟨N, hN⟩ : ∃ N : Nat, a.n = (N : Int) := ⟨a.n.toNat, by omega⟩
  have HN := hid hN
  have hN7 : N ≤ 7 := by omega
  have hN1 : 1 ≤ N := by omega
  clear hN
  obtain ⟨wb, hwb⟩ : ∃ wb, wb = w.alloc (.cells #[.int .i64 a.n, .slice A a.nx.length c] 31) := ⟨_, rfl⟩
  have hnb : New w wb := by rw [hwb]; exact (by repeat (first | with_reducible exact New.refl _ | with_reducible assumption | with_reducible refine New.alloc ?_ _ | with_reducible refine New.drewN ?_ _ | with_reducible refine New.drew ?_ | with_reducible refine New.trans ?_ (by with_reducible assumption)))
  have hzb : wb.heap.size = w.heap.size + 1 := by rw [hwb]; simp only [size_alloc]
  have hbx : Box2 wb w.heap.size (.int .i64 a.n) (.slice A a.nx.length c) := by rw [hwb]; exact ⟨by go_simp, by go_simp, by go_simp, by go_simp⟩
  have hst := run_storeCells_new (P := Tryz.prog) wb 181 Tryz.zeroCells181 Tryz.zeroCells181 (by kernel_rfl) rfl (by kernel_rfl)
  have hFA := I16At.made wb 181 128
  rw [← zero128, hzb] at hFA
  have hn1 : New wb (wb.alloc (.cells Tryz.zeroCells181 181)) := (by repeat (first | with_reducible exact New.refl _ | with_reducible assumption | with_reducible refine New.alloc ?_ _ | with_reducible refine New.drewN ?_ _ | with_reducible refine New.drew ?_ | with_reducible refine New.trans ?_ (by with_reducible assumption)))
  have hz1 : (wb.alloc (.cells Tryz.zeroCells181 181)).heap.size = w.heap.size + 2 := by rw [size_alloc, hzb]
  have hbx1 := hbx.new hn1
  replace hn1 := hnb.trans hn1
  rw [hwb] at hst
  simp only [size_alloc] at hst
  clear hc ha hf hR hal hnb hzb hbx
  go_enter Tryz.func116, Tryz.ntmps116
  go_wp2_with fail
  clear hst
  rw [← hwb]
  clear hwb
  generalize (wb.alloc (.cells Tryz.zeroCells181 181)) = w1 at hFA hn1 hz1 hbx1 ⊢
  go_loopw [23] (fun i wr => ∃ k : Nat, k ≤ 128 ∧ i = .int .i64 k ∧ New w wr ∧ wr.heap.size = w.heap.size + 2 ∧ Box2 wr w.heap.size (.int .i64 a.n) (.slice A a.nx.length c) ∧ I16At wr (w.heap.size + 1) 128 (fun x => if x < k then -1 else 0)) (fun i _ => 128 - (intOf i).toNat)
  case atStart => exact ⟨0, by omega, rfl, hn1, hz1, hbx1, hFA.congr (fun x _ => by simp)⟩
  case round =>
    obtain ⟨k, hk, rfl, hnk, hzk, hbk, hFk⟩ := hrel
    clear hFA hn1 hz1 hbx1
    obtain ⟨wo, rfl⟩ : ∃ wo : World, wo = wr := ⟨_, rfl⟩
    by_cases hlt : k < 128
    · obtain ⟨c1, c2⟩ := hFk k hlt
      have b1 : (k : Int) < 128 := by omega
      go_wp2_with fail
      have h2 := hFk.set k (-1)
      refine ⟨⟨k + 1, by omega, by go_num, hnk.setCell (by simp) _, by rw [size_setCell]; exact hzk, hbk.other _ (by simp) _, h2.congr (fun x hx => ?_)⟩, ?_⟩
      · by_cases e : x = k
        · rw [if_pos e, if_pos (by omega)]
        · rw [if_neg e]
          by_cases e2 : x < k
          · rw [if_pos e2, if_pos (by omega)]
          · rw [if_neg e2, if_neg (by omega)]
      · simp [intOf]; omega
    · have e : k = 128 := by omega
      subst e
      obtain ⟨c1, c2⟩ := hFk f hflt
      have h2 := hFk.set f 0
      obtain ⟨wf, hwf⟩ : ∃ wf, wf = wo.setCell ⟨w.heap.size + 1, f, none⟩ (.int .i16 0) := ⟨_, rfl⟩
      rw [← hwf] at h2
      have hbf : Box2 wf w.heap.size (.int .i64 a.n) (.slice A a.nx.length c) := by rw [hwf]; exact hbk.other _ (by simp) _
      have hnf : New w wf := by rw [hwf]; exact hnk.setCell (by simp) _
      have hzf : wf.heap.size = w.heap.size + 2 := by rw [hwf, size_setCell]; exact hzk
      have h3 : I16At wf (w.heap.size + 1) 128 (farS (tTo a.nx f 0)) := h2.congr (fun x hx => by
        have e1 := farS_nth (t := tTo a.nx f 0) (by simp [tTo_zero, tStart]) 0 (by simp [tTo_zero, tStart])
        have e2 : nth (tTo a.nx f 0).sets 0 = f := rfl
        by_cases e : x = f
        · rw [if_pos e, e, ← e2]; exact e1.symm
        · rw [if_neg e, if_pos hx, farS_not x (by simp [tTo_zero, tStart]; exact e)])
      obtain ⟨z0, z1, _⟩ := id hbf
      have hb1 : (f : Int) < 128 := by omega
      have hG0 : GrowK .u64 (w.heap.size + 2) 73 (wf.alloc (.cells #[.int .u64 f] 73)) (.slice (some ⟨wf.heap.size, 0, none⟩) 1 1) (tTo a.nx f 0).sets := GrowK.one .u64 (w.heap.size + 2) 73 wf f (by omega)
      rw [hzf] at hG0
      clear h2
      go_wp2_with fail
      rw [← hwf]
      clear hwf
      have z0a : (wf.alloc (.cells #[.int .u64 (f : Nat)] 73)).cell? ⟨w.heap.size, 0, none⟩ = some (.int .i64 a.n) := New.cell ((New.refl wf).alloc _) z0
      have hn9 : New wf (wf.alloc (.cells #[.int .u64 (f : Nat)] 73)).drew := (by repeat (first | with_reducible exact New.refl _ | with_reducible assumption | with_reducible refine New.alloc ?_ _ | with_reducible refine New.drewN ?_ _ | with_reducible refine New.drew ?_ | with_reducible refine New.trans ?_ (by with_reducible assumption)))
      have fin : New w (wf.alloc (.cells #[.int .u64 (f : Nat)] 73)).drew ∧ Box2 (wf.alloc (.cells #[.int .u64 (f : Nat)] 73)).drew w.heap.size (.int .i64 a.n) (.slice A a.nx.length c) ∧ I16At (wf.alloc (.cells #[.int .u64 (f : Nat)] 73)).drew (w.heap.size + 1) 128 (farS (tTo a.nx f 0)) ∧ GrowK .u64 (w.heap.size + 2) 73 (wf.alloc (.cells #[.int .u64 (f : Nat)] 73)).drew (.slice (some ⟨w.heap.size + 2, 0, none⟩) 1 1) (tTo a.nx f 0).sets := ⟨hnf.trans hn9, hbf.new hn9, h3.new hn9 (by omega), hG0.new ((New.refl _).drew)⟩
      go_cut [7, 8] from 10 (fun lv rk wr => rk = .int .i64 a.n ∧ New w wr ∧ Box2 wr w.heap.size (.int .i64 a.n) (.slice A a.nx.length c) ∧ I16At wr (w.heap.size + 1) 128 (farS (tTo a.nx f 0)) ∧ GrowK .u64 (w.heap.size + 2) 73 wr lv (tTo a.nx f 0).sets)
      case first =>
        go_region_law (fail)
        all_goals go_wp2_with fail
        all_goals go_meet
        all_goals exact ⟨rfl, fin⟩
      case rest =>
        obtain ⟨rfl, hn1, hb1, hF1, hG1⟩ := hcut
        clear fin hn9 hG0 h3 hnf hbf hbk hFk hnk hzf hzk z0 z1 z0a c1 c2
        go_wp2_with fail
        go_loopw [7, 8, 9] (fun lv rk i wr => ∃ k : Nat, k ≤ (tTo a.nx f k).sets.length ∧ i = .int .i64 k ∧ rk = .int .i64 (leastTo (tTo a.nx f k).sets a.n.toNat k : Nat) ∧ Hid (∀ j, j < k → smallB (nth (tTo a.nx f k).sets j) = false) ∧ New w wr ∧ Box2 wr w.heap.size (.int .i64 a.n) (.slice A a.nx.length c) ∧ I16At wr (w.heap.size + 1) 128 (farS (tTo a.nx f k)) ∧ GrowK .u64 (w.heap.size + 2) 73 wr lv (tTo a.nx f k).sets) (fun _ _ i _ => 129 - (intOf i).toNat)
        case atStart => exact ⟨0, Nat.zero_le _, rfl, by rw [leastTo_zero]; go_num, hid (fun j hj => by omega), hn1, hb1, hF1, hG1⟩
        case round =>
          obtain ⟨k, hk, rfl, rfl, hsm, hnk, hbk, hFk, hGk⟩ := hrel
          clear hn1 hb1 hF1 hG1
          obtain ⟨wo, rfl⟩ : ∃ wo : World, wo = wr := ⟨_, rfl⟩
          have hok := HOK.out k
          have hl128 := HLT.out _ hok
          obtain ⟨B1, cc1, rfl⟩ := hGk.form
          by_cases hlt : k < (tTo a.nx f k).sets.length
          · have b1 : (k : Int) < ((tTo a.nx f k).sets.length : Int) := by omega
            obtain ⟨X, hX⟩ : ∃ X, X = nth (tTo a.nx f k).sets k := ⟨_, rfl⟩
            have hXb := HS.out k X (by rw [hX]; exact nth_mem _ _ hlt)
            obtain ⟨X0, X1⟩ := hXb
            obtain ⟨gb, _, ⟨c', e'⟩, _, _, hcell, _⟩ := ownsRow_cells hGk k (by simpa using hlt)
            injection e' with e1 e2 e3
            subst e1
            have hx0 : wo.cell? ⟨gb, k, none⟩ = some (.int .u64 X) := by rw [hcell, hX, nth_eq _ _ hlt]; simp
            have HX := hid hX
            have HHK := hid (least_hit (tTo a.nx f k).sets a.n.toNat (by omega) (HS.out k) (fun _ => HZ.out k) k hlt hsm.out)
            rw [← hX] at HHK
            have hD := farS_nth hok.nodup k hlt
            rw [← hX] at hD
            have hDk := hok.wl k hlt
            obtain ⟨D, hDD⟩ : ∃ D, D = (nth (tTo a.nx f k).words k).length := ⟨_, rfl⟩
            rw [← hDD] at hD hDk
            have HD := hid hD
            clear hX hcell e2 e3 hDD hD
            go_wp2_with fail
            go_loopw [11, 12] (fun mv rv wr => ∃ (m r : Nat), mv = .int .i64 m ∧ rv = .int .u64 r ∧ m + pc r = pc X ∧ r < 128 ∧ wr = wo) (fun _ rv _ => (intOf rv).toNat)
            case atStart => exact ⟨0, X, rfl, rfl, by omega, X1, rfl⟩
            case round =>
              obtain ⟨m, r, rfl, rfl, hm, hr1, rfl⟩ := hrel
              by_cases hr0 : 0 < r
              · have hbit := small_u64 r (by omega)
                rw [show ((r : Int) - 1) = ((r - 1 : Nat) : Int) by omega, wrap_u64_nat _ (by omega), show ((r - 1 : Nat) : Int) = (r : Int) - 1 by omega] at hbit
                have hps := pc_step r hr1 hr0
                have hand := and_pred_lt r hr0
                obtain ⟨Q, hQ⟩ : ∃ Q, Q = r &&& (r - 1) := ⟨_, rfl⟩
                rw [← hQ] at hbit hps hand
                have b2 : (0 : Int) < (r : Int) := by omega
                have HPS := hid hps
                have hm10 : m ≤ 10 := by have h5 := bitsTo_len X 10; have h6 : pc X ≤ 10 := h5; omega
                have HM := hid hm
                have hbit2 : bits .and .u64 (r : Int) ((r : Int) - 1) = (Q : Int) := hbit
                clear hQ hps hm hbit
                go_wp2_with fail
                go_roundw
                case rel => exact ⟨m + 1, Q, by go_num, rfl, by have := HPS.out; have := HM.out; omega, by omega, by trivial⟩
                case measure => simp [intOf]; omega
              · have e : r = 0 := by omega
                subst e
                rw [pc_zero, Nat.add_zero] at hm
                subst hm
                obtain ⟨LT, hLT⟩ : ∃ z, z = leastTo (tTo a.nx f k).sets a.n.toNat k := ⟨_, rfl⟩
                rw [← hLT] at HHK ⊢
                obtain ⟨PX, hPX⟩ : ∃ z, z = pc X := ⟨_, rfl⟩
                rw [← hPX] at HHK ⊢
                have HLTE := hid (show leastTo (tTo a.nx f k).sets a.n.toNat (k + 1) = min LT PX by rw [leastTo_succ _ _ _ hlt, ← hLT, ← HX.out, hPX]; rfl)
                obtain ⟨M, hM⟩ : ∃ M, M = min LT PX := ⟨_, rfl⟩
                have hMi : min (LT : Int) (PX : Int) = (M : Int) := by omega
                rw [← hM] at HHK HLTE
                have HMX := hid hM
                clear hLT hPX hM
                cases hq : smallB X with
                | true =>
                  have h1 := HHK.out.1 hq
                  have hHIT := HHIT.out k hlt (by omega) hsm.out (by rw [← HX.out]; exact hq)
                  rw [← HX.out, HD.out] at hHIT
                  have hfx := (hFk X X1).1
                  rw [HD.out] at hfx
                  have hwD : IntKind.i64.wrap (D : Int) = (D : Int) := IntWalk.i64_in _ (by omega)
                  have hXi0 : (0 : Int) ≤ (X : Int) := by omega
                  have hXi1 : (X : Int) < 128 := by omega
                  have HRE := hid hHIT
                  clear hHIT hq
                  subst h1
                  by_cases hle : (LT : Int) ≤ (PX : Int)
                  · have e1 : (LT : Int) = 1 := by omega
                    go_wp2_with fail
                    go_region_held3 (fun w' => w'.cell? ⟨w.heap.size + 1, X, none⟩ = some (.int .i16 D)) (go_keep) (fail)
                    all_goals go_wp2_with fail
                    all_goals go_ret2
                    all_goals rw [HRE.out]
                    all_goals exact ⟨by simp, hnk.trans (by repeat (first | with_reducible exact New.refl _ | with_reducible assumption | with_reducible refine New.alloc ?_ _ | with_reducible refine New.drewN ?_ _ | with_reducible refine New.drew ?_ | with_reducible refine New.trans ?_ (by with_reducible assumption)))⟩
                  · have e1 : (PX : Int) = 1 := by omega
                    go_wp2_with fail
                    go_region_held3 (fun w' => w'.cell? ⟨w.heap.size + 1, X, none⟩ = some (.int .i16 D)) (go_keep) (fail)
                    all_goals go_wp2_with fail
                    all_goals go_ret2
                    all_goals rw [HRE.out]
                    all_goals exact ⟨by simp, hnk.trans (by repeat (first | with_reducible exact New.refl _ | with_reducible assumption | with_reducible refine New.alloc ?_ _ | with_reducible refine New.drewN ?_ _ | with_reducible refine New.drew ?_ | with_reducible refine New.trans ?_ (by with_reducible assumption)))⟩
                | false =>
                  have h1 := HHK.out.2 hq
                  have hsk := hid (show ∀ j, j < k + 1 → smallB (nth (tTo a.nx f k).sets j) = false from fun j hj => by
                    rcases Nat.lt_succ_iff_lt_or_eq.1 hj with q | q
                    · exact hsm.out j q
                    · subst q; rw [← HX.out]; exact hq)
                  obtain ⟨z0, z1, _⟩ := id hbk
                  obtain ⟨lt, hlv⟩ : ∃ z : Int, z = (LT : Int) := ⟨_, rfl⟩
                  obtain ⟨px, hpx⟩ : ∃ z : Int, z = (PX : Int) := ⟨_, rfl⟩
                  have HE1 := hid (show lt ≤ px → lt = (M : Int) by omega)
                  have HE2 := hid (show ¬ lt ≤ px → px = (M : Int) by omega)
                  have HNE := hid (show ¬ (M : Int) = 1 by omega)
                  rw [← hlv, ← hpx]
                  clear hq h1 hlv hpx hMi HMX
                  by_cases hle : lt ≤ px
                  · have hMb : (lt == 1) = false := by rw [HE1.out hle]; simpa using HNE.out
                    go_wp2_with fail
                    have hE := HE1.out hle
                    clear z0 z1 hle hMb
                    subst hE
                    go_loopw [7, 66] (fun lv i wr => ∃ l : Nat, l ≤ a.nx.length ∧ i = .int .i64 l ∧ New w wr ∧ Box2 wr w.heap.size (.int .i64 a.n) (.slice A a.nx.length c) ∧ I16At wr (w.heap.size + 1) 128 (farS (tRow a.nx k (tTo a.nx f k) l)) ∧ GrowK .u64 (w.heap.size + 2) 73 wr lv (tRow a.nx k (tTo a.nx f k) l).sets) (fun _ i _ => a.nx.length - (intOf i).toNat)
                    case atStart => exact ⟨0, Nat.zero_le _, rfl, hnk, hbk, by rw [tRow_zero]; exact hFk, by rw [tRow_zero]; exact hGk⟩
                    case round =>
                      obtain ⟨l, hll, rfl, hnl, hbl, hFl, hGl⟩ := hrel
                      clear hFk hGk hbk hx0
                      obtain ⟨wl, rfl⟩ : ∃ wl : World, wl = wr := ⟨_, rfl⟩
                      by_cases hltl : l < a.nx.length
                      · have b3 : (l : Int) < (a.nx.length : Int) := by omega
                        have hokl := HROW.out _ hok k hlt l hll
                        have hpre := HPRE.out _ hok k hlt l hll
                        obtain ⟨T', hT'⟩ : ∃ T', T' = tRow a.nx k (tTo a.nx f k) l := ⟨_, rfl⟩
                        rw [← hT'] at hFl hGl hokl hpre
                        have HT := hid hT'
                        have hl2 := HLT.out _ hokl
                        have hk2 : k < T'.sets.length := Nat.lt_of_lt_of_le hlt hpre.1
                        have hXT : nth T'.sets k = X := by rw [(hpre.2 k hlt).1, HX.out]
                        have hDT : farS T' X = (D : Int) := by rw [← hXT, farS_nth hokl.nodup k hk2, (hpre.2 k hlt).2 hok.lw, ← farS_nth hok.nodup k hlt, ← HX.out]; exact HD.out
                        have hXlt : X < 2 ^ a.n.toNat := by rw [← hXT]; exact hokl.lt _ (nth_mem _ _ hk2)
                        have HSUCC := hid (show tRow a.nx k (tTo a.nx f k) (l + 1) = tStep a.nx k l T' by rw [tRow_succ, ← HT.out])
                        obtain ⟨rb, ro, rv, rfl, hx, hrv⟩ := HC.out l hltl
                        obtain ⟨A3, c3, rfl, hl3, hc3⟩ := hrv
                        obtain ⟨r1, r2⟩ := HR.out l hltl
                        have HC3 := hid hc3
                        have HR2 := hid r2
                        have HMVX := hid (HMV.out l X hltl hXlt)
                        replace hx := hnl.cell hx
                        obtain ⟨_, z1, _⟩ := id hbl
                        obtain ⟨B2, cc2, rfl⟩ := hGl.form
                        have HXT := hid hXT
                        have HDT := hid hDT
                        have HOKL := hid hokl
                        have HXL := hid hXlt
                        clear hc3 r2 hT' hokl hpre hXT hDT hXlt
                        go_wp2_with fail
                        go_loopw [15, 72] (fun q i wr => ∃ s : Nat, s ≤ (nth a.nx l).length ∧ i = .int .i64 s ∧ q = .int .u64 (moveB (nth a.nx l) X s) ∧ wr = wl) (fun _ i _ => (nth a.nx l).length - (intOf i).toNat)
                        case atStart => exact ⟨0, Nat.zero_le _, rfl, rfl, rfl⟩
                        case round =>
                          obtain ⟨s, hs, rfl, rfl, rfl⟩ := hrel
                          by_cases hlts : s < (nth a.nx l).length
                          · obtain ⟨tb, to, rfl, ht⟩ := HC3.out s hlts
                            have b4 : (s : Int) < ((nth a.nx l).length : Int) := by omega
                            obtain ⟨x0, x1⟩ := HR2.out s hlts
                            have ht2 := hnl.cell ht
                            have hb := bit_u64 X s (by omega)
                            have HOR := hid (or_u64 (moveB (nth a.nx l) X s) (nth (nth a.nx l) s).toNat (moveB_lt _ _ 10 s (fun i hi _ => by have := HR2.out i (by omega); omega)) (by omega))
                            clear ht
                            cases hq : X.testBit s with
                            | true =>
                              rw [hq, if_pos rfl] at hb
                              have HQ := hid hq
                              clear hq
                              go_wp2_with fail
                              go_roundw
                              case rel => exact ⟨s + 1, by omega, by go_num, by rw [moveB_succ, if_pos HQ.out, ← HOR.out], by trivial⟩
                              case measure => simp [intOf]; omega
                            | false =>
                              rw [hq, if_neg (by simp)] at hb
                              have HQ := hid hq
                              clear hq
                              go_wp2_with fail
                              go_roundw
                              case rel => exact ⟨s + 1, by omega, by go_num, by rw [moveB_succ, if_neg (by rw [HQ.out]; simp)], by trivial⟩
                              case measure => simp [intOf]; omega
                          · have e : s = a.n.toNat := by omega
                            have b4 : ¬ (s : Int) < ((nth a.nx l).length : Int) := by omega
                            rw [show moveB (nth a.nx l) X s = moved (nth a.nx l) X by rw [HMVX.out, e]]
                            obtain ⟨Y, hY⟩ : ∃ Y, Y = moved (nth a.nx l) X := ⟨_, rfl⟩
                            rw [← hY]
                            have hY128 : Y < 128 := by
                              have h1 := HMVX.out
                              rw [hY, h1]
                              have h2 : 2 ^ a.n.toNat ≤ 2 ^ 7 := Nat.pow_le_pow_right (by decide) (by omega)
                              have h3 := moveB_lt (nth a.nx l) X a.n.toNat a.n.toNat (fun i hi _ => by have := HR2.out i (by omega); omega)
                              omega
                            obtain ⟨c1, c2⟩ := hFl Y hY128
                            obtain ⟨c3', c4⟩ := hFl X X1
                            rw [HDT.out] at c3'
                            have hYi0 : (0 : Int) ≤ (Y : Int) := by omega
                            have hYi1 : (Y : Int) < 128 := by omega
                            have hXi1 : (X : Int) < 128 := by omega
                            have HY := hid hY
                            have HYE := hid e
                            clear hY e
                            by_cases hm : Y ∈ T'.sets
                            · have hneg : ¬ farS T' Y < 0 := fun h => ((farS_neg HOKL.out.nodup Y).1 h) hm
                              have hnd : decide (farS T' Y < 0) = false := decide_eq_false hneg
                              have HS2 := hid (show tRow a.nx k (tTo a.nx f k) (l + 1) = T' by rw [HSUCC.out, tStep_has _ _ _ _ ((contains_iff _ _).2 (by rw [HXT.out, ← HY.out]; exact hm))])
                              clear hm
                              go_wp2_with fail
                              refine ⟨⟨l + 1, by omega, by go_num, hnl, hbl, by rw [HS2.out]; exact hFl, by rw [HS2.out]; exact hGl⟩, ?_⟩
                              simp [intOf]; omega
                            · have hneg : farS T' Y < 0 := (farS_neg HOKL.out.nodup Y).2 hm
                              have hnd : decide (farS T' Y < 0) = true := decide_eq_true hneg
                              have HS2 := hid (show tRow a.nx k (tTo a.nx f k) (l + 1) = ⟨T'.sets ++ [Y], T'.words ++ [nth T'.words k ++ [(l : Int)]], T'.before ++ [(k : Int)], T'.letters ++ [(l : Int)]⟩ by
                                rw [HSUCC.out, tStep_new _ _ _ _ (by rw [HXT.out, ← HY.out]; cases hq : T'.sets.contains Y with
                                  | false => rfl
                                  | true => exact absurd ((contains_iff _ _).1 hq) hm), HXT.out, ← HY.out])
                              have hwd : IntKind.i16.wrap ((D : Int) + 1) = (D : Int) + 1 := IntWalk.i16_in _ (by omega)
                              have hset := hFl.set Y ((D : Int) + 1)
                              have hDl : ((nth T'.words k).length : Int) = (D : Int) := by rw [← farS_nth HOKL.out.nodup k hk2, HXT.out]; exact HDT.out
                              have hput : ∀ x, (if x = Y then ((D : Int) + 1) else farS T' x) = farS ⟨T'.sets ++ [Y], T'.words ++ [nth T'.words k ++ [(l : Int)]], T'.before ++ [(k : Int)], T'.letters ++ [(l : Int)]⟩ x := fun x => by
                                rw [farS_put HOKL.out.nodup HOKL.out.lw Y hm (nth T'.words k ++ [(l : Int)]) _ _ x, List.length_append]
                                by_cases e : x = Y
                                · rw [if_pos e, if_pos e]; simp only [List.length_cons, List.length_nil]; omega
                                · rw [if_neg e, if_neg e]
                              have hFs := hset.congr (fun x _ => hput x)
                              obtain ⟨ws, hws⟩ : ∃ ws, ws = wr.setCell ⟨w.heap.size + 1, Y, none⟩ (.int .i16 ((D : Int) + 1)) := ⟨_, rfl⟩
                              rw [← hws] at hFs
                              have hzs : ws.heap.size = wr.heap.size := by rw [hws, size_setCell]
                              have hns : New w ws := by rw [hws]; exact hnl.setCell (by simp) _
                              have hbs : Box2 ws w.heap.size (.int .i64 a.n) (.slice (some ⟨rb, ro, none⟩) a.nx.length c) := by rw [hws]; exact hbl.other _ (by simp) _
                              have hblk := hGl.block
                              have hGs : GrowK .u64 (w.heap.size + 2) 73 ws (.slice B2 T'.sets.length cc2) T'.sets := by
                                rw [hws]
                                exact ownsRow_grown hGl (grown_setCell _ _ _) (by
                                  cases hb : (Value.slice B2 T'.sets.length cc2).ownBlock with
                                  | none => exact Or.inr rfl
                                  | some q => exact Or.inl (by have := (hblk q hb).1; simp; omega))
                              have hTl : T'.sets.length < 1099511627776 := by omega
                              have hB : w.heap.size + 2 ≤ ws.heap.size := by
                                have := hFl.lt (by omega)
                                obtain ⟨q, hq1, hq2⟩ : ∃ q, w.heap.size + 2 ≤ q ∧ q < wr.heap.size := by
                                  obtain ⟨gb2, hgb2, _⟩ := ownsRow_cells hGl k (by simpa using hk2)
                                  exact ⟨gb2, hblk gb2 hgb2⟩
                                omega
                              clear hm hneg hset hput hDl
                              go_wp2_with (at_builtin; rw [← hws]; refine wpList_appV (w1 := ws) rfl _ _ _ rfl (B := w.heap.size + 2) Tryz.underlying84 info_flockS rfl (by decide) rfl (.slice B2 T'.sets.length cc2) T'.sets.length _ rfl hGs (by rw [hzs]; rfl) hTl hB ?_; intro g4 cap4 w12 ho12 hg12 hloc12)
                              have hbks := hGs.block
                              have hz0 := hbs.lt
                              refine ⟨⟨l + 1, by omega, by go_num, New.grown hns hg12 (fun q hq => by have := (hbks q hq).1; omega), hbs.grown hg12 (fun q hq => by have := (hbks q hq).1; omega), by rw [HS2.out]; exact hFs.grown (by omega) hg12 (fun hq => by have := (hbks _ hq.symm).1; omega), by rw [HS2.out]; simpa [GrowK] using ho12⟩, ?_⟩
                              simp [intOf]; omega
                      · have e : l = a.nx.length := by omega
                        subst e
                        have b3 : ¬ (a.nx.length : Int) < (a.nx.length : Int) := by omega
                        have HT := hid (show tTo a.nx f (k + 1) = tRow a.nx k (tTo a.nx f k) a.nx.length by rw [tTo_succ, if_pos hlt])
                        have HPR := hid (HPRE.out _ hok k hlt a.nx.length (Nat.le_refl _))
                        have HLE2 := hid (show leastTo (tTo a.nx f (k + 1)).sets a.n.toNat (k + 1) = M by rw [HT.out, leastTo_pre _ _ (by omega) HPR.out.1 (fun j hj => (HPR.out.2 j hj).1)]; exact HLTE.out)
                        go_wp2_with fail
                        refine ⟨⟨k + 1, by rw [HT.out]; have := HPR.out.1; omega, by go_num, by rw [HLE2.out], hid (fun j hj => by rw [HT.out, (HPR.out.2 j (by omega)).1]; exact hsk.out j hj), hnl, hbl, by rw [HT.out]; exact hFl, by rw [HT.out]; exact hGl⟩, ?_⟩
                        simp [intOf]; omega
                  · have hMb : (px == 1) = false := by rw [HE2.out hle]; simpa using HNE.out
                    go_wp2_with fail
                    have hE := HE2.out hle
                    clear z0 z1 hle hMb
                    subst hE
                    go_loopw [7, 66] (fun lv i wr => ∃ l : Nat, l ≤ a.nx.length ∧ i = .int .i64 l ∧ New w wr ∧ Box2 wr w.heap.size (.int .i64 a.n) (.slice A a.nx.length c) ∧ I16At wr (w.heap.size + 1) 128 (farS (tRow a.nx k (tTo a.nx f k) l)) ∧ GrowK .u64 (w.heap.size + 2) 73 wr lv (tRow a.nx k (tTo a.nx f k) l).sets) (fun _ i _ => a.nx.length - (intOf i).toNat)
                    case atStart => exact ⟨0, Nat.zero_le _, rfl, hnk, hbk, by rw [tRow_zero]; exact hFk, by rw [tRow_zero]; exact hGk⟩
                    case round =>
                      obtain ⟨l, hll, rfl, hnl, hbl, hFl, hGl⟩ := hrel
                      clear hFk hGk hbk hx0
                      obtain ⟨wl, rfl⟩ : ∃ wl : World, wl = wr := ⟨_, rfl⟩
                      by_cases hltl : l < a.nx.length
                      · have b3 : (l : Int) < (a.nx.length : Int) := by omega
                        have hokl := HROW.out _ hok k hlt l hll
                        have hpre := HPRE.out _ hok k hlt l hll
                        obtain ⟨T', hT'⟩ : ∃ T', T' = tRow a.nx k (tTo a.nx f k) l := ⟨_, rfl⟩
                        rw [← hT'] at hFl hGl hokl hpre
                        have HT := hid hT'
                        have hl2 := HLT.out _ hokl
                        have hk2 : k < T'.sets.length := Nat.lt_of_lt_of_le hlt hpre.1
                        have hXT : nth T'.sets k = X := by rw [(hpre.2 k hlt).1, HX.out]
                        have hDT : farS T' X = (D : Int) := by rw [← hXT, farS_nth hokl.nodup k hk2, (hpre.2 k hlt).2 hok.lw, ← farS_nth hok.nodup k hlt, ← HX.out]; exact HD.out
                        have hXlt : X < 2 ^ a.n.toNat := by rw [← hXT]; exact hokl.lt _ (nth_mem _ _ hk2)
                        have HSUCC := hid (show tRow a.nx k (tTo a.nx f k) (l + 1) = tStep a.nx k l T' by rw [tRow_succ, ← HT.out])
                        obtain ⟨rb, ro, rv, rfl, hx, hrv⟩ := HC.out l hltl
                        obtain ⟨A3, c3, rfl, hl3, hc3⟩ := hrv
                        obtain ⟨r1, r2⟩ := HR.out l hltl
                        have HC3 := hid hc3
                        have HR2 := hid r2
                        have HMVX := hid (HMV.out l X hltl hXlt)
                        replace hx := hnl.cell hx
                        obtain ⟨_, z1, _⟩ := id hbl
                        obtain ⟨B2, cc2, rfl⟩ := hGl.form
                        have HXT := hid hXT
                        have HDT := hid hDT
                        have HOKL := hid hokl
                        have HXL := hid hXlt
                        clear hc3 r2 hT' hokl hpre hXT hDT hXlt
                        go_wp2_with fail
                        go_loopw [15, 72] (fun q i wr => ∃ s : Nat, s ≤ (nth a.nx l).length ∧ i = .int .i64 s ∧ q = .int .u64 (moveB (nth a.nx l) X s) ∧ wr = wl) (fun _ i _ => (nth a.nx l).length - (intOf i).toNat)
                        case atStart => exact ⟨0, Nat.zero_le _, rfl, rfl, rfl⟩
                        case round =>
                          obtain ⟨s, hs, rfl, rfl, rfl⟩ := hrel
                          by_cases hlts : s < (nth a.nx l).length
                          · obtain ⟨tb, to, rfl, ht⟩ := HC3.out s hlts
                            have b4 : (s : Int) < ((nth a.nx l).length : Int) := by omega
                            obtain ⟨x0, x1⟩ := HR2.out s hlts
                            have ht2 := hnl.cell ht
                            have hb := bit_u64 X s (by omega)
                            have HOR := hid (or_u64 (moveB (nth a.nx l) X s) (nth (nth a.nx l) s).toNat (moveB_lt _ _ 10 s (fun i hi _ => by have := HR2.out i (by omega); omega)) (by omega))
                            clear ht
                            cases hq : X.testBit s with
                            | true =>
                              rw [hq, if_pos rfl] at hb
                              have HQ := hid hq
                              clear hq
                              go_wp2_with fail
                              go_roundw
                              case rel => exact ⟨s + 1, by omega, by go_num, by rw [moveB_succ, if_pos HQ.out, ← HOR.out], by trivial⟩
                              case measure => simp [intOf]; omega
                            | false =>
                              rw [hq, if_neg (by simp)] at hb
                              have HQ := hid hq
                              clear hq
                              go_wp2_with fail
                              go_roundw
                              case rel => exact ⟨s + 1, by omega, by go_num, by rw [moveB_succ, if_neg (by rw [HQ.out]; simp)], by trivial⟩
                              case measure => simp [intOf]; omega
                          · have e : s = a.n.toNat := by omega
                            have b4 : ¬ (s : Int) < ((nth a.nx l).length : Int) := by omega
                            rw [show moveB (nth a.nx l) X s = moved (nth a.nx l) X by rw [HMVX.out, e]]
                            obtain ⟨Y, hY⟩ : ∃ Y, Y = moved (nth a.nx l) X := ⟨_, rfl⟩
                            rw [← hY]
                            have hY128 : Y < 128 := by
                              have h1 := HMVX.out
                              rw [hY, h1]
                              have h2 : 2 ^ a.n.toNat ≤ 2 ^ 7 := Nat.pow_le_pow_right (by decide) (by omega)
                              have h3 := moveB_lt (nth a.nx l) X a.n.toNat a.n.toNat (fun i hi _ => by have := HR2.out i (by omega); omega)
                              omega
                            obtain ⟨c1, c2⟩ := hFl Y hY128
                            obtain ⟨c3', c4⟩ := hFl X X1
                            rw [HDT.out] at c3'
                            have hYi0 : (0 : Int) ≤ (Y : Int) := by omega
                            have hYi1 : (Y : Int) < 128 := by omega
                            have hXi1 : (X : Int) < 128 := by omega
                            have HY := hid hY
                            have HYE := hid e
                            clear hY e
                            by_cases hm : Y ∈ T'.sets
                            · have hneg : ¬ farS T' Y < 0 := fun h => ((farS_neg HOKL.out.nodup Y).1 h) hm
                              have hnd : decide (farS T' Y < 0) = false := decide_eq_false hneg
                              have HS2 := hid (show tRow a.nx k (tTo a.nx f k) (l + 1) = T' by rw [HSUCC.out, tStep_has _ _ _ _ ((contains_iff _ _).2 (by rw [HXT.out, ← HY.out]; exact hm))])
                              clear hm
                              go_wp2_with fail
                              refine ⟨⟨l + 1, by omega, by go_num, hnl, hbl, by rw [HS2.out]; exact hFl, by rw [HS2.out]; exact hGl⟩, ?_⟩
                              simp [intOf]; omega
                            · have hneg : farS T' Y < 0 := (farS_neg HOKL.out.nodup Y).2 hm
                              have hnd : decide (farS T' Y < 0) = true := decide_eq_true hneg
                              have HS2 := hid (show tRow a.nx k (tTo a.nx f k) (l + 1) = ⟨T'.sets ++ [Y], T'.words ++ [nth T'.words k ++ [(l : Int)]], T'.before ++ [(k : Int)], T'.letters ++ [(l : Int)]⟩ by
                                rw [HSUCC.out, tStep_new _ _ _ _ (by rw [HXT.out, ← HY.out]; cases hq : T'.sets.contains Y with
                                  | false => rfl
                                  | true => exact absurd ((contains_iff _ _).1 hq) hm), HXT.out, ← HY.out])
                              have hwd : IntKind.i16.wrap ((D : Int) + 1) = (D : Int) + 1 := IntWalk.i16_in _ (by omega)
                              have hset := hFl.set Y ((D : Int) + 1)
                              have hDl : ((nth T'.words k).length : Int) = (D : Int) := by rw [← farS_nth HOKL.out.nodup k hk2, HXT.out]; exact HDT.out
                              have hput : ∀ x, (if x = Y then ((D : Int) + 1) else farS T' x) = farS ⟨T'.sets ++ [Y], T'.words ++ [nth T'.words k ++ [(l : Int)]], T'.before ++ [(k : Int)], T'.letters ++ [(l : Int)]⟩ x := fun x => by
                                rw [farS_put HOKL.out.nodup HOKL.out.lw Y hm (nth T'.words k ++ [(l : Int)]) _ _ x, List.length_append]
                                by_cases e : x = Y
                                · rw [if_pos e, if_pos e]; simp only [List.length_cons, List.length_nil]; omega
                                · rw [if_neg e, if_neg e]
                              have hFs := hset.congr (fun x _ => hput x)
                              obtain ⟨ws, hws⟩ : ∃ ws, ws = wr.setCell ⟨w.heap.size + 1, Y, none⟩ (.int .i16 ((D : Int) + 1)) := ⟨_, rfl⟩
                              rw [← hws] at hFs
                              have hzs : ws.heap.size = wr.heap.size := by rw [hws, size_setCell]
                              have hns : New w ws := by rw [hws]; exact hnl.setCell (by simp) _
                              have hbs : Box2 ws w.heap.size (.int .i64 a.n) (.slice (some ⟨rb, ro, none⟩) a.nx.length c) := by rw [hws]; exact hbl.other _ (by simp) _
                              have hblk := hGl.block
                              have hGs : GrowK .u64 (w.heap.size + 2) 73 ws (.slice B2 T'.sets.length cc2) T'.sets := by
                                rw [hws]
                                exact ownsRow_grown hGl (grown_setCell _ _ _) (by
                                  cases hb : (Value.slice B2 T'.sets.length cc2).ownBlock with
                                  | none => exact Or.inr rfl
                                  | some q => exact Or.inl (by have := (hblk q hb).1; simp; omega))
                              have hTl : T'.sets.length < 1099511627776 := by omega
                              have hB : w.heap.size + 2 ≤ ws.heap.size := by
                                have := hFl.lt (by omega)
                                obtain ⟨q, hq1, hq2⟩ : ∃ q, w.heap.size + 2 ≤ q ∧ q < wr.heap.size := by
                                  obtain ⟨gb2, hgb2, _⟩ := ownsRow_cells hGl k (by simpa using hk2)
                                  exact ⟨gb2, hblk gb2 hgb2⟩
                                omega
                              clear hm hneg hset hput hDl
                              go_wp2_with (at_builtin; rw [← hws]; refine wpList_appV (w1 := ws) rfl _ _ _ rfl (B := w.heap.size + 2) Tryz.underlying84 info_flockS rfl (by decide) rfl (.slice B2 T'.sets.length cc2) T'.sets.length _ rfl hGs (by rw [hzs]; rfl) hTl hB ?_; intro g4 cap4 w12 ho12 hg12 hloc12)
                              have hbks := hGs.block
                              have hz0 := hbs.lt
                              refine ⟨⟨l + 1, by omega, by go_num, New.grown hns hg12 (fun q hq => by have := (hbks q hq).1; omega), hbs.grown hg12 (fun q hq => by have := (hbks q hq).1; omega), by rw [HS2.out]; exact hFs.grown (by omega) hg12 (fun hq => by have := (hbks _ hq.symm).1; omega), by rw [HS2.out]; simpa [GrowK] using ho12⟩, ?_⟩
                              simp [intOf]; omega
                      · have e : l = a.nx.length := by omega
                        subst e
                        have b3 : ¬ (a.nx.length : Int) < (a.nx.length : Int) := by omega
                        have HT := hid (show tTo a.nx f (k + 1) = tRow a.nx k (tTo a.nx f k) a.nx.length by rw [tTo_succ, if_pos hlt])
                        have HPR := hid (HPRE.out _ hok k hlt a.nx.length (Nat.le_refl _))
                        have HLE2 := hid (show leastTo (tTo a.nx f (k + 1)).sets a.n.toNat (k + 1) = M by rw [HT.out, leastTo_pre _ _ (by omega) HPR.out.1 (fun j hj => (HPR.out.2 j hj).1)]; exact HLTE.out)
                        go_wp2_with fail
                        refine ⟨⟨k + 1, by rw [HT.out]; have := HPR.out.1; omega, by go_num, by rw [HLE2.out], hid (fun j hj => by rw [HT.out, (HPR.out.2 j (by omega)).1]; exact hsk.out j hj), hnl, hbl, by rw [HT.out]; exact hFl, by rw [HT.out]; exact hGl⟩, ?_⟩
                        simp [intOf]; omega
          · have e : k = (tTo a.nx f k).sets.length := by omega
            have b1 : ¬ (k : Int) < ((tTo a.nx f k).sets.length : Int) := by omega
            have HRE := hid (HNONE.out k e.symm hsm.out)
            clear e
            go_wp2_with fail
            go_ret2
            rw [HRE.out]
            exact ⟨rfl, hnk⟩

end Go.Proofs.YtoeckejcmojeaaaGreat
