/- The program's period of an automaton. -/
import Derived.Test.YtiflokfinkachaaRows
import Derived.Test.YtiflokfinkachaaCore
import Derived.Test.YtiflokfinkachaaInfo
import Derived.Test.YtiflokfinkachaaMaps
import Derived.Test.YtiflokfinkachaaPlains
import Derived.Test.YtiflokfinkachaaJoins
import Derived.Test.YtiflokfinkachaaPers
import Derived.Test.YtiflokfinkachaaIGcd
import Derived.WalkKit
import Derived.WalkSpells
import Derived.WalkLawsBesides
import Derived.Deep.QuietTactic
import Derived.Deep.OwnRows
import Derived.BigQuiet
import Derived.KernelRfl
import Derived.Carry
namespace Go.Proofs.Ytiflokfinkachaa
open Go.RowKit

/-- What the map of distances holds. -/
def farF (t : Bfs Int) : Lit → Option Value
  | .int .i64 x => if hasB t.list x = true then some (.int .i64 (farD t x : Nat)) else none
  | _ => none
theorem farF_put {t : Bfs Int} (hlw : t.words.length = t.list.length) (y : Int) (wd : List Int) (hy : y ∉ t.list) (v : Int) (hv : v = (wd.length : Nat)) (kl : Lit) : putF (farF t) (.int .i64 y) (.int .i64 v) kl = farF ⟨t.list ++ [y], t.words ++ [wd]⟩ kl := by
  unfold putF
  by_cases e : kl = .int .i64 y
  · subst e
    rw [if_pos rfl]
    simp only [farF]
    rw [if_pos ((hasB_iff _ _).2 (by simp)), farD_new hlw y wd hy, hv]
  · rw [if_neg e]
    cases kl with
    | int q x =>
      cases q with
      | i64 =>
        have hne : x ≠ y := fun h => e (by rw [h])
        simp only [farF]
        have h1 : hasB (t.list ++ [y]) x = hasB t.list x := by rw [Bool.eq_iff_iff, hasB_iff, hasB_iff]; simp [hne]
        rw [h1]
        by_cases h2 : hasB t.list x = true
        · rw [if_pos h2, if_pos h2, farD_old hlw y wd x ((hasB_iff _ _).1 h2)]
        · rw [if_neg h2, if_neg h2]
      | _ => rfl
    | _ => rfl
theorem farF_has {t : Bfs Int} {x : Int} (h : x ∈ t.list) : farF t (.int .i64 x) = some (.int .i64 (farD t x : Nat)) := by
  simp only [farF]; rw [if_pos ((hasB_iff _ _).2 h)]
theorem farF_not {t : Bfs Int} {x : Int} (h : x ∉ t.list) : farF t (.int .i64 x) = none := by
  simp only [farF]; rw [if_neg (by rw [hasB_iff]; exact h)]
theorem zero_i64f (w : World) : (zeroValue 2).run Try.prog w = .ok (.int .i64 0) w := by kernel_rfl
theorem key_i64f (x : Int) (h : 0 ≤ x ∧ x < 1000) : keyOf Try.prog 2 (.int .i64 x) = some (.int .i64 x) := Go.Maps.keyOf_int_mk Try.underlying2 (by simp [Lit.wf, IntKind.min, IntKind.max, IntKind.bits, IntKind.signed]; omega)
/-- A distance is looked up. -/
theorem far_look {w : World} {mb : Nat} {t : Bfs Int} (h : MapAt Try.prog 2 w mb t.list.length (farF t)) {x : Int} (hx : 0 ≤ x ∧ x < 1000) (hm : x ∈ t.list) :
    (Instr.lookup 193 (.map (some mb)) (.int .i64 x) false).run Try.prog w = .ok (.int .i64 (farD t x : Nat)) w ∧ (Instr.lookup 193 (.map (some mb)) (.int .i64 x) true).run Try.prog w = .ok (.tuple #[.int .i64 (farD t x : Nat), .bool true]) w := by
  have h1 := h.look (Go.Maps.int_keyed Try.underlying2) Try.underlying193 (zero_i64f w) (key_i64f x hx)
  rw [farF_has hm] at h1
  exact h1
theorem far_miss {w : World} {mb : Nat} {t : Bfs Int} (h : MapAt Try.prog 2 w mb t.list.length (farF t)) {x : Int} (hx : 0 ≤ x ∧ x < 1000) (hm : x ∉ t.list) :
    (Instr.lookup 193 (.map (some mb)) (.int .i64 x) true).run Try.prog w = .ok (.tuple #[.int .i64 0, .bool false]) w := by
  have h1 := h.look (Go.Maps.int_keyed Try.underlying2) Try.underlying193 (zero_i64f w) (key_i64f x hx)
  rw [farF_not hm] at h1
  exact h1.2
theorem far_put {w : World} {mb : Nat} {t : Bfs Int} (h : MapAt Try.prog 2 w mb t.list.length (farF t)) (hlw : t.words.length = t.list.length) {y : Int} (hy : 0 ≤ y ∧ y < 1000) (hm : y ∉ t.list) (hl : t.list.length ≤ 1000) (wd : List Int) (v : Int) (hv : v = (wd.length : Nat)) :
    ∃ w5, (Instr.mapUpdate 193 (.map (some mb)) (.int .i64 y) (.int .i64 v)).run Try.prog w = .ok () w5 ∧ MapAt Try.prog 2 w5 mb (t.list.length + 1) (farF ⟨t.list ++ [y], t.words ++ [wd]⟩) ∧ w.grownBy w5 (some mb) := by
  obtain ⟨w5, hrun, hm5, hg5⟩ := h.put_spec (val := .int .i64 v) (Go.Maps.int_keyed Try.underlying2) Try.underlying193 (by unfold maxLen; omega) (key_i64f y hy)
  rw [farF_not hm] at hm5
  exact ⟨w5, hrun, MapAt.eqF hm5 fun kl _ => farF_put hlw y wd hm v hv kl, hg5⟩
set_option maxRecDepth 20000 in
set_option maxHeartbeats 4000000 in
theorem period_any (v : Value) (a : Aut) (w : World) (h : AutAt w v a) (ha : autOk a = true) :
    Calls Try.prog 221 #[v] w fun e w' => e = .returned (.int .i64 (periodN a : Nat)) ∧ New w w' := by
  obtain ⟨rv, rfl, hr⟩ := h
  obtain ⟨A, c, rfl, hl, hc⟩ := hr
  have hn := autOk_n ha
  have hs : rcP a 0 := ⟨by omega, by omega⟩
  have HC := hid hc
  have HB := hid (fun k => rc_bok ha hs k)
  have HBD := hid (fun (t : Bfs Int) (ht : BOk (rcP a) a.nx.length t) => rc_bound ha ht)
  have HE := hid (fun k hk => rc_end ha hs k hk)
  have HR := hid (fun l hl => autOk_row ha l hl)
  have HOK := hid (fun l x y hl hx hy => rcG_ok ha l x y hl hx hy)
  have HMID := hid (fun k l hk hl T hT X Y hX hY => stepGap_mid ha k l hk hl T hT X Y hX hY)
  have HFAR := hid (fun (t : Bfs Int) (ht : BOk (rcP a) a.nx.length t) (x : Int) => rc_far ha ht x)
  have HGL := hid (fun k l => gAll_le _ 0 11 (by omega) (upTo_le (stepGap a (rcT a 0 11)) a.nx.length k l 11 (fun i m => stepGap_le ha i m)))
  have HP := hid (show periodN a = gAll 0 (upTo (stepGap a (rcT a 0 11)) a.nx.length (rcL a 0).length 0) from rfl)
  obtain ⟨PN, hPN⟩ : ∃ z, z = periodN a := ⟨_, rfl⟩
  obtain ⟨SG, hSG⟩ : ∃ z, z = stepGap a (rcT a 0 11) := ⟨_, rfl⟩
  rw [← hPN] at HP
  rw [← hPN]
  rw [← hSG] at HP HMID HGL
  clear hPN hSG
  have hal := autOk_l ha
  clear hc ha
  have hmm := @run_makeMap Try.prog
  obtain ⟨wb, hwb⟩ : ∃ wb, wb = w.alloc (.cells #[.int .i64 a.n, .slice A a.nx.length c] 40) := ⟨_, rfl⟩
  have hnb : New w wb := by rw [hwb]; exact (by repeat (first | with_reducible exact New.refl _ | with_reducible assumption | with_reducible refine New.alloc ?_ _ | with_reducible refine New.drewN ?_ _ | with_reducible refine New.drew ?_ | with_reducible refine New.trans ?_ (by with_reducible assumption)))
  have hzb : wb.heap.size = w.heap.size + 1 := by rw [hwb]; simp only [size_alloc]
  have hbx : wb.cell? ⟨w.heap.size, 1, none⟩ = some (.slice A a.nx.length c) := by rw [hwb]; go_simp
  have hM0 := MapAt.made Try.prog 2 wb
  obtain ⟨w3, hrun, hm3, hg3⟩ := hM0.put_spec (val := .int .i64 0) (Go.Maps.int_keyed Try.underlying2) Try.underlying193 (by decide) (key_i64f 0 ⟨by decide, by decide⟩)
  have hm4 : MapAt Try.prog 2 w3 wb.heap.size (rcT a 0 0).list.length (farF (rcT a 0 0)) := by
    refine MapAt.eqF hm3 fun kl _ => ?_
    have := farF_put (t := ⟨[], []⟩) rfl 0 [] (by simp) 0 rfl kl
    rw [show (farF ⟨[], []⟩) = (fun _ => none) from by funext kl; cases kl with | int q y => cases q <;> simp [farF, hasB] | _ => rfl] at this
    exact this
  have hn3 : New wb w3 := New.grown (a := wb) (w := wb.alloc (.map #[] 0)) (by repeat (first | with_reducible exact New.refl _ | with_reducible assumption | with_reducible refine New.alloc ?_ _ | with_reducible refine New.drewN ?_ _ | with_reducible refine New.drew ?_ | with_reducible refine New.trans ?_ (by with_reducible assumption))) hg3 (fun k hk => by cases hk; omega)
  have hz3 : wb.heap.size < w3.heap.size := by have := hg3.size; simp only [size_alloc] at this; omega
  have hG0 : Grow wb.heap.size 2 (w3.alloc (.cells #[.int .i64 0] 2)) (.slice (some ⟨w3.heap.size, 0, none⟩) 1 1) (rcT a 0 0).list := ownsRow_one (B := wb.heap.size) (e := 2) (w := w3) (x := .int .i64 0) (by omega)
  have hn0 : New wb (w3.alloc (.cells #[.int .i64 0] 2)) := hn3.alloc _
  have hm0 := hm4.new ((New.refl w3).alloc (.cells #[.int .i64 0] 2))
  have hob0 : (Value.slice (some ⟨w3.heap.size, 0, none⟩) 1 1).ownBlock ≠ some wb.heap.size := by simp [Value.ownBlock]; omega
  have hrun2 := hrun
  rw [hwb] at hrun2
  simp only [size_alloc] at hrun2
  clear hM0 hm3 hm4 hrun hg3
  go_enter Try.func221, Try.ntmps221
  go_wp2_with fail
  clear hrun2 hmm
  rw [← hzb]
  generalize (w3.alloc (.cells #[.int .i64 0] 2)) = w0 at hG0 hn0 hm0 ⊢
  have HZB := hid hzb
  obtain ⟨qv, hqv⟩ : ∃ q, q = Value.slice (some ⟨w3.heap.size, 0, none⟩) 1 1 := ⟨_, rfl⟩
  rw [← hqv] at hG0 hob0 ⊢
  obtain ⟨mb, hmb⟩ : ∃ mb, mb = wb.heap.size := ⟨_, rfl⟩
  rw [← hmb] at hm0 hob0 ⊢
  have hmbB : wb.heap.size ≤ mb := by omega
  clear hwb hzb hqv hn3 hz3 hmb
  go_loopw [4, 5, 6] (fun ov g i wr => ∃ k : Nat, k ≤ (rcT a 0 k).list.length ∧ i = .int .i64 k ∧ g = .int .i64 (gAll 0 (upTo SG a.nx.length k 0) : Nat) ∧ New wb wr ∧ Grow wb.heap.size 2 wr ov (rcT a 0 k).list ∧ ov.ownBlock ≠ some mb ∧ MapAt Try.prog 2 wr mb (rcT a 0 k).list.length (farF (rcT a 0 k))) (fun _ _ i _ => 11 - (intOf i).toNat)
  case atStart => exact ⟨0, Nat.zero_le _, rfl, rfl, hn0, hG0, hob0, hm0⟩
  case round =>
    obtain ⟨k, hk, rfl, rfl, hnk, hGk, hobk, hmk⟩ := hrel
    clear hn0 hG0 hm0 hob0
    obtain ⟨wo, rfl⟩ : ∃ wo : World, wo = wr := ⟨_, rfl⟩
    have hbd := HBD.out _ (HB.out k)
    obtain ⟨B1, cc1, rfl⟩ := hGk.form
    have y2 := hnk.cell hbx
    by_cases hlt : k < (rcT a 0 k).list.length
    · have b1 : (k : Int) < ((rcT a 0 k).list.length : Int) := by omega
      have hzk := hnk.size
      obtain ⟨X, hX⟩ : ∃ X, X = nth (rcT a 0 k).list k := ⟨_, rfl⟩
      have hXok := (HB.out k).ok X (by rw [hX]; exact nth_mem _ _ hlt)
      have HX := hid hX
      obtain ⟨X1, X2⟩ := hXok
      obtain ⟨gb, _, ⟨c', e'⟩, _, _, hcell, _⟩ := ownsRow_cells hGk k (by simpa using hlt)
      injection e' with e1 e2 e3
      subst e1
      have hx0 : wo.cell? ⟨gb, k, none⟩ = some (.int .i64 X) := by rw [hcell, hX, nth_eq _ _ hlt]; simp
      clear hX hcell e2 e3
      go_wp2_with fail
      go_loopw [4, 5, 29] (fun ov g i wr => ∃ l : Nat, l ≤ a.nx.length ∧ i = .int .i64 l ∧ g = .int .i64 (gAll 0 (upTo SG a.nx.length k l) : Nat) ∧ New wb wr ∧ Grow wb.heap.size 2 wr ov (bRow (rcG a.nx) k (rcT a 0 k) l).list ∧ ov.ownBlock ≠ some mb ∧ MapAt Try.prog 2 wr mb (bRow (rcG a.nx) k (rcT a 0 k) l).list.length (farF (bRow (rcG a.nx) k (rcT a 0 k) l))) (fun _ _ i _ => a.nx.length - (intOf i).toNat)
      case atStart => exact ⟨0, Nat.zero_le _, rfl, rfl, hnk, hGk, hobk, hmk⟩
      case round =>
        obtain ⟨l, hll, rfl, rfl, hNi, hGi, hobi, hmi⟩ := hrel
        clear hGk y2 hobk hmk hx0
        obtain ⟨wi, rfl⟩ : ∃ wi : World, wi = wr := ⟨_, rfl⟩
        have hpre := bRow_pre' (g := rcG a.nx) k (rcT a 0 k) l
        have hokl := BOk.row (fun l x y hl hx hy => HOK.out l x y hl hx hy) (HB.out k) k hlt l hll
        obtain ⟨T', hT'⟩ : ∃ T', T' = bRow (rcG a.nx) k (rcT a 0 k) l := ⟨_, rfl⟩
        have hbd2 := HBD.out _ hokl
        rw [← hT'] at hGi hpre hokl hbd2 hmi
        have HT := hid hT'
        have hk2 : k < T'.list.length := Nat.lt_of_lt_of_le hlt hpre.1
        have hXT : nth T'.list k = X := by rw [(hpre.2 k hlt).1, HX.out]
        have HXT := hid hXT
        have hXm : X ∈ T'.list := by rw [← hXT]; exact nth_mem _ _ hk2
        have hfX := HFAR.out _ hokl X
        have hgl := HGL.out k l
        obtain ⟨GV, hGV⟩ : ∃ z, z = gAll 0 (upTo SG a.nx.length k l) := ⟨_, rfl⟩
        rw [← hGV] at hgl ⊢
        have HGV := hid hGV
        have HLW := hid hokl.lw
        have HOKL := hid hokl
        clear hT' hpre hXT hGV
        by_cases hltl : l < a.nx.length
        · have b2 : (l : Int) < (a.nx.length : Int) := by omega
          obtain ⟨rb, ro, rv, rfl, hx, hrv⟩ := HC.out l hltl
          obtain ⟨A3, c3, rfl, hl3, hc3⟩ := hrv
          obtain ⟨r1, r2⟩ := HR.out l hltl
          obtain ⟨B2, cc2, rfl⟩ := hGi.form
          obtain ⟨tb, to, rfl, ht⟩ := hc3 X.toNat (by omega)
          obtain ⟨Y, hY⟩ : ∃ Y, Y = nth (nth a.nx l) X.toNat := ⟨_, rfl⟩
          have hYr := r2 X.toNat (by omega)
          rw [← hY] at ht hYr
          have HY := hid hY
          have g1 : X < ((nth a.nx l).length : Int) := by omega
          have HG := hid (show rcG a.nx l (nth T'.list k) = some Y by rw [HXT.out, hY]; rfl)
          have HSUCC := hid (show bRow (rcG a.nx) k (rcT a 0 k) (l + 1) = bStep (rcG a.nx) k l T' by rw [bRow_succ, ← HT.out])
          replace hx := (hnb.trans hNi).cell hx
          replace ht := (hnb.trans hNi).cell ht
          have hzi := hNi.size
          have HYR := hid (show 0 ≤ Y ∧ Y < 1000 by omega)
          have HUP := hid (show gAll 0 (upTo SG a.nx.length k (l + 1)) = Nat.gcd GV (SG k l) by rw [upTo_step, gAll_snoc, ← HGV.out])
          clear hY hc3 r2
          by_cases hm : Y ∈ T'.list
          · have HS := hid (show bRow (rcG a.nx) k (rcT a 0 k) (l + 1) = T' by rw [HSUCC.out, bStep_has _ _ _ _ Y HG.out hm])
            have HSG := hid (HMID.out k l hlt hltl T' HS.out X Y HXT.out HY.out.symm)
            have hfY := HFAR.out _ hokl Y
            obtain ⟨FX, hFX⟩ : ∃ z, z = farD T' X := ⟨_, rfl⟩
            obtain ⟨FY, hFY⟩ : ∃ z, z = farD T' Y := ⟨_, rfl⟩
            have k1 := (far_look hmi (x := X) ⟨X1, by omega⟩ hXm).1
            obtain ⟨k2, k3⟩ := far_look hmi (x := Y) HYR.out hm
            rw [← hFX] at k1 hfX HSG
            rw [← hFY] at k2 k3 hfY HSG
            have C := divisor_any (GV : Int) ((FX : Int) + 1 - (FY : Int)) wi (by omega) (by omega)
            clear hm hFX hFY hokl
            go_wp2_with (go_at_call 259; refine C.mono ?_; rintro e w1 ⟨rfl, hn1⟩)
            refine ⟨⟨l + 1, by omega, by go_num, by rw [HUP.out, HSG.out]; rfl, hNi.trans hn1, by rw [HS.out]; exact hGi.new hn1, hobi, by rw [HS.out]; exact hmi.new hn1⟩, ?_⟩
            simp [intOf]; omega
          · have HS := hid (show bRow (rcG a.nx) k (rcT a 0 k) (l + 1) = ⟨T'.list ++ [Y], T'.words ++ [nth T'.words k ++ [(l : Int)]]⟩ by rw [HSUCC.out, bStep_new _ _ _ _ Y HG.out hm])
            have HSG := hid (HMID.out k l hlt hltl _ HS.out X Y (by simp only; rw [nth_append_left _ _ _ hk2]; exact HXT.out) HY.out.symm)
            have hwl := farD_nth hokl.nodup k hk2
            rw [HXT.out] at hwl
            have e3 := farD_new (t := T') hokl.lw Y (nth T'.words k ++ [(l : Int)]) hm
            have e4 := farD_old (t := T') hokl.lw Y (nth T'.words k ++ [(l : Int)]) X hXm
            have k1 := (far_look hmi (x := X) ⟨X1, by omega⟩ hXm).1
            have k3 := far_miss hmi (x := Y) HYR.out hm
            obtain ⟨w5, hrun, hm5, hg5⟩ := far_put hmi hokl.lw (y := Y) HYR.out hm (by omega) (nth T'.words k ++ [(l : Int)]) ((farD T' X : Int) + 1) (by rw [hwl, List.length_append]; simp)
            rw [e3, e4, List.length_append, ← hwl] at HSG
            have HE3 := hid e3
            have HE4 := hid e4
            have HWL := hid hwl
            obtain ⟨FX, hFX⟩ : ∃ z, z = farD T' X := ⟨_, rfl⟩
            rw [← hFX] at k1 hfX HSG hrun HE4 HWL
            obtain ⟨T2, hT2⟩ : ∃ z : Bfs Int, z = ⟨T'.list ++ [Y], T'.words ++ [nth T'.words k ++ [(l : Int)]]⟩ := ⟨_, rfl⟩
            have hT2l : T2.list = T'.list ++ [Y] := by rw [hT2]
            rw [← hT2] at hm5 HS HE3 HE4
            have hm6 : MapAt Try.prog 2 w5 mb T2.list.length (farF T2) := by rw [hT2l, List.length_append]; exact hm5
            have HT2 := hid hT2l
            have hG5 : Grow wb.heap.size 2 w5 (.slice B2 T'.list.length cc2) T'.list := hmi.ownsRow hg5 hGi
            have hn5 : New wb w5 := New.grown hNi hg5 (fun q hq => by cases hq; exact hmbB)
            have hz5 := hn5.size
            have hmi0 := hid (Nat.lt_of_lt_of_le hmi.lt hg5.size)
            have C := fun w9 => divisor_any (GV : Int) 0 w9 (by omega) (by omega)
            have HXM := hid hXm
            clear hm hFX hT2 hT2l hokl e3 e4 hwl hm5 hXm hmi
            go_wp2_with (first
              | (at_builtin; refine wpList_appV (w1 := w5) rfl _ _ _ rfl (B := wb.heap.size) Try.underlying26 info_i64 rfl (by decide) rfl (.slice B2 T'.list.length cc2) T'.list.length _ rfl hG5 rfl (by omega) hz5 ?_; intro g4 cap4 w12 ho12 hg12 hloc12; have hm12 := hm6.kept hg12 (fun e => hobi e.symm); have q1 := (far_look hm12 (x := X) ⟨X1, by omega⟩ (by rw [HT2.out]; exact List.mem_append_left _ HXM.out)).1; have q2 := (far_look hm12 (x := Y) HYR.out (by rw [HT2.out]; simp)).1; rw [HE4.out] at q1; rw [HE3.out, List.length_append, ← HWL.out] at q2)
              | (go_at_call 259; refine (C _).mono ?_; rintro e w1 ⟨rfl, hn1⟩))
            have hG12 : Grow wb.heap.size 2 w12 (.slice (some ⟨g4, 0, none⟩) (T'.list.length + 1) cap4) (T'.list ++ [Y]) := by simpa [Grow] using ho12
            have hb5 := hG5.block
            have hn12 : New wb w12 := New.grown hn5 hg12 (fun q hq => (hb5 q hq).1)
            have hz12 := hg5.size
            refine ⟨⟨l + 1, by omega, by go_num, by rw [HUP.out, HSG.out]; congr 3 <;> (simp [gapOf]), hn12.trans hn1, by rw [HS.out, HT2.out]; exact hG12.new hn1, ?_, by rw [HS.out]; exact hm12.new hn1⟩, ?_⟩
            · intro e
              simp [Value.ownBlock] at e
              rcases hloc12 with h | h
              · rw [e] at h; exact hobi h
              · have := hmi0.out; omega
            · simp [intOf]; omega
        · have e : l = a.nx.length := by omega
          subst e
          have b2 : ¬ (a.nx.length : Int) < (a.nx.length : Int) := by omega
          have HS := hid (show rcT a 0 (k + 1) = T' by unfold rcT at hlt HT ⊢; rw [bTo_succ, if_pos hlt, HT.out])
          have HUP := hid (show gAll 0 (upTo SG a.nx.length (k + 1) 0) = GV by rw [upTo_row, HGV.out])
          obtain ⟨B2, cc2, rfl⟩ := hGi.form
          go_wp2_with fail
          refine ⟨⟨k + 1, by rw [HS.out]; exact hk2, by go_num, by rw [HUP.out], hNi, by rw [HS.out]; exact hGi, hobi, by rw [HS.out]; exact hmi⟩, ?_⟩
          simp [intOf]; omega
    · have e : k = (rcT a 0 k).list.length := by omega
      have HF := hid (HE.out k e.symm)
      have b1 : ¬ (k : Int) < ((rcT a 0 k).list.length : Int) := by omega
      have HPN := hid (show gAll 0 (upTo SG a.nx.length k 0) = PN by rw [HP.out, HF.out, ← e])
      clear e
      go_wp2_with fail
      go_ret
      rw [HPN.out]
      exact ⟨rfl, hnb.trans hnk⟩

end Go.Proofs.Ytiflokfinkachaa
