/- The program's homing and telling words. -/
import Derived.Test.YtjchopnglcjnnaaRows
import Derived.Test.YtjchopnglcjnnaaBase
import Derived.Test.YtjchopnglcjnnaaAut
import Derived.Test.YtjchopnglcjnnaaMach
import Derived.Test.YtjchopnglcjnnaaApp
import Derived.Test.YtjchopnglcjnnaaInfo
import Derived.Test.YtjchopnglcjnnaaPlain1
import Derived.Test.YtjchopnglcjnnaaPlainRun
import Derived.Test.YtjchopnglcjnnaaPMach
import Derived.Test.YtjchopnglcjnnaaPlainOut
import Derived.Test.YtjchopnglcjnnaaI01a
import Derived.Test.YtjchopnglcjnnaaI01b
import Derived.Test.YtjchopnglcjnnaaI01c
import Derived.Test.YtjchopnglcjnnaaI06a
import Derived.Test.YtjchopnglcjnnaaI06b
import Derived.Test.YtjchopnglcjnnaaIEq
import Derived.WalkKit
import Derived.WalkSpells
import Derived.WalkLawsBesides
import Derived.Deep.QuietTactic
import Derived.Deep.OwnRows
import Derived.BigQuiet
import Derived.KernelRfl
namespace Go.Proofs.Ytjchopnglcjnnaa
open Go.RowKit

set_option maxHeartbeats 2000000 in
theorem everyPair_any (v1 v : Value) (k : Nat) (f : Bool → Int → Int → Bool) (m : Mach) (ws : List Int) (tl : Bool) (w : World) (h1 : MachAt w v1 m) (h : IntsAt w v ws) (hm : machOk m = true) (hw : letters m.aut ws) (hlen : ws.length ≤ 400)
    (hent : ∀ args w, Sem.run Try.prog (callFunc k args) w = .ok (.enter k args) w)
    (hf : ∀ b x y w, Calls Try.prog k #[.bool b, .int .i64 x, .int .i64 y] w fun e w' => e = .returned (.bool (f b x y)) ∧ w' = w)
    (hft : ∀ s t : Nat, f (decide (outsOf m s ws = outsOf m t ws)) (runOf m.nx s ws) (runOf m.nx t ws) = pairOk m ws tl s t) :
    Calls Try.prog 141 #[v1, v, .func (.func k) #[] #[]] w fun e w' => e = .returned (.bool (tellsB m ws tl)) ∧ New w w' := by
  obtain ⟨r1, r2, rfl, hr1, hr2⟩ := h1
  obtain ⟨A1, c1, rfl⟩ := hr1.form
  obtain ⟨A2, c2, rfl⟩ := hr2.form
  have h1 : MachAt w (.agg #[.int .i64 m.n, .int .i64 m.o, .slice A1 m.nx.length c1, .slice A2 m.out.length c2]) m := ⟨_, _, rfl, hr1, hr2⟩
  have hn10 := autOk_n (machOk_parts hm).1
  have en : m.aut.n = m.n := rfl
  rw [en] at hn10
  obtain ⟨n1, n2⟩ := hn10
  have HM := hid hm
  have HW := hid hw
  have HF := hid hf
  have HFT := hid hft
  have HL := hid hlen
  clear hm hw en hf hft hlen
  obtain ⟨n, hnn⟩ : ∃ n : Nat, m.n = (n : Int) := ⟨m.n.toNat, by omega⟩
  rw [hnn] at h1 ⊢
  obtain ⟨wb, hwb⟩ : ∃ wb, wb = w.alloc (.cells #[.int .i64 n, .int .i64 m.o, .slice A1 m.nx.length c1, .slice A2 m.out.length c2] 58) := ⟨_, rfl⟩
  have hnb : New w wb := by rw [hwb]; exact (by repeat (first | with_reducible exact New.refl _ | with_reducible assumption | with_reducible refine New.alloc ?_ _ | with_reducible refine New.drew ?_ | with_reducible refine New.drewN ?_ _ | with_reducible refine New.setCell ?_ (by simp <;> omega) _))
  have hz : w.heap.size + 1 = wb.heap.size := by rw [hwb]; simp only [size_alloc]
  have hb0 : wb.cell? ⟨w.heap.size, 0, none⟩ = some (.int .i64 n) := by rw [hwb]; go_simp
  have hb1 : wb.cell? ⟨w.heap.size, 1, none⟩ = some (.int .i64 m.o) := by rw [hwb]; go_simp
  have hb2 : wb.cell? ⟨w.heap.size, 2, none⟩ = some (.slice A1 m.nx.length c1) := by rw [hwb]; go_simp
  have hb3 : wb.cell? ⟨w.heap.size, 3, none⟩ = some (.slice A2 m.out.length c2) := by rw [hwb]; go_simp
  go_enter Try.func141, Try.ntmps141
  go_wp2
  rw [← hwb]
  clear hwb
  go_loopw [15] (fun i wr => ∃ s : Nat, s ≤ n ∧ i = .int .i64 s ∧ Hid (∀ s', s' < s → ∀ t, t < s' → pairOk m ws tl s' t = true) ∧ New wb wr) (fun i _ => n - (intOf i).toNat)
  case atStart => exact ⟨0, Nat.zero_le _, rfl, fun s hs => absurd hs (by omega), New.refl _⟩
  case round =>
    obtain ⟨s, hs, rfl, he, hn⟩ := hrel
    obtain ⟨wo, rfl⟩ : ∃ wo : World, wo = wr := ⟨_, rfl⟩
    by_cases hlt : s < n
    · have ks : (s : Int) < (n : Int) := by omega
      go_wp2
      go_loopw [19] (fun i wr => ∃ t : Nat, t ≤ s ∧ i = .int .i64 t ∧ Hid (∀ t', t' < t → pairOk m ws tl s t' = true) ∧ New wb wr) (fun i _ => s - (intOf i).toNat)
      case atStart => exact ⟨0, Nat.zero_le _, rfl, fun s hs => absurd hs (by omega), hn⟩
      case round =>
        obtain ⟨t, ht, rfl, he2, hn2⟩ := hrel
        by_cases hlt2 : t < s
        · have kt : (t : Int) < (s : Int) := by omega
          have C1 := hid (fun w1 (hm : New w w1) => outputs_any _ _ m s ws w1 (h1.new hm) (h.new hm) HM.out HW.out (by omega) HL.out)
          have C2 := hid (fun w1 (hm : New w w1) => outputs_any _ _ m t ws w1 (h1.new hm) (h.new hm) HM.out HW.out (by omega) HL.out)
          have y0 := hn2.cell hb0
          have y1 := hn2.cell hb1
          have y2 := hn2.cell hb2
          have y3 := hn2.cell hb3
          clear he
          have HC := hid (fun w1 => by have := HF.out (decide (outsOf m s ws = outsOf m t ws)) (runOf m.nx s ws) (runOf m.nx t ws) w1; rw [HFT.out s t] at this; exact this)
          cases hP : pairOk m ws tl s t with
          | true =>
            rw [hP] at HC
            go_wp2_with fail
            refine (C1.out _ (by repeat (first | with_reducible exact New.refl _ | with_reducible assumption | with_reducible refine New.alloc ?_ _ | with_reducible refine New.drewN ?_ _ | with_reducible refine New.drew ?_ | with_reducible refine New.trans ?_ (by with_reducible assumption)))).mono ?_
            rintro e w3 ⟨ra, rfl, hn3, ho1⟩
            replace y0 := hn3.cell y0; replace y1 := hn3.cell y1; replace y2 := hn3.cell y2; replace y3 := hn3.cell y3
            go_wp2_with fail
            refine (C2.out _ (by repeat (first | with_reducible exact New.refl _ | with_reducible assumption | with_reducible refine New.alloc ?_ _ | with_reducible refine New.drewN ?_ _ | with_reducible refine New.drew ?_ | with_reducible refine New.trans ?_ (by with_reducible assumption)))).mono ?_
            rintro e w4 ⟨rb, rfl, hn4, ho2⟩
            go_wp2_with fail
            refine (sliceEqual_any _ _ _ _ _ (ho1.new hn4).at ho2.at).mono ?_
            rintro e w5 ⟨rfl, hn5⟩
            go_wp2_with fail
            refine (HC.out _).mono ?_
            rintro e w' ⟨rfl, rfl⟩
            go_wp2
            go_roundw
            case rel => exact ⟨t + 1, by omega, by go_num, fun i hi => by
                rcases Nat.lt_succ_iff_lt_or_eq.1 hi with h | h
                · exact he2.out i h
                · subst h; exact hP, (by repeat (first | with_reducible exact New.refl _ | with_reducible assumption | with_reducible refine New.alloc ?_ _ | with_reducible refine New.drewN ?_ _ | with_reducible refine New.drew ?_ | with_reducible refine New.trans ?_ (by with_reducible assumption)))⟩
            case measure => simp [intOf]; omega
          | false =>
            rw [hP] at HC
            go_wp2_with fail
            refine (C1.out _ (by repeat (first | with_reducible exact New.refl _ | with_reducible assumption | with_reducible refine New.alloc ?_ _ | with_reducible refine New.drewN ?_ _ | with_reducible refine New.drew ?_ | with_reducible refine New.trans ?_ (by with_reducible assumption)))).mono ?_
            rintro e w3 ⟨ra, rfl, hn3, ho1⟩
            replace y0 := hn3.cell y0; replace y1 := hn3.cell y1; replace y2 := hn3.cell y2; replace y3 := hn3.cell y3
            go_wp2_with fail
            refine (C2.out _ (by repeat (first | with_reducible exact New.refl _ | with_reducible assumption | with_reducible refine New.alloc ?_ _ | with_reducible refine New.drewN ?_ _ | with_reducible refine New.drew ?_ | with_reducible refine New.trans ?_ (by with_reducible assumption)))).mono ?_
            rintro e w4 ⟨rb, rfl, hn4, ho2⟩
            go_wp2_with fail
            refine (sliceEqual_any _ _ _ _ _ (ho1.new hn4).at ho2.at).mono ?_
            rintro e w5 ⟨rfl, hn5⟩
            go_wp2_with fail
            refine (HC.out _).mono ?_
            rintro e w' ⟨rfl, rfl⟩
            go_wp2
            go_ret
            exact ⟨ret_bool (tellsB_false m ws tl s t (by omega) hlt2 hP).symm, (by repeat (first | with_reducible exact New.refl _ | with_reducible assumption | with_reducible refine New.alloc ?_ _ | with_reducible refine New.drewN ?_ _ | with_reducible refine New.drew ?_ | with_reducible refine New.trans ?_ (by with_reducible assumption)))⟩
        · have e : t = s := by omega
          subst e
          go_wp2
          go_roundw
          case rel => exact ⟨t + 1, by omega, by go_num, fun i hi => by
              rcases Nat.lt_succ_iff_lt_or_eq.1 hi with h | h
              · exact he.out i h
              · subst h; exact he2.out, hn2⟩
          case measure => simp [intOf]; omega
    · have e : s = n := by omega
      subst e
      go_wp2
      go_ret
      exact ⟨ret_bool ((tellsB_iff m ws tl).2 fun i hi => he.out i (by omega)).symm, (by repeat (first | with_reducible exact New.refl _ | with_reducible assumption | with_reducible refine New.alloc ?_ _ | with_reducible refine New.drewN ?_ _ | with_reducible refine New.drew ?_ | with_reducible refine New.trans ?_ (by with_reducible assumption)))⟩
set_option maxHeartbeats 400000 in
theorem IsHoming2_any (b : Bool) (x y : Int) (w : World) :
    Calls Try.prog 142 #[.bool b, .int .i64 x, .int .i64 y] w fun e w' => e = .returned (.bool (!b || decide (x = y))) ∧ w' = w := by
  go_enter Try.func142, Try.ntmps142
  cases b
  all_goals go_wp2
  all_goals go_ret
  all_goals exact ⟨ret_bool (by rw [Bool.eq_iff_iff]; simp), rfl⟩
set_option maxHeartbeats 400000 in
theorem IsHoming1_any (b1 b3 : Nat) (r1 r2 v3 : Value) (m : Mach) (ws : List Int) (w : World)
    (h0 : w.cell? ⟨b1, 0, none⟩ = some (.int .i64 m.n)) (h1 : w.cell? ⟨b1, 1, none⟩ = some (.int .i64 m.o)) (h2 : w.cell? ⟨b1, 2, none⟩ = some r1) (h3 : w.cell? ⟨b1, 3, none⟩ = some r2) (hr1 : RowsAt w r1 m.nx) (hr2 : RowsAt w r2 m.out)
    (h5 : w.cell? ⟨b3, 0, none⟩ = some v3) (hv : IntsAt w v3 ws) :
    Calls Try.prog 140 #[.pointer (some ⟨b1, 0, none⟩), .pointer (some ⟨b3, 0, none⟩)] w fun e w' => e = .returned (.bool (wordOk m.aut ws)) ∧ New w w' := by
  have hM : MachAt w (.agg #[.int .i64 m.n, .int .i64 m.o, r1, r2]) m := ⟨_, _, rfl, hr1, hr2⟩
  go_enter Try.func140, Try.ntmps140
  go_wp2_with (go_at_call 112; refine (MisWord_any _ _ m _ _ (hM.new (by repeat (first | with_reducible exact New.refl _ | with_reducible assumption | with_reducible refine New.alloc ?_ _ | with_reducible refine New.drewN ?_ _ | with_reducible refine New.drew ?_ | with_reducible refine New.trans ?_ (by with_reducible assumption)))) (hv.new (by repeat (first | with_reducible exact New.refl _ | with_reducible assumption | with_reducible refine New.alloc ?_ _ | with_reducible refine New.drewN ?_ _ | with_reducible refine New.drew ?_ | with_reducible refine New.trans ?_ (by with_reducible assumption))))).mono ?_; rintro e w2 ⟨rfl, hn2⟩)
  go_ret
  exact ⟨rfl, (by repeat (first | with_reducible exact New.refl _ | with_reducible assumption | with_reducible refine New.alloc ?_ _ | with_reducible refine New.drewN ?_ _ | with_reducible refine New.drew ?_ | with_reducible refine New.trans ?_ (by with_reducible assumption)))⟩
set_option maxHeartbeats 800000 in
theorem implIsHoming_any (v1 v3 : Value) (m : Mach) (ws : List Int) (w : World) (h1 : MachAt w v1 m) (h3 : IntsAt w v3 ws) :
    Calls Try.prog 58 #[v1, v3] w fun e w' => e = .returned (.tuple #[.bool (Tells m ws false).1, .int .i64 (Tells m ws false).2]) ∧ New w w' := by
  obtain ⟨r1, r2, rfl, hr1, hr2⟩ := h1
  obtain ⟨A1, c1, rfl⟩ := hr1.form
  obtain ⟨A2, c2, rfl⟩ := hr2.form
  obtain ⟨A3, c3, rfl⟩ := h3.form
  have h1 : MachAt w (.agg #[.int .i64 m.n, .int .i64 m.o, .slice A1 m.nx.length c1, .slice A2 m.out.length c2]) m := ⟨_, _, rfl, hr1, hr2⟩
  obtain ⟨wb, hwb⟩ : ∃ wb, wb = (w.alloc (.cells #[.int .i64 m.n, .int .i64 m.o, .slice A1 m.nx.length c1, .slice A2 m.out.length c2] 58)).alloc (.cells #[.slice A3 ws.length c3] 25) := ⟨_, rfl⟩
  have hnb : New w wb := by rw [hwb]; exact (by repeat (first | with_reducible exact New.refl _ | with_reducible assumption | with_reducible refine New.alloc ?_ _ | with_reducible refine New.drew ?_ | with_reducible refine New.drewN ?_ _ | with_reducible refine New.setCell ?_ (by simp <;> omega) _))
  have hz : w.heap.size + 2 = wb.heap.size := by rw [hwb]; simp only [size_alloc]
  have hb0 : wb.cell? ⟨w.heap.size, 0, none⟩ = some (.int .i64 m.n) := by rw [hwb]; go_simp
  have hb1 : wb.cell? ⟨w.heap.size, 1, none⟩ = some (.int .i64 m.o) := by rw [hwb]; go_simp
  have hb2 : wb.cell? ⟨w.heap.size, 2, none⟩ = some (.slice A1 m.nx.length c1) := by rw [hwb]; go_simp
  have hb3 : wb.cell? ⟨w.heap.size, 3, none⟩ = some (.slice A2 m.out.length c2) := by rw [hwb]; go_simp
  have hb5 : wb.cell? ⟨w.heap.size + 1, 0, none⟩ = some (.slice A3 ws.length c3) := by rw [hwb]; go_simp
  have HC : Calls Try.prog 109 #[.agg #[.int .i64 m.n, .int .i64 m.o, .slice A1 m.nx.length c1, .slice A2 m.out.length c2], .func (.func 140) #[] #[.pointer (some ⟨w.heap.size, 0, none⟩), .pointer (some ⟨w.heap.size + 1, 0, none⟩)]] wb
      fun e w' => e = .returned (.int .i64 (codeOf (machOk m) (wordOk m.aut ws))) ∧ New wb w' := by
    refine Mcode_any _ m _ _ _ _ (h1.new hnb) (enters Try.func140 (by decide) (by simp [Try.f140])) fun hm w' hw => ?_
    exact IsHoming1_any _ _ _ _ _ m ws _ (hw.cell hb0) (hw.cell hb1) (hw.cell hb2) (hw.cell hb3) (hr1.new (by repeat (first | with_reducible exact New.refl _ | with_reducible assumption | with_reducible refine New.alloc ?_ _ | with_reducible refine New.drewN ?_ _ | with_reducible refine New.drew ?_ | with_reducible refine New.trans ?_ (by with_reducible assumption)))) (hr2.new (by repeat (first | with_reducible exact New.refl _ | with_reducible assumption | with_reducible refine New.alloc ?_ _ | with_reducible refine New.drewN ?_ _ | with_reducible refine New.drew ?_ | with_reducible refine New.trans ?_ (by with_reducible assumption)))) (hw.cell hb5) (h3.new (by repeat (first | with_reducible exact New.refl _ | with_reducible assumption | with_reducible refine New.alloc ?_ _ | with_reducible refine New.drewN ?_ _ | with_reducible refine New.drew ?_ | with_reducible refine New.trans ?_ (by with_reducible assumption))))
  obtain ⟨R, hR⟩ : ∃ R, R = Tells m ws false := ⟨_, rfl⟩
  rw [← hR]
  unfold Tells at hR
  have HR := hid hR
  clear hR
  go_enter Try.func58, Try.ntmps58
  go_wp2_with fail
  rw [← hwb]
  refine HC.mono ?_
  rintro e w1 ⟨rfl, hn1⟩
  have hz1 := hn1.size
  replace hb0 := hn1.cell hb0
  replace hb1 := hn1.cell hb1
  replace hb2 := hn1.cell hb2
  replace hb3 := hn1.cell hb3
  replace hb5 := hn1.cell hb5
  clear hwb HC
  cases ha : machOk m with
  | false =>
    have e : codeOf false (wordOk m.aut ws) = 1 := rfl
    have e2 : R = (false, 1) := by rw [HR.out, ha]; rfl
    rw [e]
    go_wp2
    go_ret2
    rw [e2]
    exact ⟨rfl, (by repeat (first | with_reducible exact New.refl _ | with_reducible assumption | with_reducible refine New.alloc ?_ _ | with_reducible refine New.drewN ?_ _ | with_reducible refine New.drew ?_ | with_reducible refine New.trans ?_ (by with_reducible assumption)))⟩
  | true =>
    cases hw : wordOk m.aut ws with
    | false =>
      have e : codeOf true false = 2 := rfl
      have e2 : R = (false, 2) := by rw [HR.out, ha, hw]; rfl
      rw [e]
      go_wp2
      go_ret2
      rw [e2]
      exact ⟨rfl, (by repeat (first | with_reducible exact New.refl _ | with_reducible assumption | with_reducible refine New.alloc ?_ _ | with_reducible refine New.drewN ?_ _ | with_reducible refine New.drew ?_ | with_reducible refine New.trans ?_ (by with_reducible assumption)))⟩
    | true =>
      have e : codeOf true true = 0 := rfl
      have e2 : R = (tellsB m ws false, 0) := by rw [HR.out, ha, hw]; rfl
      rw [e]
      have HL := hid ((wordOk_iff _ _).1 hw).1
      go_wp2_with (go_at_call 141; refine (everyPair_any _ _ 142 (fun b x y => !b || decide (x = y)) m ws false _ (h1.new (by repeat (first | with_reducible exact New.refl _ | with_reducible assumption | with_reducible refine New.alloc ?_ _ | with_reducible refine New.drewN ?_ _ | with_reducible refine New.drew ?_ | with_reducible refine New.trans ?_ (by with_reducible assumption)))) (h3.new (by repeat (first | with_reducible exact New.refl _ | with_reducible assumption | with_reducible refine New.alloc ?_ _ | with_reducible refine New.drewN ?_ _ | with_reducible refine New.drew ?_ | with_reducible refine New.trans ?_ (by with_reducible assumption)))) ha (letters_of hw) HL.out (enters Try.func142 (by decide) (by simp [Try.f142])) IsHoming2_any (fun s t => by unfold pairOk; cases decide (outsOf m s ws = outsOf m t ws) <;> cases decide (runOf m.nx s ws = runOf m.nx t ws) <;> rfl)).mono ?_; rintro e w2 ⟨rfl, hn2⟩)
      go_ret2
      rw [e2]
      exact ⟨rfl, (by repeat (first | with_reducible exact New.refl _ | with_reducible assumption | with_reducible refine New.alloc ?_ _ | with_reducible refine New.drewN ?_ _ | with_reducible refine New.drew ?_ | with_reducible refine New.trans ?_ (by with_reducible assumption)))⟩
set_option maxHeartbeats 400000 in
theorem IsTelling2_any (b : Bool) (x y : Int) (w : World) :
    Calls Try.prog 144 #[.bool b, .int .i64 x, .int .i64 y] w fun e w' => e = .returned (.bool (!b)) ∧ w' = w := by
  go_enter Try.func144, Try.ntmps144
  cases b
  all_goals go_wp2
  all_goals go_ret
  all_goals exact ⟨ret_bool (by rw [Bool.eq_iff_iff]; simp), rfl⟩
set_option maxHeartbeats 400000 in
theorem IsTelling1_any (b1 b3 : Nat) (r1 r2 v3 : Value) (m : Mach) (ws : List Int) (w : World)
    (h0 : w.cell? ⟨b1, 0, none⟩ = some (.int .i64 m.n)) (h1 : w.cell? ⟨b1, 1, none⟩ = some (.int .i64 m.o)) (h2 : w.cell? ⟨b1, 2, none⟩ = some r1) (h3 : w.cell? ⟨b1, 3, none⟩ = some r2) (hr1 : RowsAt w r1 m.nx) (hr2 : RowsAt w r2 m.out)
    (h5 : w.cell? ⟨b3, 0, none⟩ = some v3) (hv : IntsAt w v3 ws) :
    Calls Try.prog 143 #[.pointer (some ⟨b1, 0, none⟩), .pointer (some ⟨b3, 0, none⟩)] w fun e w' => e = .returned (.bool (wordOk m.aut ws)) ∧ New w w' := by
  have hM : MachAt w (.agg #[.int .i64 m.n, .int .i64 m.o, r1, r2]) m := ⟨_, _, rfl, hr1, hr2⟩
  go_enter Try.func143, Try.ntmps143
  go_wp2_with (go_at_call 112; refine (MisWord_any _ _ m _ _ (hM.new (by repeat (first | with_reducible exact New.refl _ | with_reducible assumption | with_reducible refine New.alloc ?_ _ | with_reducible refine New.drewN ?_ _ | with_reducible refine New.drew ?_ | with_reducible refine New.trans ?_ (by with_reducible assumption)))) (hv.new (by repeat (first | with_reducible exact New.refl _ | with_reducible assumption | with_reducible refine New.alloc ?_ _ | with_reducible refine New.drewN ?_ _ | with_reducible refine New.drew ?_ | with_reducible refine New.trans ?_ (by with_reducible assumption))))).mono ?_; rintro e w2 ⟨rfl, hn2⟩)
  go_ret
  exact ⟨rfl, (by repeat (first | with_reducible exact New.refl _ | with_reducible assumption | with_reducible refine New.alloc ?_ _ | with_reducible refine New.drewN ?_ _ | with_reducible refine New.drew ?_ | with_reducible refine New.trans ?_ (by with_reducible assumption)))⟩
set_option maxHeartbeats 800000 in
theorem implIsTelling_any (v1 v3 : Value) (m : Mach) (ws : List Int) (w : World) (h1 : MachAt w v1 m) (h3 : IntsAt w v3 ws) :
    Calls Try.prog 60 #[v1, v3] w fun e w' => e = .returned (.tuple #[.bool (Tells m ws true).1, .int .i64 (Tells m ws true).2]) ∧ New w w' := by
  obtain ⟨r1, r2, rfl, hr1, hr2⟩ := h1
  obtain ⟨A1, c1, rfl⟩ := hr1.form
  obtain ⟨A2, c2, rfl⟩ := hr2.form
  obtain ⟨A3, c3, rfl⟩ := h3.form
  have h1 : MachAt w (.agg #[.int .i64 m.n, .int .i64 m.o, .slice A1 m.nx.length c1, .slice A2 m.out.length c2]) m := ⟨_, _, rfl, hr1, hr2⟩
  obtain ⟨wb, hwb⟩ : ∃ wb, wb = (w.alloc (.cells #[.int .i64 m.n, .int .i64 m.o, .slice A1 m.nx.length c1, .slice A2 m.out.length c2] 58)).alloc (.cells #[.slice A3 ws.length c3] 25) := ⟨_, rfl⟩
  have hnb : New w wb := by rw [hwb]; exact (by repeat (first | with_reducible exact New.refl _ | with_reducible assumption | with_reducible refine New.alloc ?_ _ | with_reducible refine New.drew ?_ | with_reducible refine New.drewN ?_ _ | with_reducible refine New.setCell ?_ (by simp <;> omega) _))
  have hz : w.heap.size + 2 = wb.heap.size := by rw [hwb]; simp only [size_alloc]
  have hb0 : wb.cell? ⟨w.heap.size, 0, none⟩ = some (.int .i64 m.n) := by rw [hwb]; go_simp
  have hb1 : wb.cell? ⟨w.heap.size, 1, none⟩ = some (.int .i64 m.o) := by rw [hwb]; go_simp
  have hb2 : wb.cell? ⟨w.heap.size, 2, none⟩ = some (.slice A1 m.nx.length c1) := by rw [hwb]; go_simp
  have hb3 : wb.cell? ⟨w.heap.size, 3, none⟩ = some (.slice A2 m.out.length c2) := by rw [hwb]; go_simp
  have hb5 : wb.cell? ⟨w.heap.size + 1, 0, none⟩ = some (.slice A3 ws.length c3) := by rw [hwb]; go_simp
  have HC : Calls Try.prog 109 #[.agg #[.int .i64 m.n, .int .i64 m.o, .slice A1 m.nx.length c1, .slice A2 m.out.length c2], .func (.func 143) #[] #[.pointer (some ⟨w.heap.size, 0, none⟩), .pointer (some ⟨w.heap.size + 1, 0, none⟩)]] wb
      fun e w' => e = .returned (.int .i64 (codeOf (machOk m) (wordOk m.aut ws))) ∧ New wb w' := by
    refine Mcode_any _ m _ _ _ _ (h1.new hnb) (enters Try.func143 (by decide) (by simp [Try.f143])) fun hm w' hw => ?_
    exact IsTelling1_any _ _ _ _ _ m ws _ (hw.cell hb0) (hw.cell hb1) (hw.cell hb2) (hw.cell hb3) (hr1.new (by repeat (first | with_reducible exact New.refl _ | with_reducible assumption | with_reducible refine New.alloc ?_ _ | with_reducible refine New.drewN ?_ _ | with_reducible refine New.drew ?_ | with_reducible refine New.trans ?_ (by with_reducible assumption)))) (hr2.new (by repeat (first | with_reducible exact New.refl _ | with_reducible assumption | with_reducible refine New.alloc ?_ _ | with_reducible refine New.drewN ?_ _ | with_reducible refine New.drew ?_ | with_reducible refine New.trans ?_ (by with_reducible assumption)))) (hw.cell hb5) (h3.new (by repeat (first | with_reducible exact New.refl _ | with_reducible assumption | with_reducible refine New.alloc ?_ _ | with_reducible refine New.drewN ?_ _ | with_reducible refine New.drew ?_ | with_reducible refine New.trans ?_ (by with_reducible assumption))))
  obtain ⟨R, hR⟩ : ∃ R, R = Tells m ws true := ⟨_, rfl⟩
  rw [← hR]
  unfold Tells at hR
  have HR := hid hR
  clear hR
  go_enter Try.func60, Try.ntmps60
  go_wp2_with fail
  rw [← hwb]
  refine HC.mono ?_
  rintro e w1 ⟨rfl, hn1⟩
  have hz1 := hn1.size
  replace hb0 := hn1.cell hb0
  replace hb1 := hn1.cell hb1
  replace hb2 := hn1.cell hb2
  replace hb3 := hn1.cell hb3
  replace hb5 := hn1.cell hb5
  clear hwb HC
  cases ha : machOk m with
  | false =>
    have e : codeOf false (wordOk m.aut ws) = 1 := rfl
    have e2 : R = (false, 1) := by rw [HR.out, ha]; rfl
    rw [e]
    go_wp2
    go_ret2
    rw [e2]
    exact ⟨rfl, (by repeat (first | with_reducible exact New.refl _ | with_reducible assumption | with_reducible refine New.alloc ?_ _ | with_reducible refine New.drewN ?_ _ | with_reducible refine New.drew ?_ | with_reducible refine New.trans ?_ (by with_reducible assumption)))⟩
  | true =>
    cases hw : wordOk m.aut ws with
    | false =>
      have e : codeOf true false = 2 := rfl
      have e2 : R = (false, 2) := by rw [HR.out, ha, hw]; rfl
      rw [e]
      go_wp2
      go_ret2
      rw [e2]
      exact ⟨rfl, (by repeat (first | with_reducible exact New.refl _ | with_reducible assumption | with_reducible refine New.alloc ?_ _ | with_reducible refine New.drewN ?_ _ | with_reducible refine New.drew ?_ | with_reducible refine New.trans ?_ (by with_reducible assumption)))⟩
    | true =>
      have e : codeOf true true = 0 := rfl
      have e2 : R = (tellsB m ws true, 0) := by rw [HR.out, ha, hw]; rfl
      rw [e]
      have HL := hid ((wordOk_iff _ _).1 hw).1
      go_wp2_with (go_at_call 141; refine (everyPair_any _ _ 144 (fun b x y => !b) m ws true _ (h1.new (by repeat (first | with_reducible exact New.refl _ | with_reducible assumption | with_reducible refine New.alloc ?_ _ | with_reducible refine New.drewN ?_ _ | with_reducible refine New.drew ?_ | with_reducible refine New.trans ?_ (by with_reducible assumption)))) (h3.new (by repeat (first | with_reducible exact New.refl _ | with_reducible assumption | with_reducible refine New.alloc ?_ _ | with_reducible refine New.drewN ?_ _ | with_reducible refine New.drew ?_ | with_reducible refine New.trans ?_ (by with_reducible assumption)))) ha (letters_of hw) HL.out (enters Try.func144 (by decide) (by simp [Try.f144])) IsTelling2_any (fun s t => by unfold pairOk; cases decide (outsOf m s ws = outsOf m t ws) <;> cases decide (runOf m.nx s ws = runOf m.nx t ws) <;> rfl)).mono ?_; rintro e w2 ⟨rfl, hn2⟩)
      go_ret2
      rw [e2]
      exact ⟨rfl, (by repeat (first | with_reducible exact New.refl _ | with_reducible assumption | with_reducible refine New.alloc ?_ _ | with_reducible refine New.drewN ?_ _ | with_reducible refine New.drew ?_ | with_reducible refine New.trans ?_ (by with_reducible assumption)))⟩

end Go.Proofs.Ytjchopnglcjnnaa
