/- The reference's homing and telling words. -/
import Derived.Test.YtjchopnglcjnnaaRows
import Derived.Test.YtjchopnglcjnnaaBase
import Derived.Test.YtjchopnglcjnnaaAut
import Derived.Test.YtjchopnglcjnnaaMach
import Derived.Test.YtjchopnglcjnnaaApp
import Derived.Test.YtjchopnglcjnnaaInfo
import Derived.Test.YtjchopnglcjnnaaPlain1
import Derived.Test.YtjchopnglcjnnaaPlainRun
import Derived.Test.YtjchopnglcjnnaaPMach
import Derived.Test.YtjchopnglcjnnaaPlainOut
import Derived.Test.YtjchopnglcjnnaaS00a
import Derived.Test.YtjchopnglcjnnaaS01a
import Derived.Test.YtjchopnglcjnnaaS06b
import Derived.Test.YtjchopnglcjnnaaS06c
import Derived.WalkKit
import Derived.WalkSpells
import Derived.WalkLawsBesides
import Derived.Deep.QuietTactic
import Derived.Deep.OwnRows
import Derived.BigQuiet
import Derived.KernelRfl
namespace Go.Proofs.Ytjchopnglcjnnaa
open Go.RowKit

set_option maxRecDepth 20000 in
set_option maxHeartbeats 2000000 in
theorem l06Tells_any (p v : Value) (m : Mach) (ws : List Int) (tl : Bool) (w : World) (hp : PMach w p m) (h : IntsAt w v ws) (hm : machOk m = true) (hw : letters m.aut ws) (hlen : ws.length ≤ 400) :
    Calls Try.prog 139 #[p, v, .bool tl] w fun e w' => e = .returned (.bool (tellsB m ws tl)) ∧ New w w' := by
  have hp' := hp
  obtain ⟨pb, r1, r2, rfl, hp0, -⟩ := hp'
  have hn10 := autOk_n (machOk_parts hm).1
  have en : m.aut.n = m.n := rfl
  rw [en] at hn10
  obtain ⟨n1, n2⟩ := hn10
  have HM := hid hm
  have HW := hid hw
  clear hm hw en
  obtain ⟨n, hnn⟩ : ∃ n : Nat, m.n = (n : Int) := ⟨m.n.toNat, by omega⟩
  rw [hnn] at hp0
  go_enter Try.func139, Try.ntmps139
  go_wp2
  go_loopw [7] (fun i wr => ∃ s : Nat, s ≤ n ∧ i = .int .i64 s ∧ Hid (∀ s', s' < s → ∀ t, t < s' → pairOk m ws tl s' t = true) ∧ New w wr) (fun i _ => n - (intOf i).toNat)
  case atStart => exact ⟨0, Nat.zero_le _, rfl, fun s hs => absurd hs (by omega), New.refl _⟩
  case round =>
    obtain ⟨s, hs, rfl, he, hn⟩ := hrel
    obtain ⟨wo, rfl⟩ : ∃ wo : World, wo = wr := ⟨_, rfl⟩
    replace hp0 := hn.cell hp0
    by_cases hlt : s < n
    · have ks : (s : Int) < (n : Int) := by omega
      go_wp2
      go_loopw [8] (fun i wr => ∃ t : Nat, t ≤ s ∧ i = .int .i64 t ∧ Hid (∀ t', t' < t → pairOk m ws tl s t' = true) ∧ New w wr) (fun i _ => s - (intOf i).toNat)
      case atStart => exact ⟨0, Nat.zero_le _, rfl, fun s hs => absurd hs (by omega), hn⟩
      case round =>
        obtain ⟨t, ht, rfl, he2, hn2⟩ := hrel
        by_cases hlt2 : t < s
        · have kt : (t : Int) < (s : Int) := by omega
          have C1 := hid (fun w1 (hm : New w w1) => l06Run_any _ _ m s ws w1 (hp.new hm) (h.new hm) HM.out HW.out (by omega) hlen)
          have C2 := hid (fun w1 (hm : New w w1) => l06Run_any _ _ m t ws w1 (hp.new hm) (h.new hm) HM.out HW.out (by omega) hlen)
          clear he
          cases hd : decide (outsOf m s ws = outsOf m t ws) with
          | false =>
            have hP : pairOk m ws tl s t = true := by unfold pairOk; rw [hd]; rfl
            have HD := hid hd
            clear hd
            go_wp2_with fail
            refine (C1.out _ (hn2.trans (New.refl _))).mono ?_
            rintro e w3 ⟨ra, rfl, hn3, ho1⟩
            go_wp2_with fail
            refine (C2.out _ (hn2.trans hn3)).mono ?_
            rintro e w4 ⟨rb, rfl, hn4, ho2⟩
            go_wp2_with fail
            refine (l00Same_any _ _ _ _ _ (ho1.new hn4).at ho2.at).mono ?_
            rw [HD.out]
            rintro e w5 ⟨rfl, hn5⟩
            go_wp2
            go_roundw
            case rel => exact ⟨t + 1, by omega, by go_num, fun i hi => by
                rcases Nat.lt_succ_iff_lt_or_eq.1 hi with h | h
                · exact he2.out i h
                · subst h; exact hP, hn2.trans (hn3.trans (hn4.trans hn5))⟩
            case measure => simp [intOf]; omega
          | true =>
            have HD := hid hd
            cases tl with
            | true =>
              have hP : pairOk m ws true s t = false := by unfold pairOk; rw [hd]; rfl
              clear hd
              go_wp2_with fail
              refine (C1.out _ (hn2.trans (New.refl _))).mono ?_
              rintro e w3 ⟨ra, rfl, hn3, ho1⟩
              go_wp2_with fail
              refine (C2.out _ (hn2.trans hn3)).mono ?_
              rintro e w4 ⟨rb, rfl, hn4, ho2⟩
              go_wp2_with fail
              refine (l00Same_any _ _ _ _ _ (ho1.new hn4).at ho2.at).mono ?_
              rw [HD.out]
              rintro e w5 ⟨rfl, hn5⟩
              go_wp2
              go_ret
              exact ⟨ret_bool (tellsB_false m ws true s t (by omega) hlt2 hP).symm, hn2.trans (hn3.trans (hn4.trans hn5))⟩
            | false =>
              by_cases hq : runOf m.nx s ws = runOf m.nx t ws
              · have hq' : (runOf m.nx s ws != runOf m.nx t ws) = false := by simp [hq]
                have hP : pairOk m ws false s t = true := by unfold pairOk; rw [hd]; simp [hq]
                clear hd hq
                go_wp2_with fail
                refine (C1.out _ (hn2.trans (New.refl _))).mono ?_
                rintro e w3 ⟨ra, rfl, hn3, ho1⟩
                go_wp2_with fail
                refine (C2.out _ (hn2.trans hn3)).mono ?_
                rintro e w4 ⟨rb, rfl, hn4, ho2⟩
                go_wp2_with fail
                refine (l00Same_any _ _ _ _ _ (ho1.new hn4).at ho2.at).mono ?_
                rw [HD.out]
                rintro e w5 ⟨rfl, hn5⟩
                go_wp2
                go_roundw
                case rel => exact ⟨t + 1, by omega, by go_num, fun i hi => by
                    rcases Nat.lt_succ_iff_lt_or_eq.1 hi with h | h
                    · exact he2.out i h
                    · subst h; exact hP, hn2.trans (hn3.trans (hn4.trans hn5))⟩
                case measure => simp [intOf]; omega
              · have hq' : (runOf m.nx s ws != runOf m.nx t ws) = true := by simp [hq]
                have hP : pairOk m ws false s t = false := by unfold pairOk; rw [hd]; simp [hq]
                clear hd hq
                go_wp2_with fail
                refine (C1.out _ (hn2.trans (New.refl _))).mono ?_
                rintro e w3 ⟨ra, rfl, hn3, ho1⟩
                go_wp2_with fail
                refine (C2.out _ (hn2.trans hn3)).mono ?_
                rintro e w4 ⟨rb, rfl, hn4, ho2⟩
                go_wp2_with fail
                refine (l00Same_any _ _ _ _ _ (ho1.new hn4).at ho2.at).mono ?_
                rw [HD.out]
                rintro e w5 ⟨rfl, hn5⟩
                go_wp2
                go_ret
                exact ⟨ret_bool (tellsB_false m ws false s t (by omega) hlt2 hP).symm, hn2.trans (hn3.trans (hn4.trans hn5))⟩
        · have e : t = s := by omega
          subst e
          go_wp2
          go_roundw
          case rel => exact ⟨t + 1, by omega, by go_num, fun i hi => by
              rcases Nat.lt_succ_iff_lt_or_eq.1 hi with h | h
              · exact he.out i h
              · subst h; exact he2.out, hn2⟩
          case measure => simp [intOf]; omega
    · have e : s = n := by omega
      subst e
      go_wp2
      go_ret
      exact ⟨ret_bool ((tellsB_iff m ws tl).2 fun i hi => he.out i (by omega)).symm, hn⟩
set_option maxHeartbeats 400000 in
theorem l06Asked_any (p v : Value) (m : Mach) (ws : List Int) (w : World) (hp : PMach w p m) (h : IntsAt w v ws) :
    Calls Try.prog 138 #[p, v] w fun e w' => e = .returned (.int .i64 (if machOk m = true then (if wordOk m.aut ws = true then 0 else 2) else 1)) ∧ New w w' := by
  go_enter Try.func138, Try.ntmps138
  go_wp2_with (first
    | (go_at_call 105; refine (l06Ok_any _ m _ hp).mono ?_; rintro e w1 ⟨rfl, hn1⟩)
    | (go_at_call 107; refine (l06Word_any _ _ m ws _ (hp.new (by repeat (first | with_reducible exact New.refl _ | with_reducible assumption | with_reducible refine New.alloc ?_ _ | with_reducible refine New.drewN ?_ _ | with_reducible refine New.drew ?_ | with_reducible refine New.trans ?_ (by with_reducible assumption)))) (h.new (by repeat (first | with_reducible exact New.refl _ | with_reducible assumption | with_reducible refine New.alloc ?_ _ | with_reducible refine New.drewN ?_ _ | with_reducible refine New.drew ?_ | with_reducible refine New.trans ?_ (by with_reducible assumption))))).mono ?_; rintro e w3 ⟨rfl, hn3⟩))
  all_goals go_ret
  all_goals exact ⟨ret_int (by simp_all), (by repeat (first | with_reducible exact New.refl _ | with_reducible assumption | with_reducible refine New.alloc ?_ _ | with_reducible refine New.drewN ?_ _ | with_reducible refine New.drew ?_ | with_reducible refine New.trans ?_ (by with_reducible assumption)))⟩
set_option maxHeartbeats 1000000 in
theorem specIsHoming_any (v1 v2 : Value) (m : Mach) (ws : List Int) (w : World) (h1 : MachAt w v1 m) (h2 : IntsAt w v2 ws) :
    Calls Try.prog 57 #[v1, v2] w fun e w' => e = .returned (.tuple #[.bool (Tells m ws false).1, .int .i64 (Tells m ws false).2]) ∧ New w w' := by
  obtain ⟨r1, r2, rfl, hr1, hr2⟩ := h1
  obtain ⟨A1, c1, rfl⟩ := hr1.form
  obtain ⟨A2, c2, rfl⟩ := hr2.form
  have hp := PMach.box hr1 hr2 58
  have hn0 : New w (w.alloc (.cells #[.int .i64 m.n, .int .i64 m.o, .slice A1 m.nx.length c1, .slice A2 m.out.length c2] 58)) := (by repeat (first | with_reducible exact New.refl _ | with_reducible assumption | with_reducible refine New.alloc ?_ _ | with_reducible refine New.drew ?_ | with_reducible refine New.drewN ?_ _ | with_reducible refine New.setCell ?_ (by simp <;> omega) _))
  obtain ⟨R, hR⟩ : ∃ R, R = Tells m ws false := ⟨_, rfl⟩
  rw [← hR]
  unfold Tells at hR
  have HR := hid hR
  clear hR
  cases hm : machOk m with
  | false =>
    go_enter Try.func57, Try.ntmps57
    go_wp2_with (go_at_call 138; refine (l06Asked_any _ _ m ws _ hp (h2.new (by repeat (first | with_reducible exact New.refl _ | with_reducible assumption | with_reducible refine New.alloc ?_ _ | with_reducible refine New.drewN ?_ _ | with_reducible refine New.drew ?_ | with_reducible refine New.trans ?_ (by with_reducible assumption))))).mono ?_; rw [hm, if_neg (by simp)]; rintro e w1 ⟨rfl, hn1⟩)
    go_ret2
    exact ⟨by rw [HR.out, hm]; rfl, (by repeat (first | with_reducible exact New.refl _ | with_reducible assumption | with_reducible refine New.alloc ?_ _ | with_reducible refine New.drewN ?_ _ | with_reducible refine New.drew ?_ | with_reducible refine New.trans ?_ (by with_reducible assumption)))⟩
  | true =>
    have HM := hid hm
    cases hw : wordOk m.aut ws with
    | false =>
      go_enter Try.func57, Try.ntmps57
      go_wp2_with (go_at_call 138; refine (l06Asked_any _ _ m ws _ hp (h2.new (by repeat (first | with_reducible exact New.refl _ | with_reducible assumption | with_reducible refine New.alloc ?_ _ | with_reducible refine New.drewN ?_ _ | with_reducible refine New.drew ?_ | with_reducible refine New.trans ?_ (by with_reducible assumption))))).mono ?_; rw [hm, if_pos rfl, hw, if_neg (by simp)]; rintro e w1 ⟨rfl, hn1⟩)
      go_ret2
      exact ⟨by rw [HR.out, hm, hw]; rfl, (by repeat (first | with_reducible exact New.refl _ | with_reducible assumption | with_reducible refine New.alloc ?_ _ | with_reducible refine New.drewN ?_ _ | with_reducible refine New.drew ?_ | with_reducible refine New.trans ?_ (by with_reducible assumption)))⟩
    | true =>
      go_enter Try.func57, Try.ntmps57
      go_wp2_with (first
        | (go_at_call 138; refine (l06Asked_any _ _ m ws _ hp (h2.new (by repeat (first | with_reducible exact New.refl _ | with_reducible assumption | with_reducible refine New.alloc ?_ _ | with_reducible refine New.drewN ?_ _ | with_reducible refine New.drew ?_ | with_reducible refine New.trans ?_ (by with_reducible assumption))))).mono ?_; rw [hm, if_pos rfl, hw, if_pos rfl]; rintro e w1 ⟨rfl, hn1⟩)
        | (go_at_call 139; refine (l06Tells_any _ _ m ws false _ (hp.new (by repeat (first | with_reducible exact New.refl _ | with_reducible assumption | with_reducible refine New.alloc ?_ _ | with_reducible refine New.drewN ?_ _ | with_reducible refine New.drew ?_ | with_reducible refine New.trans ?_ (by with_reducible assumption)))) (h2.new (by repeat (first | with_reducible exact New.refl _ | with_reducible assumption | with_reducible refine New.alloc ?_ _ | with_reducible refine New.drewN ?_ _ | with_reducible refine New.drew ?_ | with_reducible refine New.trans ?_ (by with_reducible assumption)))) HM.out (letters_of hw) ((wordOk_iff _ _).1 hw).1).mono ?_; rintro e w2 ⟨rfl, hn2⟩))
      go_ret2
      exact ⟨by rw [HR.out, hm, hw]; rfl, (by repeat (first | with_reducible exact New.refl _ | with_reducible assumption | with_reducible refine New.alloc ?_ _ | with_reducible refine New.drewN ?_ _ | with_reducible refine New.drew ?_ | with_reducible refine New.trans ?_ (by with_reducible assumption)))⟩
set_option maxHeartbeats 1000000 in
theorem specIsTelling_any (v1 v2 : Value) (m : Mach) (ws : List Int) (w : World) (h1 : MachAt w v1 m) (h2 : IntsAt w v2 ws) :
    Calls Try.prog 59 #[v1, v2] w fun e w' => e = .returned (.tuple #[.bool (Tells m ws true).1, .int .i64 (Tells m ws true).2]) ∧ New w w' := by
  obtain ⟨r1, r2, rfl, hr1, hr2⟩ := h1
  obtain ⟨A1, c1, rfl⟩ := hr1.form
  obtain ⟨A2, c2, rfl⟩ := hr2.form
  have hp := PMach.box hr1 hr2 58
  have hn0 : New w (w.alloc (.cells #[.int .i64 m.n, .int .i64 m.o, .slice A1 m.nx.length c1, .slice A2 m.out.length c2] 58)) := (by repeat (first | with_reducible exact New.refl _ | with_reducible assumption | with_reducible refine New.alloc ?_ _ | with_reducible refine New.drew ?_ | with_reducible refine New.drewN ?_ _ | with_reducible refine New.setCell ?_ (by simp <;> omega) _))
  obtain ⟨R, hR⟩ : ∃ R, R = Tells m ws true := ⟨_, rfl⟩
  rw [← hR]
  unfold Tells at hR
  have HR := hid hR
  clear hR
  cases hm : machOk m with
  | false =>
    go_enter Try.func59, Try.ntmps59
    go_wp2_with (go_at_call 138; refine (l06Asked_any _ _ m ws _ hp (h2.new (by repeat (first | with_reducible exact New.refl _ | with_reducible assumption | with_reducible refine New.alloc ?_ _ | with_reducible refine New.drewN ?_ _ | with_reducible refine New.drew ?_ | with_reducible refine New.trans ?_ (by with_reducible assumption))))).mono ?_; rw [hm, if_neg (by simp)]; rintro e w1 ⟨rfl, hn1⟩)
    go_ret2
    exact ⟨by rw [HR.out, hm]; rfl, (by repeat (first | with_reducible exact New.refl _ | with_reducible assumption | with_reducible refine New.alloc ?_ _ | with_reducible refine New.drewN ?_ _ | with_reducible refine New.drew ?_ | with_reducible refine New.trans ?_ (by with_reducible assumption)))⟩
  | true =>
    have HM := hid hm
    cases hw : wordOk m.aut ws with
    | false =>
      go_enter Try.func59, Try.ntmps59
      go_wp2_with (go_at_call 138; refine (l06Asked_any _ _ m ws _ hp (h2.new (by repeat (first | with_reducible exact New.refl _ | with_reducible assumption | with_reducible refine New.alloc ?_ _ | with_reducible refine New.drewN ?_ _ | with_reducible refine New.drew ?_ | with_reducible refine New.trans ?_ (by with_reducible assumption))))).mono ?_; rw [hm, if_pos rfl, hw, if_neg (by simp)]; rintro e w1 ⟨rfl, hn1⟩)
      go_ret2
      exact ⟨by rw [HR.out, hm, hw]; rfl, (by repeat (first | with_reducible exact New.refl _ | with_reducible assumption | with_reducible refine New.alloc ?_ _ | with_reducible refine New.drewN ?_ _ | with_reducible refine New.drew ?_ | with_reducible refine New.trans ?_ (by with_reducible assumption)))⟩
    | true =>
      go_enter Try.func59, Try.ntmps59
      go_wp2_with (first
        | (go_at_call 138; refine (l06Asked_any _ _ m ws _ hp (h2.new (by repeat (first | with_reducible exact New.refl _ | with_reducible assumption | with_reducible refine New.alloc ?_ _ | with_reducible refine New.drewN ?_ _ | with_reducible refine New.drew ?_ | with_reducible refine New.trans ?_ (by with_reducible assumption))))).mono ?_; rw [hm, if_pos rfl, hw, if_pos rfl]; rintro e w1 ⟨rfl, hn1⟩)
        | (go_at_call 139; refine (l06Tells_any _ _ m ws true _ (hp.new (by repeat (first | with_reducible exact New.refl _ | with_reducible assumption | with_reducible refine New.alloc ?_ _ | with_reducible refine New.drewN ?_ _ | with_reducible refine New.drew ?_ | with_reducible refine New.trans ?_ (by with_reducible assumption)))) (h2.new (by repeat (first | with_reducible exact New.refl _ | with_reducible assumption | with_reducible refine New.alloc ?_ _ | with_reducible refine New.drewN ?_ _ | with_reducible refine New.drew ?_ | with_reducible refine New.trans ?_ (by with_reducible assumption)))) HM.out (letters_of hw) ((wordOk_iff _ _).1 hw).1).mono ?_; rintro e w2 ⟨rfl, hn2⟩))
      go_ret2
      exact ⟨by rw [HR.out, hm, hw]; rfl, (by repeat (first | with_reducible exact New.refl _ | with_reducible assumption | with_reducible refine New.alloc ?_ _ | with_reducible refine New.drewN ?_ _ | with_reducible refine New.drew ?_ | with_reducible refine New.trans ?_ (by with_reducible assumption)))⟩

end Go.Proofs.Ytjchopnglcjnnaa
