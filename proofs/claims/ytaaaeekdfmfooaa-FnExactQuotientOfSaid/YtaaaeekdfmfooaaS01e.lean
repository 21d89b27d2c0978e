/- The reference's test of congruences. -/
import Derived.Test.YtaaaeekdfmfooaaRows
import Derived.Test.YtaaaeekdfmfooaaBase
import Derived.Test.YtaaaeekdfmfooaaAut
import Derived.Test.YtaaaeekdfmfooaaPlain1
import Derived.Test.YtaaaeekdfmfooaaPlainRun
import Derived.Test.YtaaaeekdfmfooaaPlainDiv
import Derived.Test.YtaaaeekdfmfooaaS01a
import Derived.Test.YtaaaeekdfmfooaaS01d
import Derived.WalkKit
import Derived.WalkSpells
import Derived.WalkLawsBesides
import Derived.Deep.QuietTactic
import Derived.Deep.OwnRows
import Derived.BigQuiet
import Derived.KernelRfl
namespace Go.Proofs.Ytaaaeekdfmfooaa
open Go.RowKit

set_option maxRecDepth 100000 in
set_option maxHeartbeats 4000000 in
theorem l01Congruent_any (p v : Value) (a : Aut) (cl : List Int) (w : World) (hp : PAut w p a) (h : IntsAt w v cl) (ha : autOk a = true) (hd : (cl.length : Int) = a.n) :
    Calls Try.prog 117 #[p, v] w fun e w' => e = .returned (.bool (congB a.nx cl)) ∧ New w w' := by
  obtain ⟨pb, rv, rfl, hp0, hp1, hpr⟩ := hp
  obtain ⟨A2, c2, rfl, hl2, hc2⟩ := hpr
  obtain ⟨A, c, rfl, hl, hc⟩ := h
  have HA := hid ha
  have HD := hid hd
  have hn10 := (autOk_n ha).2
  have hl10 : cl.length ≤ 10 := by omega
  have hl3 : a.nx.length ≤ 3 := (autOk_l ha).2
  clear ha hd hn10
  go_enter Try.func117, Try.ntmps117
  go_wp2
  go_loopw [5] (fun i wr => ∃ s : Nat, s ≤ cl.length ∧ i = .int .i64 s ∧ Hid (∀ s', s' < s → ∀ t, t < s' → ∀ l, l < a.nx.length → congAt a.nx cl l s' t) ∧ New w wr) (fun i _ => cl.length - (intOf i).toNat)
  case atStart => exact ⟨0, Nat.zero_le _, rfl, fun s' hs' => absurd hs' (by omega), New.refl _⟩
  case round =>
    obtain ⟨s, hs, rfl, h1, hw⟩ := hrel
    by_cases hlt : s < cl.length
    · have ks : (s : Int) < (cl.length : Int) := by omega
      obtain ⟨wo, rfl⟩ : ∃ wo : World, wo = wr := ⟨_, rfl⟩
      go_wp2
      go_loopw [6] (fun i wr => ∃ t : Nat, t ≤ s ∧ i = .int .i64 t ∧ Hid (∀ t', t' < t → ∀ l, l < a.nx.length → congAt a.nx cl l s t') ∧ New w wr) (fun i _ => s - (intOf i).toNat)
      case atStart => exact ⟨0, Nat.zero_le _, rfl, fun t' ht' => absurd ht' (by omega), hw⟩
      case round =>
        clear hw
        obtain ⟨t, ht, rfl, h2, hw⟩ := hrel
        by_cases hlt2 : t < s
        · have kt : (t : Int) < (s : Int) := by omega
          have kt2 : (t : Int) < (cl.length : Int) := by omega
          obtain ⟨bs, offs, rfl, hxs⟩ := hc s hlt
          obtain ⟨bs', offs', e', hxt⟩ := hc t (by omega)
          cases e'
          obtain ⟨wi, rfl⟩ : ∃ wi : World, wi = wr := ⟨_, rfl⟩
          have HC := hid hc
          have HC2 := hid hc2
          clear hc hc2
          go_wp2
          go_loopw [7] (fun i wr => ∃ x : Nat, x ≤ a.nx.length ∧ i = .int .i64 x ∧ Hid (∀ l, l < x → congAt a.nx cl l s t) ∧ New w wr) (fun i _ => a.nx.length - (intOf i).toNat)
          case atStart => exact ⟨0, Nat.zero_le _, rfl, fun l hl => absurd hl (by omega), hw⟩
          case round =>
            clear hw
            obtain ⟨x, hx, rfl, h3, hw⟩ := hrel
            replace hxs := hw.cell hxs
            replace hxt := hw.cell hxt
            replace hp0 := hw.cell hp0
            replace hp1 := hw.cell hp1
            by_cases hlt3 : x < a.nx.length
            · have kx : decide ((x : Int) < (a.nx.length : Int)) = true := by simp; omega
              have kx' : (x : Int) < (a.nx.length : Int) := by omega
              by_cases hq : nth cl s = nth cl t
              · have hq' : (nth cl s == nth cl t) = true := by simp [hq]
                have HQ := hid hq
                clear hq
                obtain ⟨b2, off2, rv, rfl, hx2, hr⟩ := HC2.out x hlt3
                obtain ⟨A3, c3, rfl, hl3', hc3⟩ := hr
                obtain ⟨hrl, hri⟩ := autOk_row HA.out x hlt3
                have HDO := HD.out
                obtain ⟨b3, off3, rfl, hy1⟩ := hc3 s (by omega)
                obtain ⟨b3', off3', e3, hy2⟩ := hc3 t (by omega)
                cases e3
                have r1 := hri s (by omega)
                have r2 := hri t (by omega)
                obtain ⟨b4, off4, e4, hz1⟩ := HC.out (nth (nth a.nx x) s).toNat (by omega)
                cases e4
                obtain ⟨b5, off5, e5, hz2⟩ := HC.out (nth (nth a.nx x) t).toNat (by omega)
                cases e5
                have q1 : 0 ≤ nth (nth a.nx x) s := r1.1
                have q2 : nth (nth a.nx x) s < (cl.length : Int) := by omega
                have q3 : 0 ≤ nth (nth a.nx x) t := r2.1
                have q4 : nth (nth a.nx x) t < (cl.length : Int) := by omega
                have q5 : (s : Int) < ((nth a.nx x).length : Int) := by omega
                have q6 : (t : Int) < ((nth a.nx x).length : Int) := by omega
                replace hx2 := hw.cell hx2
                replace hy1 := hw.cell hy1
                replace hy2 := hw.cell hy2
                replace hz1 := hw.cell hz1
                replace hz2 := hw.cell hz2
                clear hc3 hri hrl r1 r2 HDO
                by_cases hv : nth cl (nth (nth a.nx x) s).toNat = nth cl (nth (nth a.nx x) t).toNat
                · have hv' : (nth cl (nth (nth a.nx x) s).toNat != nth cl (nth (nth a.nx x) t).toNat) = false := by simp [hv]
                  have HV := hid hv
                  clear hv
                  go_wp2_with fail
                  go_quiet (fail)
                  go_wp2_with fail
                  go_quiet (fail)
                  go_wp2
                  go_roundw
                  case rel => exact ⟨x + 1, by omega, by go_num, fun l hl => by
                      rcases Nat.lt_succ_iff_lt_or_eq.1 hl with h | h
                      · exact h3.out l h
                      · subst h; exact fun _ => HV.out, hw.drewN _⟩
                  case measure => simp [intOf]; omega
                · have hv' : (nth cl (nth (nth a.nx x) s).toNat != nth cl (nth (nth a.nx x) t).toNat) = true := by simp [hv]
                  have HV := hid hv
                  clear hv
                  go_wp2_with fail
                  go_quiet (fail)
                  go_wp2_with fail
                  go_quiet (fail)
                  go_wp2
                  go_ret
                  exact ⟨ret_bool (congB_false x s t hlt3 hlt (by omega) HQ.out HV.out).symm, (hw.drewN _).drewN _⟩
              · have hq' : (nth cl s == nth cl t) = false := by simp [hq]
                have HQ := hid hq
                clear hq
                go_wp2_with fail
                go_quiet (fail)
                go_wp2
                go_roundw
                case rel => exact ⟨t + 1, by omega, by go_num, fun t' ht' => by
                    rcases Nat.lt_succ_iff_lt_or_eq.1 ht' with h | h
                    · exact h2.out t' h
                    · subst h; exact fun l _ e => absurd e HQ.out, hw.drewN _⟩
                case measure => simp [intOf]; omega
            · have e : x = a.nx.length := by omega
              subst e
              have kx : decide ((a.nx.length : Int) < (a.nx.length : Int)) = false := by simp
              go_wp2_with fail
              go_quiet (fail)
              go_wp2
              go_roundw
              case rel => exact ⟨t + 1, by omega, by go_num, fun t' ht' => by
                  rcases Nat.lt_succ_iff_lt_or_eq.1 ht' with h | h
                  · exact h2.out t' h
                  · subst h; exact fun l hl => h3.out l hl, hw.drewN _⟩
              case measure => simp [intOf]; omega
        · have e : t = s := by omega
          subst e
          go_wp2
          go_roundw
          case rel =>
            refine ⟨t + 1, by omega, by go_num, fun s' hs' => ?_, hw⟩
            rcases Nat.lt_succ_iff_lt_or_eq.1 hs' with h | h
            · exact h1.out s' h
            · subst h; exact h2.out
          case measure => simp [intOf]; omega
    · have e : s = cl.length := by omega
      subst e
      go_wp2
      go_ret
      refine ⟨ret_bool ?_, hw⟩
      refine (congB_true fun l hl s hs t ht => ?_).symm
      rcases Nat.lt_trichotomy s t with h | h | h
      · exact congAt_symm (h1.out t ht s h l hl)
      · subst h; exact congAt_refl _ _ _ _
      · exact h1.out s hs t h l hl

end Go.Proofs.Ytaaaeekdfmfooaa
