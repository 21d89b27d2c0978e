/- The program's test of congruences. -/
import Derived.Test.YtaaaeekdfmfooaaRows
import Derived.Test.YtaaaeekdfmfooaaBase
import Derived.Test.YtaaaeekdfmfooaaAut
import Derived.Test.YtaaaeekdfmfooaaPlain1
import Derived.Test.YtaaaeekdfmfooaaPlainRun
import Derived.Test.YtaaaeekdfmfooaaPlainDiv
import Derived.Test.YtaaaeekdfmfooaaI01a
import Derived.Test.YtaaaeekdfmfooaaI01b
import Derived.Test.YtaaaeekdfmfooaaI01c
import Derived.Test.YtaaaeekdfmfooaaI01d
import Derived.WalkKit
import Derived.WalkSpells
import Derived.WalkLawsBesides
import Derived.Deep.QuietTactic
import Derived.Deep.OwnRows
import Derived.BigQuiet
import Derived.KernelRfl
namespace Go.Proofs.Ytaaaeekdfmfooaa
open Go.RowKit

set_option maxRecDepth 100000 in
set_option maxHeartbeats 4000000 in
theorem isCongruence_any (v1 v2 : Value) (a : Aut) (cl : List Int) (w : World) (h1 : AutAt w v1 a) (h2 : IntsAt w v2 cl) (ha : autOk a = true) (hd : (cl.length : Int) = a.n) :
    Calls Try.prog 173 #[v1, v2] w fun e w' => e = .returned (.bool (congB a.nx cl)) ∧ New w w' := by
  obtain ⟨rv, rfl, hr⟩ := h1
  obtain ⟨A2, c2, rfl, hl2, hc2⟩ := hr
  obtain ⟨A, c, rfl, hl, hc⟩ := h2
  have HA := hid ha
  have HD := hid hd
  have hn10 := (autOk_n ha).2
  have hl10 : cl.length ≤ 10 := by omega
  have hl3 : a.nx.length ≤ 3 := (autOk_l ha).2
  clear ha hd hn10
  go_enter Try.func173, Try.ntmps173
  go_wp2
  go_loopw [12] (fun i wr => ∃ l : Nat, l ≤ a.nx.length ∧ i = .int .i64 l ∧ Hid (∀ l', l' < l → ∀ s, s < cl.length → ∀ t, t < cl.length → congAt a.nx cl l' s t) ∧ New w wr) (fun i _ => a.nx.length - (intOf i).toNat)
  case atStart => exact ⟨0, Nat.zero_le _, rfl, fun l hl => absurd hl (by omega), (by repeat (first | with_reducible exact New.refl _ | with_reducible assumption | with_reducible refine New.alloc ?_ _ | with_reducible refine New.drew ?_ | with_reducible refine New.drewN ?_ _ | with_reducible refine New.setCell ?_ (by simp <;> omega) _))⟩
  case round =>
    obtain ⟨l, hl, rfl, h1, hw⟩ := hrel
    by_cases hlt : l < a.nx.length
    · have kl : (l : Int) < (a.nx.length : Int) := by omega
      obtain ⟨bl, offl, rv, rfl, hxl, hr⟩ := hc2 l hlt
      obtain ⟨A3, c3, rfl, hl3', hc3⟩ := hr
      obtain ⟨wo, rfl⟩ : ∃ wo : World, wo = wr := ⟨_, rfl⟩
      replace hxl := hw.cell hxl
      obtain ⟨hrl, hri⟩ := autOk_row HA.out l hlt
      have HRI := hid hri
      have HC := hid hc
      have HC3 := hid hc3
      have hlr : (nth a.nx l).length = cl.length := by have := HD.out; omega
      have HLR := hid hlr
      clear hc hc2 hc3 hri hrl hlr
      go_wp2
      go_loopw [18] (fun i wr => ∃ s : Nat, s ≤ cl.length ∧ i = .int .i64 s ∧ Hid (∀ s', s' < s → ∀ t, t < cl.length → congAt a.nx cl l s' t) ∧ New w wr) (fun i _ => cl.length - (intOf i).toNat)
      case atStart => exact ⟨0, Nat.zero_le _, rfl, fun s hs => absurd hs (by omega), hw⟩
      case round =>
        clear hw hxl
        obtain ⟨s, hs, rfl, h2, hw⟩ := hrel
        by_cases hlt2 : s < cl.length
        · have ks : (s : Int) < (cl.length : Int) := by omega
          obtain ⟨wi, rfl⟩ : ∃ wi : World, wi = wr := ⟨_, rfl⟩
          obtain ⟨bs, offs, rfl, hxs⟩ := HC.out s hlt2
          obtain ⟨b3, off3, rfl, hy1⟩ := HC3.out s (by have := HLR.out; omega)
          have r1 := HRI.out s (by have := HLR.out; omega)
          obtain ⟨b4, off4, e4, hz1⟩ := HC.out (nth (nth a.nx l) s).toNat (by have := HD.out; omega)
          cases e4
          have q1 : 0 ≤ nth (nth a.nx l) s := r1.1
          have q2 : nth (nth a.nx l) s < (cl.length : Int) := by have := HD.out; omega
          have q5 : (s : Int) < ((nth a.nx l).length : Int) := by have := HLR.out; omega
          clear r1
          go_wp2
          go_loopw [23] (fun i wr => ∃ t : Nat, t ≤ cl.length ∧ i = .int .i64 t ∧ Hid (∀ t', t' < t → congAt a.nx cl l s t') ∧ New w wr) (fun i _ => cl.length - (intOf i).toNat)
          case atStart => exact ⟨0, Nat.zero_le _, rfl, fun t ht => absurd ht (by omega), hw⟩
          case round =>
            clear hw
            obtain ⟨t, ht, rfl, h3, hw⟩ := hrel
            by_cases hlt3 : t < cl.length
            · have kt : (t : Int) < (cl.length : Int) := by omega
              obtain ⟨bs', offs', e', hxt⟩ := HC.out t hlt3
              cases e'
              replace hxs := hw.cell hxs
              replace hxt := hw.cell hxt
              by_cases hq : nth cl s = nth cl t
              · have hq' : (nth cl s == nth cl t) = true := by simp [hq]
                have HQ := hid hq
                clear hq
                obtain ⟨b3', off3', e3, hy2⟩ := HC3.out t (by have := HLR.out; omega)
                cases e3
                have r2 := HRI.out t (by have := HLR.out; omega)
                obtain ⟨b5, off5, e5, hz2⟩ := HC.out (nth (nth a.nx l) t).toNat (by have := HD.out; omega)
                cases e5
                have q3 : 0 ≤ nth (nth a.nx l) t := r2.1
                have q4 : nth (nth a.nx l) t < (cl.length : Int) := by have := HD.out; omega
                have q6 : (t : Int) < ((nth a.nx l).length : Int) := by have := HLR.out; omega
                replace hy1 := hw.cell hy1
                replace hy2 := hw.cell hy2
                replace hz1 := hw.cell hz1
                replace hz2 := hw.cell hz2
                clear r2
                by_cases hv : nth cl (nth (nth a.nx l) s).toNat = nth cl (nth (nth a.nx l) t).toNat
                · have hv' : (nth cl (nth (nth a.nx l) s).toNat != nth cl (nth (nth a.nx l) t).toNat) = false := by simp [hv]
                  have HV := hid hv
                  clear hv
                  go_wp2_with fail
                  go_quiet (fail)
                  go_wp2
                  go_roundw
                  case rel => exact ⟨t + 1, by omega, by go_num, fun t' ht' => by
                      rcases Nat.lt_succ_iff_lt_or_eq.1 ht' with h | h
                      · exact h3.out t' h
                      · subst h; exact fun _ => HV.out, hw.drewN _⟩
                  case measure => simp [intOf]; omega
                · have hv' : (nth cl (nth (nth a.nx l) s).toNat != nth cl (nth (nth a.nx l) t).toNat) = true := by simp [hv]
                  have HV := hid hv
                  clear hv
                  go_wp2_with fail
                  go_quiet (fail)
                  go_wp2
                  go_ret
                  exact ⟨ret_bool (congB_false l s t hlt hlt2 hlt3 HQ.out HV.out).symm, hw.drewN _⟩
              · have hq' : (nth cl s == nth cl t) = false := by simp [hq]
                have HQ := hid hq
                clear hq
                go_wp2_with fail
                go_quiet (fail)
                go_wp2
                go_roundw
                case rel => exact ⟨t + 1, by omega, by go_num, fun t' ht' => by
                    rcases Nat.lt_succ_iff_lt_or_eq.1 ht' with h | h
                    · exact h3.out t' h
                    · subst h; exact fun e => absurd e HQ.out, hw.drewN _⟩
                case measure => simp [intOf]; omega
            · have e : t = cl.length := by omega
              subst e
              go_wp2
              go_roundw
              case rel => exact ⟨s + 1, by omega, by go_num, fun s' hs' => by
                  rcases Nat.lt_succ_iff_lt_or_eq.1 hs' with h | h
                  · exact h2.out s' h
                  · subst h; exact fun t ht => h3.out t ht, hw⟩
              case measure => simp [intOf]; omega
        · have e : s = cl.length := by omega
          subst e
          go_wp2
          go_roundw
          case rel => exact ⟨l + 1, by omega, by go_num, fun l' hl' => by
              rcases Nat.lt_succ_iff_lt_or_eq.1 hl' with h | h
              · exact h1.out l' h
              · subst h; exact fun s hs => h2.out s hs, hw⟩
          case measure => simp [intOf]; omega
    · have e : l = a.nx.length := by omega
      subst e
      go_wp2
      go_ret
      exact ⟨ret_bool (congB_true fun l hl s hs t ht => h1.out l hl s hs t ht).symm, hw⟩

end Go.Proofs.Ytaaaeekdfmfooaa
