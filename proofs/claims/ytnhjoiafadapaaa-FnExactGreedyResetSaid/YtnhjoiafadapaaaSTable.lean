/- The reference's lengths of the merging words of all pairs. -/
import Derived.Test.YtnhjoiafadapaaaRows
import Derived.Test.YtnhjoiafadapaaaCore
import Derived.Test.YtnhjoiafadapaaaInfos
import Derived.Test.YtnhjoiafadapaaaPlains
import Derived.Test.YtnhjoiafadapaaaMaps
import Derived.Test.YtnhjoiafadapaaaSWalks
import Derived.Test.YtnhjoiafadapaaaArrs
import Derived.Test.YtnhjoiafadapaaaPlainMerges
import Derived.Test.YtnhjoiafadapaaaSBase
import Derived.Test.YtnhjoiafadapaaaSMerge
import Derived.WalkKit
import Derived.WalkSpells
import Derived.WalkLawsBesides
import Derived.Deep.QuietTactic
import Derived.Deep.OwnRows
import Derived.BigQuiet
import Derived.KernelRfl
import Derived.Carry
namespace Go.Proofs.Ytnhjoiafadapaaa
open Go.RowKit

set_option maxRecDepth 20000 in
set_option maxHeartbeats 1000000 in
theorem l02Table_any (v : Value) (a : Aut) (w : World) (h : PAut w v a) (ha : autOk a = true) :
    Calls Try.prog 107 #[v] w fun e w' => ∃ r, e = .returned r ∧ New w w' ∧ OwnRows w.heap.size w'.heap.size w' r (tabOf a) := by
  have han := autOk_n ha
  obtain ⟨n, hn⟩ : ∃ n : Nat, a.n = (n : Int) := ⟨a.n.toNat, by omega⟩
  have hn10 : n ≤ 10 := by omega
  have hnt : a.n.toNat = n := by omega
  have HM := hid (show ∀ w1 (s t : Nat), New w w1 → s < n → t < n → Calls Try.prog 110 #[v, .int .i64 (pairOf s t : Nat)] w1 fun e w' => ∃ r, e = .returned (.tuple #[r, .bool (mw a.nx s t).2]) ∧ New w1 w' ∧ OwnInts w1.heap.size w'.heap.size w' r (mw a.nx s t).1 from fun w1 s t hw hs ht =>
    l02Shrink_any v a (pairOf s t) w1 (h.new hw) ha (pair_lt s t a.n (by omega) (by omega)))
  have HB := hid (fun (s t : Nat) (hs : s < n) (ht : t < n) => pair_w64 s t (by omega) (by omega))
  have HLW := hid (fun (s t : Nat) (hs : s < n) (ht : t < n) => mw_len ha (s := s) (t := t) (by omega) (by omega))
  obtain ⟨pb, rv, rfl, hp0, hp1, hr⟩ := h
  rw [hn] at hp0
  rw [show tabOf a = tabTo a.nx n n by unfold tabOf; rw [hnt]]
  clear ha han hn hnt hr hp1
  go_enter Try.func107, Try.ntmps107
  go_wp2_with fail
  have hG0 : GrowRows w.heap.size 26 (w.alloc (.cells #[] 26)) (.slice (some ⟨w.heap.size, 0, none⟩) 0 0) [] := GrowRows.empty _ _ _ (Nat.le_refl _)
  have hn0 : New w (w.alloc (.cells #[] 26)) := (by repeat (first | with_reducible exact New.refl _ | with_reducible assumption | with_reducible refine New.alloc ?_ _ | with_reducible refine New.drewN ?_ _ | with_reducible refine New.drew ?_ | with_reducible refine New.trans ?_ (by with_reducible assumption)))
  generalize (w.alloc (.cells #[] 26)) = w0 at hG0 hn0 ⊢
  go_loopw [3, 4] (fun ov i wr => ∃ k : Nat, k ≤ n ∧ i = .int .i64 k ∧ New w wr ∧ GrowRows w.heap.size 26 wr ov (tabTo a.nx n k)) (fun _ i _ => n - (intOf i).toNat)
  case atStart => exact ⟨0, Nat.zero_le _, rfl, hn0, hG0⟩
  case round =>
    obtain ⟨k, hk, rfl, hnw, hGw⟩ := hrel
    clear hn0 hG0
    obtain ⟨wo, rfl⟩ : ∃ wo : World, wo = wr := ⟨_, rfl⟩
    have z0 := hnw.cell hp0
    have hzo := hnw.size
    by_cases hlt : k < n
    · have b1 : (k : Int) < (n : Int) := by omega
      have HSU := hid (tabTo_succ a.nx n k)
      have hYl := tabTo_len a.nx n k
      obtain ⟨YS, hYS⟩ : ∃ z, z = tabTo a.nx n k := ⟨_, rfl⟩
      rw [← hYS] at HSU hYl hGw
      obtain ⟨AO, cO, rfl⟩ := hGw.form
      have HGW := hid hGw
      have HYL := hid hYl
      have hR0 := Grow.empty wo.heap.size 2 wo (Nat.le_refl _)
      have hnR : New wo (wo.alloc (.cells #[] 2)) := (by repeat (first | with_reducible exact New.refl _ | with_reducible assumption | with_reducible refine New.alloc ?_ _ | with_reducible refine New.drewN ?_ _ | with_reducible refine New.drew ?_ | with_reducible refine New.trans ?_ (by with_reducible assumption)))
      clear hGw hYl hYS
      go_wp2_with fail
      generalize (wo.alloc (.cells #[] 2)) = wp at hR0 hnR ⊢
      go_loopw [5, 6] (fun rv i wr => ∃ t : Nat, t ≤ n ∧ i = .int .i64 t ∧ New wo wr ∧ Grow wo.heap.size 2 wr rv (tabRow a.nx k t)) (fun _ i _ => n - (intOf i).toNat)
      case atStart => exact ⟨0, Nat.zero_le _, rfl, hnR, hR0⟩
      case round =>
        obtain ⟨t, ht, rfl, hni, hGi⟩ := hrel
        clear hR0 hnR
        obtain ⟨wi, rfl⟩ : ∃ wi : World, wi = wr := ⟨_, rfl⟩
        have y0 := hni.cell z0
        have hzi := hni.size
        have hYl2 := tabRow_len a.nx k t
        have HS2 := hid (tabRow_succ a.nx k t)
        obtain ⟨RS, hRS⟩ : ∃ z, z = tabRow a.nx k t := ⟨_, rfl⟩
        rw [← hRS] at HS2 hYl2 hGi
        obtain ⟨AR, cR, rfl⟩ := hGi.form
        by_cases hlt2 : t < n
        · have b2 : (t : Int) < (n : Int) := by omega
          have C := HM.out wi k t (hnw.trans hni) hlt hlt2
          have hbits := HB.out k t hlt hlt2
          have hlw := HLW.out k t hlt hlt2
          rw [show (2 ^ k ||| 2 ^ t) = pairOf (k : Int) (t : Int) from rfl] at hbits
          obtain ⟨P, hP⟩ : ∃ z, z = pairOf (k : Int) (t : Int) := ⟨_, rfl⟩
          rw [← hP] at hbits C
          have g1 : (0 : Int) ≤ (k : Int) := by omega
          have g2 : (0 : Int) ≤ (t : Int) := by omega
          have g3 : (k : Int) < 10 := by omega
          have g4 : (t : Int) < 10 := by omega
          have hRl : RS.length < 1099511627776 := by omega
          obtain ⟨MW, hMW⟩ : ∃ z, z = mw a.nx k t := ⟨_, rfl⟩
          rw [← hMW] at C HS2 hlw
          have HGI := hid hGi
          clear hP hMW hRS hGi hYl2
          cases hb : MW.2 with
          | true =>
            rw [hb] at C
            have HE := hid (show mwLen MW = (MW.1.length : Int) by unfold mwLen; rw [if_pos hb])
            clear hb
            go_wp2_with (first
              | (go_at_call 110; refine C.mono ?_; rintro e w1 ⟨r, rfl, hn1, ho1⟩; obtain ⟨Ax, cx, rfl⟩ := ho1.form; have hz1 := hn1.size)
              | (at_builtin; refine wpList_app (w1 := w1) rfl _ _ _ rfl Try.underlying26 info_i64 (.slice AR RS.length cR) RS rfl (HGI.out.new hn1) rfl hRl (by omega) ?_; intro g9 cap9 w9 ho9 hg9))
            have hn9 : New wo w9 := (hni.trans hn1).grown hg9 (fun q hq => (HGI.out.block q hq).1)
            exact ⟨⟨t + 1, by omega, by go_num, hn9, by rw [HS2.out, HE.out]; exact ho9⟩, by simp [intOf]; omega⟩
          | false =>
            rw [hb] at C
            have HE := hid (show mwLen MW = -1 by unfold mwLen; rw [if_neg (by rw [hb]; simp)])
            clear hb
            go_wp2_with (first
              | (go_at_call 110; refine C.mono ?_; rintro e w1 ⟨r, rfl, hn1, ho1⟩; obtain ⟨Ax, cx, rfl⟩ := ho1.form; have hz1 := hn1.size)
              | (at_builtin; refine wpList_app (w1 := w1) rfl _ _ _ rfl Try.underlying26 info_i64 (.slice AR RS.length cR) RS rfl (HGI.out.new hn1) rfl hRl (by omega) ?_; intro g9 cap9 w9 ho9 hg9))
            have hn9 : New wo w9 := (hni.trans hn1).grown hg9 (fun q hq => (HGI.out.block q hq).1)
            exact ⟨⟨t + 1, by omega, by go_num, hn9, by rw [HS2.out, HE.out]; exact ho9⟩, by simp [intOf]; omega⟩
        · have e : t = n := by omega
          subst e
          obtain ⟨TT, hTT⟩ : ∃ z, z = tabRow a.nx k t := ⟨_, rfl⟩
          have hRl : RS.length ≤ 1099511627776 := by omega
          have hRT : RS = TT := by rw [hRS, hTT]
          have hown := hGi.own hRl
          rw [← hTT] at HSU
          have HRT := hid hRT
          have hXl : YS.length < 1099511627776 := by have := HYL.out; omega
          clear hTT hRT hYl2 hGi hRS
          go_wp2_with (at_builtin; refine wpList_appRows (w0 := wo) (w1 := wi) rfl _ _ _ rfl Try.underlying22 info_ints (.slice AO YS.length cO) YS RS rfl HGW.out hni hown rfl hXl (by omega) ?_; intro g9 cap9 w9 ho9 hg9)
          have hn9 : New w w9 := (hnw.trans hni).grown hg9 (fun q hq => (HGW.out.block q hq).1)
          exact ⟨⟨k + 1, by omega, by go_num, hn9, by rw [HSU.out, ← HRT.out]; exact ho9⟩, by simp [intOf]; omega⟩
    · have e : k = n := by omega
      subst e
      have hmrl := tabTo_len a.nx k k
      have hO := hGw.own (by omega)
      go_wp2_with fail
      go_ret
      exact ⟨_, rfl, hnw, hO⟩

end Go.Proofs.Ytnhjoiafadapaaa
