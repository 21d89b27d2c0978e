/- The reference's ranks of sets. -/
import Derived.Test.YtiflokfinkachaaRows
import Derived.Test.YtiflokfinkachaaCore
import Derived.Test.YtiflokfinkachaaInfos
import Derived.Test.YtiflokfinkachaaPlains
import Derived.Test.YtiflokfinkachaaMaps
import Derived.Test.YtiflokfinkachaaWalkV
import Derived.Test.YtiflokfinkachaaSBase
import Derived.Test.YtiflokfinkachaaSFlk
import Derived.Test.YtiflokfinkachaaSWalk
import Derived.WalkKit
import Derived.WalkSpells
import Derived.WalkLawsBesides
import Derived.Deep.QuietTactic
import Derived.Deep.OwnRows
import Derived.BigQuiet
import Derived.KernelRfl
namespace Go.Proofs.Ytiflokfinkachaa
open Go.RowKit

set_option maxHeartbeats 400000 in
theorem l02Full_any (p : Value) (a : Aut) (w : World) (hp : PAut w p a) (h0 : 0 ≤ a.n) (h1 : a.n ≤ 10) :
    Calls Try.prog 105 #[p] w fun e w' => e = .returned (.int .i64 (full a.n : Nat)) ∧ w' = w := by
  obtain ⟨b, rv, rfl, hp0, hp1, hpr⟩ := hp
  obtain ⟨n, hn⟩ : ∃ n : Nat, a.n = (n : Int) := ⟨a.n.toNat, by omega⟩
  have h2 : n ≤ 10 := by omega
  have hf : full a.n = 2 ^ n - 1 := by rw [hn]; rfl
  have hw := two_pow_wrap n h2
  have hw10 := pow10' n h2
  have hpos := Nat.two_pow_pos n
  rw [hn] at hp0
  have HF := hid hf
  clear hn hf
  go_enter Try.func105, Try.ntmps105
  go_wp2
  go_ret
  exact ⟨ret_int (by rw [HF.out, show (2 : Int) ^ n - 1 = ((2 ^ n - 1 : Nat) : Int) by rw [cast_pow]; omega, wrap64_wrap, wrap_i64_nat _ (by omega)]), rfl⟩
theorem l02Set_len (F n : Nat) (hF : F < 1024) (hn : n = (setOf F).length) (w : World) : Calls Try.prog 223 #[.int .i64 F] w fun e w' => ∃ A c, e = .returned (.slice A n c) ∧ New w w' :=
  (l02Set_any F w hF).mono fun e w' ⟨r, he, hn1, ho⟩ => by
    obtain ⟨A, c, rfl⟩ := ho.form
    exact ⟨A, c, by rw [he, hn], hn1⟩
set_option maxRecDepth 20000 in
set_option maxHeartbeats 1000000 in
theorem l03Least_any (p : Value) (a : Aut) (f : Nat) (w : World) (hp : PWalk w p (tourOf a.nx f)) (ha : autOk a = true) (hf : f < 2 ^ a.n.toNat) :
    Calls Try.prog 222 #[p] w fun e w' => e = .returned (.int .i64 (leastOf a.nx f : Nat)) ∧ New w w' := by
  obtain ⟨b, s1, s2, s3, rfl, h0, h1, h2, h4, h5, h6⟩ := hp
  have hok := tourOk ha f hf
  have hn10 := autOk_n ha
  have hlen := hok.len hn10.2
  have hfirst := tour_first a.nx f
  have hpos := hok.pos
  have HLT := hid (fun i (hi : i < (tourOf a.nx f).sets.length) => lt_10 (hok.lt _ (nth_mem _ _ hi)) (show a.n.toNat ≤ 10 by omega))
  have HL := hid (leastTo_le (tourOf a.nx f).sets (setOf f).length)
  have HS := hid (leastTo_succ (tourOf a.nx f).sets (setOf f).length)
  have hE : leastOf a.nx f = leastTo (tourOf a.nx f).sets (setOf f).length (tourOf a.nx f).sets.length := rfl
  have HE := hid hE
  obtain ⟨T, hT⟩ : ∃ T, T = (tourOf a.nx f).sets := ⟨_, rfl⟩
  rw [← hT] at h4 hlen hfirst hpos HLT HL HS HE
  have hsl := bitsTo_len f 10
  have hsl' : (setOf f).length ≤ 10 := hsl
  obtain ⟨A, c, rfl, hl, hc⟩ := h4
  obtain ⟨b0, off0, rfl, hx0⟩ := hc 0 hpos
  rw [hfirst, Nat.add_zero] at hx0
  have hk0 : (0 : Int) < (T.length : Int) := by omega
  have HC := hid hc
  have hf10 : f < 1024 := lt_10 hf (by omega)
  obtain ⟨n0, hn0⟩ : ∃ n0, n0 = (setOf f).length := ⟨_, rfl⟩
  have C0 := l02Set_len f n0 hf10 hn0
  rw [← hn0] at HL HS HE hsl'
  clear hT hE hf hc hsl hn0
  go_enter Try.func222, Try.ntmps222
  go_wp2_with fail
  refine (C0 _).mono ?_
  rintro e w1 ⟨Ar, cr, rfl, hn1⟩
  replace h0 := hn1.cell h0
  clear hx0 C0
  go_wp2
  go_loopw [3, 4] (fun q i wr => ∃ (k : Nat) (m : Int), k ≤ T.length ∧ i = .int .i64 k ∧ q = .int .i64 m ∧ Hid (m = (leastTo T n0 k : Nat)) ∧ New w1 wr) (fun _ i _ => T.length - (intOf i).toNat)
  case atStart => exact ⟨0, (n0 : Nat), Nat.zero_le _, rfl, rfl, hid rfl, New.refl _⟩
  case round =>
    obtain ⟨k, m, hk, rfl, rfl, hm, hn⟩ := hrel
    replace h0 := hn.cell h0
    have hle : 0 ≤ m ∧ m ≤ 10 := by have := HL.out k; have := hm.out; omega
    obtain ⟨hle1, hle2⟩ := hle
    by_cases hlt : k < T.length
    · obtain ⟨b', off', e', hx⟩ := HC.out k hlt
      cases e'
      have b1 : (k : Int) < (T.length : Int) := by omega
      replace hx := (hn1.trans hn).cell hx
      have HK2 := hid (HS.out k hlt)
      have hl2 : (setOf (nth T k)).length ≤ 10 := bitsTo_len _ 10
      obtain ⟨n, hnn⟩ : ∃ n, n = (setOf (nth T k)).length := ⟨_, rfl⟩
      have C := l02Set_len (nth T k) n (HLT.out k hlt) hnn
      rw [← hnn] at HK2 hl2
      clear hnn
      by_cases hq : (n : Int) < m
      · have hq' := hq
        have HQ := hid hq
        clear hq
        go_wp2_with (go_at_call 223; refine (C _).mono ?_; rintro e w2 ⟨A3, c3, rfl, hn2⟩)
        go_roundw
        case rel => exact ⟨k + 1, (n : Nat), by omega, by go_num, rfl, hid (by have := HQ.out; have := hm.out; rw [HK2.out]; omega), hn.trans hn2⟩
        case measure => simp [intOf]; omega
      · have hq' : decide ((n : Int) < m) = false := by simp; omega
        have HQ := hid hq
        clear hq
        go_wp2_with (go_at_call 223; refine (C _).mono ?_; rintro e w2 ⟨A3, c3, rfl, hn2⟩)
        go_roundw
        case rel => exact ⟨k + 1, m, by omega, by go_num, rfl, hid (by have := HQ.out; have := hm.out; rw [HK2.out]; omega), hn.trans hn2⟩
        case measure => simp [intOf]; omega
    · have e : k = T.length := by omega
      have HE2 := hid (show (leastOf a.nx f : Nat) = m by rw [HE.out, hm.out, e])
      clear HC HE
      subst e
      go_wp2
      go_ret
      exact ⟨ret_int (by rw [HE2.out]), hn1.trans hn⟩

end Go.Proofs.Ytiflokfinkachaa
