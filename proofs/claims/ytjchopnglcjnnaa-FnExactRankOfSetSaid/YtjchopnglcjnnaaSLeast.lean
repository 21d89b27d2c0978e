/- The reference's ranks of sets. -/
import Derived.Test.YtjchopnglcjnnaaRows
import Derived.Test.YtjchopnglcjnnaaBase
import Derived.Test.YtjchopnglcjnnaaAut
import Derived.Test.YtjchopnglcjnnaaApp
import Derived.Test.YtjchopnglcjnnaaAppRows
import Derived.Test.YtjchopnglcjnnaaInfo
import Derived.Test.YtjchopnglcjnnaaPlain1
import Derived.Test.YtjchopnglcjnnaaPlainRun
import Derived.Test.YtjchopnglcjnnaaPlainSet
import Derived.Test.YtjchopnglcjnnaaPlainBits
import Derived.Test.YtjchopnglcjnnaaPlainTour
import Derived.Test.YtjchopnglcjnnaaMapV
import Derived.Test.YtjchopnglcjnnaaTourV
import Derived.Test.YtjchopnglcjnnaaWalkV
import Derived.Test.YtjchopnglcjnnaaPlainFirst
import Derived.Test.YtjchopnglcjnnaaS00b
import Derived.Test.YtjchopnglcjnnaaS01a
import Derived.Test.YtjchopnglcjnnaaSFlk
import Derived.Test.YtjchopnglcjnnaaSWalk
import Derived.WalkKit
import Derived.WalkSpells
import Derived.WalkLawsBesides
import Derived.Deep.QuietTactic
import Derived.Deep.OwnRows
import Derived.BigQuiet
import Derived.KernelRfl
namespace Go.Proofs.Ytjchopnglcjnnaa
open Go.RowKit

set_option maxHeartbeats 400000 in
theorem l02Full_any (p : Value) (a : Aut) (w : World) (hp : PAut w p a) (h0 : 0 ≤ a.n) (h1 : a.n ≤ 10) :
    Calls Try.prog 100 #[p] w fun e w' => e = .returned (.int .i64 (full a.n : Nat)) ∧ w' = w := by
  obtain ⟨b, rv, rfl, hp0, hp1, hpr⟩ := hp
  obtain ⟨n, hn⟩ : ∃ n : Nat, a.n = (n : Int) := ⟨a.n.toNat, by omega⟩
  have h2 : n ≤ 10 := by omega
  have hf : full a.n = 2 ^ n - 1 := by rw [hn]; rfl
  have hw := two_pow_wrap n h2
  have hw10 := pow10' n h2
  have hpos := Nat.two_pow_pos n
  rw [hn] at hp0
  have HF := hid hf
  clear hn hf
  go_enter Try.func100, Try.ntmps100
  go_wp2
  go_ret
  exact ⟨ret_int (by rw [HF.out, show (2 : Int) ^ n - 1 = ((2 ^ n - 1 : Nat) : Int) by rw [cast_pow]; omega, wrap64_wrap, wrap_i64_nat _ (by omega)]), rfl⟩
theorem l02Set_len (F n : Nat) (hF : F < 1024) (hn : n = (setOf F).length) (w : World) : Calls Try.prog 178 #[.int .i64 F] w fun e w' => ∃ A c, e = .returned (.slice A n c) ∧ New w w' :=
  (l02Set_any F w hF).mono fun e w' ⟨r, he, hn1, ho⟩ => by
    obtain ⟨A, c, rfl⟩ := ho.form
    exact ⟨A, c, by rw [he, hn], hn1⟩
set_option maxRecDepth 20000 in
set_option maxHeartbeats 1000000 in
theorem l03Least_any (p : Value) (a : Aut) (f : Nat) (w : World) (hp : PWalk w p (tourOf a.nx f)) (ha : autOk a = true) (hf : f < 2 ^ a.n.toNat) :
    Calls Try.prog 134 #[p] w fun e w' => e = .returned (.int .i64 (leastOf a.nx f : Nat)) ∧ New w w' := by
  obtain ⟨b, s1, s2, s3, rfl, h0, h1, h2, h4, h5, h6⟩ := hp
  have hok := tourOk ha f hf
  have hn10 := autOk_n ha
  have hlen := hok.len hn10.2
  have hfirst := tour_first a.nx f
  have hpos := hok.pos
  have HLT := hid (fun i (hi : i < (tourOf a.nx f).sets.length) => lt_10 (hok.lt _ (nth_mem _ _ hi)) (show a.n.toNat ≤ 10 by omega))
  have HL := hid (leastTo_le (tourOf a.nx f).sets (setOf f).length)
  have HS := hid (leastTo_succ (tourOf a.nx f).sets (setOf f).length)
  have hE : leastOf a.nx f = leastTo (tourOf a.nx f).sets (setOf f).length (tourOf a.nx f).sets.length := rfl
  have HE := hid hE
  obtain ⟨T, hT⟩ : ∃ T, T = (tourOf a.nx f).sets := ⟨_, rfl⟩
  rw [← hT] at h4 hlen hfirst hpos HLT HL HS HE
  have hsl := bitsTo_len f 10
  have hsl' : (setOf f).length ≤ 10 := hsl
  obtain ⟨A, c, rfl, hl, hc⟩ := h4
  obtain ⟨b0, off0, rfl, hx0⟩ := hc 0 hpos
  rw [hfirst, Nat.add_zero] at hx0
  have hk0 : (0 : Int) < (T.length : Int) := by omega
  have HC := hid hc
  have hf10 : f < 1024 := lt_10 hf (by omega)
  obtain ⟨n0, hn0⟩ : ∃ n0, n0 = (setOf f).length := ⟨_, rfl⟩
  have C0 := l02Set_len f n0 hf10 hn0
  rw [← hn0] at HL HS HE hsl'
  clear hT hE hf hc hsl hn0
  go_enter Try.func134, Try.ntmps134
  go_wp2_with fail
  refine (C0 _).mono ?_
  rintro e w1 ⟨Ar, cr, rfl, hn1⟩
  replace h0 := hn1.cell h0
  clear hx0 C0
  go_wp2
  go_loopw [3, 4] (fun q i wr => ∃ (k : Nat) (m : Int), k ≤ T.length ∧ i = .int .i64 k ∧ q = .int .i64 m ∧ Hid (m = (leastTo T n0 k : Nat)) ∧ New w1 wr) (fun _ i _ => T.length - (intOf i).toNat)
  case atStart => exact ⟨0, (n0 : Nat), Nat.zero_le _, rfl, rfl, hid rfl, New.refl _⟩
  case round =>
    obtain ⟨k, m, hk, rfl, rfl, hm, hn⟩ := hrel
    replace h0 := hn.cell h0
    have hle : 0 ≤ m ∧ m ≤ 10 := by have := HL.out k; have := hm.out; omega
    obtain ⟨hle1, hle2⟩ := hle
    by_cases hlt : k < T.length
    · obtain ⟨b', off', e', hx⟩ := HC.out k hlt
      cases e'
      have b1 : (k : Int) < (T.length : Int) := by omega
      replace hx := (hn1.trans hn).cell hx
      have HK2 := hid (HS.out k hlt)
      have hl2 : (setOf (nth T k)).length ≤ 10 := bitsTo_len _ 10
      obtain ⟨n, hnn⟩ : ∃ n, n = (setOf (nth T k)).length := ⟨_, rfl⟩
      have C := l02Set_len (nth T k) n (HLT.out k hlt) hnn
      rw [← hnn] at HK2 hl2
      clear hnn
      by_cases hq : (n : Int) < m
      · have hq' := hq
        have HQ := hid hq
        clear hq
        go_wp2_with (go_at_call 178; refine (C _).mono ?_; rintro e w2 ⟨A3, c3, rfl, hn2⟩)
        go_roundw
        case rel => exact ⟨k + 1, (n : Nat), by omega, by go_num, rfl, hid (by have := HQ.out; have := hm.out; rw [HK2.out]; omega), hn.trans hn2⟩
        case measure => simp [intOf]; omega
      · have hq' : decide ((n : Int) < m) = false := by simp; omega
        have HQ := hid hq
        clear hq
        go_wp2_with (go_at_call 178; refine (C _).mono ?_; rintro e w2 ⟨A3, c3, rfl, hn2⟩)
        go_roundw
        case rel => exact ⟨k + 1, m, by omega, by go_num, rfl, hid (by have := HQ.out; have := hm.out; rw [HK2.out]; omega), hn.trans hn2⟩
        case measure => simp [intOf]; omega
    · have e : k = T.length := by omega
      have HE2 := hid (show (leastOf a.nx f : Nat) = m by rw [HE.out, hm.out, e])
      clear HC HE
      subst e
      go_wp2
      go_ret
      exact ⟨ret_int (by rw [HE2.out]), hn1.trans hn⟩
set_option maxHeartbeats 1000000 in
theorem specRankOfSet_any (v1 v2 : Value) (a : Aut) (set : List Int) (w : World) (h1 : AutAt w v1 a) (h2 : IntsAt w v2 set) :
    Calls Try.prog 55 #[v1, v2] w fun e w' => e = .returned (.tuple #[.int .i64 (RankOfSet a set).1, .int .i64 (RankOfSet a set).2]) ∧ New w w' := by
  obtain ⟨rv, rfl, hr⟩ := h1
  obtain ⟨A, c, rfl⟩ := hr.form
  have hp := PAut.box hr 37
  have hn0 : New w (w.alloc (.cells #[.int .i64 a.n, .slice A a.nx.length c] 37)) := (by repeat (first | with_reducible exact New.refl _ | with_reducible assumption | with_reducible refine New.alloc ?_ _ | with_reducible refine New.drew ?_ | with_reducible refine New.drewN ?_ _ | with_reducible refine New.setCell ?_ (by simp <;> omega) _))
  obtain ⟨R, hR⟩ : ∃ R, R = RankOfSet a set := ⟨_, rfl⟩
  rw [← hR]
  unfold RankOfSet at hR
  have HR := hid hR
  have C1 := l01Ok_any _ a _ hp
  clear hR
  cases ha : autOk a with
  | false =>
    rw [ha] at C1
    go_enter Try.func55, Try.ntmps55
    go_wp2_with fail
    refine C1.mono ?_
    rintro e w1 ⟨rfl, hn1⟩
    go_wp2
    go_ret2
    exact ⟨by rw [HR.out, ha]; rfl, (by repeat (first | with_reducible exact New.refl _ | with_reducible assumption | with_reducible refine New.alloc ?_ _ | with_reducible refine New.drewN ?_ _ | with_reducible refine New.drew ?_ | with_reducible refine New.trans ?_ (by with_reducible assumption)))⟩
  | true =>
    rw [ha] at C1
    have han := autOk_n ha
    have C2 := fun w1 (hm : New _ w1) => l01Set_any _ _ a set w1 (hp.new hm) (h2.new (hn0.trans hm)) (by omega) (by omega)
    have HA := hid ha
    cases hs : setB set a.n with
    | false =>
      rw [hs] at C2
      go_enter Try.func55, Try.ntmps55
      go_wp2_with fail
      refine C1.mono ?_
      rintro e w1 ⟨rfl, hn1⟩
      go_wp2_with fail
      refine (C2 _ hn1).mono ?_
      rintro e w2 ⟨rfl, hn2⟩
      go_wp2
      go_ret2
      exact ⟨by rw [HR.out, HA.out, hs]; rfl, (by repeat (first | with_reducible exact New.refl _ | with_reducible assumption | with_reducible refine New.alloc ?_ _ | with_reducible refine New.drewN ?_ _ | with_reducible refine New.drew ?_ | with_reducible refine New.trans ?_ (by with_reducible assumption)))⟩
    | true =>
      rw [hs] at C2
      have hfl : orB set < 2 ^ a.n.toNat := orB_lt _ _ fun x hx => by
        obtain ⟨i, hi, rfl⟩ := mem_nth _ x hx
        have := setB_in hs i hi; omega
      have HC3 := hid (fun w1 (hm : New w w1) => l02Bits_any _ set w1 (h2.new hm) (fun i hi => by have := setB_in hs i hi; omega))
      have HC4 := hid (fun w1 (hm : New _ w1) => l02From_any _ a (orB set) w1 (hp.new hm) HA.out hfl)
      have HC5 := hid (fun p w1 (h : PWalk w1 p (tourOf a.nx (orB set))) => l03Least_any p a (orB set) w1 h HA.out hfl)
      clear hfl
      go_enter Try.func55, Try.ntmps55
      go_wp2_with fail
      refine C1.mono ?_
      rintro e w1 ⟨rfl, hn1⟩
      go_wp2_with fail
      refine (C2 _ hn1).mono ?_
      rintro e w2 ⟨rfl, hn2⟩
      go_wp2_with fail
      refine (HC3.out _ (by repeat (first | with_reducible exact New.refl _ | with_reducible assumption | with_reducible refine New.alloc ?_ _ | with_reducible refine New.drewN ?_ _ | with_reducible refine New.drew ?_ | with_reducible refine New.trans ?_ (by with_reducible assumption)))).mono ?_
      rintro e w' ⟨rfl, rfl⟩
      go_wp2_with fail
      refine (HC4.out _ (by repeat (first | with_reducible exact New.refl _ | with_reducible assumption | with_reducible refine New.alloc ?_ _ | with_reducible refine New.drewN ?_ _ | with_reducible refine New.drew ?_ | with_reducible refine New.trans ?_ (by with_reducible assumption)))).mono ?_
      rintro e w3 ⟨v, he, hn3, hv⟩
      obtain ⟨b, s1, s2, s3, rfl, _⟩ := id hv
      subst he
      go_wp2_with fail
      refine (HC5.out _ _ hv).mono ?_
      rintro e w4 ⟨rfl, hn4⟩
      go_wp2
      go_ret2
      exact ⟨by rw [HR.out, HA.out, hs]; rfl, (by repeat (first | with_reducible exact New.refl _ | with_reducible assumption | with_reducible refine New.alloc ?_ _ | with_reducible refine New.drewN ?_ _ | with_reducible refine New.drew ?_ | with_reducible refine New.trans ?_ (by with_reducible assumption)))⟩

end Go.Proofs.Ytjchopnglcjnnaa
