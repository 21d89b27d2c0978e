/- The program's ranks of sets. -/
import Derived.Test.YtjchopnglcjnnaaRows
import Derived.Test.YtjchopnglcjnnaaBase
import Derived.Test.YtjchopnglcjnnaaAut
import Derived.Test.YtjchopnglcjnnaaApp
import Derived.Test.YtjchopnglcjnnaaAppRows
import Derived.Test.YtjchopnglcjnnaaInfo
import Derived.Test.YtjchopnglcjnnaaPlain1
import Derived.Test.YtjchopnglcjnnaaPlainRun
import Derived.Test.YtjchopnglcjnnaaPlainSet
import Derived.Test.YtjchopnglcjnnaaPlainBits
import Derived.Test.YtjchopnglcjnnaaPlainTour
import Derived.Test.YtjchopnglcjnnaaPlainFirst
import Derived.Test.YtjchopnglcjnnaaMapV
import Derived.Test.YtjchopnglcjnnaaTourV
import Derived.Test.YtjchopnglcjnnaaI01a
import Derived.Test.YtjchopnglcjnnaaI01b
import Derived.Test.YtjchopnglcjnnaaI01c
import Derived.Test.YtjchopnglcjnnaaIIdx
import Derived.Test.YtjchopnglcjnnaaIFlk
import Derived.Test.YtjchopnglcjnnaaITour
import Derived.WalkKit
import Derived.WalkSpells
import Derived.WalkLawsBesides
import Derived.Deep.QuietTactic
import Derived.Deep.OwnRows
import Derived.BigQuiet
import Derived.KernelRfl
namespace Go.Proofs.Ytjchopnglcjnnaa
open Go.RowKit

set_option maxRecDepth 20000 in
set_option maxHeartbeats 1000000 in
theorem least_any (v1 : Value) (a : Aut) (f : Nat) (w : World) (h1 : AutAt w v1 a) (ha : autOk a = true) (hf : f < 2 ^ a.n.toNat) :
    Calls Try.prog 137 #[v1, .int .u64 f] w fun e w' => e = .returned (.int .i64 (leastOf a.nx f : Nat)) ∧ New w w' := by
  obtain ⟨rv, rfl, hr⟩ := h1
  obtain ⟨A2, c2, rfl⟩ := hr.form
  have h1 : AutAt w (.agg #[.int .i64 a.n, .slice A2 a.nx.length c2]) a := ⟨_, rfl, hr⟩
  have hok := tourOk ha f hf
  have hn10 := autOk_n ha
  have hlen := hok.len hn10.2
  have HLT := hid (fun i (hi : i < (tourOf a.nx f).sets.length) => lt_10 (hok.lt _ (nth_mem _ _ hi)) (show a.n.toNat ≤ 10 by omega))
  have HL := hid (leastTo_le (tourOf a.nx f).sets (setOf f).length)
  have HS := hid (leastTo_succ (tourOf a.nx f).sets (setOf f).length)
  have HE := hid (show leastOf a.nx f = leastTo (tourOf a.nx f).sets (setOf f).length (tourOf a.nx f).sets.length from rfl)
  have hf10 : f < 1024 := lt_10 hf (by omega)
  have hsl : (setOf f).length ≤ 10 := bitsTo_len f 10
  have HC := hid (fun w1 (hm : New w w1) => tour_any _ a f w1 (h1.new hm) ha hf)
  clear hf ha hok
  go_enter Try.func137, Try.ntmps137
  go_wp2_with fail
  refine (count_any f _ hf10).mono ?_
  rintro e w1 ⟨rfl, hn1⟩
  have hp0 : w1.cell? ⟨w.heap.size, 0, none⟩ = some (.int .i64 a.n) := hn1.cell (by go_simp)
  have hp1 : w1.cell? ⟨w.heap.size, 1, none⟩ = some (.slice A2 a.nx.length c2) := hn1.cell (by go_simp)
  go_wp2_with fail
  refine (HC.out _ (by repeat (first | with_reducible exact New.refl _ | with_reducible assumption | with_reducible refine New.alloc ?_ _ | with_reducible refine New.drewN ?_ _ | with_reducible refine New.drew ?_ | with_reducible refine New.trans ?_ (by with_reducible assumption)))).mono ?_
  rintro e w2 ⟨lv, mb, he, hn2, hT⟩
  obtain ⟨Al, cl, rfl⟩ := hT.form
  obtain ⟨A, c, e9, _, hc⟩ := hT.nats (by omega)
  cases e9
  subst he
  have hn : New w w2 := New.trans (by repeat (first | with_reducible exact New.refl _ | with_reducible assumption | with_reducible refine New.alloc ?_ _ | with_reducible refine New.drewN ?_ _ | with_reducible refine New.drew ?_ | with_reducible refine New.trans ?_ (by with_reducible assumption))) hn2
  clear hT hn1 hn2 hp0 hp1
  obtain ⟨T, hTT⟩ : ∃ T, T = (tourOf a.nx f).sets := ⟨_, rfl⟩
  rw [← hTT] at hlen HLT HL HS HE hc ⊢
  have HCC := hid hc
  have hfd : ∀ w : World, (Instr.field 180 (.agg #[.slice Al T.length cl, .map (some mb)]) 0).run Try.prog w = .ok (.slice Al T.length cl) w := fun _ => by kernel_rfl
  clear hTT hc
  go_wp2
  go_loopw [5, 15] (fun q i wr => ∃ k : Nat, k ≤ T.length ∧ i = .int .i64 k ∧ q = .int .i64 (leastTo T (setOf f).length k : Nat) ∧ New w2 wr) (fun _ i _ => T.length - (intOf i).toNat)
  case atStart => exact ⟨0, Nat.zero_le _, rfl, rfl, New.refl _⟩
  case round =>
    obtain ⟨k, hk, rfl, rfl, hn2⟩ := hrel
    by_cases hlt : k < T.length
    · obtain ⟨b', off', rfl, hx⟩ := HCC.out k hlt
      have b1 : (k : Int) < (T.length : Int) := by omega
      replace hx := hn2.cell hx
      have HK := hid (HLT.out k hlt)
      have HK2 := hid (HS.out k hlt)
      have hle := HL.out k
      have hl2 : (setOf (nth T k)).length ≤ 10 := bitsTo_len _ 10
      obtain ⟨m, hm⟩ : ∃ m, m = leastTo T (setOf f).length k := ⟨_, rfl⟩
      rw [← hm] at HK2 hle ⊢
      clear hm
      go_wp2_with (go_at_call 179; refine (count_any (nth T k) _ HK.out).mono ?_; rintro e w3 ⟨rfl, hn3⟩)
      go_roundw
      case rel => exact ⟨k + 1, by omega, by go_num, by rw [HK2.out]; simp only [Value.int.injEq, true_and]; omega, hn2.trans hn3⟩
      case measure => simp [intOf]; omega
    · have e : k = T.length := by omega
      subst e
      go_wp2
      go_ret
      exact ⟨ret_int (by rw [HE.out]), hn.trans hn2⟩
set_option maxHeartbeats 400000 in
theorem RankOfSet1_any (b1 b2 : Nat) (v2 : Value) (n : Int) (set : List Int) (w : World) (h0 : w.cell? ⟨b1, 0, none⟩ = some (.int .i64 n))
    (h2 : w.cell? ⟨b2, 0, none⟩ = some v2) (hv : IntsAt w v2 set) (n0 : 0 ≤ n) (n1 : n ≤ 1048576) :
    Calls Try.prog 136 #[.pointer (some ⟨b2, 0, none⟩), .pointer (some ⟨b1, 0, none⟩)] w fun e w' => e = .returned (.bool (setB set n)) ∧ New w w' := by
  go_enter Try.func136, Try.ntmps136
  go_wp2_with (go_at_call 96; refine (isSet_any _ set n _ hv n0 n1).mono ?_; rintro e w2 ⟨rfl, rfl⟩)
  go_ret
  exact ⟨rfl, (by repeat (first | with_reducible exact New.refl _ | with_reducible assumption | with_reducible refine New.alloc ?_ _ | with_reducible refine New.drewN ?_ _ | with_reducible refine New.drew ?_ | with_reducible refine New.trans ?_ (by with_reducible assumption)))⟩
set_option maxHeartbeats 1000000 in
theorem implRankOfSet_any (v1 v2 : Value) (a : Aut) (set : List Int) (w : World) (h1 : AutAt w v1 a) (h2 : IntsAt w v2 set) :
    Calls Try.prog 56 #[v1, v2] w fun e w' => e = .returned (.tuple #[.int .i64 (RankOfSet a set).1, .int .i64 (RankOfSet a set).2]) ∧ New w w' := by
  obtain ⟨rv, rfl, hr⟩ := h1
  obtain ⟨A, c, rfl⟩ := hr.form
  obtain ⟨A2, c2, rfl⟩ := h2.form
  have h1 : AutAt w (.agg #[.int .i64 a.n, .slice A a.nx.length c]) a := ⟨_, rfl, hr⟩
  obtain ⟨wb, hwb⟩ : ∃ wb, wb = (w.alloc (.cells #[.int .i64 a.n, .slice A a.nx.length c] 37)).alloc (.cells #[.slice A2 set.length c2] 25) := ⟨_, rfl⟩
  have hnb : New w wb := by rw [hwb]; exact (by repeat (first | with_reducible exact New.refl _ | with_reducible assumption | with_reducible refine New.alloc ?_ _ | with_reducible refine New.drew ?_ | with_reducible refine New.drewN ?_ _ | with_reducible refine New.setCell ?_ (by simp <;> omega) _))
  have hb0 : wb.cell? ⟨w.heap.size, 0, none⟩ = some (.int .i64 a.n) := by rw [hwb]; go_simp
  have hb1 : wb.cell? ⟨w.heap.size, 1, none⟩ = some (.slice A a.nx.length c) := by rw [hwb]; go_simp
  have hb2 : wb.cell? ⟨w.heap.size + 1, 0, none⟩ = some (.slice A2 set.length c2) := by rw [hwb]; go_simp
  have HC : Calls Try.prog 80 #[.agg #[.int .i64 a.n, .slice A a.nx.length c], .func (.func 136) #[] #[.pointer (some ⟨w.heap.size + 1, 0, none⟩), .pointer (some ⟨w.heap.size, 0, none⟩)]] wb
      fun e w' => e = .returned (.int .i64 (codeOf (autOk a) (setB set a.n))) ∧ New wb w' := by
    refine code_any _ a _ _ _ _ (h1.new hnb) (enters Try.func136 (by decide) (by simp [Try.f136])) fun ha w' hw => ?_
    have han := autOk_n ha
    exact RankOfSet1_any _ _ _ _ set _ (hw.cell hb0) (hw.cell hb2) (h2.new (hnb.trans hw)) (by omega) (by omega)
  obtain ⟨R, hR⟩ : ∃ R, R = RankOfSet a set := ⟨_, rfl⟩
  rw [← hR]
  unfold RankOfSet at hR
  have HR := hid hR
  clear hR
  cases ha : autOk a with
  | false =>
    rw [ha] at HC
    have e : codeOf false (setB set a.n) = 1 := rfl
    rw [e] at HC
    go_enter Try.func56, Try.ntmps56
    go_wp2_with fail
    rw [← hwb]
    refine HC.mono ?_
    rintro e w1 ⟨rfl, hn1⟩
    go_wp2
    go_ret2
    exact ⟨by rw [HR.out, ha]; rfl, (by repeat (first | with_reducible exact New.refl _ | with_reducible assumption | with_reducible refine New.alloc ?_ _ | with_reducible refine New.drewN ?_ _ | with_reducible refine New.drew ?_ | with_reducible refine New.trans ?_ (by with_reducible assumption)))⟩
  | true =>
    rw [ha] at HC
    have han := autOk_n ha
    have HA := hid ha
    cases hs : setB set a.n with
    | false =>
      rw [hs] at HC
      have e : codeOf true false = 2 := rfl
      rw [e] at HC
      go_enter Try.func56, Try.ntmps56
      go_wp2_with fail
      rw [← hwb]
      refine HC.mono ?_
      rintro e w1 ⟨rfl, hn1⟩
      go_wp2
      go_ret2
      exact ⟨by rw [HR.out, HA.out, hs]; rfl, (by repeat (first | with_reducible exact New.refl _ | with_reducible assumption | with_reducible refine New.alloc ?_ _ | with_reducible refine New.drewN ?_ _ | with_reducible refine New.drew ?_ | with_reducible refine New.trans ?_ (by with_reducible assumption)))⟩
    | true =>
      rw [hs] at HC
      have e : codeOf true true = 0 := rfl
      rw [e] at HC
      have hfl : orB set < 2 ^ a.n.toNat := orB_lt _ _ fun x hx => by
        obtain ⟨i, hi, rfl⟩ := mem_nth _ x hx
        have := setB_in hs i hi; omega
      have hs10 : ∀ i, i < set.length → 0 ≤ nth set i ∧ nth set i < 10 := fun i hi => by have := setB_in hs i hi; omega
      have HS10 := hid hs10
      have HFL := hid hfl
      clear hfl hs10
      go_enter Try.func56, Try.ntmps56
      go_wp2_with fail
      rw [← hwb]
      refine HC.mono ?_
      rintro e w1 ⟨rfl, hn1⟩
      have hx0 := ext_cell (hn1.cell hb0)
      have hx1 := ext_cell (hn1.cell hb1)
      have hx2 := ext_cell (hn1.cell hb2)
      have hnn := hnb.trans hn1
      go_wp2_with fail
      refine wp_region_quiet_new (by kernel_rfl) (by kernel_rfl) ?_; (repeat (go_big_quiet_step ((first | (go_at_call 127; exact quiet_same (flockOf_any _ set _ (h2.new (hnn.trans (ext_new _ _))) HS10.out)) | (go_at_call 137; exact quiet_new (least_any _ a (orB set) _ (h1.new (hnn.trans (ext_new _ _))) HA.out HFL.out)))))); refine wpQuiet_nil ?_; intro wq hq; have hnq := new_of_ext hq; clear hq
      go_wp2
      go_ret2
      exact ⟨by rw [HR.out, HA.out, hs]; rfl, hnn.trans hnq⟩

end Go.Proofs.Ytjchopnglcjnnaa
