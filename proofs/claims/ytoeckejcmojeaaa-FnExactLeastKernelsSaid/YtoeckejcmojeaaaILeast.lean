/- The program's ranks of sets. -/
import Derived.Test.YtoeckejcmojeaaaRows
import Derived.Test.YtoeckejcmojeaaaCore
import Derived.Test.YtoeckejcmojeaaaInfos
import Derived.Test.YtoeckejcmojeaaaPlains
import Derived.Test.YtoeckejcmojeaaaMaps
import Derived.Test.YtoeckejcmojeaaaIBase
import Derived.Test.YtoeckejcmojeaaaI01c
import Derived.Test.YtoeckejcmojeaaaIIdx
import Derived.Test.YtoeckejcmojeaaaIFlk
import Derived.Test.YtoeckejcmojeaaaITour
import Derived.WalkKit
import Derived.WalkSpells
import Derived.WalkLawsBesides
import Derived.Deep.QuietTactic
import Derived.Deep.OwnRows
import Derived.BigQuiet
import Derived.KernelRfl
namespace Go.Proofs.Ytoeckejcmojeaaa
open Go.RowKit

set_option maxRecDepth 20000 in
set_option maxHeartbeats 1000000 in
theorem least_any (v1 : Value) (a : Aut) (f : Nat) (w : World) (h1 : AutAt w v1 a) (ha : autOk a = true) (hf : f < 2 ^ a.n.toNat) :
    Calls Try.prog 102 #[v1, .int .u64 f] w fun e w' => e = .returned (.int .i64 (leastOf a.nx f : Nat)) ∧ New w w' := by
  obtain ⟨rv, rfl, hr⟩ := h1
  obtain ⟨A2, c2, rfl⟩ := hr.form
  have h1 : AutAt w (.agg #[.int .i64 a.n, .slice A2 a.nx.length c2]) a := ⟨_, rfl, hr⟩
  have hok := tourOk ha f hf
  have hn10 := autOk_n ha
  have hlen := hok.len hn10.2
  have HLT := hid (fun i (hi : i < (tourOf a.nx f).sets.length) => lt_10 (hok.lt _ (nth_mem _ _ hi)) (show a.n.toNat ≤ 10 by omega))
  have HL := hid (leastTo_le (tourOf a.nx f).sets (setOf f).length)
  have HS := hid (leastTo_succ (tourOf a.nx f).sets (setOf f).length)
  have HE := hid (show leastOf a.nx f = leastTo (tourOf a.nx f).sets (setOf f).length (tourOf a.nx f).sets.length from rfl)
  have hf10 : f < 1024 := lt_10 hf (by omega)
  have hsl : (setOf f).length ≤ 10 := bitsTo_len f 10
  have HC := hid (fun w1 (hm : New w w1) => tour_any _ a f w1 (h1.new hm) ha hf)
  clear hf ha hok
  go_enter Try.func102, Try.ntmps102
  go_wp2_with fail
  refine (count_any f _ hf10).mono ?_
  rintro e w1 ⟨rfl, hn1⟩
  have hp0 : w1.cell? ⟨w.heap.size, 0, none⟩ = some (.int .i64 a.n) := hn1.cell (by go_simp)
  have hp1 : w1.cell? ⟨w.heap.size, 1, none⟩ = some (.slice A2 a.nx.length c2) := hn1.cell (by go_simp)
  go_wp2_with fail
  refine (HC.out _ (by repeat (first | with_reducible exact New.refl _ | with_reducible assumption | with_reducible refine New.alloc ?_ _ | with_reducible refine New.drewN ?_ _ | with_reducible refine New.drew ?_ | with_reducible refine New.trans ?_ (by with_reducible assumption)))).mono ?_
  rintro e w2 ⟨lv, mb, he, hn2, hT⟩
  obtain ⟨Al, cl, rfl⟩ := hT.form
  obtain ⟨A, c, e9, _, hc⟩ := hT.nats (by omega)
  cases e9
  subst he
  have hn : New w w2 := New.trans (by repeat (first | with_reducible exact New.refl _ | with_reducible assumption | with_reducible refine New.alloc ?_ _ | with_reducible refine New.drewN ?_ _ | with_reducible refine New.drew ?_ | with_reducible refine New.trans ?_ (by with_reducible assumption))) hn2
  clear hT hn1 hn2 hp0 hp1
  obtain ⟨T, hTT⟩ : ∃ T, T = (tourOf a.nx f).sets := ⟨_, rfl⟩
  rw [← hTT] at hlen HLT HL HS HE hc ⊢
  have HCC := hid hc
  have hfd : ∀ w : World, (Instr.field 145 (.agg #[.slice Al T.length cl, .map (some mb)]) 0).run Try.prog w = .ok (.slice Al T.length cl) w := fun _ => by kernel_rfl
  clear hTT hc
  go_wp2
  go_loopw [5, 15] (fun q i wr => ∃ k : Nat, k ≤ T.length ∧ i = .int .i64 k ∧ q = .int .i64 (leastTo T (setOf f).length k : Nat) ∧ New w2 wr) (fun _ i _ => T.length - (intOf i).toNat)
  case atStart => exact ⟨0, Nat.zero_le _, rfl, rfl, New.refl _⟩
  case round =>
    obtain ⟨k, hk, rfl, rfl, hn2⟩ := hrel
    by_cases hlt : k < T.length
    · obtain ⟨b', off', rfl, hx⟩ := HCC.out k hlt
      have b1 : (k : Int) < (T.length : Int) := by omega
      replace hx := hn2.cell hx
      have HK := hid (HLT.out k hlt)
      have HK2 := hid (HS.out k hlt)
      have hle := HL.out k
      have hl2 : (setOf (nth T k)).length ≤ 10 := bitsTo_len _ 10
      obtain ⟨m, hm⟩ : ∃ m, m = leastTo T (setOf f).length k := ⟨_, rfl⟩
      rw [← hm] at HK2 hle ⊢
      clear hm
      go_wp2_with (go_at_call 135; refine (count_any (nth T k) _ HK.out).mono ?_; rintro e w3 ⟨rfl, hn3⟩)
      go_roundw
      case rel => exact ⟨k + 1, by omega, by go_num, by rw [HK2.out]; simp only [Value.int.injEq, true_and]; omega, hn2.trans hn3⟩
      case measure => simp [intOf]; omega
    · have e : k = T.length := by omega
      subst e
      go_wp2
      go_ret
      exact ⟨ret_int (by rw [HE.out]), hn.trans hn2⟩

end Go.Proofs.Ytoeckejcmojeaaa
