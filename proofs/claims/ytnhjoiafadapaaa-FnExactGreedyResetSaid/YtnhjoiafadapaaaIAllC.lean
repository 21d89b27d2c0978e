/- The program's list of all states, with its capacity. -/
import Derived.Test.YtnhjoiafadapaaaRows
import Derived.Test.YtnhjoiafadapaaaCore
import Derived.Test.YtnhjoiafadapaaaInfos
import Derived.Test.YtnhjoiafadapaaaPlains
import Derived.Test.YtnhjoiafadapaaaIBase
import Derived.Test.YtnhjoiafadapaaaI01c
import Derived.Test.YtnhjoiafadapaaaIIdx
import Derived.WalkKit
import Derived.WalkSpells
import Derived.WalkLawsBesides
import Derived.Deep.QuietTactic
import Derived.Deep.OwnRows
import Derived.BigQuiet
import Derived.KernelRfl
namespace Go.Proofs.Ytnhjoiafadapaaa
open Go.RowKit

theorem ownsRow_capC {w : World} {B m c n : Nat} {e : TypeId} {A : Option Addr} {xs : List Value} (h : w.ownsRow B e 1 (.slice A m c) n xs) : m ≤ c := by
  obtain ⟨_, ⟨h0, _⟩ | ⟨_, _, _, hv, _, _, hcp, _⟩⟩ := h
  · injection h0 with _ h1 h2; omega
  · injection hv with _ h1 h2; omega
set_option maxHeartbeats 400000 in
theorem actionC_any (v1 v2 : Value) (a : Aut) (ws : List Int) (w : World) (h1 : AutAt w v1 a) (h2 : IntsAt w v2 ws) (ha : autOk a = true) (hw : letters a ws) :
    Calls Try.prog 120 #[v1, v2] w fun e w' => ∃ r, e = .returned r ∧ New w w' ∧ OwnInts w.heap.size w'.heap.size w' r (actOf a ws) ∧ (∀ A m c, r = .slice A m c → m ≤ c) := by
  obtain ⟨rv, rfl, hr⟩ := h1
  obtain ⟨A2, c2, rfl⟩ := hr.form
  have HA := hid ha
  have HW := hid hw
  clear ha hw
  have h1 : AutAt w (.agg #[.int .i64 a.n, .slice A2 a.nx.length c2]) a := ⟨_, rfl, hr⟩
  go_enter Try.func120, Try.ntmps120
  go_wp2
  go_loopw [5, 10] (fun q i wr => ∃ k : Nat, (k : Int) ≤ a.n ∧ i = .int .i64 k ∧ Grow (w.heap.size + 1) 2 wr q ((iota 0 k).map fun s => runOf a.nx s ws) ∧ New (w.alloc (.cells #[.int .i64 a.n, .slice A2 a.nx.length c2] 29)) wr) (fun _ i _ => a.n.toNat - (intOf i).toNat)
  case atStart => exact ⟨0, by have := autOk_n HA.out; omega, rfl, by have := Grow.empty (w.heap.size + 1) 2 (w.alloc (.cells #[.int .i64 a.n, .slice A2 a.nx.length c2] 29)) (by (try simp only [sizes]) <;> omega); rw [size_alloc] at this; exact this, (by repeat (first | with_reducible exact New.refl _ | with_reducible assumption | with_reducible refine New.alloc ?_ _ | with_reducible refine New.drew ?_ | with_reducible refine New.drewN ?_ _ | with_reducible refine New.setCell ?_ (by simp <;> omega) _))⟩
  case round =>
    obtain ⟨k, hk, rfl, ho, hn⟩ := hrel
    have hn10 := (autOk_n HA.out).2
    have hn0 : New w wr := New.trans (by repeat (first | with_reducible exact New.refl _ | with_reducible assumption | with_reducible refine New.alloc ?_ _ | with_reducible refine New.drew ?_ | with_reducible refine New.drewN ?_ _ | with_reducible refine New.setCell ?_ (by simp <;> omega) _)) hn
    have hz0 := hn.size
    simp only [size_alloc] at hz0
    by_cases hlt : (k : Int) < a.n
    · have hp0 : wr.cell? ⟨w.heap.size, 0, none⟩ = some (.int .i64 a.n) := hn.cell (by go_simp)
      have hp1 : wr.cell? ⟨w.heap.size, 1, none⟩ = some (.slice A2 a.nx.length c2) := hn.cell (by go_simp)
      go_wp2_with (first
        | (go_at_call 121; refine (at_any _ _ a _ _ _ (h1.new hn0) (h2.new hn0) HA.out HW.out ⟨by omega, hlt⟩).mono ?_; rintro e w1 ⟨rfl, hn1⟩)
        | (at_builtin; refine wpList_app rfl _ _ _ rfl Try.underlying26 info_i64 _ _ rfl (ho.new hn1) rfl (by simp [iota]; omega) (by have := hn1.size; omega) ?_; intro g cap w2 ho2 hg2))
      go_roundw
      case rel =>
        refine ⟨k + 1, by omega, by go_num, ?_, (hn.trans hn1).app hg2 (ho.new hn1) (by (try simp only [sizes]) <;> omega)⟩
        rw [iota_snoc, List.map_append]
        simpa using ho2
      case measure => simp [intOf]; omega
    · have e : (k : Int) = a.n := by omega
      go_wp2
      go_ret
      have e2 : (iota 0 k).map (fun s => runOf a.nx s ws) = actOf a ws := by rw [actOf, ← e]; simp
      rw [e2] at ho
      exact ⟨_, rfl, hn0, (ho.own (by simp [actOf, iota_length]; omega)).widen (by omega) (Nat.le_refl _), fun A m c e => by replace e : u5 = .slice A m c := e; rw [e] at ho; exact ownsRow_capC ho⟩

set_option maxHeartbeats 400000 in
theorem allC_any (v : Value) (a : Aut) (w : World) (h : AutAt w v a) (ha : autOk a = true) :
    Calls Try.prog 51 #[v] w fun e w' => ∃ r, e = .returned r ∧ New w w' ∧ OwnInts w.heap.size w'.heap.size w' r (iota 0 a.n.toNat) ∧ (∀ A m c, r = .slice A m c → m ≤ c) := by
  obtain ⟨rv, rfl, hr⟩ := h
  obtain ⟨A, c, rfl⟩ := hr.form
  have h1 : AutAt w (.agg #[.int .i64 a.n, .slice A a.nx.length c]) a := ⟨_, rfl, hr⟩
  go_enter Try.func51, Try.ntmps51
  go_wp2_with fail
  refine (actionC_any _ _ a [] _ (h1.new (by repeat (first | with_reducible exact New.refl _ | with_reducible assumption | with_reducible refine New.alloc ?_ _ | with_reducible refine New.drewN ?_ _ | with_reducible refine New.drew ?_ | with_reducible refine New.trans ?_ (by with_reducible assumption)))) ⟨none, 0, rfl, by simp, by simp⟩ ha (fun i hi => by simp at hi)).mono ?_
  rintro e w1 ⟨r, rfl, hn1, ho, hcp⟩
  have hz := hn1.size
  simp only [size_alloc] at hz
  rw [actOf_nil] at ho
  go_wp2
  go_ret
  exact ⟨_, rfl, (by repeat (first | with_reducible exact New.refl _ | with_reducible assumption | with_reducible refine New.alloc ?_ _ | with_reducible refine New.drewN ?_ _ | with_reducible refine New.drew ?_ | with_reducible refine New.trans ?_ (by with_reducible assumption))), ho.widen (by (try simp only [sizes]) <;> omega) (Nat.le_refl _), hcp⟩

end Go.Proofs.Ytnhjoiafadapaaa
