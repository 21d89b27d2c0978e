/- The reference's copies of lists. -/
import Derived.Test.YthbebnfhplacnaaRows
import Derived.Test.YthbebnfhplacnaaCore
import Derived.Test.YthbebnfhplacnaaInfos
import Derived.Test.YthbebnfhplacnaaPlains
import Derived.WalkKit
import Derived.WalkSpells
import Derived.WalkLawsBesides
import Derived.Deep.QuietTactic
import Derived.Deep.OwnRows
import Derived.BigQuiet
import Derived.KernelRfl
namespace Go.Proofs.Ythbebnfhplacnaa
open Go.RowKit

/-- A slice is not longer than its capacity. -/
def CapAt (v : Value) : Prop := ∀ A m c, v = .slice A m c → m ≤ c
set_option maxHeartbeats 400000 in
theorem l00OwnC_any (v : Value) (xs : List Int) (w : World) (h : IntsAt w v xs) (hl : xs.length ≤ 1048576) :
    Calls Try.prog 45 #[v] w fun e w' => ∃ r, e = .returned r ∧ New w w' ∧ OwnInts w.heap.size w'.heap.size w' r xs ∧ CapAt r := by
  go_enter Try.func45, Try.ntmps45
  go_wp2_with (at_builtin; refine wpList_appAll rfl _ _ _ rfl Try.underlying26 info_i64 (.slice (some ⟨w.heap.size, 0, none⟩) 0 0) _ [] xs w.heap.size rfl (Grow.empty w.heap.size 2 w (Nat.le_refl _)) rfl rfl (h.new (by repeat (first | with_reducible exact New.refl _ | with_reducible assumption | with_reducible refine New.alloc ?_ _ | with_reducible refine New.drewN ?_ _ | with_reducible refine New.drew ?_ | with_reducible refine New.trans ?_ (by with_reducible assumption)))) (by simp; omega) (by (try simp only [sizes]) <;> omega) ?_; intro g cap w2 ho2 hg2 hloc)
  go_ret
  have hn : New w w2 := New.grown (by repeat (first | with_reducible exact New.refl _ | with_reducible assumption | with_reducible refine New.alloc ?_ _ | with_reducible refine New.drewN ?_ _ | with_reducible refine New.drew ?_ | with_reducible refine New.trans ?_ (by with_reducible assumption))) hg2 (fun k hk => by simp [Value.ownBlock] at hk; omega)
  simp only [List.length_nil, Nat.zero_add, List.nil_append] at ho2
  exact ⟨_, rfl, hn, ho2.own (by omega), fun A m c e => by
    obtain ⟨_, ⟨h1, _⟩ | ⟨g', cap', cur, e', _, _, hn', _⟩⟩ := ho2
    · cases h1
    · injection e' with _ _ e3
      injection e with _ e4 e5
      omega⟩
theorem l00Own_any (v : Value) (xs : List Int) (w : World) (h : IntsAt w v xs) (hl : xs.length ≤ 1048576) :
    Calls Try.prog 45 #[v] w fun e w' => ∃ r, e = .returned r ∧ New w w' ∧ OwnInts w.heap.size w'.heap.size w' r xs :=
  (l00OwnC_any v xs w h hl).mono fun _e _w' ⟨r, he, hn, ho, _⟩ => ⟨r, he, hn, ho⟩
set_option maxRecDepth 20000 in
set_option maxHeartbeats 1000000 in
theorem l06OwnRows_any (v : Value) (xss : List (List Int)) (w : World) (h : RowsAt w v xss) (hl : xss.length ≤ 1048576) (hll : ∀ i, i < xss.length → (nth xss i).length ≤ 1048576) :
    Calls Try.prog 66 #[v] w fun e w' => ∃ r, e = .returned r ∧ New w w' ∧ OwnRows w.heap.size w'.heap.size w' r xss := by
  obtain ⟨A, c, rfl, hl', hc⟩ := h
  have HLL := hid hll
  clear hll
  go_enter Try.func66, Try.ntmps66
  go_wp2
  go_loopw [3, 4] (fun o i wr => ∃ k : Nat, k ≤ xss.length ∧ i = .int .i64 k ∧ GrowRows w.heap.size 26 wr o (xss.take k) ∧ New w wr) (fun _ i _ => xss.length - (intOf i).toNat)
  case atStart => exact ⟨0, Nat.zero_le _, rfl, GrowRows.empty _ _ _ (Nat.le_refl _), (by repeat (first | with_reducible exact New.refl _ | with_reducible assumption | with_reducible refine New.alloc ?_ _ | with_reducible refine New.drew ?_ | with_reducible refine New.drewN ?_ _ | with_reducible refine New.setCell ?_ (by simp <;> omega) _))⟩
  case round =>
    obtain ⟨k, hk, rfl, ho, hn⟩ := hrel
    by_cases hlt : k < xss.length
    · obtain ⟨b, off, rv, rfl, hx, hr⟩ := hc k hlt
      have b1 : (k : Int) < (xss.length : Int) := by omega
      have hzr := hn.size
      have hkl : (xss.take k).length = k := by simp; omega
      replace hx := hn.cell hx
      clear hc
      go_wp2_with (first
        | (go_at_call 45; refine (l00Own_any _ _ _ (hr.new (by repeat (first | with_reducible exact New.refl _ | with_reducible assumption | with_reducible refine New.alloc ?_ _ | with_reducible refine New.drewN ?_ _ | with_reducible refine New.drew ?_ | with_reducible refine New.trans ?_ (by with_reducible assumption)))) (HLL.out k hlt)).mono ?_; rintro e w1 ⟨r, he, hn1, ho1⟩; obtain ⟨Ar, cr, rfl⟩ := ho1.form; subst he)
        | (at_builtin; refine wpList_appRows rfl _ _ _ rfl Try.underlying22 info_ints _ (xss.take k) (nth xss k) rfl ho hn1 ho1 rfl (by omega) (by omega) ?_; intro g cap w2 ho2 hg2))
      go_roundw
      case rel => exact ⟨k + 1, by omega, by go_num, by rw [take_succ_nth xss k hlt]; rw [hkl] at ho2; exact ho2, (hn.trans hn1).appRows hg2 ho (Nat.le_refl _)⟩
      case measure => simp [intOf]; omega
    · have e : k = xss.length := by omega
      subst e
      rw [List.take_length] at ho
      go_wp2
      go_ret
      exact ⟨_, rfl, hn, ho.own (by omega)⟩
theorem l00OwnG_any (v : Value) (xs : List Int) (w : World) (h : IntsAt w v xs) (hl : xs.length ≤ 1048576) :
    Calls Try.prog 45 #[v] w fun e w' => ∃ r, e = .returned r ∧ New w w' ∧ Grow w.heap.size 2 w' r xs := by
  go_enter Try.func45, Try.ntmps45
  go_wp2_with (at_builtin; refine wpList_appAll rfl _ _ _ rfl Try.underlying26 info_i64 (.slice (some ⟨w.heap.size, 0, none⟩) 0 0) _ [] xs w.heap.size rfl (Grow.empty w.heap.size 2 w (Nat.le_refl _)) rfl rfl (h.new (by repeat (first | with_reducible exact New.refl _ | with_reducible assumption | with_reducible refine New.alloc ?_ _ | with_reducible refine New.drewN ?_ _ | with_reducible refine New.drew ?_ | with_reducible refine New.trans ?_ (by with_reducible assumption)))) (by simp; omega) (by (try simp only [sizes]) <;> omega) ?_; intro g cap w2 ho2 hg2 hloc)
  go_ret
  have hn : New w w2 := New.grown (by repeat (first | with_reducible exact New.refl _ | with_reducible assumption | with_reducible refine New.alloc ?_ _ | with_reducible refine New.drewN ?_ _ | with_reducible refine New.drew ?_ | with_reducible refine New.trans ?_ (by with_reducible assumption))) hg2 (fun k hk => by simp [Value.ownBlock] at hk; omega)
  simp only [List.length_nil, Nat.zero_add, List.nil_append] at ho2
  exact ⟨_, rfl, hn, ho2⟩

end Go.Proofs.Ythbebnfhplacnaa
