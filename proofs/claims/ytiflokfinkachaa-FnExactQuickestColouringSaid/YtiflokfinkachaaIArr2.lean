/- The program's arrangements of a list. -/
import Derived.Test.YtiflokfinkachaaRows
import Derived.Test.YtiflokfinkachaaCore
import Derived.Test.YtiflokfinkachaaInfos
import Derived.Test.YtiflokfinkachaaPlains
import Derived.Test.YtiflokfinkachaaMaps
import Derived.Test.YtiflokfinkachaaArrs
import Derived.Test.YtiflokfinkachaaJoins
import Derived.Test.YtiflokfinkachaaIArr
import Derived.WalkKit
import Derived.WalkSpells
import Derived.WalkLawsBesides
import Derived.Deep.QuietTactic
import Derived.Deep.OwnRows
import Derived.BigQuiet
import Derived.KernelRfl
import Derived.Laws.EntriesVeiled
namespace Go.Proofs.Ytiflokfinkachaa
open Go.RowKit

theorem IntsAt.solid_old {S : Nat → Prop} {w w' : World} {v : Value} {xs : List Int} (h : IntsAt w v xs) (hn : New w w') (hS : ∀ k, S k → w.heap.size ≤ k) : Solid S w' (fun w => IntsAt w v xs) := fun _ hb => h.new (But.new hn hb hS)
theorem arrB_le : ∀ n, n ≤ 3 → arrB n ≤ 6 := by decide
set_option maxRecDepth 20000 in
set_option maxHeartbeats 1000000 in
theorem arrangements_any (v : Value) (xs : List Int) (w : World) (h : IntsAt w v xs) (hl : xs.length ≤ 3) :
    Calls Try.prog 201 #[v] w fun e w' => ∃ r, e = .returned r ∧ New w w' ∧ Lies RowsAt w.heap.size w'.heap.size w' r (arrF xs.length xs) := by
  obtain ⟨W0, hW0⟩ : ∃ W0, W0 = ((((w.alloc (.cells #[] 26)).alloc (.cells #[] 2)).alloc (.cells #[.slice (some ⟨w.heap.size, 0, none⟩) 0 0] 22)).alloc (.cells #[.slice (some ⟨w.heap.size + 1, 0, none⟩) 0 0] 26)).alloc (.cells #[.func (.func 251) #[] #[.pointer (some ⟨w.heap.size + 1 + 1, 0, none⟩), .pointer (some ⟨w.heap.size + 1 + 1 + 1, 0, none⟩), .pointer (some ⟨w.heap.size + 1 + 1 + 1 + 1, 0, none⟩)]] 243) := ⟨_, rfl⟩
  have hn0 : New w W0 := by rw [hW0]; exact (by repeat (first | with_reducible exact New.refl _ | with_reducible assumption | with_reducible refine New.alloc ?_ _ | with_reducible refine New.drewN ?_ _ | with_reducible refine New.drew ?_ | with_reducible refine New.trans ?_ (by with_reducible assumption)))
  have hz0 : W0.heap.size = w.heap.size + 5 := by rw [hW0]; simp only [size_alloc]
  have hSS : ∀ k, ArrS (w.heap.size + 1 + 1) (w.heap.size + 1 + 1 + 1) (.slice (some ⟨w.heap.size, 0, none⟩) 0 0) (.slice (some ⟨w.heap.size + 1, 0, none⟩) 0 0) k → w.heap.size ≤ k ∧ k < w.heap.size + 4 := by
    intro k hk
    rcases hk with q | q | q | q
    · omega
    · omega
    · have q' : w.heap.size = k := Option.some.inj q
      omega
    · have q' : w.heap.size + 1 = k := Option.some.inj q
      omega
  have hst : ArrSt w.heap.size 26 2 (w.heap.size + 1 + 1) (w.heap.size + 1 + 1 + 1) W0 (.slice (some ⟨w.heap.size, 0, none⟩) 0 0) (.slice (some ⟨w.heap.size + 1, 0, none⟩) 0 0) [] [] := by
    have hnow := Grow.empty w.heap.size 2 (w.alloc (.cells #[] 26)) (by rw [size_alloc]; omega)
    rw [size_alloc] at hnow
    rw [hW0]
    exact ⟨⟨by go_simp, by go_simp⟩, ⟨by go_simp, by go_simp⟩, (GrowS.empty (Nat.le_refl _)).new (by repeat (first | with_reducible exact New.refl _ | with_reducible assumption | with_reducible refine New.alloc ?_ _ | with_reducible refine New.drewN ?_ _ | with_reducible refine New.drew ?_ | with_reducible refine New.trans ?_ (by with_reducible assumption))), hnow.new (by repeat (first | with_reducible exact New.refl _ | with_reducible assumption | with_reducible refine New.alloc ?_ _ | with_reducible refine New.drewN ?_ _ | with_reducible refine New.drew ?_ | with_reducible refine New.trans ?_ (by with_reducible assumption))), by omega, fun q => by have := Option.some.inj q; simp only at this; omega, fun q => by have := Option.some.inj q; simp only at this; omega, fun q => by have := Option.some.inj q; simp only at this; omega, fun q => by have := Option.some.inj q; simp only at this; omega, Or.inl (by simp [Value.ownBlock])⟩
  have hf : Solid (ArrS (w.heap.size + 1 + 1) (w.heap.size + 1 + 1 + 1) (.slice (some ⟨w.heap.size, 0, none⟩) 0 0) (.slice (some ⟨w.heap.size + 1, 0, none⟩) 0 0)) W0 (fun w' => w'.cell? ⟨w.heap.size + 1 + 1 + 1 + 1, 0, none⟩ = some (.func (.func 251) #[] #[.pointer (some ⟨w.heap.size + 1 + 1, 0, none⟩), .pointer (some ⟨w.heap.size + 1 + 1 + 1, 0, none⟩), .pointer (some ⟨w.heap.size + 1 + 1 + 1 + 1, 0, none⟩)])) := by
    refine Solid.cell ?_ (fun q => ?_)
    · rw [hW0]; go_simp
    · have := hSS _ q; simp only at this; omega
  have hb := arrB_le _ hl
  have C := Arr1_any w.heap.size (w.heap.size + 1 + 1) (w.heap.size + 1 + 1 + 1) (w.heap.size + 1 + 1 + 1 + 1) xs.length xs v _ _ [] [] W0 rfl hl hst (h.solid_old hn0 (fun k hk => (hSS k hk).1)) hf (by omega) (by simp; omega) (by simp; omega)
  have hal := arr_len xs.length xs
  go_enter Try.func201, Try.ntmps201
  go_wp2_with fail
  rw [← hW0]
  refine C.mono ?_
  rintro e w1 ⟨he, vo, vn, hb1, hA, hS⟩
  subst he
  obtain ⟨c3, _⟩ := id hA.c3
  have hn1 : New w w1 := But.new hn0 hb1 (fun k hk => (hSS k hk).1)
  have hL := hA.out.lies (by simp; omega) (fun k hk => Or.inl hk)
  have e1 : ([] : List (List Int)) ++ (arrF xs.length xs).map (([] : List Int) ++ ·) = arrF xs.length xs := by simp
  rw [e1] at hL
  go_wp2_with fail
  go_ret
  exact ⟨_, rfl, hn1, hL⟩

end Go.Proofs.Ytiflokfinkachaa
