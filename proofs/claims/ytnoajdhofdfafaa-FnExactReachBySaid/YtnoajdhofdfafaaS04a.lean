/- The reference's partial automata, and where words lead in them. -/
import Derived.Test.YtnoajdhofdfafaaRows
import Derived.Test.YtnoajdhofdfafaaBase
import Derived.Test.YtnoajdhofdfafaaAut
import Derived.Test.YtnoajdhofdfafaaApp
import Derived.Test.YtnoajdhofdfafaaInfo
import Derived.Test.YtnoajdhofdfafaaPlain1
import Derived.Test.YtnoajdhofdfafaaPlainRun
import Derived.Test.YtnoajdhofdfafaaPlainSet
import Derived.Test.YtnoajdhofdfafaaPlainBits
import Derived.Test.YtnoajdhofdfafaaPlainPart
import Derived.Test.YtnoajdhofdfafaaS01a
import Derived.Test.YtnoajdhofdfafaaSFlk
import Derived.WalkKit
import Derived.WalkSpells
import Derived.WalkLawsBesides
import Derived.Deep.QuietTactic
import Derived.Deep.OwnRows
import Derived.BigQuiet
import Derived.KernelRfl
namespace Go.Proofs.Ytnoajdhofdfafaa
open Go.RowKit

set_option maxHeartbeats 400000 in
theorem l04Size_any (n l : Int) (w : World) :
    Calls Try.prog 162 #[.int .i64 n, .int .i64 l] w fun e w' => e = .returned (.bool (inB n 1 10 && inB l 1 3)) ∧ w' = w := by
  have C := l00In_any n 1 10
  cases h : inB n 1 10 with
  | false =>
    simp only [h] at C
    go_enter Try.func162, Try.ntmps162
    go_wp2_with fail
    refine (C _).mono ?_
    rintro e w' ⟨rfl, rfl⟩
    go_wp2
    go_ret
    exact ⟨rfl, rfl⟩
  | true =>
    simp only [h] at C
    go_enter Try.func162, Try.ntmps162
    go_wp2_with fail
    refine (C _).mono ?_
    rintro e w' ⟨rfl, rfl⟩
    go_wp2_with fail
    refine (l00In_any _ _ _ _).mono ?_
    rintro e w' ⟨rfl, rfl⟩
    go_wp2
    go_ret
    exact ⟨rfl, rfl⟩
set_option maxHeartbeats 400000 in
theorem l04Shape_any (n : Int) (L : Nat) (w : World) (h : L ≤ 1048576) :
    Calls Try.prog 85 #[.int .i64 n, .int .i64 L] w fun e w' => ∃ rv, e = .returned (.agg #[.int .i64 n, rv]) ∧ New w w' ∧ RowsAt w' rv (List.replicate L []) := by
  have hmk := fun w => run_make_row' (P := Try.prog) 22 36 (.slice none 0 0) 24 Try.underlying22 info_ints rfl .i64 .i64 L (by omega) (by omega) w
  obtain ⟨wm, hwm⟩ : ∃ wm, wm = (w.alloc (.cells #[.int .i64 n, .slice (some ⟨w.heap.size + 1, 0, none⟩) L L] 26)).alloc (.cells (madeCells #[.slice none 0 0] L) 36) := ⟨_, rfl⟩
  have hrow : wm.rowIs (w.heap.size + 1) 36 L (fun _ => .slice none 0 0) := by
    have := World.rowIs_made (w.alloc (.cells #[.int .i64 n, .slice (some ⟨w.heap.size + 1, 0, none⟩) L L] 26)) (.slice none 0 0) L 36
    rw [size_alloc] at this
    rw [hwm]; exact this
  have hn : New w wm := by rw [hwm]; exact (by repeat (first | with_reducible exact New.refl _ | with_reducible assumption | with_reducible refine New.alloc ?_ _ | with_reducible refine New.drew ?_ | with_reducible refine New.drewN ?_ _ | with_reducible refine New.setCell ?_ (by simp <;> omega) _))
  have hA : ∀ w', New wm w' → RowsAt w' (.slice (some ⟨w.heap.size + 1, 0, none⟩) L L) (List.replicate L []) := fun w' hw => by
    refine ⟨some ⟨w.heap.size + 1, 0, none⟩, L, by simp, by simp; omega, fun i hi => ?_⟩
    simp at hi
    refine ⟨w.heap.size + 1, 0, .slice none 0 0, rfl, hw.cell (by rw [Nat.zero_add]; exact hrow.cell hi), none, 0, ?_, ?_, ?_⟩
    · rw [nth_eq _ _ (by simpa using hi)]; simp
    · rw [nth_eq _ _ (by simpa using hi)]; simp
    · intro j hj; rw [nth_eq _ _ (by simpa using hi)] at hj; simp at hj
  have HA := hid hA
  have HN := hid hn
  clear hA hn hrow
  go_enter Try.func85, Try.ntmps85
  go_wp2_with fail
  refine bodyPost_ret (v := .agg #[.int .i64 n, .slice (some ⟨w.heap.size + 1, 0, none⟩) L L]) (by simp [results, Try.results85, go_sem]) rfl ?_
  rw [← hwm]
  exact ⟨_, rfl, HN.out, HA.out _ (New.refl _)⟩

end Go.Proofs.Ytnoajdhofdfafaa
