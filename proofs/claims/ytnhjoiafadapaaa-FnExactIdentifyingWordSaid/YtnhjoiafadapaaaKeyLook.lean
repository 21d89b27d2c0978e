/- Looks (a state and a set of states) as keys of a map. -/
import Derived.Test.YtnhjoiafadapaaaRows
import Derived.Test.YtnhjoiafadapaaaCore
import Derived.Test.YtnhjoiafadapaaaInfos
import Derived.WalkKit
import Derived.WalkSpells
import Derived.WalkLawsBesides
import Derived.Deep.QuietTactic
import Derived.Deep.OwnRows
import Derived.BigQuiet
import Derived.KernelRfl
import Derived.DeepKeys4
import Derived.Maps.Keyed
namespace Go.Proofs.Ytnhjoiafadapaaa
open Go.RowKit

theorem laidOutL : laidOutB Try.prog = true := by kernel_rfl
theorem row_look : (96 : TypeId) < Try.prog.types.size := of_decide_eq_true (by kernel_rfl)
theorem cells_look : Try.prog.cellsOf 96 = 2 := by kernel_rfl
theorem cellsL_i64 : Try.prog.cellsOf 2 = 1 := by kernel_rfl
theorem cellsL_flock : Try.prog.cellsOf 94 = 1 := by kernel_rfl
theorem keyt_look : Try.prog.keyType 96 = true := by kernel_rfl
theorem wide_look : (match Try.prog.underlying 96 with | some (.array _ _) | some (.struct _) => true | _ => false) = true := by rw [Try.underlying96]
set_option maxRecDepth 20000 in
theorem law_look : Go.Maps.Keyed Try.prog 96 := Go.Maps.Keyed.of_law (deep_law_laid laidOutL (m := 2) (by omega) row_look (by kernel_rfl) wide_look)
set_option maxRecDepth 20000 in
theorem lits_look (d : Nat) (x y : Int) (hx : (Lit.int .i64 x).wf = true) (hy : (Lit.int .u64 y).wf = true) : Try.prog.keyLits (d + 2) 96 [.int .i64 x, .int .u64 y] = some [.int .i64 x, .int .u64 y] := by
  have h1 : ∀ z : Int, (Lit.int .i64 z).wf = true → Try.prog.keyLits (d + 1) 2 [.int .i64 z] = some [.int .i64 z] := fun z hz => by
    unfold Program.keyLits
    rw [Try.underlying2]
    simp [hz]
  have h2 : ∀ z : Int, (Lit.int .u64 z).wf = true → Try.prog.keyLits (d + 1) 94 [.int .u64 z] = some [.int .u64 z] := fun z hz => by
    unfold Program.keyLits
    rw [Try.underlying94]
    simp [hz]
  unfold Program.keyLits
  rw [Try.underlying96]
  simp [cells_look, cellsL_i64, cellsL_flock, h1 x hx, h2 y hy]
set_option maxRecDepth 20000 in
theorem key_look (x y : Int) (hx : (Lit.int .i64 x).wf = true) (hy : (Lit.int .u64 y).wf = true) : keyOf Try.prog 96 (.agg #[.int .i64 x, .int .u64 y]) = some (.string (keyBytes [.int .i64 x, .int .u64 y])) := by
  have hf : (Value.agg #[.int .i64 x, .int .u64 y]).formed Try.prog 96 = true := by simp [Value.formed, Try.underlying96, cells_look]
  obtain ⟨d, hd⟩ : ∃ d, Try.prog.types.size + 1 = d + 2 := ⟨Try.prog.types.size - 1, by have h0 : 0 < Try.prog.types.size := Nat.lt_of_le_of_lt (Nat.zero_le _) row_look; rw [show Try.prog.types.size - 1 + 2 = Try.prog.types.size - 1 + 1 + 1 from rfl, Nat.sub_add_cancel h0]⟩
  unfold keyOf
  rw [Try.underlying96]
  simp only
  rw [if_pos (by rw [keyt_look, hf]; rfl), hd]
  have := lits_look d x y hx hy
  simp [Value.cells, this]

end Go.Proofs.Ytnhjoiafadapaaa
