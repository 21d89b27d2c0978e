/- Pairs of numbers as keys of a map. -/
import Derived.Test.YtcjmcpfdpnakkaaRows
import Derived.Test.YtcjmcpfdpnakkaaBase
import Derived.Test.YtcjmcpfdpnakkaaInfo
import Derived.WalkKit
import Derived.WalkSpells
import Derived.WalkLawsBesides
import Derived.Deep.QuietTactic
import Derived.Deep.OwnRows
import Derived.BigQuiet
import Derived.KernelRfl
import Derived.DeepKeys4
import Derived.Maps.Keyed
namespace Go.Proofs.Ytcjmcpfdpnakkaa
open Go.RowKit

theorem laidOutK : laidOutB Try.prog = true := by kernel_rfl
theorem row_pair : (183 : TypeId) < Try.prog.types.size := of_decide_eq_true (by kernel_rfl)
theorem cells_pair : Try.prog.cellsOf 183 = 2 := by kernel_rfl
theorem cells_i64 : Try.prog.cellsOf 2 = 1 := by kernel_rfl
theorem keyt_pair : Try.prog.keyType 183 = true := by kernel_rfl
theorem wide_pair : (match Try.prog.underlying 183 with | some (.array _ _) | some (.struct _) => true | _ => false) = true := by rw [Try.underlying183]
set_option maxRecDepth 20000 in
theorem law_pair : Go.Maps.Keyed Try.prog 183 := Go.Maps.Keyed.of_law (deep_law_laid laidOutK (m := 2) (by omega) row_pair (by kernel_rfl) wide_pair)
set_option maxRecDepth 20000 in
theorem lits_pair (d : Nat) (x y : Int) (hx : (Lit.int .i64 x).wf = true) (hy : (Lit.int .i64 y).wf = true) : Try.prog.keyLits (d + 2) 183 [.int .i64 x, .int .i64 y] = some [.int .i64 x, .int .i64 y] := by
  have h1 : ∀ z : Int, (Lit.int .i64 z).wf = true → Try.prog.keyLits (d + 1) 2 [.int .i64 z] = some [.int .i64 z] := fun z hz => by
    unfold Program.keyLits
    rw [Try.underlying2]
    simp [hz]
  unfold Program.keyLits
  rw [Try.underlying183]
  simp [cells_pair, cells_i64, h1 x hx, h1 y hy]
set_option maxRecDepth 20000 in
theorem key_pair (x y : Int) (hx : (Lit.int .i64 x).wf = true) (hy : (Lit.int .i64 y).wf = true) : keyOf Try.prog 183 (.agg #[.int .i64 x, .int .i64 y]) = some (.string (keyBytes [.int .i64 x, .int .i64 y])) := by
  have hf : (Value.agg #[.int .i64 x, .int .i64 y]).formed Try.prog 183 = true := by simp [Value.formed, Try.underlying183, cells_pair]
  obtain ⟨d, hd⟩ : ∃ d, Try.prog.types.size + 1 = d + 2 := ⟨Try.prog.types.size - 1, by have h0 : 0 < Try.prog.types.size := Nat.lt_of_le_of_lt (Nat.zero_le _) row_pair; rw [show Try.prog.types.size - 1 + 2 = Try.prog.types.size - 1 + 1 + 1 from rfl, Nat.sub_add_cancel h0]⟩
  unfold keyOf
  rw [Try.underlying183]
  simp only
  rw [if_pos (by rw [keyt_pair, hf]; rfl), hd]
  have := lits_pair d x y hx hy
  simp [Value.cells, this]

end Go.Proofs.Ytcjmcpfdpnakkaa
