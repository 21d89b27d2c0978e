/- A machine in memory. -/
import Derived.Test.YtcjmcpfdpnakkaaBase
import Derived.Test.YtcjmcpfdpnakkaaAut
import Derived.WalkKit
import Derived.WalkSpells
import Derived.WalkLawsBesides
import Derived.Deep.QuietTactic
import Derived.Deep.OwnRows
import Derived.BigQuiet
import Derived.KernelRfl
namespace Go.Proofs.Ytcjmcpfdpnakkaa
open Go.RowKit

structure Mach where
  n : Int
  o : Int
  nx : List (List Int)
  out : List (List Int)
  deriving DecidableEq
def Mach.size (m : Mach) : Nat := total m.nx + total m.out
def MachAt (w : World) (v : Value) (m : Mach) : Prop := ∃ r1 r2, v = .agg #[.int .i64 m.n, .int .i64 m.o, r1, r2] ∧ RowsAt w r1 m.nx ∧ RowsAt w r2 m.out
/-- The two tables of an own machine lie in blocks apart. -/
def OwnMach (B E : Nat) (w : World) (v : Value) (m : Mach) : Prop :=
  ∃ r1 r2 M, v = .agg #[.int .i64 m.n, .int .i64 m.o, r1, r2] ∧ B ≤ M ∧ M ≤ E ∧ OwnRows B M w r1 m.nx ∧ OwnRows M E w r2 m.out
theorem MachAt.new {w w' : World} {v : Value} {m : Mach} (h : MachAt w v m) (hw : New w w') : MachAt w' v m := let ⟨r1, r2, e, h1, h2⟩ := h; ⟨r1, r2, e, h1.new hw, h2.new hw⟩
theorem OwnMach.new {B E : Nat} {w w' : World} {v : Value} {m : Mach} (h : OwnMach B E w v m) (hw : New w w') : OwnMach B E w' v m := let ⟨r1, r2, M, e, hB, hE, h1, h2⟩ := h; ⟨r1, r2, M, e, hB, hE, h1.new hw, h2.new hw⟩
theorem OwnMach.at {B E : Nat} {w : World} {v : Value} {m : Mach} (h : OwnMach B E w v m) : MachAt w v m := let ⟨r1, r2, _, e, _, _, h1, h2⟩ := h; ⟨r1, r2, e, h1.at, h2.at⟩
theorem OwnMach.within {B E B' E' : Nat} {w w' : World} {v : Value} {m : Mach} (h : OwnMach B E w v m) (hw : Within B' E' w w') (hd : E ≤ B' ∨ E' ≤ B) : OwnMach B E w' v m := by
  obtain ⟨r1, r2, M, e, hB, hE, h1, h2⟩ := h
  exact ⟨r1, r2, M, e, hB, hE, h1.within hw (by omega), h2.within hw (by omega)⟩
theorem OwnMach.widen {B E B' E' : Nat} {w : World} {v : Value} {m : Mach} (h : OwnMach B E w v m) (hB : B' ≤ B) (hE : E ≤ E') : OwnMach B' E' w v m := by
  obtain ⟨r1, r2, M, e, h3, h4, h1, h2⟩ := h
  exact ⟨r1, r2, M, e, by omega, by omega, h1.widen hB (Nat.le_refl _), h2.widen (Nat.le_refl _) hE⟩
theorem Mach.ext' (a b : Mach) : decide (a = b) = (decide (a.n = b.n) && (decide (a.o = b.o) && (decide (a.nx = b.nx) && decide (a.out = b.out)))) := by
  cases a; cases b; simp

end Go.Proofs.Ytcjmcpfdpnakkaa
