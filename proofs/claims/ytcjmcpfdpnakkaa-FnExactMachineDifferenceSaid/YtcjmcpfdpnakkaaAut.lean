/- A struct of a number and a list of lists (an automaton, a partial one, roads), in memory. -/
import Derived.Test.YtcjmcpfdpnakkaaBase
import Derived.WalkKit
import Derived.WalkSpells
import Derived.WalkLawsBesides
import Derived.Deep.QuietTactic
import Derived.Deep.OwnRows
import Derived.BigQuiet
import Derived.KernelRfl
namespace Go.Proofs.Ytcjmcpfdpnakkaa
open Go.RowKit

/-- A number and lists: an automaton, a partial automaton, roads. -/
structure Aut where
  n : Int
  nx : List (List Int)
  deriving DecidableEq
def AutAt (w : World) (v : Value) (a : Aut) : Prop := ∃ rv, v = .agg #[.int .i64 a.n, rv] ∧ RowsAt w rv a.nx
def OwnAut (B E : Nat) (w : World) (v : Value) (a : Aut) : Prop := ∃ rv, v = .agg #[.int .i64 a.n, rv] ∧ OwnRows B E w rv a.nx
theorem AutAt.new {w w' : World} {v : Value} {a : Aut} (h : AutAt w v a) (hw : New w w') : AutAt w' v a := let ⟨rv, e, h⟩ := h; ⟨rv, e, h.new hw⟩
theorem OwnAut.new {B E : Nat} {w w' : World} {v : Value} {a : Aut} (h : OwnAut B E w v a) (hw : New w w') : OwnAut B E w' v a := let ⟨rv, e, h⟩ := h; ⟨rv, e, h.new hw⟩
theorem OwnAut.at {B E : Nat} {w : World} {v : Value} {a : Aut} (h : OwnAut B E w v a) : AutAt w v a := let ⟨rv, e, h⟩ := h; ⟨rv, e, h.at⟩
theorem OwnAut.within {B E B' E' : Nat} {w w' : World} {v : Value} {a : Aut} (h : OwnAut B E w v a) (hw : Within B' E' w w') (hd : E ≤ B' ∨ E' ≤ B) : OwnAut B E w' v a := let ⟨rv, e, h⟩ := h; ⟨rv, e, h.within hw hd⟩
theorem OwnAut.widen {B E B' E' : Nat} {w : World} {v : Value} {a : Aut} (h : OwnAut B E w v a) (hB : B' ≤ B) (hE : E ≤ E') : OwnAut B' E' w v a := let ⟨rv, e, h⟩ := h; ⟨rv, e, h.widen hB hE⟩
theorem Aut.ext' (a b : Aut) : decide (a = b) = (decide (a.n = b.n) && decide (a.nx = b.nx)) := by
  cases a; cases b; simp

end Go.Proofs.Ytcjmcpfdpnakkaa
