/- How the laws' arguments, as data, read as lists in memory. -/
import Derived.Test.YthbebnfhplacnaaDoorCore
import Derived.WalkKit
import Derived.WalkSpells
import Derived.WalkLawsBesides
import Derived.Deep.QuietTactic
import Derived.Deep.OwnRows
import Derived.BigQuiet
import Derived.KernelRfl
import Derived.ProofKit
import Derived.Lib.SmallJoins
import Derived.Deep.Matrix
namespace Go.Proofs.YthbebnfhplacnaaDoor
open Go.RowKit

open Go.ChangeShapes Go.WideShapes Go.ChangeAt Go.Joins Go.Deep
theorem spot_none {W : World} {a : Addr} {n : Nat} {v : Value} (h : W.cell? (a.add n) = some v) (hn : n = 0) : a = ⟨a.block, a.off, none⟩ := by
  subst hn
  rcases a with ⟨b, o, s⟩
  cases s with
  | none => rfl
  | some s =>
    simp [Addr.add, World.cell?] at h
    split at h <;> simp at h
theorem add_none (b off i : Nat) : (⟨b, off, none⟩ : Addr).add i = ⟨b, off + i, none⟩ := by
  unfold Addr.add
  split
  · rename_i h; subst h; rfl
  · rfl
theorem intsAt_of {W : World} {A : Option Addr} {L C : Nat} {Z : List Int} (hL : L ≤ C) (hC : C ≤ maxLen) (hZ : Z.length = C) (hA : A = none → C = 0)
    (hc : ∀ a', A = some a' → ∀ c, c < C → W.cell? (a'.add c) = some (.int .i64 (Z.getD c 0))) : IntsAt W (.slice A L C) (Z.take L) := by
  have hlen : (Z.take L).length = L := by simp; omega
  refine ⟨A, C, by rw [hlen], by rw [hlen]; unfold maxLen at hC; omega, fun i hi => ?_⟩
  rw [hlen] at hi
  cases A with
  | none => have := hA rfl; omega
  | some a =>
    have h0 := spot_none (hc a rfl 0 (by omega)) rfl
    refine ⟨a.block, a.off, by rw [← h0], ?_⟩
    have h1 := hc a rfl i (by omega)
    rw [h0, add_none] at h1
    rw [h1]
    unfold nth
    simp [hi]
section
variable {H : Type} {enc : TypeId × Value → H} {P : Program} {w : World} {base : Nat} {held : Bool}
theorem open_intsAt {t e : TypeId} {fuel : Nat} {cs : List Value} {x : DataW H × List MemPlace} (ht : P.underlying t = some (.slice e)) (he : P.underlying e = some (.int .i64)) (hc : P.cellsOf e = 1)
    (h : DataW.trod enc P w base (fun _ => true) held fuel t cs = some x) : ∃ v xs, cs = [v] ∧ IntsAt w v xs := by
  rcases open_ints ht he hc h with ⟨rfl, _⟩ | ⟨a, len, cap, zs, rfl, hb, hl, hm, hz, _, hcell, _⟩
  · exact ⟨_, [], rfl, none, 0, rfl, by simp, by simp⟩
  · simp at hz
    exact ⟨_, _, rfl, intsAt_of hl hm hz (by simp) (by rintro a' ⟨⟩ c hc'; exact hcell c (by omega))⟩
theorem open_rowsAt {t e q : TypeId} {fuel : Nat} {cs : List Value} {x : DataW H × List MemPlace} (ht : P.underlying t = some (.slice e)) (he : P.underlying e = some (.slice q)) (hq : P.underlying q = some (.int .i64))
    (ce : P.cellsOf e = 1) (cq : P.cellsOf q = 1) (h : DataW.trod enc P w base (fun _ => true) held fuel t cs = some x) : ∃ v xss, cs = [v] ∧ RowsAt w v xss := by
  rcases open_int_rows ht he hq ce cq h with ⟨rfl, _⟩ | ⟨a, len, cap, A, L, C, Z, rfl, hb, hl, hm, _, hcell⟩
  · exact ⟨_, [], rfl, none, 0, rfl, by simp, by simp⟩
  · refine ⟨_, (List.range len).map fun i => (Z i).take (L i), rfl, some a, cap, by simp, by simp; unfold maxLen at hm; omega, fun i hi => ?_⟩
    simp at hi
    have h0 := spot_none (hcell 0 (by omega)).1 rfl
    obtain ⟨h1, h2, h3, h4, _, h5, h6⟩ := hcell i (by omega)
    rw [h0, add_none] at h1
    refine ⟨a.block, a.off, _, by rw [← h0], h1, ?_⟩
    have := intsAt_of (W := w) h2 h3 h4 h5 (fun a' e c hc => (h6 a' e).2 c hc)
    have e : nth ((List.range len).map fun i => (Z i).take (L i)) i = (Z i).take (L i) := by
      rw [nth_eq _ _ (by simpa using hi)]; simp
    rw [e]; exact this
/-- An automaton by value, as it came in. -/
theorem open_autAt {r : Reach} {b0 : Nat} {t t1 t2 e q : TypeId} {f0 f1 : Field} {v : Value} {d : DataW H} {p : List MemPlace} (hs : P.underlying t = some (.struct #[f0, f1])) (hone : oneCellFields P #[f0, f1] = true) (hC : P.cellsOf t = 2)
    (h1 : f0.type = t1) (h2 : f1.type = t2) (h3 : P.underlying t1 = some (.int .i64)) (ht : P.underlying t2 = some (.slice e)) (he : P.underlying e = some (.slice q)) (hq : P.underlying q = some (.int .i64))
    (ce : P.cellsOf e = 1) (cq : P.cellsOf q = 1)
    (hv : Value.okWide P w r b0 t v) (h : DataW.Trod enc P w base (fun _ => true) held t v d p) : ∃ a, AutAt w v a := by
  obtain ⟨v0, v1, y0, y1, n, rfl, _, _, k0, k1⟩ := open_agg2 hs hone hC hv h
  subst h1 h2
  obtain ⟨z, e0, _, _⟩ := DataW.trod_int h3 k0
  cases e0
  obtain ⟨v', xss, e', hr⟩ := open_rowsAt ht he hq ce cq k1
  cases e'
  exact ⟨⟨z, xss⟩, _, rfl, hr⟩
theorem open_intsAt' {t e : TypeId} {v : Value} {d : DataW H} {p : List MemPlace} (ht : P.underlying t = some (.slice e)) (he : P.underlying e = some (.int .i64)) (hc : P.cellsOf e = 1)
    (hv : ∃ A n c, v = .slice A n c) (h : DataW.Trod enc P w base (fun _ => true) held t v d p) : ∃ xs, IntsAt w v xs := by
  obtain ⟨A, n, c, rfl⟩ := hv
  obtain ⟨fuel, hf⟩ := h
  obtain ⟨v', xs, e', hr⟩ := open_intsAt ht he hc hf
  simp [Value.cells] at e'
  subst e'
  exact ⟨xs, hr⟩
end
section
variable {H : Type} {enc : TypeId × Value → H} {P : Program} {w : World} {base : Nat} {held : Bool}
/-- A machine by value, as it came in. -/
theorem open_machAt {r : Reach} {b0 : Nat} {t t1 t2 e q : TypeId} {f0 f1 f2 f3 : Field} {v : Value} {d : DataW H} {p : List MemPlace} (hs : P.underlying t = some (.struct #[f0, f1, f2, f3])) (hone : oneCellFields P #[f0, f1, f2, f3] = true) (hC : P.cellsOf t = 4)
    (h0 : f0.type = t1) (h1 : f1.type = t1) (h2 : f2.type = t2) (h3' : f3.type = t2) (h3 : P.underlying t1 = some (.int .i64)) (ht : P.underlying t2 = some (.slice e)) (he : P.underlying e = some (.slice q)) (hq : P.underlying q = some (.int .i64))
    (ce : P.cellsOf e = 1) (cq : P.cellsOf q = 1)
    (hv : Value.okWide P w r b0 t v) (h : DataW.Trod enc P w base (fun _ => true) held t v d p) : ∃ a, MachAt w v a := by
  obtain ⟨v0, v1, v2, v3, y0, y1, y2, y3, n, rfl, _, _, k0, k1, k2, k3⟩ := open_agg4 hs hone hC hv h
  subst h0 h2
  rw [h1] at k1
  rw [h3'] at k3
  obtain ⟨z, e0, _, _⟩ := DataW.trod_int h3 k0
  cases e0
  obtain ⟨z', e0, _, _⟩ := DataW.trod_int h3 k1
  cases e0
  obtain ⟨u1, xss, e1, hr1⟩ := open_rowsAt ht he hq ce cq k2
  cases e1
  obtain ⟨u2, yss, e2, hr2⟩ := open_rowsAt ht he hq ce cq k3
  cases e2
  exact ⟨⟨z, z', xss, yss⟩, _, _, rfl, hr1, hr2⟩
end

end Go.Proofs.YthbebnfhplacnaaDoor
