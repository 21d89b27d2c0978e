/- A new word is stored; what else is in the map stays. -/
import Derived.Test.YtnhjoiafadapaaaCore
import Derived.Test.YtnhjoiafadapaaaMaps
import Derived.Test.YtnhjoiafadapaaaPlains
import Derived.WalkKit
import Derived.WalkSpells
import Derived.WalkLawsBesides
import Derived.Deep.QuietTactic
import Derived.Deep.OwnRows
import Derived.BigQuiet
import Derived.KernelRfl
namespace Go.Proofs.Ytnhjoiafadapaaa
open Go.RowKit

theorem BLoop.put2 {α : Type} [DecidableEq α] [Inhabited α] {M : BMem α} {P : Program} {B : Nat} {w0 w2 : World} {lv wv : Value} {mb : Nat} {t : Bfs α} {word : List Int} (h : BLoop M P B w0 lv mb t) (hn : New w0 w2) (hw : OwnInts w0.heap.size w2.heap.size w2 wv word) (hB : B ≤ w0.heap.size)
    (Kl : Go.Maps.Keyed P M.K) {T E : TypeId} (ht : P.underlying T = some (.map M.K E)) {z : Value} (hz : ∀ w, (zeroValue E).run P w = .ok z w) (hinj : ∀ x y, M.ok x → M.ok y → M.key x = M.key y → x = y) (hall : ∀ x, x ∈ t.list → M.ok x) (x : α) (hok : M.ok x) (hkey : keyOf P M.K (M.val x) = some (M.key x)) (hx : x ∉ t.list) (hl : t.list.length < 1099511627776) :
    ∃ w3, (Instr.mapUpdate T (.map (some mb)) (M.val x) wv).run P w2 = .ok () w3 ∧ w2.grownBy w3 (some mb) ∧ BPend M P B w3 lv mb t x word ∧
      ∀ y v, M.ok y → y ≠ x → keyOf P M.K (M.val y) = some (M.key y) → (Instr.lookup T (.map (some mb)) (M.val y) false).run P w2 = .ok v w2 → (Instr.lookup T (.map (some mb)) (M.val y) false).run P w3 = .ok v w3 := by
  obtain ⟨F, vals, h1, h2, h3, h4, h5⟩ := h
  have h1' := h1.new hn
  obtain ⟨w3, r1, r2, r3⟩ := h1'.put_spec (val := wv) Kl ht (by unfold maxLen; omega) hkey
  have r2' := r2
  rw [h5 x hok hx] at r2
  simp only [Option.isSome_none, Bool.false_eq_true, if_false] at r2
  have hs := r3.size
  have hb3 := World.ownsRow.lt h3
  refine ⟨w3, r1, r3, ⟨putF F (M.key x) wv, vals, wv, r2, h2, h1'.ownsRow r3 (ownsRow_new h3 hn), fun i hi => ?_, ⟨?_, ?_, ?_⟩, fun y hoy hy hyx => ?_⟩, fun y v hoy hyx hky hlk => ?_⟩
  · obtain ⟨a, b, c⟩ := h4 i hi
    refine ⟨?_, (h1'.ownInts r3 (b.new hn)).widen (Nat.le_refl _) (by have := hn.size; omega), c⟩
    unfold putF
    rw [if_neg]
    · exact a
    · intro e
      have := hinj _ _ (hall _ (nth_mem _ _ hi)) hok e
      exact hx (this ▸ nth_mem _ _ hi)
  · unfold putF; rw [if_pos rfl]
  · exact (h1'.ownInts r3 hw).widen hB hs
  · exact ApartV.of_lt (fun k hk => (hw.block k hk).1) (fun k hk => (hb3 k hk).2)
  · unfold putF
    rw [if_neg]
    · exact h5 y hoy hy
    · intro e
      exact hyx (hinj _ _ hoy hok e)
  · have k1 := (h1'.look Kl ht (hz w2) hky).1
    have k2 := (r2.look Kl ht (hz w3) hky).1
    rw [hlk] at k1
    injection k1 with k1
    have e1 : putF F (M.key x) wv (M.key y) = F (M.key y) := by
      unfold putF
      rw [if_neg]
      intro e
      exact hyx (hinj _ _ hoy hok e)
    rw [k2, e1, k1]

end Go.Proofs.Ytnhjoiafadapaaa
