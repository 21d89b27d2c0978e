/- The program's first words that lead to a set. -/
import Derived.Test.YtheimpgjkfphnaaRows
import Derived.Test.YtheimpgjkfphnaaBase
import Derived.Test.YtheimpgjkfphnaaAut
import Derived.Test.YtheimpgjkfphnaaApp
import Derived.Test.YtheimpgjkfphnaaAppRows
import Derived.Test.YtheimpgjkfphnaaInfo
import Derived.Test.YtheimpgjkfphnaaPlain1
import Derived.Test.YtheimpgjkfphnaaPlainRun
import Derived.Test.YtheimpgjkfphnaaPlainSet
import Derived.Test.YtheimpgjkfphnaaPlainBits
import Derived.Test.YtheimpgjkfphnaaPlainTour
import Derived.Test.YtheimpgjkfphnaaPlainFirst
import Derived.Test.YtheimpgjkfphnaaPlainRen
import Derived.Test.YtheimpgjkfphnaaMapV
import Derived.Test.YtheimpgjkfphnaaTourV
import Derived.Test.YtheimpgjkfphnaaI01a
import Derived.Test.YtheimpgjkfphnaaI01b
import Derived.Test.YtheimpgjkfphnaaI01c
import Derived.Test.YtheimpgjkfphnaaIIdx
import Derived.Test.YtheimpgjkfphnaaIFlk
import Derived.Test.YtheimpgjkfphnaaITour
import Derived.Test.YtheimpgjkfphnaaIRen
import Derived.WalkKit
import Derived.WalkSpells
import Derived.WalkLawsBesides
import Derived.Deep.QuietTactic
import Derived.Deep.OwnRows
import Derived.BigQuiet
import Derived.KernelRfl
import Derived.Carry
import Derived.Deep.RegionHeld3
namespace Go.Proofs.Ytheimpgjkfphnaa
open Go.RowKit

/-- A tour that a call has made. -/
def TourAt (B : Nat) (w : World) (v : Value) (t : Tour) : Prop := ∃ lv mb B', v = .agg #[lv, .map (some mb)] ∧ B ≤ B' ∧ TLoop Try.prog 102 102 B' B' w lv mb t
theorem TourAt.new {B : Nat} {w w' : World} {v : Value} {t : Tour} (h : TourAt B w v t) (hn : New w w') : TourAt B w' v t := let ⟨lv, mb, B', e, hb, h⟩ := h; ⟨lv, mb, B', e, hb, h.new hn⟩
theorem full_iota (n : Int) (h : 0 ≤ n) : orB (iota 0 n.toNat) = full n := by
  apply Nat.eq_of_testBit_eq
  intro i
  unfold full
  rw [Nat.testBit_two_pow_sub_one, Bool.eq_iff_iff, testBit_orB]
  simp only [decide_eq_true_eq]
  constructor
  · rintro ⟨x, hx, rfl⟩
    rw [mem_iota] at hx; omega
  · intro hi
    exact ⟨(i : Int), by rw [mem_iota]; omega, by omega⟩
theorem sIota (a : Aut) (ha : autOk a = true) : ∀ i, i < (iota 0 a.n.toNat).length → 0 ≤ nth (iota 0 a.n.toNat) i ∧ nth (iota 0 a.n.toNat) i < 10 := fun i hi => by
  have := autOk_n ha
  rw [iota_length] at hi
  rw [nth_iota _ _ _ hi]; omega

end Go.Proofs.Ytheimpgjkfphnaa
