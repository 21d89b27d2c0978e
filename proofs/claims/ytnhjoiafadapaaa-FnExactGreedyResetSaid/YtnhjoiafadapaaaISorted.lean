/- The program's sorted lists without duplicates, of lists that have none. -/
import Derived.Test.YtnhjoiafadapaaaRows
import Derived.Test.YtnhjoiafadapaaaCore
import Derived.Test.YtnhjoiafadapaaaInfos
import Derived.Test.YtnhjoiafadapaaaPlains
import Derived.Test.YtnhjoiafadapaaaJoins
import Derived.Test.YtnhjoiafadapaaaIClone
import Derived.Test.YtnhjoiafadapaaaISort
import Derived.Test.YtnhjoiafadapaaaArrs
import Derived.WalkKit
import Derived.WalkSpells
import Derived.WalkLawsBesides
import Derived.Deep.QuietTactic
import Derived.Deep.OwnRows
import Derived.BigQuiet
import Derived.KernelRfl
import Derived.Shelf.SlicesE.Compact
import Derived.Sort.OwnSortedInts
import Derived.WalkSmall
namespace Go.Proofs.Ytnhjoiafadapaaa
open Go.RowKit

def cptRen : Go.Shelf.Ren := ⟨fun | 43 => 164 | _ => 0, fun | 0 => 0 | 3 => 3 | 4 => 4 | 22 => 26 | 23 => 2 | _ => 0, fun _ => 0⟩
theorem cptLay : Go.Proofs.SlLaysE.n43 Try.prog cptRen := {
  mixed := by kernel_rfl
  f43 := ⟨Try.f164.name, by decide, Try.func164.trans (congrArg some (by kernel_rfl))⟩
  t0 := Try.underlying0
  a0 := Try.isAgg0
  z0 := Try.sizeOf0
  v0 := Try.zeroValue0
  t3 := Try.underlying3
  a3 := Try.isAgg3
  z3 := Try.sizeOf3
  v3 := Try.zeroValue3
  t4 := Try.underlying4
  a4 := Try.isAgg4
  z4 := Try.sizeOf4
  v4 := Try.zeroValue4
  t22 := Try.underlying26
  a22 := Try.isAgg26
  z22 := Try.sizeOf26
  v22 := Try.zeroValue26
  a23 := Try.isAgg2
  z23 := Try.sizeOf2 }
/-- slices.Compact leaves a list without duplicates as it is. -/
theorem Compact64_apt {B E b off c : Nat} (xs : List Int) (w : World) (h : OwnInts B E w (.slice (some ⟨b, off, none⟩) xs.length c) xs) (hc : xs.length ≤ c) (ha : Apt xs) :
    Calls Try.prog 164 #[.slice (some ⟨b, off, none⟩) xs.length c] w fun e w' => e = .returned (.slice (some ⟨b, off, none⟩) xs.length c) ∧ New w w' := by
  obtain ⟨A, c', e, hl, _, hcell⟩ := id h
  cases e
  have hH : Go.Sort.Holds (Value.int .i64) w b off xs.toArray := by
    intro j hj
    have hj' : j < xs.length := by simpa using hj
    obtain ⟨b', off', e, hx, hf⟩ := hcell j hj'
    cases e
    exact ⟨by rw [hx, nth_eq _ _ hj']; simp [hj'], hf⟩
  have hk : ∀ j, j < xs.toArray.size → Go.Lib.keeps xs.toArray j = true := by
    intro j hj
    have hj' : j < xs.length := by simpa using hj
    unfold Go.Lib.keeps
    rw [decide_eq_true_eq]
    by_cases h0 : j = 0
    · exact Or.inl h0
    · right
      intro q
      have := ha j (j - 1) hj' (by omega) (by rw [nth_eq _ _ hj', nth_eq _ _ (show j - 1 < xs.length by omega)]; simpa [hj', show j - 1 < xs.length by omega] using q)
      omega
  have e1 : Go.Lib.compactUpTo xs.toArray xs.toArray.size = xs := by rw [Go.Lib.compactUpTo_all _ _ hk, Go.Lib.range_map_get]
  have C := Go.Proofs.AnyE.slices_Compact cptLay (Value.int .i64) (fun _ => rfl) (Go.Proofs.EqlAt.int _ _ _) (Go.Proofs.NeqAt.int _ _ _) 0 Try.zeroValue2 b off c xs.toArray w hH (by simp; omega) (by simpa using hc)
  rw [e1] at C
  refine (show Calls Try.prog 164 #[.slice (some ⟨b, off, none⟩) xs.length c] w _ from C).mono ?_
  rintro e w' ⟨he, q, hw⟩
  refine ⟨he, ?_⟩
  have e2 : (xs ++ List.replicate (xs.toArray.size - xs.length) (0 : Int)).toArray = xs.toArray := by simp
  rw [e2] at hw
  rw [hw, Go.Sort.putRow_self (Value.int .i64) (Go.Sort.ahead w q) b off xs.toArray (Go.Sort.holds_ahead _ _ _ _ _ _ hH)]
  exact (New.refl w).drewN q
set_option maxHeartbeats 1000000 in
theorem sorted_apt (v : Value) (xs : List Int) (w : World) (h : IntsAt w v xs) (h0 : 0 < xs.length) (hl : xs.length ≤ 12) (ha : Apt xs) :
    Calls Try.prog 122 #[v] w fun e w' => ∃ r, e = .returned r ∧ New w w' ∧ OwnInts w.heap.size w'.heap.size w' r (insAll xs) := by
  have HA := hid ha
  clear ha
  go_enter Try.func122, Try.ntmps122
  go_wp2_with fail
  refine (Clone64_any _ xs _ h (by omega)).mono ?_
  rintro e w1 ⟨r, rfl, hn1, hg1⟩
  obtain ⟨g, _, ⟨c, rfl⟩, hgb, _⟩ := ownsRow_cells hg1 0 (by simpa using h0)
  have hcap := ownsRow_cap hg1
  have ho1 := hg1.own (by omega)
  go_wp2_with fail
  refine (Sort64_any xs w1 ho1 rfl hl).mono ?_
  rintro e w2 ⟨rfl, ho2, hg2⟩
  have hn2 : New w w2 := New.grown hn1 hg2 (fun q hq => by cases hq; exact hgb)
  have hil := insAll_len xs
  have hs2 := hg2.size
  have C := Compact64_apt (insAll xs) w2 (by rw [hil]; exact ho2) (by rw [hil]; exact hcap) HA.out.insAll
  rw [hil] at C
  clear hil
  go_wp2_with fail
  refine C.mono ?_
  rintro e w3 ⟨rfl, hn3⟩
  go_wp2_with fail
  go_ret
  exact ⟨_, rfl, hn2.trans hn3, (ho2.new hn3).widen (Nat.le_refl _) (by have := hn3.size; omega)⟩

end Go.Proofs.Ytnhjoiafadapaaa
