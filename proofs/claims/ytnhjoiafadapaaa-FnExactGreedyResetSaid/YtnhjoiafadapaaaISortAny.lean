/- The program's sorted lists without duplicates, of any short lists. -/
import Derived.Test.YtnhjoiafadapaaaRows
import Derived.Test.YtnhjoiafadapaaaCore
import Derived.Test.YtnhjoiafadapaaaInfos
import Derived.Test.YtnhjoiafadapaaaPlains
import Derived.Test.YtnhjoiafadapaaaJoins
import Derived.Test.YtnhjoiafadapaaaPlainReset
import Derived.Test.YtnhjoiafadapaaaPlainGreeds
import Derived.Test.YtnhjoiafadapaaaIClone
import Derived.Test.YtnhjoiafadapaaaISort
import Derived.Test.YtnhjoiafadapaaaArrs
import Derived.Test.YtnhjoiafadapaaaISorted
import Derived.WalkKit
import Derived.WalkSpells
import Derived.WalkLawsBesides
import Derived.Deep.QuietTactic
import Derived.Deep.OwnRows
import Derived.BigQuiet
import Derived.KernelRfl
import Derived.Shelf.SlicesE.Compact
import Derived.Sort.OwnSortedInts
import Derived.WalkSmall
namespace Go.Proofs.Ytnhjoiafadapaaa
open Go.RowKit

theorem grownBy_putRow {w : World} {g off n : Nat} (d : Array Int) : w.grownBy (Go.Sort.putRow (Value.int .i64) (Go.Sort.ahead w n) g off d) (some g) := by
  refine ⟨rfl, rfl, rfl, by simp [Go.Sort.putRow, Go.Sort.mapBlock, Go.Sort.ahead], fun k hk hne => ?_⟩
  have : g ≠ k := fun e => hne (by rw [e])
  simp [Go.Sort.putRow, Go.Sort.mapBlock, Go.Sort.ahead, Array.getElem?_modify, this]
theorem compact_len_le (xs : List Int) : ∀ m, (Go.Lib.compactUpTo xs.toArray m).length ≤ m
  | 0 => by simp [Go.Lib.compactUpTo]
  | m + 1 => by
    have := compact_len_le xs m
    rw [Go.Lib.compactUpTo_succ, List.length_append]
    split <;> simp <;> omega
theorem Compact64_any {B E b off c : Nat} (xs : List Int) (w : World) (h : OwnInts B E w (.slice (some ⟨b, off, none⟩) xs.length c) xs) (hc : xs.length ≤ c) :
    Calls Try.prog 164 #[.slice (some ⟨b, off, none⟩) xs.length c] w fun e w' => e = .returned (.slice (some ⟨b, off, none⟩) (Go.Lib.compactUpTo xs.toArray xs.toArray.size).length c) ∧ w.grownBy w' (some b) ∧ OwnInts B E w' (.slice (some ⟨b, off, none⟩) (Go.Lib.compactUpTo xs.toArray xs.toArray.size).length c) (Go.Lib.compactUpTo xs.toArray xs.toArray.size) := by
  obtain ⟨A, c', e, hl, hbe, hcell⟩ := id h
  cases e
  have hH : Go.Sort.Holds (Value.int .i64) w b off xs.toArray := by
    intro j hj
    have hj' : j < xs.length := by simpa using hj
    obtain ⟨b', off', e, hx, hf⟩ := hcell j hj'
    cases e
    exact ⟨by rw [hx, nth_eq _ _ hj']; simp [hj'], hf⟩
  have C := Go.Proofs.AnyE.slices_Compact cptLay (Value.int .i64) (fun _ => rfl) (Go.Proofs.EqlAt.int _ _ _) (Go.Proofs.NeqAt.int _ _ _) 0 Try.zeroValue2 b off c xs.toArray w hH (by simp; omega) (by simpa using hc)
  have hle : (Go.Lib.compactUpTo xs.toArray xs.toArray.size).length ≤ xs.length := by simpa using compact_len_le xs xs.toArray.size
  obtain ⟨Y, hY⟩ : ∃ Y, Y = Go.Lib.compactUpTo xs.toArray xs.toArray.size := ⟨_, rfl⟩
  rw [← hY] at C hle ⊢
  refine (show Calls Try.prog 164 #[.slice (some ⟨b, off, none⟩) xs.length c] w _ from C).mono ?_
  rintro e w' ⟨he, q, hw⟩
  refine ⟨he, by rw [hw]; exact grownBy_putRow _, _, _, rfl, by omega, hbe, fun i hi => ⟨b, off, rfl, ?_⟩⟩
  have hsz : (Y ++ List.replicate (xs.toArray.size - Y.length) (0 : Int)).toArray.size = xs.toArray.size := by simp; omega
  have hP := Go.Sort.holds_putRow (Value.int .i64) (Go.Sort.ahead w q) b off xs.toArray _ (Go.Sort.holds_ahead _ _ _ _ _ _ hH) hsz i (by rw [hsz]; simp; omega)
  rw [hw]
  refine ⟨?_, hP.2⟩
  rw [hP.1, nth_eq _ _ hi]
  have : (Y ++ List.replicate (xs.toArray.size - Y.length) (0 : Int)).toArray[i]! = Y[i] := by
    rw [getElem!_pos _ _ (by rw [hsz]; simp; omega)]
    simp [List.getElem_append_left hi]
  rw [this]
theorem swapAt_mem' (xs : List Int) (j : Nat) (hj : j + 1 < xs.length) (x : Int) (h : x ∈ xs) : x ∈ swapAt xs j := by
  obtain ⟨i, hi, rfl⟩ := mem_nth _ _ h
  have key : ∀ k, k < xs.length → nth (swapAt xs j) k ∈ swapAt xs j := fun k hk => nth_mem _ _ (by rw [swapAt_len]; exact hk)
  by_cases h1 : i = j
  · have := key (j + 1) hj
    rw [nth_swapAt xs j _ hj, if_neg (by omega), if_pos rfl] at this
    rw [h1]; exact this
  · by_cases h2 : i = j + 1
    · have := key j (by omega)
      rw [nth_swapAt xs j _ hj, if_pos rfl] at this
      rw [h2]; exact this
    · have := key i hi
      rw [nth_swapAt xs j _ hj, if_neg h1, if_neg h2] at this
      exact this
theorem downAt_mem' : ∀ (j : Nat) (xs : List Int), j < xs.length → ∀ x, x ∈ xs → x ∈ downAt j xs
  | 0, xs, _, x, h => h
  | j + 1, xs, hj, x, h => by
    unfold downAt
    split
    · exact downAt_mem' j _ (by rw [swapAt_len]; omega) x (swapAt_mem' xs j hj x h)
    · exact h
theorem insTo_mem' (xs : List Int) : ∀ i, i < xs.length → ∀ x, x ∈ xs → x ∈ insTo xs i
  | 0, _, x, h => h
  | i + 1, hi, x, h => by
    rw [insTo]
    exact downAt_mem' (i + 1) _ (by rw [insTo_len]; exact hi) x (insTo_mem' xs i (by omega) x h)
theorem insAll_mem' (xs : List Int) (x : Int) (h : x ∈ xs) : x ∈ insAll xs := by
  unfold insAll
  by_cases e : xs.length = 0
  · rw [e]; exact h
  · exact insTo_mem' xs _ (by omega) x h
theorem compact_sorted (xs : List Int) : Go.Lib.compactUpTo (insAll xs).toArray (insAll xs).toArray.size = imgL xs := by
  have hs : ∀ i d, i + d < (insAll xs).length → nth (insAll xs) i ≤ nth (insAll xs) (i + d) := by
    intro i d
    induction d with
    | zero => intro _; exact Int.le_refl _
    | succ d ih =>
      intro hd
      have h1 := ih (by omega)
      have h2 := insAll_sorted xs (i + d + 1) (by omega) (by omega)
      simp only [Nat.add_sub_cancel] at h2
      rw [show i + (d + 1) = i + d + 1 by omega]
      omega
  obtain ⟨r1, r2⟩ := compact_spec (insAll xs) (fun i j hij hj => by
    have := hs i (j - i) (by omega)
    rwa [show i + (j - i) = j by omega] at this)
  obtain ⟨s1, s2⟩ := imgL_spec xs
  exact rise_uniq _ _ r1 s1 (fun x => by rw [r2, s2]; exact ⟨insAll_mem xs x, insAll_mem' xs x⟩)
set_option maxHeartbeats 1000000 in
theorem sortedC_any (v : Value) (xs : List Int) (w : World) (h : IntsAt w v xs) (h0 : 0 < xs.length) (hl : xs.length ≤ 12) :
    Calls Try.prog 122 #[v] w fun e w' => ∃ r, e = .returned r ∧ New w w' ∧ OwnInts w.heap.size w'.heap.size w' r (imgL xs) ∧ (∀ A m c, r = .slice A m c → m ≤ c) := by
  go_enter Try.func122, Try.ntmps122
  go_wp2_with fail
  refine (Clone64_any _ xs _ h (by omega)).mono ?_
  rintro e w1 ⟨r, rfl, hn1, hg1⟩
  obtain ⟨g, _, ⟨c, rfl⟩, hgb, _⟩ := ownsRow_cells hg1 0 (by simpa using h0)
  have hcap := ownsRow_cap hg1
  have ho1 := hg1.own (by omega)
  go_wp2_with fail
  refine (Sort64_any xs w1 ho1 rfl hl).mono ?_
  rintro e w2 ⟨rfl, ho2, hg2⟩
  have hn2 : New w w2 := New.grown hn1 hg2 (fun q hq => by cases hq; exact hgb)
  have hil := insAll_len xs
  have hs2 := hg2.size
  have C := Compact64_any (insAll xs) w2 (by rw [hil]; exact ho2) (by rw [hil]; exact hcap)
  rw [hil, compact_sorted] at C
  clear hil
  go_wp2_with fail
  refine C.mono ?_
  rintro e w3 ⟨rfl, hg3, ho3⟩
  have hn3 : New w w3 := New.grown hn2 hg3 (fun q hq => by cases hq; exact hgb)
  go_wp2_with fail
  go_ret
  exact ⟨_, rfl, hn3, ho3.widen (Nat.le_refl _) (by have := hg3.size; omega), fun A m c' e => by injection e with e1 e2 e3; subst e2; subst e3; have := imgL_len xs; omega⟩
theorem sorted_any (v : Value) (xs : List Int) (w : World) (h : IntsAt w v xs) (h0 : 0 < xs.length) (hl : xs.length ≤ 12) :
    Calls Try.prog 122 #[v] w fun e w' => ∃ r, e = .returned r ∧ New w w' ∧ OwnInts w.heap.size w'.heap.size w' r (imgL xs) :=
  (sortedC_any v xs w h h0 hl).mono fun _ _ ⟨r, h1, h2, h3, _⟩ => ⟨r, h1, h2, h3⟩

end Go.Proofs.Ytnhjoiafadapaaa
