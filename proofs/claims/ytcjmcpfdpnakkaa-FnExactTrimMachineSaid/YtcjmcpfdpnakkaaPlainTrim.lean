/- The machine of the states that can be reached from the first. -/
import Derived.Test.YtcjmcpfdpnakkaaCore
import Derived.Test.YtcjmcpfdpnakkaaPlains
import Derived.Test.YtcjmcpfdpnakkaaPlainApart
import Derived.WalkKit
import Derived.WalkSpells
import Derived.WalkLawsBesides
import Derived.Deep.QuietTactic
import Derived.Deep.OwnRows
import Derived.BigQuiet
import Derived.KernelRfl
namespace Go.Proofs.Ytcjmcpfdpnakkaa
open Go.RowKit

section
variable {α : Type} [DecidableEq α] [Inhabited α] {g : Nat → α → Option α} {L : Nat}
omit [DecidableEq α] in
theorem BPre.mem {a b : Bfs α} (h : BPre a b) (x : α) (hx : x ∈ a.list) : x ∈ b.list := by
  obtain ⟨i, hi, rfl⟩ := mem_nth a.list x hx
  rw [← (h.2 i hi).1]
  exact nth_mem _ _ (Nat.lt_of_lt_of_le hi h.1)
theorem bRow_has (i : Nat) (t : Bfs α) (hi : i < t.list.length) : ∀ k, ∀ l, l < k → ∀ y, g l (nth t.list i) = some y → y ∈ (bRow g i t k).list
  | 0, l, hl, _, _ => absurd hl (by omega)
  | k + 1, l, hl, y, hy => by
    rcases Nat.lt_succ_iff_lt_or_eq.1 hl with h | h
    · exact (bRow_pre (g := g) i t k 1).mem y (bRow_has i t hi k l h y hy)
    · subst h
      have e : nth (bRow g i t l).list i = nth t.list i := ((bRow_pre' (g := g) i t l).2 i hi).1
      rw [bRow_succ]
      by_cases hm : y ∈ (bRow g i t l).list
      · rw [bStep_has g i l _ y (by rw [e]; exact hy) hm]; exact hm
      · rw [bStep_new g i l _ y (by rw [e]; exact hy) hm]; simp
/-- What has been looked at leads only to what is known. -/
theorem bTo_has (s : α) : ∀ k, ∀ i, i < k → i < (bTo g L s k).list.length → ∀ l, l < L → ∀ y, g l (nth (bTo g L s k).list i) = some y → y ∈ (bTo g L s k).list
  | 0, i, hi, _, _, _, _, _ => absurd hi (by omega)
  | k + 1, i, hi, hl, l, hlL, y, hy => by
    rw [bTo_succ] at hl hy ⊢
    split at hl
    · rename_i hk
      rw [if_pos hk] at hy ⊢
      rcases Nat.lt_succ_iff_lt_or_eq.1 hi with h | h
      · have hi2 : i < (bTo g L s k).list.length := by omega
        have e : nth (bRow g k (bTo g L s k) L).list i = nth (bTo g L s k).list i := ((bRow_pre' (g := g) k (bTo g L s k) L).2 i hi2).1
        rw [e] at hy
        exact (bRow_pre' (g := g) k (bTo g L s k) L).mem y (bTo_has s k i h hi2 l hlL y hy)
      · subst h
        have e : nth (bRow g i (bTo g L s i) L).list i = nth (bTo g L s i).list i := ((bRow_pre' (g := g) i (bTo g L s i) L).2 i hk).1
        rw [e] at hy
        exact bRow_has i (bTo g L s i) hk L l hlL y hy
    · rename_i hk
      rw [if_neg hk] at hy ⊢
      exact bTo_has s k i (by omega) hl l hlL y hy
end
def trG (m : Mach) (l : Nat) (x : Int) : Option Int := some (nth (nth m.nx l) x.toNat)
def trT (m : Mach) (k : Nat) : Bfs Int := bTo (trG m) m.nx.length 0 k
def trP (m : Mach) (x : Int) : Prop := 0 ≤ x ∧ x < m.n
def orderOf (m : Mach) : List Int := (trT m 11).list
theorem trG_ok {m : Mach} (hm : machOk m = true) (l : Nat) (x y : Int) (hl : l < m.nx.length) (hx : trP m x) (h : trG m l x = some y) : trP m y := by
  simp [trG] at h
  subst h
  obtain ⟨r1, r2⟩ := mach_row hm l hl
  obtain ⟨a, b⟩ := hx
  exact r2 _ (by omega)
theorem tr_bok {m : Mach} (hm : machOk m = true) (k : Nat) : BOk (trP m) m.nx.length (trT m k) :=
  BOk.to (fun l x y hl hx h => trG_ok hm l x y hl hx h) _ (by have := mach_n hm; exact ⟨Int.le_refl _, by omega⟩) k
theorem tr_bound {m : Mach} (hm : machOk m = true) {t : Bfs Int} (h : BOk (trP m) m.nx.length t) : t.list.length ≤ 10 := by
  have hn := mach_n hm
  refine h.bound (fun x => x.toNat) 10 (fun x hx => ?_) (fun x y hx hy e => ?_)
  · obtain ⟨a, b⟩ := hx; omega
  · obtain ⟨a, b⟩ := hx
    obtain ⟨c, d⟩ := hy
    omega
theorem tr_end {m : Mach} (hm : machOk m = true) (k : Nat) (hk : (trT m k).list.length = k) : orderOf m = (trT m k).list := by
  have hb := tr_bound hm (tr_bok hm k)
  unfold orderOf trT
  rw [bTo_end (g := trG m) (L := m.nx.length) 0 k 11 (by omega) hk]
theorem order_len {m : Mach} (hm : machOk m = true) : 1 ≤ (orderOf m).length ∧ (orderOf m).length ≤ 10 := by
  have h := tr_bok hm 11
  exact ⟨h.pos, tr_bound hm h⟩
theorem order_ok {m : Mach} (hm : machOk m = true) (x : Int) (hx : x ∈ orderOf m) : 0 ≤ x ∧ x < m.n := (tr_bok hm 11).ok x hx
theorem order_nodup {m : Mach} (hm : machOk m = true) : (orderOf m).Nodup := (tr_bok hm 11).nodup
theorem order_closed {m : Mach} (hm : machOk m = true) (l : Nat) (hl : l < m.nx.length) (x : Int) (hx : x ∈ orderOf m) : nth (nth m.nx l) x.toNat ∈ orderOf m := by
  obtain ⟨i, hi, rfl⟩ := mem_nth _ x hx
  have := tr_bound hm (tr_bok hm 11)
  exact bTo_has (g := trG m) (L := m.nx.length) 0 11 i (by unfold orderOf at hi; omega) hi l hl _ rfl
/-- The machine of some states, in an order. -/
def pickOf (m : Mach) (order : List Int) : Mach := ⟨order.length, m.o, m.nx.map fun row => order.map fun s => placeOf order (nth row s.toNat), m.out.map fun row => order.map fun s => nth row s.toNat⟩
def TrimMachine (m : Mach) : Mach × Int := if machOk m = true then (pickOf m (orderOf m), 0) else (⟨0, 0, [], []⟩, 1)
theorem placeOf_nth (xs : List Int) (hn : xs.Nodup) (i : Nat) (hi : i < xs.length) : placeOf xs (nth xs i) = i := by
  have : xs.findIdx? (fun x => decide (x = nth xs i)) = some i := by
    rw [List.findIdx?_eq_some_iff_getElem]
    refine ⟨hi, by rw [← nth_eq xs i hi]; simp, fun j hj => ?_⟩
    rw [← nth_eq xs j (by omega)]
    have := List.pairwise_iff_getElem.1 (List.nodup_iff_pairwise_ne.1 hn) j i (by omega) hi hj
    rw [← nth_eq _ _ (by omega), ← nth_eq _ _ hi] at this
    simp [this]
  unfold placeOf
  rw [this]
/-- Where each state stands, after k of them. -/
def toTo (n : Nat) (order : List Int) (k : Nat) : List Int := (List.range k).foldl (fun t i => t.set (nth order i).toNat (i : Int)) (List.replicate n 0)
theorem toTo_zero (n : Nat) (order : List Int) : toTo n order 0 = List.replicate n 0 := rfl
theorem toTo_succ (n : Nat) (order : List Int) (k : Nat) : toTo n order (k + 1) = (toTo n order k).set (nth order k).toNat (k : Int) := by unfold toTo; rw [List.range_succ, List.foldl_append]; rfl
theorem toTo_len (n : Nat) (order : List Int) : ∀ k, (toTo n order k).length = n
  | 0 => by simp [toTo]
  | k + 1 => by rw [toTo_succ, List.length_set, toTo_len n order k]
theorem toTo_at (n : Nat) (order : List Int) (hn : order.Nodup) (hb : ∀ x, x ∈ order → 0 ≤ x ∧ x < n) : ∀ k, k ≤ order.length → ∀ i, i < k → nth (toTo n order k) (nth order i).toNat = i
  | 0, _, i, hi => absurd hi (by omega)
  | k + 1, hk, i, hi => by
    have h1 := hb _ (nth_mem order k (by omega))
    have h2 := hb _ (nth_mem order i (by omega))
    rw [toTo_succ, nth_set _ _ _ _ (by rw [toTo_len]; omega)]
    by_cases e : i = k
    · subst e; rw [if_pos rfl]
    · rw [if_neg]
      · exact toTo_at n order hn hb k (by omega) i (by omega)
      · intro h
        have := List.pairwise_iff_getElem.1 (List.nodup_iff_pairwise_ne.1 hn) i k (by omega) (by omega) (by omega)
        rw [← nth_eq _ _ (by omega), ← nth_eq _ _ (by omega)] at this
        exact this (by omega)
theorem toTo_place (n : Nat) (order : List Int) (hn : order.Nodup) (hb : ∀ x, x ∈ order → 0 ≤ x ∧ x < n) (x : Int) (hx : x ∈ order) : nth (toTo n order order.length) x.toNat = placeOf order x := by
  obtain ⟨i, hi, rfl⟩ := mem_nth order x hx
  rw [toTo_at n order hn hb order.length (Nat.le_refl _) i hi, placeOf_nth order hn i hi]
theorem Trim_big (m : Mach) : (TrimMachine m).1.size ≤ 1073741824 := by
  unfold TrimMachine
  split
  · rename_i hm
    have hl := mach_l hm
    have ho := (mach_out hm).1
    have hol := (order_len hm).2
    have h1 := total_bound (pickOf m (orderOf m)).nx 10 (fun i hi => by
      have hi' : i < m.nx.length := by simpa [pickOf] using hi
      unfold pickOf; rw [nth_map _ _ _ hi']; simpa using hol)
    have h2 := total_bound (pickOf m (orderOf m)).out 10 (fun i hi => by
      have hi' : i < m.out.length := by simpa [pickOf] using hi
      unfold pickOf; rw [nth_map _ _ _ hi']; simpa using hol)
    have e1 : (pickOf m (orderOf m)).nx.length = m.nx.length := by simp [pickOf]
    have e2 : (pickOf m (orderOf m)).out.length = m.out.length := by simp [pickOf]
    show total (pickOf m (orderOf m)).nx + total (pickOf m (orderOf m)).out ≤ _
    omega
  · simp [Mach.size, total]

end Go.Proofs.Ytcjmcpfdpnakkaa
