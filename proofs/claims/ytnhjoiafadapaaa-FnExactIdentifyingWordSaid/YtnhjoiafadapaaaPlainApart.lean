/- The first words for which two states have different outputs. -/
import Derived.Test.YtnhjoiafadapaaaCore
import Derived.Test.YtnhjoiafadapaaaPlains
import Derived.WalkKit
import Derived.WalkSpells
import Derived.WalkLawsBesides
import Derived.Deep.QuietTactic
import Derived.Deep.OwnRows
import Derived.BigQuiet
import Derived.KernelRfl
namespace Go.Proofs.Ytnhjoiafadapaaa
open Go.RowKit

/-- Where a letter leads two states. -/
def apG (m1 m2 : Mach) (l : Nat) (p : Int × Int) : Option (Int × Int) := some (nth (nth m1.nx l) p.1.toNat, nth (nth m2.nx l) p.2.toNat)
/-- Are the outputs different? -/
def apHit (m1 m2 : Mach) (l : Nat) (p : Int × Int) : Bool := decide (nth (nth m1.out l) p.1.toNat ≠ nth (nth m2.out l) p.2.toNat)
def apT (m1 m2 : Mach) (s t : Int) (k : Nat) : Bfs (Int × Int) := bTo (apG m1 m2) m1.nx.length (s, t) k
def apartOf (m1 m2 : Mach) (s t : Int) : List Int × Bool := bHit (apHit m1 m2) m1.nx.length (apT m1 m2 s t 101)
def apP (m1 m2 : Mach) (p : Int × Int) : Prop := (0 ≤ p.1 ∧ p.1 < m1.n) ∧ 0 ≤ p.2 ∧ p.2 < m2.n
theorem machOk_aut {m : Mach} (h : machOk m = true) : autOk m.aut = true := by unfold machOk at h; simp only [Bool.and_eq_true] at h; exact h.1
theorem mach_row {m : Mach} (h : machOk m = true) (l : Nat) (hl : l < m.nx.length) : ((nth m.nx l).length : Int) = m.n ∧ ∀ i, i < (nth m.nx l).length → 0 ≤ nth (nth m.nx l) i ∧ nth (nth m.nx l) i < m.n :=
  autOk_row (machOk_aut h) l hl
theorem mach_n {m : Mach} (h : machOk m = true) : 1 ≤ m.n ∧ m.n ≤ 10 := autOk_n (machOk_aut h)
theorem mach_l {m : Mach} (h : machOk m = true) : 1 ≤ m.nx.length ∧ m.nx.length ≤ 3 := autOk_l (machOk_aut h)
theorem mach_out {m : Mach} (h : machOk m = true) : m.out.length = m.nx.length ∧ ∀ l, l < m.out.length → ((nth m.out l).length : Int) = m.n ∧ ∀ i, i < (nth m.out l).length → 0 ≤ nth (nth m.out l) i ∧ nth (nth m.out l) i < m.o := by
  unfold machOk at h
  simp only [Bool.and_eq_true, decide_eq_true_eq] at h
  refine ⟨h.2.2.1, fun l hl => ?_⟩
  have := (outsOk_iff m).1 h.2.2.2 l hl
  unfold outOk at this
  rw [Bool.and_eq_true, decide_eq_true_eq, allIn_iff] at this
  exact ⟨this.1, fun i hi => by have := (inB_iff _ _ _).1 (this.2 i hi); omega⟩
theorem mach_o {m : Mach} (h : machOk m = true) : 1 ≤ m.o ∧ m.o ≤ 3 := by
  unfold machOk at h
  simp only [Bool.and_eq_true] at h
  exact (inB_iff _ _ _).1 h.2.1
section
variable {m1 m2 : Mach} (h1 : machOk m1 = true) (h2 : machOk m2 = true) (hl : m1.nx.length = m2.nx.length)
include h1 h2 hl
theorem apG_ok (l : Nat) (x y : Int × Int) (hlt : l < m1.nx.length) (hx : apP m1 m2 x) (h : apG m1 m2 l x = some y) : apP m1 m2 y := by
  simp [apG] at h
  subst h
  obtain ⟨hx1, hx2⟩ := hx
  obtain ⟨r1, r2⟩ := mach_row h1 l hlt
  obtain ⟨q1, q2⟩ := mach_row h2 l (by omega)
  exact ⟨r2 _ (by omega), q2 _ (by omega)⟩
theorem ap_bok (s t : Int) (hp : apP m1 m2 (s, t)) (k : Nat) : BOk (apP m1 m2) m1.nx.length (apT m1 m2 s t k) := BOk.to (fun l x y hl' hx hg => apG_ok h1 h2 hl l x y hl' hx hg) _ hp k
omit hl in
theorem ap_bound {t : Bfs (Int × Int)} (h : BOk (apP m1 m2) m1.nx.length t) : t.list.length ≤ 100 := by
  have n1 := mach_n h1
  have n2 := mach_n h2
  refine h.bound (fun p => p.1.toNat * 10 + p.2.toNat) 100 (fun x hx => ?_) (fun x y hx hy e => ?_)
  · obtain ⟨a, b⟩ := hx; omega
  · obtain ⟨a, b⟩ := hx
    obtain ⟨c, d⟩ := hy
    have e1 : x.1 = y.1 := by omega
    have e2 : x.2 = y.2 := by omega
    exact Prod.ext e1 e2
theorem ap_stop (s t : Int) (hp : apP m1 m2 (s, t)) (k : Nat) (h : (apT m1 m2 s t k).list.length = k) : apT m1 m2 s t 101 = apT m1 m2 s t k :=
  bTo_end _ _ _ (by have := ap_bound h1 h2 (ap_bok h1 h2 hl s t hp k); omega) h
/-- At the first difference. -/
theorem apart_hit (s t : Int) (hp : apP m1 m2 (s, t)) (k l : Nat) (hk : k < (apT m1 m2 s t k).list.length) (hlt : l < m1.nx.length) (h : apHit m1 m2 l (nth (apT m1 m2 s t k).list k) = true)
    (hb : ∀ j, j < l → apHit m1 m2 j (nth (apT m1 m2 s t k).list k) = false) (hbb : ∀ i j, i < k → j < m1.nx.length → apHit m1 m2 j (nth (apT m1 m2 s t k).list i) = false) :
    apartOf m1 m2 s t = (nth (apT m1 m2 s t k).words k ++ [(l : Int)], true) := by
  have hb1 := ap_bound h1 h2 (ap_bok h1 h2 hl s t hp k)
  have hpre := bTo_pre (g := apG m1 m2) (L := m1.nx.length) (s, t) k (101 - k)
  rw [show k + (101 - k) = 101 by omega] at hpre
  have e : ∀ i, i ≤ k → nth (apT m1 m2 s t 101).list i = nth (apT m1 m2 s t k).list i := fun i hi => (hpre.2 i (by unfold apT at hk; omega)).1
  have ew : nth (apT m1 m2 s t 101).words k = nth (apT m1 m2 s t k).words k := (hpre.2 k hk).2 (bTo_lw _ _)
  unfold apartOf
  rw [bHit_hit (apHit m1 m2) (apT m1 m2 s t 101) k l (Nat.lt_of_lt_of_le hk hpre.1) hlt (by rw [e k (Nat.le_refl _)]; exact h) (fun m hm => by rw [e k (Nat.le_refl _)]; exact hb m hm)
    (fun j m hj hm => by rw [e j (by omega)]; exact hbb j m hj hm), ew]
theorem apart_none (s t : Int) (hp : apP m1 m2 (s, t)) (k : Nat) (hk : (apT m1 m2 s t k).list.length = k) (hbb : ∀ i j, i < k → j < m1.nx.length → apHit m1 m2 j (nth (apT m1 m2 s t k).list i) = false) :
    apartOf m1 m2 s t = ([], false) := by
  unfold apartOf
  rw [ap_stop h1 h2 hl s t hp k hk]
  exact bHit_none _ _ fun j m hj hm => hbb j m (by omega) hm
theorem apart_len (s t : Int) (hp : apP m1 m2 (s, t)) : (apartOf m1 m2 s t).1.length ≤ 200 := by
  have hok := ap_bok h1 h2 hl s t hp 101
  have hb := ap_bound h1 h2 hok
  unfold apartOf bHit
  split
  · rename_i i e
    split
    · rename_i l e2
      have hi : i < (apT m1 m2 s t 101).list.length := by
        rw [List.findIdx?_eq_some_iff_getElem] at e
        exact e.1
      have := hok.wl i hi
      simp; omega
    · simp
  · simp
end
def DistinguishingWord (m : Mach) (s t : Int) : List Int × Int := if machOk m = true then (if (inB s 0 (m.n - 1) && inB t 0 (m.n - 1)) = true then told (apartOf m m s t) else ([], 2)) else ([], 1)
def MachineDifference (a b : Mach) : List Int × Int := if (machOk a && machOk b) = true then (if (decide (a.o = b.o) && decide (a.nx.length = b.nx.length)) = true then told (apartOf a b 0 0) else ([], 2)) else ([], 1)
theorem DistinguishingWord_len (m : Mach) (s t : Int) : (DistinguishingWord m s t).1.length ≤ 1048576 := by
  unfold DistinguishingWord
  split
  · rename_i hm
    split
    · rename_i h
      rw [Bool.and_eq_true, inB_iff, inB_iff] at h
      exact told_len _ _ (Nat.le_trans (apart_len hm hm rfl s t ⟨by show 0 ≤ s ∧ s < m.n; omega, by show 0 ≤ t ∧ t < m.n; omega⟩) (by decide))
    · simp
  · simp
theorem MachineDifference_len (a b : Mach) : (MachineDifference a b).1.length ≤ 1048576 := by
  unfold MachineDifference
  split
  · rename_i hm
    rw [Bool.and_eq_true] at hm
    have n1 := mach_n hm.1
    have n2 := mach_n hm.2
    split
    · rename_i h
      rw [Bool.and_eq_true, decide_eq_true_eq, decide_eq_true_eq] at h
      exact told_len _ _ (Nat.le_trans (apart_len hm.1 hm.2 h.2 0 0 ⟨by show 0 ≤ (0 : Int) ∧ 0 < a.n; omega, by show 0 ≤ (0 : Int) ∧ 0 < b.n; omega⟩) (by decide))
    · simp
  · simp

end Go.Proofs.Ytnhjoiafadapaaa
