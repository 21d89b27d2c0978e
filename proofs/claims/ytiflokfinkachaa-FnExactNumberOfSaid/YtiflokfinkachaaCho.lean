/- An automaton with choices in memory: a number and a list of lists of lists. -/
import Derived.Test.YtiflokfinkachaaCore
import Derived.WalkKit
import Derived.WalkSpells
import Derived.WalkLawsBesides
import Derived.Deep.QuietTactic
import Derived.Deep.OwnRows
import Derived.BigQuiet
import Derived.KernelRfl
namespace Go.Proofs.Ytiflokfinkachaa
open Go.RowKit

structure Cho where
  n : Int
  nx : List (List (List Int))
  deriving DecidableEq
def totalCho (c : List (List (List Int))) : Nat := (c.map total).sum
theorem totalCho_append (a b : List (List (List Int))) : totalCho (a ++ b) = totalCho a + totalCho b := by simp [totalCho]
theorem totalCho_take_succ (c : List (List (List Int))) (i : Nat) (h : i < c.length) : totalCho (c.take (i + 1)) = totalCho (c.take i) + total (nth c i) := by
  rw [take_succ_nth c i h, totalCho_append]; simp [totalCho]
theorem totalCho_take_le (c : List (List (List Int))) (i : Nat) : totalCho (c.take i) ≤ totalCho c := by
  have := totalCho_append (c.take i) (c.drop i)
  rw [List.take_append_drop] at this; omega
theorem total_le_totalCho (c : List (List (List Int))) (i : Nat) (h : i < c.length) : total (nth c i) ≤ totalCho c := by
  have h1 := totalCho_take_succ c i h
  have h2 := totalCho_take_le c (i + 1)
  omega
/-- The slice value v reads as a list of lists of lists. -/
def CubeAt (w : World) (v : Value) (c : List (List (List Int))) : Prop :=
  ∃ A cap, v = .slice A c.length cap ∧ c.length ≤ 9223372036854775807 ∧ ∀ i, i < c.length → ∃ b off rv, A = some ⟨b, off, none⟩ ∧ w.cell? ⟨b, off + i, none⟩ = some rv ∧ RowsAt w rv (nth c i)
/-- The same, own: the elements lie in stretches of blocks one behind the other. -/
def OwnCube (B E : Nat) (w : World) (v : Value) (c : List (List (List Int))) : Prop :=
  ∃ A cap, ∃ rv : Nat → Value, ∃ M : Nat → Nat, v = .slice A c.length cap ∧ c.length ≤ 1099511627776 ∧ (∀ a, A = some a → B ≤ a.block ∧ a.block < M 0) ∧ B ≤ M 0 ∧ M c.length ≤ E ∧
    ∀ i, i < c.length → M i ≤ M (i + 1) ∧ (∃ b off, A = some ⟨b, off, none⟩ ∧ w.cell? ⟨b, off + i, none⟩ = some (rv i)) ∧ OwnRows (M i) (M (i + 1)) w (rv i) (nth c i)
theorem mono_of_step {M : Nat → Nat} {n : Nat} (h : ∀ i, i < n → M i ≤ M (i + 1)) : ∀ j i, i ≤ j → j ≤ n → M i ≤ M j
  | 0, i, hi, _ => by have : i = 0 := by omega
                      subst this; exact Nat.le_refl _
  | j + 1, i, hi, hj => by
    by_cases e : i = j + 1
    · subst e; exact Nat.le_refl _
    · exact Nat.le_trans (mono_of_step h j i (by omega) (by omega)) (h j (by omega))
theorem CubeAt.new {w w' : World} {v : Value} {c : List (List (List Int))} (h : CubeAt w v c) (hw : New w w') : CubeAt w' v c := by
  obtain ⟨A, cap, rfl, hl, hc⟩ := h
  refine ⟨A, cap, rfl, hl, fun i hi => ?_⟩
  obtain ⟨b, off, rv, hA, hx, hr⟩ := hc i hi
  exact ⟨b, off, rv, hA, hw.cell hx, hr.new hw⟩
theorem OwnCube.at {B E : Nat} {w : World} {v : Value} {c : List (List (List Int))} (h : OwnCube B E w v c) : CubeAt w v c := by
  obtain ⟨A, cap, rv, M, rfl, hl, _, _, _, hc⟩ := h
  refine ⟨A, cap, rfl, by omega, fun i hi => ?_⟩
  obtain ⟨_, ⟨b, off, hA, hx⟩, hr⟩ := hc i hi
  exact ⟨b, off, rv i, hA, hx, hr.at⟩
theorem OwnCube.new {B E : Nat} {w w' : World} {v : Value} {c : List (List (List Int))} (h : OwnCube B E w v c) (hw : New w w') : OwnCube B E w' v c := by
  obtain ⟨A, cap, rv, M, rfl, hl, h1, h2, h3, hc⟩ := h
  refine ⟨A, cap, rv, M, rfl, hl, h1, h2, h3, fun i hi => ?_⟩
  obtain ⟨hm, ⟨b, off, hA, hx⟩, hr⟩ := hc i hi
  exact ⟨hm, ⟨b, off, hA, hw.cell hx⟩, hr.new hw⟩
theorem OwnCube.mono {B E : Nat} {w : World} {c : List (List (List Int))} {A : Option Addr} {rv : Nat → Value} {M : Nat → Nat}
    (hc : ∀ i, i < c.length → M i ≤ M (i + 1) ∧ (∃ b off, A = some ⟨b, off, none⟩ ∧ w.cell? ⟨b, off + i, none⟩ = some (rv i)) ∧ OwnRows (M i) (M (i + 1)) w (rv i) (nth c i)) (h3 : M c.length ≤ E) (h2 : B ≤ M 0) (i : Nat) (hi : i < c.length) : B ≤ M i ∧ M (i + 1) ≤ E ∧ M 0 ≤ M i := by
  have h := mono_of_step (M := M) (n := c.length) fun i hi => (hc i hi).1
  have h4 := h i 0 (by omega) (by omega)
  have h5 := h c.length (i + 1) (by omega) (Nat.le_refl _)
  omega
theorem OwnCube.within {B E B' E' : Nat} {w w' : World} {v : Value} {c : List (List (List Int))} (h : OwnCube B E w v c) (hw : Within B' E' w w') (hd : E ≤ B' ∨ E' ≤ B) : OwnCube B E w' v c := by
  obtain ⟨A, cap, rv, M, rfl, hl, h1, h2, h3, hc⟩ := h
  refine ⟨A, cap, rv, M, rfl, hl, h1, h2, h3, fun i hi => ?_⟩
  have hm' := OwnCube.mono hc h3 h2 i hi
  obtain ⟨hm, ⟨b, off, hA, hx⟩, hr⟩ := hc i hi
  have ha := h1 _ hA
  exact ⟨hm, ⟨b, off, hA, hw.cell hx (by simp at ha ⊢; omega)⟩, hr.within hw (by omega)⟩
theorem OwnCube.widen {B E B' E' : Nat} {w : World} {v : Value} {c : List (List (List Int))} (h : OwnCube B E w v c) (hB : B' ≤ B) (hE : E ≤ E') : OwnCube B' E' w v c := by
  obtain ⟨A, cap, rv, M, rfl, hl, h1, h2, h3, hc⟩ := h
  exact ⟨A, cap, rv, M, rfl, hl, fun a e => by have := h1 a e; omega, by omega, by omega, hc⟩
theorem CubeAt.form {w : World} {v : Value} {c : List (List (List Int))} (h : CubeAt w v c) : ∃ A cap, v = .slice A c.length cap := let ⟨A, cap, h, _⟩ := h; ⟨A, cap, h⟩
theorem OwnCube.form {B E : Nat} {w : World} {v : Value} {c : List (List (List Int))} (h : OwnCube B E w v c) : ∃ A cap, v = .slice A c.length cap := let ⟨A, cap, _, _, h, _⟩ := h; ⟨A, cap, h⟩
def ChoAt (w : World) (v : Value) (c : Cho) : Prop := ∃ rv, v = .agg #[.int .i64 c.n, rv] ∧ CubeAt w rv c.nx
def OwnCho (B E : Nat) (w : World) (v : Value) (c : Cho) : Prop := ∃ rv, v = .agg #[.int .i64 c.n, rv] ∧ OwnCube B E w rv c.nx
theorem ChoAt.new {w w' : World} {v : Value} {c : Cho} (h : ChoAt w v c) (hw : New w w') : ChoAt w' v c := let ⟨rv, e, h⟩ := h; ⟨rv, e, h.new hw⟩
theorem OwnCho.new {B E : Nat} {w w' : World} {v : Value} {c : Cho} (h : OwnCho B E w v c) (hw : New w w') : OwnCho B E w' v c := let ⟨rv, e, h⟩ := h; ⟨rv, e, h.new hw⟩
theorem OwnCho.at {B E : Nat} {w : World} {v : Value} {c : Cho} (h : OwnCho B E w v c) : ChoAt w v c := let ⟨rv, e, h⟩ := h; ⟨rv, e, h.at⟩
theorem OwnCho.within {B E B' E' : Nat} {w w' : World} {v : Value} {c : Cho} (h : OwnCho B E w v c) (hw : Within B' E' w w') (hd : E ≤ B' ∨ E' ≤ B) : OwnCho B E w' v c := let ⟨rv, e, h⟩ := h; ⟨rv, e, h.within hw hd⟩
theorem OwnCho.widen {B E B' E' : Nat} {w : World} {v : Value} {c : Cho} (h : OwnCho B E w v c) (hB : B' ≤ B) (hE : E ≤ E') : OwnCho B' E' w v c := let ⟨rv, e, h⟩ := h; ⟨rv, e, h.widen hB hE⟩
theorem Cho.ext' (a b : Cho) : decide (a = b) = (decide (a.n = b.n) && decide (a.nx = b.nx)) := by
  cases a; cases b; simp
/-- The numbers k, k + 1 and so on in the shape of a list of lists of lists. -/
def iotaCube : Int → List (List (List Int)) → List (List (List Int))
  | _, [] => []
  | k, x :: r => iotaRows k x :: iotaCube (k + total x) r
theorem iotaCube_length : ∀ (c : List (List (List Int))) (k : Int), (iotaCube k c).length = c.length
  | [], _ => rfl
  | x :: r, k => by simp [iotaCube, iotaCube_length r]
theorem iotaCube_append : ∀ (a b : List (List (List Int))) (k : Int), iotaCube k (a ++ b) = iotaCube k a ++ iotaCube (k + totalCho a) b
  | [], b, k => by simp [iotaCube, totalCho]
  | x :: r, b, k => by
    simp only [List.cons_append, iotaCube, iotaCube_append r b]
    congr 2
    simp [totalCho]
    congr 1
    omega
theorem iotaCube_step (k : Int) (c : List (List (List Int))) (j : Nat) (h : j < c.length) :
    (iotaCube k (c.take j) ++ c.drop j).set j (iotaRows (k + totalCho (c.take j)) (nth c j)) = iotaCube k (c.take (j + 1)) ++ c.drop (j + 1) := by
  have hl : (iotaCube k (c.take j)).length = j := by simp [iotaCube_length]; omega
  rw [take_succ_nth c j h, iotaCube_append]
  rw [List.set_append_right _ _ (by omega), hl, Nat.sub_self, List.drop_eq_getElem_cons h, List.set_cons_zero]
  simp [iotaCube]
/-- One element of an own list of lists of lists, and what becomes of the whole where it alone is written. -/
theorem OwnCube.row {B E n cap : Nat} {A : Option Addr} {w : World} {c : List (List (List Int))} (h : OwnCube B E w (.slice A n cap) c) (i : Nat) (hi : i < c.length) :
    n = c.length ∧ ∃ b off rv M1 M2, A = some ⟨b, off, none⟩ ∧ w.cell? ⟨b, off + i, none⟩ = some rv ∧ OwnRows M1 M2 w rv (nth c i) ∧
      ∀ w' ys, OwnRows M1 M2 w' rv ys → Within M1 M2 w w' → OwnCube B E w' (.slice A n cap) (c.set i ys) ∧ Within B E w w' := by
  obtain ⟨A', cap', rv, M, e, hl, h1, h2, h3, hc⟩ := h
  cases e
  have hm := OwnCube.mono hc h3 h2
  have hmon := mono_of_step (M := M) (n := c.length) fun i hi => (hc i hi).1
  obtain ⟨hi1, ⟨b, off, rfl, hx⟩, hr⟩ := hc i hi
  refine ⟨rfl, b, off, rv i, M i, M (i + 1), rfl, hx, hr, fun w' ys hy hW => ⟨⟨_, cap, rv, M, by simp, by simpa using hl, h1, h2, by simpa using h3, fun j hj => ?_⟩, hW.widen (hm i hi).1 (hm i hi).2.1⟩⟩
  simp at hj
  obtain ⟨hj1, ⟨b', off', e, hx'⟩, hrj⟩ := hc j hj
  cases e
  have hb := h1 _ rfl
  have hmi := hm i hi
  refine ⟨hj1, ⟨_, _, rfl, hW.cell hx' (by simp at hb ⊢; omega)⟩, ?_⟩
  rw [nth_set _ _ _ _ hi]
  by_cases e : j = i
  · subst e; rw [if_pos rfl]; exact hy
  · rw [if_neg e]
    refine hrj.within hW ?_
    rcases Nat.lt_or_gt_of_ne e with h | h
    · left; exact hmon i (j + 1) (by omega) (by omega)
    · right; exact hmon j (i + 1) (by omega) (by omega)

end Go.Proofs.Ytiflokfinkachaa
