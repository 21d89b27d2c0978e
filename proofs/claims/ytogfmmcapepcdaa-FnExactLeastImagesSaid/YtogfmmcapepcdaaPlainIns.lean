/- A list is put to its place among lists in order. -/
import Derived.Test.YtogfmmcapepcdaaCore
import Derived.Test.YtogfmmcapepcdaaPlains
import Derived.Test.YtogfmmcapepcdaaPlainOrd
import Derived.WalkKit
import Derived.WalkSpells
import Derived.WalkLawsBesides
import Derived.Deep.QuietTactic
import Derived.Deep.OwnRows
import Derived.BigQuiet
import Derived.KernelRfl
namespace Go.Proofs.Ytogfmmcapepcdaa
open Go.RowKit

def insL (lt : List Int → List Int → Bool) (x : List Int) : List (List Int) → List (List Int)
  | [] => [x]
  | y :: r => if lt y x = true then y :: insL lt x r else x :: y :: r
theorem insL_at (lt : List Int → List Int → Bool) (x : List Int) : ∀ (all : List (List Int)) (k : Nat), k ≤ all.length → (∀ i, i < k → lt (nth all i) x = true) → (k = all.length ∨ lt (nth all k) x = false) → insL lt x all = all.take k ++ x :: all.drop k
  | [], k, hk, _, _ => by
    have : k = 0 := by simpa using hk
    subst this; rfl
  | y :: r, 0, _, _, h => by
    rcases h with h | h
    · simp at h
    · have h' : lt y x = false := h
      simp [insL, h']
  | y :: r, k + 1, hk, h1, h2 => by
    have h0 : lt y x = true := h1 0 (Nat.succ_pos _)
    rw [insL, if_pos h0, insL_at lt x r k (by simpa using hk) (fun i hi => h1 (i + 1) (by omega)) (by
      rcases h2 with h | h
      · exact Or.inl (by simpa using h)
      · exact Or.inr h)]
    simp
theorem insL_perm (lt : List Int → List Int → Bool) (x : List Int) : ∀ all : List (List Int), (insL lt x all).Perm (all ++ [x])
  | [] => List.Perm.refl _
  | y :: r => by
    unfold insL
    split
    · exact (List.Perm.cons y (insL_perm lt x r))
    · have : (x :: y :: r).Perm ((y :: r) ++ [x]) := (List.perm_append_singleton x (y :: r)).symm
      exact this
theorem insL_len (lt : List Int → List Int → Bool) (x : List Int) (all : List (List Int)) : (insL lt x all).length = all.length + 1 := by
  have := (insL_perm lt x all).length_eq
  simpa using this
theorem insL_sorted {lt : List Int → List Int → Bool} (T : TotalLt lt) (x : List Int) : ∀ all : List (List Int), all.Pairwise (fun a b => lt b a = false) → (insL lt x all).Pairwise (fun a b => lt b a = false)
  | [], _ => by simp [insL]
  | y :: r, h => by
    rw [List.pairwise_cons] at h
    unfold insL
    split
    · rename_i hlt
      rw [List.pairwise_cons]
      refine ⟨fun z hz => ?_, insL_sorted T x r h.2⟩
      have := (insL_perm lt x r).subset hz
      rcases List.mem_append.1 this with hz | hz
      · exact h.1 z hz
      · simp at hz; subst hz; exact T.asymm _ _ hlt
    · rename_i hlt
      have hlt' : lt y x = false := by simpa using hlt
      rw [List.pairwise_cons]
      refine ⟨fun z hz => ?_, by rw [List.pairwise_cons]; exact h⟩
      rcases List.mem_cons.1 hz with e | hz
      · subst e; exact hlt'
      · exact T.ntrans _ _ _ (h.1 z hz) hlt'
def insAllL (lt : List Int → List Int → Bool) (xs : List (List Int)) : List (List Int) := xs.foldl (fun out x => insL lt x out) []
theorem insAllL_snoc (lt : List Int → List Int → Bool) (xs : List (List Int)) (x : List Int) : insAllL lt (xs ++ [x]) = insL lt x (insAllL lt xs) := by unfold insAllL; rw [List.foldl_append]; rfl
theorem insAllL_ok {lt : List Int → List Int → Bool} (T : TotalLt lt) : ∀ (xs out : List (List Int)), out.Pairwise (fun a b => lt b a = false) → (xs.foldl (fun out x => insL lt x out) out).Pairwise (fun a b => lt b a = false) ∧ (xs.foldl (fun out x => insL lt x out) out).Perm (out ++ xs)
  | [], out, h => ⟨h, by simp⟩
  | x :: r, out, h => by
    obtain ⟨h3, h4⟩ := insAllL_ok T r (insL lt x out) (insL_sorted T x out h)
    refine ⟨h3, h4.trans ?_⟩
    have := (insL_perm lt x out).append_right r
    simpa using this
theorem insAllL_perm {lt : List Int → List Int → Bool} (T : TotalLt lt) (xs : List (List Int)) : (insAllL lt xs).Perm xs := by
  have := (insAllL_ok T xs [] (by simp)).2
  simpa [insAllL] using this
theorem insAllL_build {lt : List Int → List Int → Bool} (T : TotalLt lt) (xs : List (List Int)) : insAllL lt xs = buildR lt xs :=
  sorted_uniq T _ _ (insAllL_ok T xs [] (by simp)).1 (srtR_pairwise (buildR_ok T xs).1) ((insAllL_perm T xs).trans (buildR_ok T xs).2.symm)

end Go.Proofs.Ytogfmmcapepcdaa
