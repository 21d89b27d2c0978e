/- Lists of lists that are put in order. -/
import Derived.Test.YtogfmmcapepcdaaCore
import Derived.Test.YtogfmmcapepcdaaPlains
import Derived.WalkKit
import Derived.WalkSpells
import Derived.WalkLawsBesides
import Derived.Deep.QuietTactic
import Derived.Deep.OwnRows
import Derived.BigQuiet
import Derived.KernelRfl
namespace Go.Proofs.Ytogfmmcapepcdaa
open Go.RowKit

structure TotalLt (lt : List Int → List Int → Bool) : Prop where
  irrefl : ∀ x, lt x x = false
  trans : ∀ x y z, lt x y = true → lt y z = true → lt x z = true
  tri : ∀ x y, x = y ∨ lt x y = true ∨ lt y x = true
theorem TotalLt.asymm {lt : List Int → List Int → Bool} (T : TotalLt lt) (x y : List Int) (h : lt x y = true) : lt y x = false := by
  cases e : lt y x with
  | false => rfl
  | true => have := T.trans x y x h e; rw [T.irrefl] at this; cases this
theorem TotalLt.ntrans {lt : List Int → List Int → Bool} (T : TotalLt lt) (x y z : List Int) (h1 : lt x y = false) (h2 : lt y z = false) : lt x z = false := by
  cases e : lt x z with
  | false => rfl
  | true =>
    rcases T.tri x y with h | h | h
    · subst h; rw [h2] at e; cases e
    · rw [h1] at h; cases h
    · have := T.trans y x z h e; rw [h2] at this; cases this
/-- In order. -/
def srtR (lt : List Int → List Int → Bool) (xs : List (List Int)) : Prop := ∀ i j, i < j → j < xs.length → lt (nth xs j) (nth xs i) = false
theorem srtR_pairwise {lt : List Int → List Int → Bool} {xs : List (List Int)} (h : srtR lt xs) : xs.Pairwise (fun a b => lt b a = false) := by
  rw [List.pairwise_iff_getElem]
  intro i j hi hj hij
  have := h i j hij hj
  rwa [nth_eq _ _ hi, nth_eq _ _ hj] at this
theorem sorted_uniq {lt : List Int → List Int → Bool} (T : TotalLt lt) : ∀ xs ys : List (List Int), xs.Pairwise (fun a b => lt b a = false) → ys.Pairwise (fun a b => lt b a = false) → xs.Perm ys → xs = ys
  | [], ys, _, _, hp => by rw [List.nil_perm] at hp; rw [hp]
  | a :: r, ys, h1, h2, hp => by
    cases ys with
    | nil => simp at hp
    | cons b s =>
      rw [List.pairwise_cons] at h1 h2
      have e : a = b := by
        have ha : a ∈ b :: s := hp.subset (by simp)
        have hb : b ∈ a :: r := hp.symm.subset (by simp)
        rcases List.mem_cons.1 ha with h | h
        · exact h
        · rcases List.mem_cons.1 hb with k | k
          · exact k.symm
          · have k1 := h2.1 a h
            have k2 := h1.1 b k
            rcases T.tri a b with t | t | t
            · exact t
            · rw [k1] at t; cases t
            · rw [k2] at t; cases t
      subst e
      rw [sorted_uniq T r s h1.2 h2.2 ((List.perm_cons a).1 hp)]
theorem srtR_uniq {lt : List Int → List Int → Bool} (T : TotalLt lt) (xs ys : List (List Int)) (h1 : srtR lt xs) (h2 : srtR lt ys) (hp : xs.Perm ys) : xs = ys := sorted_uniq T xs ys (srtR_pairwise h1) (srtR_pairwise h2) hp
/-- The lists at j and j + 1 change places. -/
def swapR (xs : List (List Int)) (j : Nat) : List (List Int) := (xs.set (j + 1) (nth xs j)).set j (nth xs (j + 1))
def downR (lt : List Int → List Int → Bool) : Nat → List (List Int) → List (List Int)
  | 0, xs => xs
  | j + 1, xs => if lt (nth xs (j + 1)) (nth xs j) = true then downR lt j (swapR xs j) else xs
def putR (lt : List Int → List Int → Bool) (out : List (List Int)) (x : List Int) : List (List Int) := downR lt out.length (out ++ [x])
def buildR (lt : List Int → List Int → Bool) (xs : List (List Int)) : List (List Int) := xs.foldl (putR lt) []
theorem swapR_len (xs : List (List Int)) (j : Nat) : (swapR xs j).length = xs.length := by simp [swapR]
theorem nth_swapR (xs : List (List Int)) (j i : Nat) (hj : j + 1 < xs.length) : nth (swapR xs j) i = if i = j then nth xs (j + 1) else if i = j + 1 then nth xs j else nth xs i := by
  unfold swapR
  rw [nth_set _ _ _ _ (by simp; omega)]
  split
  · rfl
  · rw [nth_set _ _ _ _ hj]
theorem downR_len (lt : List Int → List Int → Bool) : ∀ (j : Nat) (xs : List (List Int)), (downR lt j xs).length = xs.length
  | 0, _ => rfl
  | j + 1, xs => by
    unfold downR
    split
    · rw [downR_len lt j, swapR_len]
    · rfl
theorem downR_go (lt : List Int → List Int → Bool) (j : Nat) (xs : List (List Int)) (h : lt (nth xs (j + 1)) (nth xs j) = true) : downR lt (j + 1) xs = downR lt j (swapR xs j) := by rw [downR, if_pos h]
theorem downR_stay (lt : List Int → List Int → Bool) (j : Nat) (xs : List (List Int)) (h : lt (nth xs (j + 1)) (nth xs j) = false) : downR lt (j + 1) xs = xs := by rw [downR, if_neg (by rw [h]; decide)]
theorem downR_srt {lt : List Int → List Int → Bool} (T : TotalLt lt) : ∀ (k : Nat) (xs : List (List Int)), k < xs.length → (∀ i j, i < j → j < xs.length → i ≠ k → j ≠ k → lt (nth xs j) (nth xs i) = false) →
    (∀ j, k < j → j < xs.length → lt (nth xs j) (nth xs k) = false) → srtR lt (downR lt k xs)
  | 0, xs, _, h1, h2 => by
    intro i j hij hj
    by_cases e : i = 0
    · subst e; exact h2 j hij hj
    · exact h1 i j hij hj e (by omega)
  | k + 1, xs, hk, h1, h2 => by
    unfold downR
    split
    · rename_i hlt
      refine downR_srt T k (swapR xs k) (by rw [swapR_len]; omega) (fun i j hij hj hik hjk => ?_) (fun j hkj hj => ?_)
      · rw [swapR_len] at hj
        rw [nth_swapR _ _ _ hk, nth_swapR _ _ _ hk, if_neg hjk, if_neg hik]
        by_cases e1 : j = k + 1
        · rw [if_pos e1, if_neg (by omega)]
          exact h1 i k (by omega) (by omega) (by omega) (by omega)
        · rw [if_neg e1]
          by_cases e2 : i = k + 1
          · rw [if_pos e2]; exact h1 k j (by omega) hj (by omega) e1
          · rw [if_neg e2]; exact h1 i j hij hj e2 e1
      · rw [swapR_len] at hj
        rw [nth_swapR _ _ _ hk, nth_swapR _ _ _ hk, if_neg (by omega), if_pos rfl]
        by_cases e1 : j = k + 1
        · rw [if_pos e1]; exact T.asymm _ _ hlt
        · rw [if_neg e1]; exact h2 j (by omega) hj
    · rename_i hlt
      have hlt' : lt (nth xs (k + 1)) (nth xs k) = false := by simpa using hlt
      intro i j hij hj
      by_cases e1 : j = k + 1
      · subst e1
        by_cases e2 : i = k
        · subst e2; exact hlt'
        · exact T.ntrans _ _ _ hlt' (h1 i k (by omega) (by omega) (by omega) (by omega))
      · by_cases e2 : i = k + 1
        · subst e2; exact h2 j hij hj
        · exact h1 i j hij hj e2 e1
theorem swapR_perm (xs : List (List Int)) (j : Nat) (hj : j + 1 < xs.length) : (swapR xs j).Perm xs := by
  unfold swapR
  rw [nth_eq _ _ hj, nth_eq _ _ (by omega)]
  exact List.set_set_perm (i := j + 1) (j := j) hj (by omega)
theorem downR_perm (lt : List Int → List Int → Bool) : ∀ (k : Nat) (xs : List (List Int)), k < xs.length → (downR lt k xs).Perm xs
  | 0, _, _ => List.Perm.refl _
  | k + 1, xs, hk => by
    unfold downR
    split
    · exact (downR_perm lt k _ (by rw [swapR_len]; omega)).trans (swapR_perm xs k hk)
    · exact List.Perm.refl _
theorem putR_ok {lt : List Int → List Int → Bool} (T : TotalLt lt) (out : List (List Int)) (x : List Int) (h : srtR lt out) : srtR lt (putR lt out x) ∧ (putR lt out x).Perm (out ++ [x]) := by
  refine ⟨downR_srt T _ _ (by simp) (fun i j hij hj hi hj' => ?_) (fun j hj hj' => ?_), downR_perm lt _ _ (by simp)⟩
  · simp at hj
    rw [nth_append_left _ _ _ (by omega), nth_append_left _ _ _ (by omega)]
    exact h i j hij (by omega)
  · simp at hj'; omega
theorem putR_len (lt : List Int → List Int → Bool) (out : List (List Int)) (x : List Int) : (putR lt out x).length = out.length + 1 := by unfold putR; rw [downR_len]; simp
theorem buildR_snoc (lt : List Int → List Int → Bool) (xs : List (List Int)) (x : List Int) : buildR lt (xs ++ [x]) = putR lt (buildR lt xs) x := by unfold buildR; rw [List.foldl_append]; rfl
theorem foldR_ok {lt : List Int → List Int → Bool} (T : TotalLt lt) : ∀ (xs out : List (List Int)), srtR lt out → srtR lt (xs.foldl (putR lt) out) ∧ (xs.foldl (putR lt) out).Perm (out ++ xs)
  | [], out, h => ⟨h, by simp⟩
  | x :: r, out, h => by
    obtain ⟨h1, h2⟩ := putR_ok T out x h
    obtain ⟨h3, h4⟩ := foldR_ok T r (putR lt out x) h1
    refine ⟨h3, h4.trans ?_⟩
    have := h2.append_right r
    simpa using this
theorem buildR_ok {lt : List Int → List Int → Bool} (T : TotalLt lt) (xs : List (List Int)) : srtR lt (buildR lt xs) ∧ (buildR lt xs).Perm xs := by
  have := foldR_ok T xs [] (fun i j hij hj => by simp at hj)
  simpa [buildR] using this
theorem buildR_len (lt : List Int → List Int → Bool) (xs : List (List Int)) : (buildR lt xs).length = xs.length := by
  have : ∀ xs out : List (List Int), (xs.foldl (putR lt) out).length = out.length + xs.length := by
    intro xs
    induction xs with
    | nil => intro out; simp
    | cons x r ih => intro out; rw [List.foldl_cons, ih, putR_len, List.length_cons]; omega
  simpa [buildR] using this xs []
/-- What is in order and holds the same lists is the list that is built. -/
theorem buildR_is {lt : List Int → List Int → Bool} (T : TotalLt lt) (xs ys : List (List Int)) (h : srtR lt ys) (hp : ys.Perm xs) : ys = buildR lt xs :=
  srtR_uniq T _ _ h (buildR_ok T xs).1 (hp.trans (buildR_ok T xs).2.symm)
/-- The comparison of numbers, of lists, and by lengths first, the longer one ahead. -/
def cmpI (a b : Int) : Int := if a < b then -1 else if b < a then 1 else 0
def lexC : List Int → List Int → Int
  | [], [] => 0
  | [], _ :: _ => -1
  | _ :: _, [] => 1
  | a :: r, b :: s => if cmpI a b = 0 then lexC r s else cmpI a b
def longC (x y : List Int) : Int := if cmpI (y.length : Int) x.length = 0 then lexC x y else cmpI (y.length : Int) x.length
def lexLt (x y : List Int) : Bool := decide (lexC x y < 0)
def longLt (x y : List Int) : Bool := decide (longC x y < 0)
theorem cmpI_zero (a b : Int) : cmpI a b = 0 ↔ a = b := by unfold cmpI; split; omega; split <;> omega
theorem cmpI_neg (a b : Int) : cmpI a b < 0 ↔ a < b := by unfold cmpI; split; omega; split <;> omega
theorem lexC_self : ∀ x : List Int, lexC x x = 0
  | [] => rfl
  | a :: r => by unfold lexC; rw [if_pos ((cmpI_zero a a).2 rfl)]; exact lexC_self r
theorem lexC_same (a : Int) (r s : List Int) : lexC (a :: r) (a :: s) = lexC r s := by rw [lexC, if_pos ((cmpI_zero a a).2 rfl)]
theorem lexC_diff (a b : Int) (r s : List Int) (h : a ≠ b) : lexC (a :: r) (b :: s) = cmpI a b := by rw [lexC, if_neg (fun e => h ((cmpI_zero a b).1 e))]
theorem lexC_zero : ∀ x y : List Int, lexC x y = 0 → x = y
  | [], [], _ => rfl
  | [], _ :: _, h => by simp [lexC] at h
  | _ :: _, [], h => by simp [lexC] at h
  | a :: r, b :: s, h => by
    unfold lexC at h
    split at h
    · rename_i e
      rw [(cmpI_zero a b).1 e, lexC_zero r s h]
    · rename_i e; exact absurd h e
theorem lexC_tri : ∀ x y : List Int, lexC x y = 0 ∨ lexC x y < 0 ∨ lexC y x < 0
  | [], [] => Or.inl rfl
  | [], _ :: _ => Or.inr (Or.inl (by simp [lexC]))
  | _ :: _, [] => Or.inr (Or.inr (by simp [lexC]))
  | a :: r, b :: s => by
    by_cases e : a = b
    · subst e
      rw [lexC_same, lexC_same]
      exact lexC_tri r s
    · rw [lexC_diff a b r s e, lexC_diff b a s r (Ne.symm e)]
      rcases Int.lt_or_gt_of_ne e with h | h
      · exact Or.inr (Or.inl ((cmpI_neg a b).2 h))
      · exact Or.inr (Or.inr ((cmpI_neg b a).2 h))
theorem lexC_trans : ∀ x y z : List Int, lexC x y < 0 → lexC y z < 0 → lexC x z < 0
  | [], [], _, h, _ => by simp [lexC] at h
  | [], _ :: _, [], _, h => by simp [lexC] at h
  | [], _ :: _, _ :: _, _, _ => by simp [lexC]
  | _ :: _, [], _, h, _ => by simp [lexC] at h
  | _ :: _, _ :: _, [], _, h => by simp [lexC] at h
  | a :: r, b :: s, c :: t, h1, h2 => by
    unfold lexC at h1 h2 ⊢
    by_cases e1 : a = b
    · subst e1
      rw [if_pos ((cmpI_zero a a).2 rfl)] at h1
      by_cases e2 : a = c
      · subst e2
        rw [if_pos ((cmpI_zero a a).2 rfl)] at h2 ⊢
        exact lexC_trans r s t h1 h2
      · rw [if_neg (fun h => e2 ((cmpI_zero a c).1 h))] at h2 ⊢
        exact h2
    · rw [if_neg (fun h => e1 ((cmpI_zero a b).1 h))] at h1
      have k1 := (cmpI_neg a b).1 h1
      by_cases e2 : b = c
      · subst e2
        rw [if_neg (fun h => e1 ((cmpI_zero a b).1 h))]
        exact h1
      · rw [if_neg (fun h => e2 ((cmpI_zero b c).1 h))] at h2
        have k2 := (cmpI_neg b c).1 h2
        rw [if_neg (fun h => by have := (cmpI_zero a c).1 h; omega)]
        exact (cmpI_neg a c).2 (by omega)
theorem lex_total : TotalLt lexLt where
  irrefl x := by unfold lexLt; rw [lexC_self]; decide
  trans x y z h1 h2 := by unfold lexLt at *; rw [decide_eq_true_iff] at *; exact lexC_trans x y z h1 h2
  tri x y := by
    unfold lexLt
    rw [decide_eq_true_iff, decide_eq_true_iff]
    rcases lexC_tri x y with h | h | h
    · exact Or.inl (lexC_zero x y h)
    · exact Or.inr (Or.inl h)
    · exact Or.inr (Or.inr h)
theorem longLt_iff (x y : List Int) : longLt x y = true ↔ y.length < x.length ∨ (y.length = x.length ∧ lexLt x y = true) := by
  unfold longLt longC lexLt
  rw [decide_eq_true_iff, decide_eq_true_iff]
  by_cases e : y.length = x.length
  · rw [if_pos ((cmpI_zero _ _).2 (by omega))]
    constructor
    · intro h; exact Or.inr ⟨e, h⟩
    · rintro (h | h)
      · omega
      · exact h.2
  · rw [if_neg (fun h => e (by have := (cmpI_zero _ _).1 h; omega)), cmpI_neg]
    constructor
    · intro h; exact Or.inl (by omega)
    · rintro (h | h)
      · omega
      · exact absurd h.1 e
theorem long_total : TotalLt longLt where
  irrefl x := by
    cases e : longLt x x with
    | false => rfl
    | true =>
      rcases (longLt_iff x x).1 e with h | h
      · omega
      · rw [lex_total.irrefl] at h; cases h.2
  trans x y z h1 h2 := by
    rw [longLt_iff] at *
    rcases h1 with h1 | h1 <;> rcases h2 with h2 | h2
    · exact Or.inl (by omega)
    · exact Or.inl (by omega)
    · exact Or.inl (by omega)
    · exact Or.inr ⟨by omega, lex_total.trans x y z h1.2 h2.2⟩
  tri x y := by
    rw [longLt_iff, longLt_iff]
    rcases Nat.lt_trichotomy x.length y.length with h | h | h
    · exact Or.inr (Or.inr (Or.inl h))
    · rcases lex_total.tri x y with k | k | k
      · exact Or.inl k
      · exact Or.inr (Or.inl (Or.inr ⟨h.symm, k⟩))
      · exact Or.inr (Or.inr (Or.inr ⟨h, k⟩))
    · exact Or.inr (Or.inl (Or.inl h))
/-- What the comparison is, by places. -/
theorem lexC_drop (x y : List Int) : ∀ i, i ≤ x.length → i ≤ y.length → (∀ j, j < i → nth x j = nth y j) → lexC x y = lexC (x.drop i) (y.drop i)
  | 0, _, _, _ => rfl
  | i + 1, hx, hy, h => by
    rw [lexC_drop x y i (by omega) (by omega) (fun j hj => h j (by omega))]
    have e := h i (Nat.lt_succ_self _)
    rw [nth_eq _ _ (by omega), nth_eq _ _ (by omega)] at e
    rw [List.drop_eq_getElem_cons (show i < x.length by omega), List.drop_eq_getElem_cons (show i < y.length by omega), e, lexC_same]
theorem lexC_at (x y : List Int) (i : Nat) (hx : i < x.length) (hy : i < y.length) (h : ∀ j, j < i → nth x j = nth y j) (hne : nth x i ≠ nth y i) : lexC x y = cmpI (nth x i) (nth y i) := by
  rw [lexC_drop x y i (by omega) (by omega) h, List.drop_eq_getElem_cons hx, List.drop_eq_getElem_cons hy, nth_eq _ _ hx, nth_eq _ _ hy]
  rw [nth_eq _ _ hx, nth_eq _ _ hy] at hne
  exact lexC_diff _ _ _ _ hne
theorem lexC_end (x y : List Int) (i : Nat) (hx : i ≤ x.length) (hy : i ≤ y.length) (h : ∀ j, j < i → nth x j = nth y j) (he : i = x.length ∨ i = y.length) : lexC x y = cmpI (x.length : Int) y.length := by
  rw [lexC_drop x y i hx hy h]
  rcases he with e | e
  · subst e
    rw [List.drop_length]
    by_cases k : x.length = y.length
    · rw [k, List.drop_length, (cmpI_zero _ _).2 rfl]; rfl
    · rw [List.drop_eq_getElem_cons (show x.length < y.length by omega)]
      show (-1 : Int) = _
      unfold cmpI; rw [if_pos (by omega)]
  · subst e
    rw [List.drop_length]
    by_cases k : x.length = y.length
    · rw [← k, List.drop_length, (cmpI_zero _ _).2 rfl]; rfl
    · rw [List.drop_eq_getElem_cons (show y.length < x.length by omega)]
      show (1 : Int) = _
      unfold cmpI; rw [if_neg (by omega), if_pos (by omega)]

end Go.Proofs.Ytogfmmcapepcdaa
