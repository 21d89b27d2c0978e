/- Parts of the proof that lean on no program: PlainOrd, PlainIns, PlainImg. -/
import Derived.Test.YthbebnfhplacnaaGreatCore
import Derived.Test.YthbebnfhplacnaaGreatPlains
import Derived.WalkKit
import Derived.WalkSpells
import Derived.WalkLawsBesides
import Derived.Deep.QuietTactic
import Derived.Deep.OwnRows
import Derived.BigQuiet
import Derived.KernelRfl
namespace Go.Proofs.YthbebnfhplacnaaGreat
open Go.RowKit

section
structure TotalLt (lt : List Int → List Int → Bool) : Prop where
  irrefl : ∀ x, lt x x = false
  trans : ∀ x y z, lt x y = true → lt y z = true → lt x z = true
  tri : ∀ x y, x = y ∨ lt x y = true ∨ lt y x = true
theorem TotalLt.asymm {lt : List Int → List Int → Bool} (T : TotalLt lt) (x y : List Int) (h : lt x y = true) : lt y x = false := by
  cases e : lt y x with
  | false => rfl
  | true => have := T.trans x y x h e; rw [T.irrefl] at this; cases this
theorem TotalLt.ntrans {lt : List Int → List Int → Bool} (T : TotalLt lt) (x y z : List Int) (h1 : lt x y = false) (h2 : lt y z = false) : lt x z = false := by
  cases e : lt x z with
  | false => rfl
  | true =>
    rcases T.tri x y with h | h | h
    · subst h; rw [h2] at e; cases e
    · rw [h1] at h; cases h
    · have := T.trans y x z h e; rw [h2] at this; cases this
/-- In order. -/
def srtR (lt : List Int → List Int → Bool) (xs : List (List Int)) : Prop := ∀ i j, i < j → j < xs.length → lt (nth xs j) (nth xs i) = false
theorem srtR_pairwise {lt : List Int → List Int → Bool} {xs : List (List Int)} (h : srtR lt xs) : xs.Pairwise (fun a b => lt b a = false) := by
  rw [List.pairwise_iff_getElem]
  intro i j hi hj hij
  have := h i j hij hj
  rwa [nth_eq _ _ hi, nth_eq _ _ hj] at this
theorem sorted_uniq {lt : List Int → List Int → Bool} (T : TotalLt lt) : ∀ xs ys : List (List Int), xs.Pairwise (fun a b => lt b a = false) → ys.Pairwise (fun a b => lt b a = false) → xs.Perm ys → xs = ys
  | [], ys, _, _, hp => by rw [List.nil_perm] at hp; rw [hp]
  | a :: r, ys, h1, h2, hp => by
    cases ys with
    | nil => simp at hp
    | cons b s =>
      rw [List.pairwise_cons] at h1 h2
      have e : a = b := by
        have ha : a ∈ b :: s := hp.subset (by simp)
        have hb : b ∈ a :: r := hp.symm.subset (by simp)
        rcases List.mem_cons.1 ha with h | h
        · exact h
        · rcases List.mem_cons.1 hb with k | k
          · exact k.symm
          · have k1 := h2.1 a h
            have k2 := h1.1 b k
            rcases T.tri a b with t | t | t
            · exact t
            · rw [k1] at t; cases t
            · rw [k2] at t; cases t
      subst e
      rw [sorted_uniq T r s h1.2 h2.2 ((List.perm_cons a).1 hp)]
theorem srtR_uniq {lt : List Int → List Int → Bool} (T : TotalLt lt) (xs ys : List (List Int)) (h1 : srtR lt xs) (h2 : srtR lt ys) (hp : xs.Perm ys) : xs = ys := sorted_uniq T xs ys (srtR_pairwise h1) (srtR_pairwise h2) hp
/-- The lists at j and j + 1 change places. -/
def swapR (xs : List (List Int)) (j : Nat) : List (List Int) := (xs.set (j + 1) (nth xs j)).set j (nth xs (j + 1))
def downR (lt : List Int → List Int → Bool) : Nat → List (List Int) → List (List Int)
  | 0, xs => xs
  | j + 1, xs => if lt (nth xs (j + 1)) (nth xs j) = true then downR lt j (swapR xs j) else xs
def putR (lt : List Int → List Int → Bool) (out : List (List Int)) (x : List Int) : List (List Int) := downR lt out.length (out ++ [x])
def buildR (lt : List Int → List Int → Bool) (xs : List (List Int)) : List (List Int) := xs.foldl (putR lt) []
theorem swapR_len (xs : List (List Int)) (j : Nat) : (swapR xs j).length = xs.length := by simp [swapR]
theorem nth_swapR (xs : List (List Int)) (j i : Nat) (hj : j + 1 < xs.length) : nth (swapR xs j) i = if i = j then nth xs (j + 1) else if i = j + 1 then nth xs j else nth xs i := by
  unfold swapR
  rw [nth_set _ _ _ _ (by simp; omega)]
  split
  · rfl
  · rw [nth_set _ _ _ _ hj]
theorem downR_len (lt : List Int → List Int → Bool) : ∀ (j : Nat) (xs : List (List Int)), (downR lt j xs).length = xs.length
  | 0, _ => rfl
  | j + 1, xs => by
    unfold downR
    split
    · rw [downR_len lt j, swapR_len]
    · rfl
theorem downR_go (lt : List Int → List Int → Bool) (j : Nat) (xs : List (List Int)) (h : lt (nth xs (j + 1)) (nth xs j) = true) : downR lt (j + 1) xs = downR lt j (swapR xs j) := by rw [downR, if_pos h]
theorem downR_stay (lt : List Int → List Int → Bool) (j : Nat) (xs : List (List Int)) (h : lt (nth xs (j + 1)) (nth xs j) = false) : downR lt (j + 1) xs = xs := by rw [downR, if_neg (by rw [h]; decide)]
theorem downR_srt {lt : List Int → List Int → Bool} (T : TotalLt lt) : ∀ (k : Nat) (xs : List (List Int)), k < xs.length → (∀ i j, i < j → j < xs.length → i ≠ k → j ≠ k → lt (nth xs j) (nth xs i) = false) →
    (∀ j, k < j → j < xs.length → lt (nth xs j) (nth xs k) = false) → srtR lt (downR lt k xs)
  | 0, xs, _, h1, h2 => by
    intro i j hij hj
    by_cases e : i = 0
    · subst e; exact h2 j hij hj
    · exact h1 i j hij hj e (by omega)
  | k + 1, xs, hk, h1, h2 => by
    unfold downR
    split
    · rename_i hlt
      refine downR_srt T k (swapR xs k) (by rw [swapR_len]; omega) (fun i j hij hj hik hjk => ?_) (fun j hkj hj => ?_)
      · rw [swapR_len] at hj
        rw [nth_swapR _ _ _ hk, nth_swapR _ _ _ hk, if_neg hjk, if_neg hik]
        by_cases e1 : j = k + 1
        · rw [if_pos e1, if_neg (by omega)]
          exact h1 i k (by omega) (by omega) (by omega) (by omega)
        · rw [if_neg e1]
          by_cases e2 : i = k + 1
          · rw [if_pos e2]; exact h1 k j (by omega) hj (by omega) e1
          · rw [if_neg e2]; exact h1 i j hij hj e2 e1
      · rw [swapR_len] at hj
        rw [nth_swapR _ _ _ hk, nth_swapR _ _ _ hk, if_neg (by omega), if_pos rfl]
        by_cases e1 : j = k + 1
        · rw [if_pos e1]; exact T.asymm _ _ hlt
        · rw [if_neg e1]; exact h2 j (by omega) hj
    · rename_i hlt
      have hlt' : lt (nth xs (k + 1)) (nth xs k) = false := by simpa using hlt
      intro i j hij hj
      by_cases e1 : j = k + 1
      · subst e1
        by_cases e2 : i = k
        · subst e2; exact hlt'
        · exact T.ntrans _ _ _ hlt' (h1 i k (by omega) (by omega) (by omega) (by omega))
      · by_cases e2 : i = k + 1
        · subst e2; exact h2 j hij hj
        · exact h1 i j hij hj e2 e1
theorem swapR_perm (xs : List (List Int)) (j : Nat) (hj : j + 1 < xs.length) : (swapR xs j).Perm xs := by
  unfold swapR
  rw [nth_eq _ _ hj, nth_eq _ _ (by omega)]
  exact List.set_set_perm (i := j + 1) (j := j) hj (by omega)
theorem downR_perm (lt : List Int → List Int → Bool) : ∀ (k : Nat) (xs : List (List Int)), k < xs.length → (downR lt k xs).Perm xs
  | 0, _, _ => List.Perm.refl _
  | k + 1, xs, hk => by
    unfold downR
    split
    · exact (downR_perm lt k _ (by rw [swapR_len]; omega)).trans (swapR_perm xs k hk)
    · exact List.Perm.refl _
theorem putR_ok {lt : List Int → List Int → Bool} (T : TotalLt lt) (out : List (List Int)) (x : List Int) (h : srtR lt out) : srtR lt (putR lt out x) ∧ (putR lt out x).Perm (out ++ [x]) := by
  refine ⟨downR_srt T _ _ (by simp) (fun i j hij hj hi hj' => ?_) (fun j hj hj' => ?_), downR_perm lt _ _ (by simp)⟩
  · simp at hj
    rw [nth_append_left _ _ _ (by omega), nth_append_left _ _ _ (by omega)]
    exact h i j hij (by omega)
  · simp at hj'; omega
theorem putR_len (lt : List Int → List Int → Bool) (out : List (List Int)) (x : List Int) : (putR lt out x).length = out.length + 1 := by unfold putR; rw [downR_len]; simp
theorem buildR_snoc (lt : List Int → List Int → Bool) (xs : List (List Int)) (x : List Int) : buildR lt (xs ++ [x]) = putR lt (buildR lt xs) x := by unfold buildR; rw [List.foldl_append]; rfl
theorem foldR_ok {lt : List Int → List Int → Bool} (T : TotalLt lt) : ∀ (xs out : List (List Int)), srtR lt out → srtR lt (xs.foldl (putR lt) out) ∧ (xs.foldl (putR lt) out).Perm (out ++ xs)
  | [], out, h => ⟨h, by simp⟩
  | x :: r, out, h => by
    obtain ⟨h1, h2⟩ := putR_ok T out x h
    obtain ⟨h3, h4⟩ := foldR_ok T r (putR lt out x) h1
    refine ⟨h3, h4.trans ?_⟩
    have := h2.append_right r
    simpa using this
theorem buildR_ok {lt : List Int → List Int → Bool} (T : TotalLt lt) (xs : List (List Int)) : srtR lt (buildR lt xs) ∧ (buildR lt xs).Perm xs := by
  have := foldR_ok T xs [] (fun i j hij hj => by simp at hj)
  simpa [buildR] using this
theorem buildR_len (lt : List Int → List Int → Bool) (xs : List (List Int)) : (buildR lt xs).length = xs.length := by
  have : ∀ xs out : List (List Int), (xs.foldl (putR lt) out).length = out.length + xs.length := by
    intro xs
    induction xs with
    | nil => intro out; simp
    | cons x r ih => intro out; rw [List.foldl_cons, ih, putR_len, List.length_cons]; omega
  simpa [buildR] using this xs []
/-- What is in order and holds the same lists is the list that is built. -/
theorem buildR_is {lt : List Int → List Int → Bool} (T : TotalLt lt) (xs ys : List (List Int)) (h : srtR lt ys) (hp : ys.Perm xs) : ys = buildR lt xs :=
  srtR_uniq T _ _ h (buildR_ok T xs).1 (hp.trans (buildR_ok T xs).2.symm)
/-- The comparison of numbers, of lists, and by lengths first, the longer one ahead. -/
def cmpI (a b : Int) : Int := if a < b then -1 else if b < a then 1 else 0
def lexC : List Int → List Int → Int
  | [], [] => 0
  | [], _ :: _ => -1
  | _ :: _, [] => 1
  | a :: r, b :: s => if cmpI a b = 0 then lexC r s else cmpI a b
def longC (x y : List Int) : Int := if cmpI (y.length : Int) x.length = 0 then lexC x y else cmpI (y.length : Int) x.length
def lexLt (x y : List Int) : Bool := decide (lexC x y < 0)
def longLt (x y : List Int) : Bool := decide (longC x y < 0)
theorem cmpI_zero (a b : Int) : cmpI a b = 0 ↔ a = b := by unfold cmpI; split; omega; split <;> omega
theorem cmpI_neg (a b : Int) : cmpI a b < 0 ↔ a < b := by unfold cmpI; split; omega; split <;> omega
theorem lexC_self : ∀ x : List Int, lexC x x = 0
  | [] => rfl
  | a :: r => by unfold lexC; rw [if_pos ((cmpI_zero a a).2 rfl)]; exact lexC_self r
theorem lexC_same (a : Int) (r s : List Int) : lexC (a :: r) (a :: s) = lexC r s := by rw [lexC, if_pos ((cmpI_zero a a).2 rfl)]
theorem lexC_diff (a b : Int) (r s : List Int) (h : a ≠ b) : lexC (a :: r) (b :: s) = cmpI a b := by rw [lexC, if_neg (fun e => h ((cmpI_zero a b).1 e))]
theorem lexC_zero : ∀ x y : List Int, lexC x y = 0 → x = y
  | [], [], _ => rfl
  | [], _ :: _, h => by simp [lexC] at h
  | _ :: _, [], h => by simp [lexC] at h
  | a :: r, b :: s, h => by
    unfold lexC at h
    split at h
    · rename_i e
      rw [(cmpI_zero a b).1 e, lexC_zero r s h]
    · rename_i e; exact absurd h e
theorem lexC_tri : ∀ x y : List Int, lexC x y = 0 ∨ lexC x y < 0 ∨ lexC y x < 0
  | [], [] => Or.inl rfl
  | [], _ :: _ => Or.inr (Or.inl (by simp [lexC]))
  | _ :: _, [] => Or.inr (Or.inr (by simp [lexC]))
  | a :: r, b :: s => by
    by_cases e : a = b
    · subst e
      rw [lexC_same, lexC_same]
      exact lexC_tri r s
    · rw [lexC_diff a b r s e, lexC_diff b a s r (Ne.symm e)]
      rcases Int.lt_or_gt_of_ne e with h | h
      · exact Or.inr (Or.inl ((cmpI_neg a b).2 h))
      · exact Or.inr (Or.inr ((cmpI_neg b a).2 h))
theorem lexC_trans : ∀ x y z : List Int, lexC x y < 0 → lexC y z < 0 → lexC x z < 0
  | [], [], _, h, _ => by simp [lexC] at h
  | [], _ :: _, [], _, h => by simp [lexC] at h
  | [], _ :: _, _ :: _, _, _ => by simp [lexC]
  | _ :: _, [], _, h, _ => by simp [lexC] at h
  | _ :: _, _ :: _, [], _, h => by simp [lexC] at h
  | a :: r, b :: s, c :: t, h1, h2 => by
    unfold lexC at h1 h2 ⊢
    by_cases e1 : a = b
    · subst e1
      rw [if_pos ((cmpI_zero a a).2 rfl)] at h1
      by_cases e2 : a = c
      · subst e2
        rw [if_pos ((cmpI_zero a a).2 rfl)] at h2 ⊢
        exact lexC_trans r s t h1 h2
      · rw [if_neg (fun h => e2 ((cmpI_zero a c).1 h))] at h2 ⊢
        exact h2
    · rw [if_neg (fun h => e1 ((cmpI_zero a b).1 h))] at h1
      have k1 := (cmpI_neg a b).1 h1
      by_cases e2 : b = c
      · subst e2
        rw [if_neg (fun h => e1 ((cmpI_zero a b).1 h))]
        exact h1
      · rw [if_neg (fun h => e2 ((cmpI_zero b c).1 h))] at h2
        have k2 := (cmpI_neg b c).1 h2
        rw [if_neg (fun h => by have := (cmpI_zero a c).1 h; omega)]
        exact (cmpI_neg a c).2 (by omega)
theorem lex_total : TotalLt lexLt where
  irrefl x := by unfold lexLt; rw [lexC_self]; decide
  trans x y z h1 h2 := by unfold lexLt at *; rw [decide_eq_true_iff] at *; exact lexC_trans x y z h1 h2
  tri x y := by
    unfold lexLt
    rw [decide_eq_true_iff, decide_eq_true_iff]
    rcases lexC_tri x y with h | h | h
    · exact Or.inl (lexC_zero x y h)
    · exact Or.inr (Or.inl h)
    · exact Or.inr (Or.inr h)
theorem longLt_iff (x y : List Int) : longLt x y = true ↔ y.length < x.length ∨ (y.length = x.length ∧ lexLt x y = true) := by
  unfold longLt longC lexLt
  rw [decide_eq_true_iff, decide_eq_true_iff]
  by_cases e : y.length = x.length
  · rw [if_pos ((cmpI_zero _ _).2 (by omega))]
    constructor
    · intro h; exact Or.inr ⟨e, h⟩
    · rintro (h | h)
      · omega
      · exact h.2
  · rw [if_neg (fun h => e (by have := (cmpI_zero _ _).1 h; omega)), cmpI_neg]
    constructor
    · intro h; exact Or.inl (by omega)
    · rintro (h | h)
      · omega
      · exact absurd h.1 e
theorem long_total : TotalLt longLt where
  irrefl x := by
    cases e : longLt x x with
    | false => rfl
    | true =>
      rcases (longLt_iff x x).1 e with h | h
      · omega
      · rw [lex_total.irrefl] at h; cases h.2
  trans x y z h1 h2 := by
    rw [longLt_iff] at *
    rcases h1 with h1 | h1 <;> rcases h2 with h2 | h2
    · exact Or.inl (by omega)
    · exact Or.inl (by omega)
    · exact Or.inl (by omega)
    · exact Or.inr ⟨by omega, lex_total.trans x y z h1.2 h2.2⟩
  tri x y := by
    rw [longLt_iff, longLt_iff]
    rcases Nat.lt_trichotomy x.length y.length with h | h | h
    · exact Or.inr (Or.inr (Or.inl h))
    · rcases lex_total.tri x y with k | k | k
      · exact Or.inl k
      · exact Or.inr (Or.inl (Or.inr ⟨h.symm, k⟩))
      · exact Or.inr (Or.inr (Or.inr ⟨h, k⟩))
    · exact Or.inr (Or.inl (Or.inl h))
/-- What the comparison is, by places. -/
theorem lexC_drop (x y : List Int) : ∀ i, i ≤ x.length → i ≤ y.length → (∀ j, j < i → nth x j = nth y j) → lexC x y = lexC (x.drop i) (y.drop i)
  | 0, _, _, _ => rfl
  | i + 1, hx, hy, h => by
    rw [lexC_drop x y i (by omega) (by omega) (fun j hj => h j (by omega))]
    have e := h i (Nat.lt_succ_self _)
    rw [nth_eq _ _ (by omega), nth_eq _ _ (by omega)] at e
    rw [List.drop_eq_getElem_cons (show i < x.length by omega), List.drop_eq_getElem_cons (show i < y.length by omega), e, lexC_same]
theorem lexC_at (x y : List Int) (i : Nat) (hx : i < x.length) (hy : i < y.length) (h : ∀ j, j < i → nth x j = nth y j) (hne : nth x i ≠ nth y i) : lexC x y = cmpI (nth x i) (nth y i) := by
  rw [lexC_drop x y i (by omega) (by omega) h, List.drop_eq_getElem_cons hx, List.drop_eq_getElem_cons hy, nth_eq _ _ hx, nth_eq _ _ hy]
  rw [nth_eq _ _ hx, nth_eq _ _ hy] at hne
  exact lexC_diff _ _ _ _ hne
theorem lexC_end (x y : List Int) (i : Nat) (hx : i ≤ x.length) (hy : i ≤ y.length) (h : ∀ j, j < i → nth x j = nth y j) (he : i = x.length ∨ i = y.length) : lexC x y = cmpI (x.length : Int) y.length := by
  rw [lexC_drop x y i hx hy h]
  rcases he with e | e
  · subst e
    rw [List.drop_length]
    by_cases k : x.length = y.length
    · rw [k, List.drop_length, (cmpI_zero _ _).2 rfl]; rfl
    · rw [List.drop_eq_getElem_cons (show x.length < y.length by omega)]
      show (-1 : Int) = _
      unfold cmpI; rw [if_pos (by omega)]
  · subst e
    rw [List.drop_length]
    by_cases k : x.length = y.length
    · rw [← k, List.drop_length, (cmpI_zero _ _).2 rfl]; rfl
    · rw [List.drop_eq_getElem_cons (show y.length < x.length by omega)]
      show (1 : Int) = _
      unfold cmpI; rw [if_neg (by omega), if_pos (by omega)]
end
section
def insL (lt : List Int → List Int → Bool) (x : List Int) : List (List Int) → List (List Int)
  | [] => [x]
  | y :: r => if lt y x = true then y :: insL lt x r else x :: y :: r
theorem insL_at (lt : List Int → List Int → Bool) (x : List Int) : ∀ (all : List (List Int)) (k : Nat), k ≤ all.length → (∀ i, i < k → lt (nth all i) x = true) → (k = all.length ∨ lt (nth all k) x = false) → insL lt x all = all.take k ++ x :: all.drop k
  | [], k, hk, _, _ => by
    have : k = 0 := by simpa using hk
    subst this; rfl
  | y :: r, 0, _, _, h => by
    rcases h with h | h
    · simp at h
    · have h' : lt y x = false := h
      simp [insL, h']
  | y :: r, k + 1, hk, h1, h2 => by
    have h0 : lt y x = true := h1 0 (Nat.succ_pos _)
    rw [insL, if_pos h0, insL_at lt x r k (by simpa using hk) (fun i hi => h1 (i + 1) (by omega)) (by
      rcases h2 with h | h
      · exact Or.inl (by simpa using h)
      · exact Or.inr h)]
    simp
theorem insL_perm (lt : List Int → List Int → Bool) (x : List Int) : ∀ all : List (List Int), (insL lt x all).Perm (all ++ [x])
  | [] => List.Perm.refl _
  | y :: r => by
    unfold insL
    split
    · exact (List.Perm.cons y (insL_perm lt x r))
    · have : (x :: y :: r).Perm ((y :: r) ++ [x]) := (List.perm_append_singleton x (y :: r)).symm
      exact this
theorem insL_len (lt : List Int → List Int → Bool) (x : List Int) (all : List (List Int)) : (insL lt x all).length = all.length + 1 := by
  have := (insL_perm lt x all).length_eq
  simpa using this
theorem insL_sorted {lt : List Int → List Int → Bool} (T : TotalLt lt) (x : List Int) : ∀ all : List (List Int), all.Pairwise (fun a b => lt b a = false) → (insL lt x all).Pairwise (fun a b => lt b a = false)
  | [], _ => by simp [insL]
  | y :: r, h => by
    rw [List.pairwise_cons] at h
    unfold insL
    split
    · rename_i hlt
      rw [List.pairwise_cons]
      refine ⟨fun z hz => ?_, insL_sorted T x r h.2⟩
      have := (insL_perm lt x r).subset hz
      rcases List.mem_append.1 this with hz | hz
      · exact h.1 z hz
      · simp at hz; subst hz; exact T.asymm _ _ hlt
    · rename_i hlt
      have hlt' : lt y x = false := by simpa using hlt
      rw [List.pairwise_cons]
      refine ⟨fun z hz => ?_, by rw [List.pairwise_cons]; exact h⟩
      rcases List.mem_cons.1 hz with e | hz
      · subst e; exact hlt'
      · exact T.ntrans _ _ _ (h.1 z hz) hlt'
def insAllL (lt : List Int → List Int → Bool) (xs : List (List Int)) : List (List Int) := xs.foldl (fun out x => insL lt x out) []
theorem insAllL_snoc (lt : List Int → List Int → Bool) (xs : List (List Int)) (x : List Int) : insAllL lt (xs ++ [x]) = insL lt x (insAllL lt xs) := by unfold insAllL; rw [List.foldl_append]; rfl
theorem insAllL_ok {lt : List Int → List Int → Bool} (T : TotalLt lt) : ∀ (xs out : List (List Int)), out.Pairwise (fun a b => lt b a = false) → (xs.foldl (fun out x => insL lt x out) out).Pairwise (fun a b => lt b a = false) ∧ (xs.foldl (fun out x => insL lt x out) out).Perm (out ++ xs)
  | [], out, h => ⟨h, by simp⟩
  | x :: r, out, h => by
    obtain ⟨h3, h4⟩ := insAllL_ok T r (insL lt x out) (insL_sorted T x out h)
    refine ⟨h3, h4.trans ?_⟩
    have := (insL_perm lt x out).append_right r
    simpa using this
theorem insAllL_perm {lt : List Int → List Int → Bool} (T : TotalLt lt) (xs : List (List Int)) : (insAllL lt xs).Perm xs := by
  have := (insAllL_ok T xs [] (by simp)).2
  simpa [insAllL] using this
theorem insAllL_build {lt : List Int → List Int → Bool} (T : TotalLt lt) (xs : List (List Int)) : insAllL lt xs = buildR lt xs :=
  sorted_uniq T _ _ (insAllL_ok T xs [] (by simp)).1 (srtR_pairwise (buildR_ok T xs).1) ((insAllL_perm T xs).trans (buildR_ok T xs).2.symm)
end
section
theorem setOf_mem (f i : Nat) (hi : i < 10) : (i : Int) ∈ setOf f ↔ f.testBit i = true := by
  unfold setOf bitsTo
  rw [List.mem_filter]
  constructor
  · rintro ⟨_, h⟩; simpa using h
  · intro h
    refine ⟨?_, by simpa using h⟩
    unfold iota
    rw [List.mem_map]
    exact ⟨i, List.mem_range.2 hi, by simp⟩
theorem setOf_inj (f g : Nat) (hf : f < 1024) (hg : g < 1024) (h : setOf f = setOf g) : f = g := by
  apply Nat.eq_of_testBit_eq
  intro i
  by_cases hi : i < 10
  · have a := setOf_mem f i hi
    have b := setOf_mem g i hi
    rw [h] at a
    rw [Bool.eq_iff_iff, ← a, b]
  · have p : 1024 ≤ 2 ^ i := Nat.le_trans (by decide : 1024 ≤ 2 ^ 10) (Nat.pow_le_pow_right (by decide) (by omega))
    rw [Nat.testBit_lt_two_pow (by omega), Nat.testBit_lt_two_pow (by omega)]
/-- Those of the first k sets with so many states. -/
def imgs (sets : List Nat) (b k : Nat) : List (List Int) := ((sets.take k).map setOf).filter fun s => decide (s.length = b)
theorem imgs_zero (sets : List Nat) (b : Nat) : imgs sets b 0 = [] := by simp [imgs]
theorem imgs_yes (sets : List Nat) (b k : Nat) (hk : k < sets.length) (h : (setOf (nth sets k)).length = b) : imgs sets b (k + 1) = imgs sets b k ++ [setOf (nth sets k)] := by
  unfold imgs
  rw [take_succ_nth sets k hk, List.map_append, List.filter_append]
  simp [h]
theorem imgs_no (sets : List Nat) (b k : Nat) (hk : k < sets.length) (h : (setOf (nth sets k)).length ≠ b) : imgs sets b (k + 1) = imgs sets b k := by
  unfold imgs
  rw [take_succ_nth sets k hk, List.map_append, List.filter_append]
  simp [h]
theorem imgs_len (sets : List Nat) (b k : Nat) (hk : k ≤ sets.length) : (imgs sets b k).length ≤ k := by
  unfold imgs
  refine Nat.le_trans (List.length_filter_le _ _) ?_
  simp
  omega
theorem imgs_fresh (sets : List Nat) (b k : Nat) (hk : k < sets.length) (hn : sets.Nodup) (h : ∀ x, x ∈ sets → x < 1024) : setOf (nth sets k) ∉ imgs sets b k := by
  intro hm
  unfold imgs at hm
  have hm' := (List.mem_filter.1 hm).1
  obtain ⟨f, hf, e⟩ := List.mem_map.1 hm'
  have hf2 : f ∈ sets := List.mem_of_mem_take hf
  have e2 := setOf_inj f (nth sets k) (h f hf2) (h _ (nth_mem _ _ hk)) e
  obtain ⟨j, hj, hjf⟩ := mem_nth _ _ hf
  have hjk : j < k := by simp at hj; omega
  have hjn : nth (sets.take k) j = nth sets j := by
    rw [nth_eq _ _ hj, nth_eq _ _ (by omega)]; simp
  rw [hjn] at hjf
  rw [List.nodup_iff_pairwise_ne, List.pairwise_iff_getElem] at hn
  have := hn j k (by omega) hk hjk
  rw [← nth_eq _ _ (by omega), ← nth_eq _ _ hk] at this
  exact this (hjf.trans e2)
def LeastImages (a : Aut) : List (List Int) × Int :=
  if autOk a = true then (buildR lexLt (imgs (tourOf a.nx (full a.n)).sets (leastOf a.nx (full a.n)) (tourOf a.nx (full a.n)).sets.length), 0) else ([], 1)
theorem LeastImages_big (a : Aut) : (LeastImages a).1.length ≤ 1048576 ∧ total (LeastImages a).1 ≤ 1073741824 := by
  unfold LeastImages
  split
  · rename_i ha
    have hlen := (tourOk ha (full a.n) (full_lt a.n)).len (autOk_n ha).2
    generalize leastOf a.nx (full a.n) = b
    generalize tourOf a.nx (full a.n) = T at hlen ⊢
    have hil := imgs_len T.sets b T.sets.length (Nat.le_refl _)
    have hl : (buildR lexLt (imgs T.sets b T.sets.length)).length ≤ 1024 := by rw [buildR_len]; omega
    have hp := (buildR_ok lex_total (imgs T.sets b T.sets.length)).2
    have ht := total_bound (buildR lexLt (imgs T.sets b T.sets.length)) 10 (fun i hi => by
      have h0 := hp.subset (nth_mem _ _ hi)
      have h1 : nth (buildR lexLt (imgs T.sets b T.sets.length)) i ∈ (T.sets.take T.sets.length).map setOf := (List.mem_filter.1 h0).1
      obtain ⟨x, _, hx⟩ := List.mem_map.1 h1
      rw [← hx]; exact bitsTo_len x 10)
    refine ⟨Nat.le_trans hl (by decide), ?_⟩
    show total (buildR lexLt (imgs T.sets b T.sets.length)) ≤ _
    omega
  · simp [total]
/-- The least rank is that of some set. -/
theorem leastTo_hit (sets : List Nat) (m : Nat) : ∀ k, k ≤ sets.length → leastTo sets m k = m ∨ ∃ j, j < k ∧ (setOf (nth sets j)).length = leastTo sets m k
  | 0, _ => Or.inl rfl
  | k + 1, hk => by
    rw [leastTo_succ sets m k (by omega)]
    rcases leastTo_hit sets m k (by omega) with h | ⟨j, hj, h⟩
    · rcases Nat.le_total (leastTo sets m k) (setOf (nth sets k)).length with q | q
      · left; rw [Nat.min_eq_left q, h]
      · right; exact ⟨k, Nat.lt_succ_self _, by rw [Nat.min_eq_right q]⟩
    · rcases Nat.le_total (leastTo sets m k) (setOf (nth sets k)).length with q | q
      · right; exact ⟨j, by omega, by rw [Nat.min_eq_left q, h]⟩
      · right; exact ⟨k, Nat.lt_succ_self _, by rw [Nat.min_eq_right q]⟩
theorem imgs_some {a : Aut} (ha : autOk a = true) (f : Nat) (hf : f < 2 ^ a.n.toNat) : 0 < (imgs (tourOf a.nx f).sets (leastOf a.nx f) (tourOf a.nx f).sets.length).length := by
  have hpos := (tourOk ha f hf).pos
  have hfirst := tour_first a.nx f
  have : ∃ j, j < (tourOf a.nx f).sets.length ∧ (setOf (nth (tourOf a.nx f).sets j)).length = leastOf a.nx f := by
    rcases leastTo_hit (tourOf a.nx f).sets (setOf f).length (tourOf a.nx f).sets.length (Nat.le_refl _) with h | h
    · exact ⟨0, hpos, by rw [hfirst]; exact h.symm⟩
    · exact h
  obtain ⟨j, hj, h⟩ := this
  have hm : setOf (nth (tourOf a.nx f).sets j) ∈ imgs (tourOf a.nx f).sets (leastOf a.nx f) (tourOf a.nx f).sets.length := by
    unfold imgs
    rw [List.take_length, List.mem_filter]
    exact ⟨List.mem_map.2 ⟨_, nth_mem _ _ hj, rfl⟩, by simp [h]⟩
  exact List.length_pos_of_mem hm
end

end Go.Proofs.YthbebnfhplacnaaGreat
