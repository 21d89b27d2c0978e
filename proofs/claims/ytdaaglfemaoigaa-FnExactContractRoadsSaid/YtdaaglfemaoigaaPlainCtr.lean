/- The roads of the classes of a division. -/
import Derived.Test.YtdaaglfemaoigaaRows
import Derived.Test.YtdaaglfemaoigaaBase
import Derived.Test.YtdaaglfemaoigaaAut
import Derived.Test.YtdaaglfemaoigaaPlain1
import Derived.Test.YtdaaglfemaoigaaPlainRun
import Derived.Test.YtdaaglfemaoigaaPlainSet
import Derived.Test.YtdaaglfemaoigaaPlainSort
import Derived.Test.YtdaaglfemaoigaaPlainDiv
import Derived.Test.YtdaaglfemaoigaaPlainQuo
import Derived.Test.YtdaaglfemaoigaaPlainRoads
import Derived.WalkKit
import Derived.WalkSpells
import Derived.WalkLawsBesides
import Derived.Deep.QuietTactic
import Derived.Deep.OwnRows
import Derived.BigQuiet
import Derived.KernelRfl
namespace Go.Proofs.Ytdaaglfemaoigaa
open Go.RowKit

/-- The classes to which the roads of a town lead, in order. -/
def ledOf (nx : List (List Int)) (cl : List Int) (s : Nat) : List Int := insAll ((nth nx s).map fun t => nth cl t.toNat)
def ctrStep (nx : List (List Int)) (cl : List Int) (acc : List (List Int)) (s : Nat) : Option (List (List Int)) :=
  if nth cl s = (acc.length : Int) then some (acc ++ [ledOf nx cl s]) else if nth acc (nth cl s).toNat = ledOf nx cl s then some acc else none
def ctrTo (nx : List (List Int)) (cl : List Int) : Nat → Option (List (List Int))
  | 0 => some []
  | k + 1 => (ctrTo nx cl k).bind fun acc => ctrStep nx cl acc k
def ctrOut (nx : List (List Int)) (cl : List Int) : Aut × Int := match ctrTo nx cl cl.length with
  | some acc => (⟨(acc.length : Int), acc⟩, 0)
  | none => (⟨0, []⟩, 4)
def ContractRoads (r : Aut) (cl : List Int) : Aut × Int := if roadsOk r = true then (if isDiv cl r.n = true then ctrOut r.nx cl else (⟨0, []⟩, 2)) else (⟨0, []⟩, 1)
theorem ctrTo_none {nx : List (List Int)} {cl : List Int} {k : Nat} (h : ctrTo nx cl k = none) : ∀ m, k ≤ m → ctrTo nx cl m = none := by
  intro m hm
  induction m with
  | zero => have : k = 0 := by omega
            subst this; exact h
  | succ m ih =>
    by_cases e : k = m + 1
    · subst e; exact h
    · show (ctrTo nx cl m).bind _ = none
      rw [ih (by omega)]; rfl
theorem ctrTo_succ {nx : List (List Int)} {cl : List Int} {k : Nat} {acc : List (List Int)} (h : ctrTo nx cl k = some acc) : ctrTo nx cl (k + 1) = ctrStep nx cl acc k := by
  show (ctrTo nx cl k).bind _ = _
  rw [h]; rfl
theorem div_cls (cl : List Int) (h : divOk 0 cl = true) : ∀ k, k ≤ cl.length → divOk (clsTo cl k) (cl.drop k) = true := by
  intro k
  induction k with
  | zero => intro _; simpa [clsTo_zero] using h
  | succ k ih =>
    intro hk
    have h1 := ih (by omega)
    rw [divOk_drop _ _ _ (by omega), Bool.and_eq_true, inB_iff] at h1
    have e : clsTo cl (k + 1) = if nth cl k = clsTo cl k then clsTo cl k + 1 else clsTo cl k := by
      rw [clsTo_succ _ _ (by omega)]
      split <;> split <;> omega
    rw [e]; exact h1.2
theorem div_le (cl : List Int) (h : divOk 0 cl = true) (k : Nat) (hk : k < cl.length) : 0 ≤ nth cl k ∧ nth cl k ≤ clsTo cl k := by
  have h1 := div_cls cl h k (by omega)
  rw [divOk_drop _ _ _ hk, Bool.and_eq_true, inB_iff] at h1
  exact h1.1
theorem ctrTo_len {nx : List (List Int)} {cl : List Int} (hd : divOk 0 cl = true) : ∀ k acc, k ≤ cl.length → ctrTo nx cl k = some acc → (acc.length : Int) = clsTo cl k := by
  intro k
  induction k with
  | zero => intro acc _ h; simp [ctrTo] at h; subst h; rfl
  | succ k ih =>
    intro acc hk h
    cases h0 : ctrTo nx cl k with
    | none => rw [ctrTo_none h0 (k + 1) (by omega)] at h; cases h
    | some acc0 =>
      have h1 := ih acc0 (by omega) h0
      have h2 := div_le cl hd k (by omega)
      rw [ctrTo_succ h0] at h
      unfold ctrStep at h
      rw [clsTo_succ _ _ (by omega)]
      split at h
      · cases h; rw [List.length_append]; simp only [List.length_cons, List.length_nil]; split <;> omega
      · split at h
        · cases h; split <;> omega
        · cases h
theorem ctrTo_le {nx : List (List Int)} {cl : List Int} : ∀ k acc, ctrTo nx cl k = some acc → acc.length ≤ k ∧ ∀ i, i < acc.length → ∃ s, s < k ∧ nth acc i = ledOf nx cl s := by
  intro k
  induction k with
  | zero => intro acc h; simp [ctrTo] at h; subst h; exact ⟨Nat.le_refl _, fun i hi => by simp at hi⟩
  | succ k ih =>
    intro acc h
    cases h0 : ctrTo nx cl k with
    | none => rw [ctrTo_none h0 (k + 1) (by omega)] at h; cases h
    | some acc0 =>
      obtain ⟨h1, h2⟩ := ih acc0 h0
      rw [ctrTo_succ h0] at h
      unfold ctrStep at h
      split at h
      · cases h
        refine ⟨by simp; omega, fun i hi => ?_⟩
        simp at hi
        by_cases e : i < acc0.length
        · obtain ⟨s, hs, he⟩ := h2 i e
          exact ⟨s, by omega, by rw [nth_append_left _ _ _ e]; exact he⟩
        · have : i = acc0.length := by omega
          subst this
          exact ⟨k, by omega, by rw [nth_append_here]⟩
      · split at h
        · cases h
          exact ⟨by omega, fun i hi => let ⟨s, hs, he⟩ := h2 i hi; ⟨s, by omega, he⟩⟩
        · cases h
theorem ledOf_len (nx : List (List Int)) (cl : List Int) (s : Nat) : (ledOf nx cl s).length = (nth nx s).length := by unfold ledOf; rw [insAll_len, List.length_map]
/-- What right roads and a division of their towns say of the numbers. -/
theorem ctr_facts {r : Aut} {cl : List Int} (h : roadsOk r = true) (hd : isDiv cl r.n = true) :
    r.nx.length = cl.length ∧ cl.length ≤ 7 ∧ 1 ≤ cl.length ∧ (∀ s, s < cl.length → 1 ≤ (nth r.nx s).length ∧ (nth r.nx s).length ≤ 3) ∧
    ∀ s, s < cl.length → ∀ k, k < (nth r.nx s).length → 0 ≤ nth (nth r.nx s) k ∧ nth (nth r.nx s) k < (cl.length : Int) := by
  obtain ⟨⟨n0, n1⟩, hl, ⟨d0, d1⟩, hr⟩ := (roadsOk_iff r).1 h
  obtain ⟨_, hc⟩ := isDiv_parts hd
  refine ⟨by omega, by omega, by omega, fun s hs => ?_, fun s hs k hk => ?_⟩
  · have := ((roadRow_iff _ _ _).1 (hr s (by omega))).1; omega
  · have := ((roadRow_iff _ _ _).1 (hr s (by omega))).2 k hk
    unfold upAt at this
    rw [Bool.and_eq_true, inB_iff] at this
    omega

end Go.Proofs.Ytdaaglfemaoigaa
