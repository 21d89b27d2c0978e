/- The actions of all words, with their first words. -/
import Derived.Test.YtcjmcpfdpnakkaaCore
import Derived.Test.YtcjmcpfdpnakkaaPlains
import Derived.WalkKit
import Derived.WalkSpells
import Derived.WalkLawsBesides
import Derived.Deep.QuietTactic
import Derived.Deep.OwnRows
import Derived.BigQuiet
import Derived.KernelRfl
namespace Go.Proofs.Ytcjmcpfdpnakkaa
open Go.RowKit

/-- Where a letter leads an action. -/
def monA (a : Aut) (l : Nat) (x : List Int) : List Int := x.map fun s => nth (nth a.nx l) s.toNat
def monG (a : Aut) (l : Nat) (x : List Int) : Option (List Int) := some (monA a l x)
def monT (a : Aut) (k : Nat) : Bfs (List Int) := bTo (monG a) a.nx.length (iota 0 a.n.toNat) k
def monP (a : Aut) (x : List Int) : Prop := (x.length : Int) = a.n ∧ ∀ i, i < x.length → 0 ≤ nth x i ∧ nth x i < a.n
/-- Are there not too many? -/
def monFew (a : Aut) : Bool := decide ((monT a 401).list.length ≤ 400)
theorem monG_ok {a : Aut} (ha : autOk a = true) (l : Nat) (x y : List Int) (hl : l < a.nx.length) (hx : monP a x) (h : monG a l x = some y) : monP a y := by
  simp [monG] at h
  subst h
  obtain ⟨h1, h2⟩ := hx
  obtain ⟨r1, r2⟩ := autOk_row ha l hl
  refine ⟨by simpa [monA] using h1, fun i hi => ?_⟩
  have hi' : i < x.length := by simpa [monA] using hi
  have := h2 i hi'
  unfold monA
  rw [nth_map _ _ _ hi']
  exact r2 _ (by omega)
theorem mon_start {a : Aut} (ha : autOk a = true) : monP a (iota 0 a.n.toNat) := by
  have hn := autOk_n ha
  refine ⟨by rw [iota_length]; omega, fun i hi => ?_⟩
  rw [iota_length] at hi
  rw [nth_iota _ _ _ hi]; omega
theorem mon_bok {a : Aut} (ha : autOk a = true) (k : Nat) : BOk (monP a) a.nx.length (monT a k) := BOk.to (fun l x y hl hx h => monG_ok ha l x y hl hx h) _ (mon_start ha) k
theorem bStep_len {α : Type} [DecidableEq α] [Inhabited α] (g : Nat → α → Option α) (i l : Nat) (t : Bfs α) : (bStep g i l t).list.length ≤ t.list.length + 1 := by
  unfold bStep
  split
  · omega
  · split
    · omega
    · simp
theorem bRow_len {α : Type} [DecidableEq α] [Inhabited α] (g : Nat → α → Option α) (i : Nat) (t : Bfs α) : ∀ k, (bRow g i t k).list.length ≤ t.list.length + k
  | 0 => by rw [bRow_zero]; omega
  | k + 1 => by
    rw [bRow_succ]
    have := bStep_len g i k (bRow g i t k)
    have := bRow_len g i t k
    omega
theorem mon_many (a : Aut) (k : Nat) (hk : k < (monT a k).list.length) (h4 : (monT a k).list.length ≤ 400) (h : 400 < (monT a (k + 1)).list.length) : monFew a = false := by
  have hp := (bTo_pre (g := monG a) (L := a.nx.length) (iota 0 a.n.toNat) (k + 1) (401 - (k + 1))).1
  rw [show k + 1 + (401 - (k + 1)) = 401 by omega] at hp
  have hp' : (monT a (k + 1)).list.length ≤ (monT a 401).list.length := hp
  unfold monFew
  rw [decide_eq_false_iff_not]
  omega
theorem mon_end (a : Aut) (k : Nat) (h4 : (monT a k).list.length ≤ 400) (hk : (monT a k).list.length = k) : monFew a = true ∧ monT a 401 = monT a k := by
  have e : monT a 401 = monT a k := bTo_end _ _ _ (by omega) hk
  refine ⟨?_, e⟩
  unfold monFew
  rw [e, decide_eq_true_iff]
  exact h4
def WordFor (a : Aut) (act : List Int) : List Int × Int :=
  if autOk a = true then (if mapOk act a.n = true then (if monFew a = true then (if findL (monT a 401).list act < 0 then ([], 6) else (nth (monT a 401).words (findL (monT a 401).list act).toNat, 0)) else ([], 3)) else ([], 2)) else ([], 1)
theorem pick_len {t : Bfs (List Int)} {P : List Int → Prop} {L : Nat} (hb : BOk P L t) (n : Nat) (h4 : t.list.length ≤ 400) : (nth t.words n).length ≤ 1048576 := by
  rcases Nat.lt_or_ge n t.list.length with h1 | h1
  · have := hb.wl _ h1
    omega
  · have e : nth t.words n = [] := by
      have : t.words[n]? = none := List.getElem?_eq_none (by rw [hb.lw]; exact h1)
      simp [nth, this]
      rfl
    rw [e]; simp
theorem WordFor_len (a : Aut) (act : List Int) : (WordFor a act).1.length ≤ 1048576 := by
  unfold WordFor
  split
  · rename_i ha
    have hb := mon_bok ha 401
    unfold monFew
    generalize monT a 401 = T at hb ⊢
    split
    · split
      · rename_i hf
        rw [decide_eq_true_iff] at hf
        split
        · simp
        · exact pick_len hb _ hf
      · simp
    · simp
  · simp

end Go.Proofs.Ytcjmcpfdpnakkaa
