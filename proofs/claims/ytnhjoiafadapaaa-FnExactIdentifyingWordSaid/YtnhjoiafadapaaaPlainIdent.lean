/- The first word that distinguishes a state from each other one. -/
import Derived.Test.YtnhjoiafadapaaaCore
import Derived.Test.YtnhjoiafadapaaaPlains
import Derived.Test.YtnhjoiafadapaaaPlainApart
import Derived.WalkKit
import Derived.WalkSpells
import Derived.WalkLawsBesides
import Derived.Deep.QuietTactic
import Derived.Deep.OwnRows
import Derived.BigQuiet
import Derived.KernelRfl
namespace Go.Proofs.Ytnhjoiafadapaaa
open Go.RowKit

section
variable {α : Type} [DecidableEq α] [Inhabited α] {g : Nat → α → Option α} {L : Nat} {p : α → Bool} {hit : Nat → α → Bool}
theorem nop_step (hgp : ∀ l x y, g l x = some y → p y = hit l x) {t : Bfs α} (h : ∀ x, x ∈ t.list → p x = false) (i l : Nat) (hh : hit l (nth t.list i) = false) : ∀ x, x ∈ (bStep g i l t).list → p x = false := by
  cases e : g l (nth t.list i) with
  | none => rw [bStep_none g i l t e]; exact h
  | some y =>
    by_cases hy : y ∈ t.list
    · rw [bStep_has g i l t y e hy]; exact h
    · rw [bStep_new g i l t y e hy]
      intro x hx
      rcases List.mem_append.1 hx with q | q
      · exact h x q
      · simp at q; subst q; rw [hgp l _ _ e]; exact hh
theorem nop_row (hgp : ∀ l x y, g l x = some y → p y = hit l x) {t : Bfs α} (h : ∀ x, x ∈ t.list → p x = false) (i : Nat) (hi : i < t.list.length) : ∀ l, (∀ j, j < l → hit j (nth t.list i) = false) → ∀ x, x ∈ (bRow g i t l).list → p x = false
  | 0, _ => h
  | l + 1, hh => by
    rw [bRow_succ]
    refine nop_step hgp (nop_row hgp h i hi l (fun j hj => hh j (by omega))) i l ?_
    rw [((bRow_pre' (g := g) i t l).2 i hi).1]
    exact hh l (by omega)
theorem nop_to (hgp : ∀ l x y, g l x = some y → p y = hit l x) (s : α) (hs : p s = false) : ∀ k, k ≤ (bTo g L s k).list.length → (∀ i j, i < k → j < L → hit j (nth (bTo g L s k).list i) = false) → ∀ x, x ∈ (bTo g L s k).list → p x = false
  | 0, _, _ => fun x hx => by simp [bTo_zero, bStart] at hx; subst hx; exact hs
  | k + 1, hk, hh => by
    by_cases hlt : k < (bTo g L s k).list.length
    · have e : bTo g L s (k + 1) = bRow g k (bTo g L s k) L := by rw [bTo_succ, if_pos hlt]
      have hpre := bRow_pre' (g := g) k (bTo g L s k) L
      rw [e] at hh ⊢
      have h1 := nop_to hgp s hs k (by omega) (fun i j hi hj => by have := hh i j (by omega) hj; rw [(hpre.2 i (by omega)).1] at this; exact this)
      exact nop_row hgp h1 k hlt L (fun j hj => by have := hh k j (by omega) hj; rw [(hpre.2 k hlt).1] at this; exact this)
    · rw [bTo_succ, if_neg hlt] at hk; omega
/-- At the first hit. -/
theorem first_hit (hgp : ∀ l x y, g l x = some y → p y = hit l x) (s : α) (hs : p s = false) (N k l : Nat) (hN : k < N) (hk : k < (bTo g L s k).list.length) (hl : l < L) (y : α) (hg : g l (nth (bTo g L s k).list k) = some y) (h : hit l (nth (bTo g L s k).list k) = true)
    (hb : ∀ j, j < l → hit j (nth (bTo g L s k).list k) = false) (hbb : ∀ i j, i < k → j < L → hit j (nth (bTo g L s k).list i) = false) :
    bFirst p (bTo g L s N) = (nth (bTo g L s k).words k ++ [(l : Int)], true) := by
  have h0 := nop_to (L := L) hgp s hs k (by omega) hbb
  have h1 := nop_row hgp h0 k hk l hb
  have hpre := bRow_pre' (g := g) k (bTo g L s k) l
  have e1 : nth (bRow g k (bTo g L s k) l).list k = nth (bTo g L s k).list k := (hpre.2 k hk).1
  have lw := bTo_lw (g := g) (L := L) s k
  have e2 : nth (bRow g k (bTo g L s k) l).words k = nth (bTo g L s k).words k := (hpre.2 k hk).2 lw
  have lw2 := bRow_lw (g := g) k (bTo g L s k) lw l
  have hy : y ∉ (bRow g k (bTo g L s k) l).list := fun q => by have := h1 y q; rw [hgp l _ _ hg, h] at this; cases this
  have e3 : bRow g k (bTo g L s k) (l + 1) = ⟨(bRow g k (bTo g L s k) l).list ++ [y], (bRow g k (bTo g L s k) l).words ++ [nth (bTo g L s k).words k ++ [(l : Int)]]⟩ := by
    rw [bRow_succ, bStep_new _ _ _ _ y (by rw [e1]; exact hg) hy, e2]
  have hmid := bMid_pre (g := g) (L := L) s k (l + 1) N hN hl hk
  obtain ⟨T', hT'⟩ : ∃ T', T' = bRow g k (bTo g L s k) l := ⟨_, rfl⟩
  rw [e3, ← hT'] at hmid
  rw [← hT'] at lw2 h1
  obtain ⟨m1, m2⟩ := hmid
  simp only [List.length_append, List.length_singleton] at m1 m2
  have q1 := (m2 T'.list.length (by omega))
  rw [nth_append_here] at q1
  have q2 := q1.2 (by omega)
  rw [← lw2, nth_append_here, lw2] at q2
  rw [bFirst_hit p _ T'.list.length (by omega) (by rw [q1.1, hgp l _ _ hg]; exact h) (fun j hj => by
    rw [(m2 j (by omega)).1, nth_append_left _ _ _ hj]
    exact h1 _ (nth_mem _ _ hj)), q2]
omit [DecidableEq α] [Inhabited α] in
theorem bFirst_len (p : α → Bool) (t : Bfs α) (N : Nat) (h : ∀ i, i < t.list.length → (nth t.words i).length ≤ N) : (bFirst p t).1.length ≤ N := by
  unfold bFirst
  split
  · rename_i i e
    rw [List.findIdx?_eq_some_iff_getElem] at e
    exact h i e.1
  · exact Nat.zero_le _
theorem first_none (hgp : ∀ l x y, g l x = some y → p y = hit l x) (s : α) (hs : p s = false) (N k : Nat) (hN : k ≤ N) (hk : (bTo g L s k).list.length = k) (hbb : ∀ i j, i < k → j < L → hit j (nth (bTo g L s k).list i) = false) :
    bFirst p (bTo g L s N) = ([], false) := by
  rw [bTo_end s k N hN hk]
  have h0 := nop_to (L := L) hgp s hs k (by omega) hbb
  exact bFirst_none p _ (fun j hj => h0 _ (nth_mem _ _ hj))
end
/-- The next states of those of a set that have a given output. -/
def othB (row out : List Int) (o : Int) (f k : Nat) : Nat := (List.range k).foldl (fun acc s => if f.testBit s = true ∧ nth out s = o then acc ||| 2 ^ (nth row s).toNat else acc) 0
theorem othB_zero (row out : List Int) (o : Int) (f : Nat) : othB row out o f 0 = 0 := rfl
theorem othB_succ (row out : List Int) (o : Int) (f k : Nat) : othB row out o f (k + 1) = if f.testBit k = true ∧ nth out k = o then othB row out o f k ||| 2 ^ (nth row k).toNat else othB row out o f k := by
  simp [othB, List.range_succ]
theorem othB_lt (row out : List Int) (o : Int) (f n : Nat) : ∀ k, (∀ i, i < k → (nth row i).toNat < n) → othB row out o f k < 2 ^ n
  | 0, _ => by simp [othB_zero, Nat.two_pow_pos]
  | k + 1, h => by
    have ih := othB_lt row out o f n k (fun i hi => h i (by omega))
    rw [othB_succ]
    split
    · exact Nat.or_lt_two_pow ih (Nat.pow_lt_pow_right (by decide) (h k (by omega)))
    · exact ih
/-- The same, member by member of a list. -/
def othL (row out : List Int) (o : Int) (xs : List Int) : Nat := xs.foldl (fun acc s => if nth out s.toNat = o then acc ||| 2 ^ (nth row s.toNat).toNat else acc) 0
theorem othL_snoc (row out : List Int) (o : Int) (xs : List Int) (x : Int) : othL row out o (xs ++ [x]) = if nth out x.toNat = o then othL row out o xs ||| 2 ^ (nth row x.toNat).toNat else othL row out o xs := by simp [othL]
theorem othL_take (row out : List Int) (o : Int) (xs : List Int) (k : Nat) (h : k < xs.length) : othL row out o (xs.take (k + 1)) = if nth out (nth xs k).toNat = o then othL row out o (xs.take k) ||| 2 ^ (nth row (nth xs k).toNat).toNat else othL row out o (xs.take k) := by
  rw [take_succ_nth xs k h, othL_snoc]
theorem othL_lt (row out : List Int) (o : Int) (n : Nat) (xs : List Int) (h : ∀ x, x ∈ xs → (nth row x.toNat).toNat < n) : othL row out o xs < 2 ^ n := by
  induction xs using snoc_ind with
  | h0 => simp [othL, Nat.two_pow_pos]
  | h1 xs x ih =>
    rw [othL_snoc]
    split
    · exact Nat.or_lt_two_pow (ih fun y hy => h y (by simp [hy])) (Nat.pow_lt_pow_right (by decide) (h x (by simp)))
    · exact ih fun y hy => h y (by simp [hy])
theorem othB_list (row out : List Int) (o : Int) (f : Nat) : ∀ k, othB row out o f k = othL row out o (bitsTo f k)
  | 0 => rfl
  | k + 1 => by
    rw [othB_succ, bitsTo_succ, othB_list row out o f k]
    by_cases hb : f.testBit k = true
    · rw [if_pos hb, othL_snoc]
      simp [hb]
    · rw [if_neg (fun q => hb q.1), if_neg hb, List.append_nil]
def oth (m : Mach) (l : Nat) (x : Int × Nat) : Nat := othB (nth m.nx l) (nth m.out l) (nth (nth m.out l) x.1.toNat) x.2 m.n.toNat
def idG (m : Mach) (l : Nat) (x : Int × Nat) : Option (Int × Nat) := if (oth m l x).testBit (nth (nth m.nx l) x.1.toNat).toNat = true then none else some (nth (nth m.nx l) x.1.toNat, oth m l x)
def idHit (m : Mach) (l : Nat) (x : Int × Nat) : Bool := oth m l x == 0
def idEnd (x : Int × Nat) : Bool := x.2 == 0
def idSt (m : Mach) (s : Int) : Int × Nat := (s, 2 ^ m.n.toNat - 1 - 2 ^ s.toNat)
def idT (m : Mach) (s : Int) (k : Nat) : Bfs (Int × Nat) := bTo (idG m) m.nx.length (idSt m s) k
def idP (m : Mach) (x : Int × Nat) : Prop := (0 ≤ x.1 ∧ x.1 < m.n) ∧ x.2 < 2 ^ m.n.toNat
def idN : Nat := 10241
theorem idN_is : idN = 10241 := rfl
def idWord (m : Mach) (s : Int) : List Int × Bool := bFirst idEnd (idT m s idN)
theorem id_gp (m : Mach) (l : Nat) (x y : Int × Nat) (h : idG m l x = some y) : idEnd y = idHit m l x := by
  unfold idG at h
  split at h
  · cases h
  · injection h with h; subst h; rfl
theorem id_hit_some (m : Mach) (l : Nat) (x : Int × Nat) (h : idHit m l x = true) : idG m l x = some (nth (nth m.nx l) x.1.toNat, oth m l x) := by
  unfold idHit at h
  unfold idG
  rw [if_neg]
  rw [beq_iff_eq] at h
  rw [h]; simp
section
variable {m : Mach} (hm : machOk m = true)
include hm
theorem oth_lt (l : Nat) (hl : l < m.nx.length) (x : Int × Nat) : oth m l x < 2 ^ m.n.toNat := by
  obtain ⟨r1, r2⟩ := mach_row hm l hl
  exact othB_lt _ _ _ _ _ _ (fun i hi => by have := r2 i (by omega); omega)
theorem idG_ok (l : Nat) (x y : Int × Nat) (hl : l < m.nx.length) (hx : idP m x) (h : idG m l x = some y) : idP m y := by
  unfold idG at h
  split at h
  · cases h
  · injection h with h
    subst h
    obtain ⟨r1, r2⟩ := mach_row hm l hl
    obtain ⟨q1, q2⟩ := hx
    exact ⟨r2 _ (by omega), oth_lt hm l hl x⟩
omit hm in
theorem id_start (s : Int) (hs : 0 ≤ s ∧ s < m.n) : idP m (idSt m s) := ⟨hs, by
  have h1 := Nat.two_pow_pos m.n.toNat
  show 2 ^ m.n.toNat - 1 - 2 ^ s.toNat < 2 ^ m.n.toNat
  exact Nat.lt_of_le_of_lt (Nat.sub_le _ _) (by omega)⟩
theorem id_bok (s : Int) (hs : 0 ≤ s ∧ s < m.n) (k : Nat) : BOk (idP m) m.nx.length (idT m s k) := BOk.to (fun l x y hl' hx hg => idG_ok hm l x y hl' hx hg) _ (id_start s hs) k
theorem id_bound {t : Bfs (Int × Nat)} (h : BOk (idP m) m.nx.length t) : t.list.length ≤ 10240 := by
  have n1 := mach_n hm
  have hp : 2 ^ m.n.toNat ≤ 1024 := pow10' _ (by omega)
  refine h.bound (fun p => p.1.toNat * 1024 + p.2) 10240 (fun x hx => ?_) (fun x y hx hy e => ?_)
  · obtain ⟨a, b⟩ := hx; omega
  · obtain ⟨a, b⟩ := hx
    obtain ⟨c, d⟩ := hy
    have e1 : x.1 = y.1 := by omega
    have e2 : x.2 = y.2 := by omega
    exact Prod.ext e1 e2
theorem id_hit (s : Int) (hs : 0 ≤ s ∧ s < m.n) (h0 : (idSt m s).2 ≠ 0) (k l : Nat) (hk : k < (idT m s k).list.length) (hl : l < m.nx.length) (h : idHit m l (nth (idT m s k).list k) = true)
    (hb : ∀ j, j < l → idHit m j (nth (idT m s k).list k) = false) (hbb : ∀ i j, i < k → j < m.nx.length → idHit m j (nth (idT m s k).list i) = false) :
    idWord m s = (nth (idT m s k).words k ++ [(l : Int)], true) :=
  first_hit (fun l x y => id_gp m l x y) (idSt m s) (by unfold idEnd; simpa using h0) idN k l (by rw [idN_is]; have := id_bound hm (id_bok hm s hs k); omega) hk hl _ (id_hit_some m l _ h) h hb hbb
theorem id_none (s : Int) (hs : 0 ≤ s ∧ s < m.n) (h0 : (idSt m s).2 ≠ 0) (k : Nat) (hk : (idT m s k).list.length = k) (hbb : ∀ i j, i < k → j < m.nx.length → idHit m j (nth (idT m s k).list i) = false) :
    idWord m s = ([], false) :=
  first_none (fun l x y => id_gp m l x y) (idSt m s) (by unfold idEnd; simpa using h0) idN k (by rw [idN_is]; have := id_bound hm (id_bok hm s hs k); omega) hk hbb
theorem id_end (s : Int) (hs : 0 ≤ s ∧ s < m.n) (k : Nat) (hk : k < (idT m s k).list.length) (h : idEnd (nth (idT m s k).list k) = true) (hb : ∀ i, i < k → idEnd (nth (idT m s k).list i) = false) :
    idWord m s = (nth (idT m s k).words k, true) := by
  have hb1 := id_bound hm (id_bok hm s hs k)
  have hpre := bTo_pre (g := idG m) (L := m.nx.length) (idSt m s) k (idN - k)
  rw [show k + (idN - k) = idN by rw [idN_is]; omega] at hpre
  have e : ∀ i, i ≤ k → nth (idT m s idN).list i = nth (idT m s k).list i := fun i hi => (hpre.2 i (by unfold idT at hk; omega)).1
  have ew : nth (idT m s idN).words k = nth (idT m s k).words k := (hpre.2 k hk).2 (bTo_lw _ _)
  unfold idWord
  rw [bFirst_hit idEnd (idT m s idN) k (Nat.lt_of_lt_of_le hk hpre.1) (by rw [e k (Nat.le_refl _)]; exact h) (fun j hj => by rw [e j (by omega)]; exact hb j hj), ew]
theorem id_stop (s : Int) (hs : 0 ≤ s ∧ s < m.n) (k : Nat) (hk : (idT m s k).list.length = k) (hb : ∀ i, i < k → idEnd (nth (idT m s k).list i) = false) : idWord m s = ([], false) := by
  have hb1 := id_bound hm (id_bok hm s hs k)
  unfold idWord
  rw [show idT m s idN = idT m s k from bTo_end _ _ _ (by rw [idN_is]; omega) hk]
  exact bFirst_none _ _ (fun j hj => hb j (by omega))
theorem idWord_len (s : Int) (hs : 0 ≤ s ∧ s < m.n) : (idWord m s).1.length ≤ 10240 := by
  have hok := id_bok hm s hs idN
  have hb := id_bound hm hok
  exact bFirst_len idEnd (idT m s idN) 10240 (fun i hi => by have := hok.wl i hi; omega)
/-- A machine of one state. -/
theorem id_one (s : Int) (hs : 0 ≤ s ∧ s < m.n) (h1 : m.n = 1) : idWord m s = ([], true) := by
  have hs0 : s = 0 := by omega
  refine id_end hm s hs 0 (by simp [idT, bTo_zero, bStart]) ?_ (fun i hi => by omega)
  simp [idT, bTo_zero, bStart, idEnd, idSt, h1, hs0, nth]
omit hm in
theorem id_two (s : Int) (hs : 0 ≤ s ∧ s < m.n) (h1 : m.n ≠ 1) : (idSt m s).2 ≠ 0 := by
  unfold idSt
  simp only
  have h2 : 2 ^ s.toNat * 2 ≤ 2 ^ m.n.toNat ∨ s.toNat + 1 = m.n.toNat := by
    rcases Nat.lt_or_ge (s.toNat + 1) m.n.toNat with q | q
    · left; rw [← Nat.pow_succ]; exact Nat.pow_le_pow_right (by decide) (by omega)
    · right; omega
  have h3 : 1 ≤ 2 ^ s.toNat := Nat.two_pow_pos _
  rcases h2 with h2 | h2
  · by_cases e : s.toNat = 0
    · have : 2 ^ 2 ≤ 2 ^ m.n.toNat := Nat.pow_le_pow_right (by decide) (by omega)
      rw [e]; simp; omega
    · have : 2 ^ 1 ≤ 2 ^ s.toNat := Nat.pow_le_pow_right (by decide) (by omega)
      omega
  · have : 2 ^ 1 ≤ 2 ^ s.toNat := Nat.pow_le_pow_right (by decide) (by omega)
    rw [← h2, Nat.pow_succ]
    omega
end
def IdentifyingWord (m : Mach) (s : Int) : List Int × Int := if machOk m = true then (if inB s 0 (m.n - 1) = true then told (idWord m s) else ([], 2)) else ([], 1)
theorem IdentifyingWord_len (m : Mach) (s : Int) : (IdentifyingWord m s).1.length ≤ 1048576 := by
  unfold IdentifyingWord
  split
  · rename_i hm
    split
    · rename_i h
      rw [inB_iff] at h
      exact told_len _ _ (Nat.le_trans (idWord_len hm s ⟨h.1, by omega⟩) (by decide))
    · simp
  · simp

end Go.Proofs.Ytnhjoiafadapaaa
