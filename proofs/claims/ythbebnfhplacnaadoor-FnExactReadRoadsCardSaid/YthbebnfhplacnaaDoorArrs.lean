/- Parts of the proof that lean on no program: AppAll2, Cho, Solid, Box3, ArrSt. -/
import Derived.Test.YthbebnfhplacnaaDoorCore
import Derived.Test.YthbebnfhplacnaaDoorMaps
import Derived.WalkKit
import Derived.WalkSpells
import Derived.WalkLawsBesides
import Derived.Deep.QuietTactic
import Derived.Deep.OwnRows
import Derived.BigQuiet
import Derived.KernelRfl
import Derived.OwnWalk
import Derived.Maps.AppendAt
import Derived.Deep.AppendSrc
import Derived.WalkSmall
namespace Go.Proofs.YthbebnfhplacnaaDoor
open Go.RowKit

section
section
variable {P : Program}
theorem run_appAll {t ty e : TypeId} {B : Nat} {w1 : World} (ht : P.underlying t = some (.slice e)) (hinfo : (P.info? e).map (fun i => (i.zero, i.size, i.bytes)) = some (some (.int .i64 0), 1, 8)) (v u : Value) (xs ys : List Int) (g0 : Nat) (hown : Grow B e w1 v xs) (hv0 : v.ownBlock = some g0)
    (hu : IntsAt w1 u ys) (hlen : xs.length + ys.length ≤ 1099511627776) (hB : B ≤ w1.heap.size) :
    ∃ g cap w', (Builtin.append_ #[t, t] ty #[v, u]).run P w1 = .ok (.slice (some ⟨g, 0, none⟩) (xs.length + ys.length) cap) w' ∧ Grow B e w' (.slice (some ⟨g, 0, none⟩) (xs.length + ys.length) cap) (xs ++ ys) ∧ w1.grownBy w' v.ownBlock ∧ (v.ownBlock = some g ∨ w1.heap.size ≤ g) := by
  obtain ⟨i0, hi, hz0, hz1, hz2⟩ := info_parts hinfo
  obtain ⟨A, c, rfl, hl, hc⟩ := hu
  cases A with
  | some ad =>
    obtain ⟨v', w', hr, hown', hgrow, hnil, hloc⟩ := run_append_own_at (P := P) w1 B t ty e i0 (.int .i64 0) 1 8 ht hi hz0 hz1 hz2 rfl (by decide) v xs.length _ hown ad ys.length c (ys.map (Value.int .i64)) (by simp) (by
      intro j u hj
      have hjl : j < ys.length := by
        rcases Nat.lt_or_ge j ys.length with h | h
        · exact h
        · rw [List.getElem?_eq_none (by simpa using h)] at hj; cases hj
      obtain ⟨b, off, e1, hx1⟩ := hc j hjl
      cases e1
      simp [hjl] at hj
      subst hj
      have e2 : (⟨b, off, none⟩ : Addr).add j = ⟨b, off + j, none⟩ := by
        unfold Addr.add
        split
        · rename_i h; subst h; rfl
        · rfl
      rw [e2, hx1, nth_eq ys j hjl]) (by intro u hu; simp at hu; obtain ⟨z, _, rfl⟩ := hu; rfl) (by unfold maxLen; omega) (by omega) hB
    have hown2 : Grow B e w' v' (xs ++ ys) := by simpa [Grow] using hown'
    obtain ⟨h1, ⟨rfl, h2⟩ | ⟨g, cap, cur, rfl, _⟩⟩ := id hown'
    · rcases hloc with h | h
      · rw [hv0] at h; simp [Value.ownBlock] at h
      · simp [Value.ownBlock] at h
    · refine ⟨g, cap, w', hr, hown2, hgrow, ?_⟩
      rcases hloc with h | h
      · exact Or.inl h.symm
      · right; simp [Value.ownBlock] at h; omega
  | none =>
    have hy : ys = [] := by
      cases ys with
      | nil => rfl
      | cons y r => obtain ⟨b, off, e1, _⟩ := hc 0 (by simp); cases e1
    subst hy
    obtain ⟨h1, ⟨rfl, h2⟩ | ⟨g, cap, cur, rfl, r⟩⟩ := id hown
    · simp [Value.ownBlock] at hv0
    · obtain ⟨hgB, hh, hn, hcs, hs', ht'⟩ := r
      have hrun := run_append_room_src (P := P) w1 t t ty e i0 ht hi g 0 xs.length cap (.slice none 0 c) 0 [] (by rw [hz1]; exact Src.ofNil w1 ht c) (by omega) (by simp) (by simp)
      rw [setCells_nil] at hrun
      exact ⟨g, cap, w1, by simpa using hrun, by simpa using hown, grown_refl _ _, Or.inl rfl⟩
theorem step_appAll {ops : Array Oper} {E : Prop} {o : Oper} {a : Act} {w1 : World} {K : Act → World → Prop} {Q : Exit → Act → World → Prop} (hg : o.guard = none) (s x : Operand) (t : TypeId)
    (ho : o.op = .call { callee := .builtin .append, args := #[s, x], argTypes := #[t, t] }) {B : Nat} {e : TypeId} (ht : P.underlying t = some (.slice e))
    (hinfo : (P.info? e).map (fun i => (i.zero, i.size, i.bytes)) = some (some (.int .i64 0), 1, 8)) (v u : Value) (xs ys : List Int) (g0 : Nat) (hs : a.eval s = v) (hown : Grow B e w1 v xs) (hv0 : v.ownBlock = some g0)
    (hx : a.eval x = u) (hu : IntsAt w1 u ys) (hlen : xs.length + ys.length ≤ 1099511627776) (hB : B ≤ w1.heap.size)
    (hK : ∀ g cap w', Grow B e w' (.slice (some ⟨g, 0, none⟩) (xs.length + ys.length) cap) (xs ++ ys) → w1.grownBy w' v.ownBlock → (v.ownBlock = some g ∨ w1.heap.size ≤ g) → K (a.put o.dst (.slice (some ⟨g, 0, none⟩) (xs.length + ys.length) cap)) w') :
    if Region.wanted o (yielded ops a.tmps) = true then Oper.wp P o a w1 K Q else E := by
  refine step_of_wp hg ?_
  obtain ⟨g, cap, w', hr, h2, h3, h4⟩ := run_appAll (ty := o.type) ht hinfo v u xs ys g0 hown hv0 hu hlen hB
  unfold Oper.wp execOp
  simp only [ho, resolve, invoke, builtin, Sem.run_bind, Sem.run_pure, Result.andThen_ok, List.map_toArray, List.map_cons, List.map_nil, hs, hx, hr]
  exact hK g cap w' h2 h3 h4
end
end
section
structure Cho where
  n : Int
  nx : List (List (List Int))
  deriving DecidableEq
def totalCho (c : List (List (List Int))) : Nat := (c.map total).sum
theorem totalCho_append (a b : List (List (List Int))) : totalCho (a ++ b) = totalCho a + totalCho b := by simp [totalCho]
theorem totalCho_take_succ (c : List (List (List Int))) (i : Nat) (h : i < c.length) : totalCho (c.take (i + 1)) = totalCho (c.take i) + total (nth c i) := by
  rw [take_succ_nth c i h, totalCho_append]; simp [totalCho]
theorem totalCho_take_le (c : List (List (List Int))) (i : Nat) : totalCho (c.take i) ≤ totalCho c := by
  have := totalCho_append (c.take i) (c.drop i)
  rw [List.take_append_drop] at this; omega
theorem total_le_totalCho (c : List (List (List Int))) (i : Nat) (h : i < c.length) : total (nth c i) ≤ totalCho c := by
  have h1 := totalCho_take_succ c i h
  have h2 := totalCho_take_le c (i + 1)
  omega
/-- The slice value v reads as a list of lists of lists. -/
def CubeAt (w : World) (v : Value) (c : List (List (List Int))) : Prop :=
  ∃ A cap, v = .slice A c.length cap ∧ c.length ≤ 9223372036854775807 ∧ ∀ i, i < c.length → ∃ b off rv, A = some ⟨b, off, none⟩ ∧ w.cell? ⟨b, off + i, none⟩ = some rv ∧ RowsAt w rv (nth c i)
/-- The same, own: the elements lie in stretches of blocks one behind the other. -/
def OwnCube (B E : Nat) (w : World) (v : Value) (c : List (List (List Int))) : Prop :=
  ∃ A cap, ∃ rv : Nat → Value, ∃ M : Nat → Nat, v = .slice A c.length cap ∧ c.length ≤ 1099511627776 ∧ (∀ a, A = some a → B ≤ a.block ∧ a.block < M 0) ∧ B ≤ M 0 ∧ M c.length ≤ E ∧
    ∀ i, i < c.length → M i ≤ M (i + 1) ∧ (∃ b off, A = some ⟨b, off, none⟩ ∧ w.cell? ⟨b, off + i, none⟩ = some (rv i)) ∧ OwnRows (M i) (M (i + 1)) w (rv i) (nth c i)
theorem mono_of_step {M : Nat → Nat} {n : Nat} (h : ∀ i, i < n → M i ≤ M (i + 1)) : ∀ j i, i ≤ j → j ≤ n → M i ≤ M j
  | 0, i, hi, _ => by have : i = 0 := by omega
                      subst this; exact Nat.le_refl _
  | j + 1, i, hi, hj => by
    by_cases e : i = j + 1
    · subst e; exact Nat.le_refl _
    · exact Nat.le_trans (mono_of_step h j i (by omega) (by omega)) (h j (by omega))
theorem CubeAt.new {w w' : World} {v : Value} {c : List (List (List Int))} (h : CubeAt w v c) (hw : New w w') : CubeAt w' v c := by
  obtain ⟨A, cap, rfl, hl, hc⟩ := h
  refine ⟨A, cap, rfl, hl, fun i hi => ?_⟩
  obtain ⟨b, off, rv, hA, hx, hr⟩ := hc i hi
  exact ⟨b, off, rv, hA, hw.cell hx, hr.new hw⟩
theorem OwnCube.at {B E : Nat} {w : World} {v : Value} {c : List (List (List Int))} (h : OwnCube B E w v c) : CubeAt w v c := by
  obtain ⟨A, cap, rv, M, rfl, hl, _, _, _, hc⟩ := h
  refine ⟨A, cap, rfl, by omega, fun i hi => ?_⟩
  obtain ⟨_, ⟨b, off, hA, hx⟩, hr⟩ := hc i hi
  exact ⟨b, off, rv i, hA, hx, hr.at⟩
theorem OwnCube.new {B E : Nat} {w w' : World} {v : Value} {c : List (List (List Int))} (h : OwnCube B E w v c) (hw : New w w') : OwnCube B E w' v c := by
  obtain ⟨A, cap, rv, M, rfl, hl, h1, h2, h3, hc⟩ := h
  refine ⟨A, cap, rv, M, rfl, hl, h1, h2, h3, fun i hi => ?_⟩
  obtain ⟨hm, ⟨b, off, hA, hx⟩, hr⟩ := hc i hi
  exact ⟨hm, ⟨b, off, hA, hw.cell hx⟩, hr.new hw⟩
theorem OwnCube.mono {B E : Nat} {w : World} {c : List (List (List Int))} {A : Option Addr} {rv : Nat → Value} {M : Nat → Nat}
    (hc : ∀ i, i < c.length → M i ≤ M (i + 1) ∧ (∃ b off, A = some ⟨b, off, none⟩ ∧ w.cell? ⟨b, off + i, none⟩ = some (rv i)) ∧ OwnRows (M i) (M (i + 1)) w (rv i) (nth c i)) (h3 : M c.length ≤ E) (h2 : B ≤ M 0) (i : Nat) (hi : i < c.length) : B ≤ M i ∧ M (i + 1) ≤ E ∧ M 0 ≤ M i := by
  have h := mono_of_step (M := M) (n := c.length) fun i hi => (hc i hi).1
  have h4 := h i 0 (by omega) (by omega)
  have h5 := h c.length (i + 1) (by omega) (Nat.le_refl _)
  omega
theorem OwnCube.within {B E B' E' : Nat} {w w' : World} {v : Value} {c : List (List (List Int))} (h : OwnCube B E w v c) (hw : Within B' E' w w') (hd : E ≤ B' ∨ E' ≤ B) : OwnCube B E w' v c := by
  obtain ⟨A, cap, rv, M, rfl, hl, h1, h2, h3, hc⟩ := h
  refine ⟨A, cap, rv, M, rfl, hl, h1, h2, h3, fun i hi => ?_⟩
  have hm' := OwnCube.mono hc h3 h2 i hi
  obtain ⟨hm, ⟨b, off, hA, hx⟩, hr⟩ := hc i hi
  have ha := h1 _ hA
  exact ⟨hm, ⟨b, off, hA, hw.cell hx (by simp at ha ⊢; omega)⟩, hr.within hw (by omega)⟩
theorem OwnCube.widen {B E B' E' : Nat} {w : World} {v : Value} {c : List (List (List Int))} (h : OwnCube B E w v c) (hB : B' ≤ B) (hE : E ≤ E') : OwnCube B' E' w v c := by
  obtain ⟨A, cap, rv, M, rfl, hl, h1, h2, h3, hc⟩ := h
  exact ⟨A, cap, rv, M, rfl, hl, fun a e => by have := h1 a e; omega, by omega, by omega, hc⟩
theorem CubeAt.form {w : World} {v : Value} {c : List (List (List Int))} (h : CubeAt w v c) : ∃ A cap, v = .slice A c.length cap := let ⟨A, cap, h, _⟩ := h; ⟨A, cap, h⟩
theorem OwnCube.form {B E : Nat} {w : World} {v : Value} {c : List (List (List Int))} (h : OwnCube B E w v c) : ∃ A cap, v = .slice A c.length cap := let ⟨A, cap, _, _, h, _⟩ := h; ⟨A, cap, h⟩
def ChoAt (w : World) (v : Value) (c : Cho) : Prop := ∃ rv, v = .agg #[.int .i64 c.n, rv] ∧ CubeAt w rv c.nx
def OwnCho (B E : Nat) (w : World) (v : Value) (c : Cho) : Prop := ∃ rv, v = .agg #[.int .i64 c.n, rv] ∧ OwnCube B E w rv c.nx
theorem ChoAt.new {w w' : World} {v : Value} {c : Cho} (h : ChoAt w v c) (hw : New w w') : ChoAt w' v c := let ⟨rv, e, h⟩ := h; ⟨rv, e, h.new hw⟩
theorem OwnCho.new {B E : Nat} {w w' : World} {v : Value} {c : Cho} (h : OwnCho B E w v c) (hw : New w w') : OwnCho B E w' v c := let ⟨rv, e, h⟩ := h; ⟨rv, e, h.new hw⟩
theorem OwnCho.at {B E : Nat} {w : World} {v : Value} {c : Cho} (h : OwnCho B E w v c) : ChoAt w v c := let ⟨rv, e, h⟩ := h; ⟨rv, e, h.at⟩
theorem OwnCho.within {B E B' E' : Nat} {w w' : World} {v : Value} {c : Cho} (h : OwnCho B E w v c) (hw : Within B' E' w w') (hd : E ≤ B' ∨ E' ≤ B) : OwnCho B E w' v c := let ⟨rv, e, h⟩ := h; ⟨rv, e, h.within hw hd⟩
theorem OwnCho.widen {B E B' E' : Nat} {w : World} {v : Value} {c : Cho} (h : OwnCho B E w v c) (hB : B' ≤ B) (hE : E ≤ E') : OwnCho B' E' w v c := let ⟨rv, e, h⟩ := h; ⟨rv, e, h.widen hB hE⟩
theorem Cho.ext' (a b : Cho) : decide (a = b) = (decide (a.n = b.n) && decide (a.nx = b.nx)) := by
  cases a; cases b; simp
/-- The numbers k, k + 1 and so on in the shape of a list of lists of lists. -/
def iotaCube : Int → List (List (List Int)) → List (List (List Int))
  | _, [] => []
  | k, x :: r => iotaRows k x :: iotaCube (k + total x) r
theorem iotaCube_length : ∀ (c : List (List (List Int))) (k : Int), (iotaCube k c).length = c.length
  | [], _ => rfl
  | x :: r, k => by simp [iotaCube, iotaCube_length r]
theorem iotaCube_append : ∀ (a b : List (List (List Int))) (k : Int), iotaCube k (a ++ b) = iotaCube k a ++ iotaCube (k + totalCho a) b
  | [], b, k => by simp [iotaCube, totalCho]
  | x :: r, b, k => by
    simp only [List.cons_append, iotaCube, iotaCube_append r b]
    congr 2
    simp [totalCho]
    congr 1
    omega
theorem iotaCube_step (k : Int) (c : List (List (List Int))) (j : Nat) (h : j < c.length) :
    (iotaCube k (c.take j) ++ c.drop j).set j (iotaRows (k + totalCho (c.take j)) (nth c j)) = iotaCube k (c.take (j + 1)) ++ c.drop (j + 1) := by
  have hl : (iotaCube k (c.take j)).length = j := by simp [iotaCube_length]; omega
  rw [take_succ_nth c j h, iotaCube_append]
  rw [List.set_append_right _ _ (by omega), hl, Nat.sub_self, List.drop_eq_getElem_cons h, List.set_cons_zero]
  simp [iotaCube]
/-- One element of an own list of lists of lists, and what becomes of the whole where it alone is written. -/
theorem OwnCube.row {B E n cap : Nat} {A : Option Addr} {w : World} {c : List (List (List Int))} (h : OwnCube B E w (.slice A n cap) c) (i : Nat) (hi : i < c.length) :
    n = c.length ∧ ∃ b off rv M1 M2, A = some ⟨b, off, none⟩ ∧ w.cell? ⟨b, off + i, none⟩ = some rv ∧ OwnRows M1 M2 w rv (nth c i) ∧
      ∀ w' ys, OwnRows M1 M2 w' rv ys → Within M1 M2 w w' → OwnCube B E w' (.slice A n cap) (c.set i ys) ∧ Within B E w w' := by
  obtain ⟨A', cap', rv, M, e, hl, h1, h2, h3, hc⟩ := h
  cases e
  have hm := OwnCube.mono hc h3 h2
  have hmon := mono_of_step (M := M) (n := c.length) fun i hi => (hc i hi).1
  obtain ⟨hi1, ⟨b, off, rfl, hx⟩, hr⟩ := hc i hi
  refine ⟨rfl, b, off, rv i, M i, M (i + 1), rfl, hx, hr, fun w' ys hy hW => ⟨⟨_, cap, rv, M, by simp, by simpa using hl, h1, h2, by simpa using h3, fun j hj => ?_⟩, hW.widen (hm i hi).1 (hm i hi).2.1⟩⟩
  simp at hj
  obtain ⟨hj1, ⟨b', off', e, hx'⟩, hrj⟩ := hc j hj
  cases e
  have hb := h1 _ rfl
  have hmi := hm i hi
  refine ⟨hj1, ⟨_, _, rfl, hW.cell hx' (by simp at hb ⊢; omega)⟩, ?_⟩
  rw [nth_set _ _ _ _ hi]
  by_cases e : j = i
  · subst e; rw [if_pos rfl]; exact hy
  · rw [if_neg e]
    refine hrj.within hW ?_
    rcases Nat.lt_or_gt_of_ne e with h | h
    · left; exact hmon i (j + 1) (by omega) (by omega)
    · right; exact hmon j (i + 1) (by omega) (by omega)
end
section
/-- All blocks but those of S are as they were. -/
def But (S : Nat → Prop) (w w' : World) : Prop := w'.os = w.os ∧ w'.tape = w.tape ∧ w'.output = w.output ∧ w.heap.size ≤ w'.heap.size ∧ ∀ k, k < w.heap.size → ¬ S k → w'.heap[k]? = w.heap[k]?
/-- p holds, and holds whatever becomes of the blocks of S. -/
def Solid (S : Nat → Prop) (w : World) (p : World → Prop) : Prop := ∀ w', But S w w' → p w'
section
variable {S S' : Nat → Prop} {w w0 w1 w' : World} {p : World → Prop}
theorem But.refl : But S w w := ⟨rfl, rfl, rfl, Nat.le_refl _, fun _ _ _ => rfl⟩
theorem But.size (h : But S w w') : w.heap.size ≤ w'.heap.size := h.2.2.2.1
theorem But.of_new (h : New w w') : But S w w' := ⟨h.os, h.tape, h.output, Below.size h, fun k hk _ => h.block k hk⟩
theorem But.of_grown {r : Option Nat} (h : w.grownBy w' r) (hr : ∀ k, r = some k → S k) : But S w w' := ⟨h.os, h.tape, h.output, h.size, fun k hk hn => h.block k hk (fun e => hn (hr k e.symm))⟩
theorem But.trans (h : But S w w1) (k : But S' w1 w') (hS : ∀ k, S' k → S k ∨ w.heap.size ≤ k) : But S w w' := by
  obtain ⟨h1, h2, h3, h4, h5⟩ := h
  obtain ⟨k1, k2, k3, k4, k5⟩ := k
  exact ⟨k1.trans h1, k2.trans h2, k3.trans h3, by omega, fun i hi ho => (k5 i (by omega) (fun hs => by rcases hS i hs with q | q; exact ho q; omega)).trans (h5 i hi ho)⟩
theorem But.setCell (q : Addr) (x : Value) (hq : S q.block) : But S w (w.setCell q x) := But.of_grown (grown_setCell w q x) (fun k hk => by cases hk; exact hq)
theorem But.cell (h : But S w w') {q : Addr} {v : Value} (hc : w.cell? q = some v) (hq : ¬ S q.block) : w'.cell? q = some v := by
  rw [World.cell?_of_block (w := w) (h.2.2.2.2 q.block (World.block_lt_of_cell? w q hc) hq)]; exact hc
theorem But.frozen (h : But S w w') {q : Addr} {v : Value} (hc : w.cell? q = some v) (hq : ¬ S q.block) : w'.frozen? q = w.frozen? q := by
  rw [World.frozen?_of_block (w := w) (h.2.2.2.2 q.block (World.block_lt_of_cell? w q hc) hq)]
theorem But.new (hn : New w0 w) (h : But S w w') (hS : ∀ k, S k → w0.heap.size ≤ k) : New w0 w' := by
  have hs := hn.size
  obtain ⟨h1, h2, h3, h4, h5⟩ := h
  exact Below.trans hn ⟨h1, h2, h3, h4, fun k hk => h5 k (by omega) (fun hs => by have := hS k hs; omega)⟩
theorem But.row {B n size : Nat} {e : TypeId} {v : Value} {xs : List Value} (hb : But S w w') (h : w.ownsRow B e size v n xs) (hv : ∀ k, v.ownBlock = some k → ¬ S k) : w'.ownsRow B e size v n xs := by
  refine ⟨h.1, ?_⟩
  rcases h.2 with h2 | ⟨g, cap, cur, rfl, hB, hg, rest⟩
  · exact .inl h2
  · exact .inr ⟨g, cap, cur, rfl, hB, by rw [hb.2.2.2.2 g (Array.getElem?_eq_some_iff.1 hg).1 (hv g rfl)]; exact hg, rest⟩
theorem Solid.now (h : Solid S w p) : p w := h w But.refl
theorem Solid.step (h : Solid S w p) (hb : But S w w') (hS : ∀ k, S' k → S k ∨ w.heap.size ≤ k) : Solid S' w' p := fun w'' hb' => h w'' (hb.trans hb' hS)
theorem Solid.mono (h : Solid S w p) (hS : ∀ k, S' k → S k) : Solid S' w p := h.step But.refl (fun k hk => Or.inl (hS k hk))
theorem Solid.new (h : Solid S w p) (hn : New w w') : Solid S w' p := h.step (But.of_new hn) (fun _ hk => Or.inl hk)
theorem Solid.imp {q : World → Prop} (h : Solid S w p) (hpq : ∀ w, p w → q w) : Solid S w q := fun w' hb => hpq w' (h w' hb)
theorem Solid.cell {q : Addr} {v : Value} (hc : w.cell? q = some v) (hq : ¬ S q.block) : Solid S w (fun w => w.cell? q = some v) := fun _ hb => hb.cell hc hq
theorem IntsAt.solid {v : Value} {xs : List Int} (h : IntsAt w v xs) (hv : ∀ k, v.ownBlock = some k → ¬ S k) : Solid S w (fun w => IntsAt w v xs) := by
  intro w' hb
  obtain ⟨A, c, rfl, hl, hc⟩ := h
  refine ⟨A, c, rfl, hl, fun i hi => ?_⟩
  obtain ⟨b, off, rfl, hx⟩ := hc i hi
  exact ⟨b, off, rfl, hb.cell hx (hv b rfl)⟩
theorem OwnRows.solid {B E : Nat} {v : Value} {xss : List (List Int)} (h : OwnRows B E w v xss) (hS : ∀ k, S k → k < B ∨ E ≤ k) : Solid S w (fun w => RowsAt w v xss) := by
  intro w' hb
  obtain ⟨A, c, rv, rfl, hl, ha, hc, _⟩ := h
  refine ⟨A, c, rfl, by omega, fun i hi => ?_⟩
  obtain ⟨⟨b, off, rfl, hx, _⟩, hr⟩ := hc i hi
  have hab := ha _ rfl
  exact ⟨b, off, rv i, rfl, hb.cell hx (fun hs => by have := hS _ hs; simp at this hab; omega), hr.at.solid (fun k hk hs => by have := hS _ hs; have := hr.block k hk; omega) w' hb⟩
theorem ownBlock_none_or {v : Value} {q : Nat → Prop} (h : v.ownBlock = none ∨ ∃ k, v.ownBlock = some k ∧ q k) : ∀ k, v.ownBlock = some k → q k := by
  intro k hk
  rcases h with h | ⟨k', h, hq⟩
  · rw [h] at hk; cases hk
  · rw [h] at hk; cases hk; exact hq
end
/-- The slice value v reads as a list of things that R reads. -/
def ListAt {α : Type} [Inhabited α] (R : World → Value → α → Prop) (w : World) (v : Value) (xs : List α) : Prop :=
  ∃ A c, v = .slice A xs.length c ∧ xs.length ≤ 9223372036854775807 ∧ ∀ i, i < xs.length → ∃ b off rv, A = some ⟨b, off, none⟩ ∧ w.cell? ⟨b, off + i, none⟩ = some rv ∧ R w rv (nth xs i)
/-- A list under append, with solid elements. -/
def GrowS {α : Type} [Inhabited α] (R : World → Value → α → Prop) (S : Nat → Prop) (B : Nat) (e : TypeId) (w : World) (v : Value) (xs : List α) : Prop :=
  ∃ r : Nat → Value, w.ownsRow B e 1 v xs.length ((List.range xs.length).map r) ∧ ∀ i, i < xs.length → Solid S w (fun w => R w (r i) (nth xs i))
section
variable {α : Type} [Inhabited α] {R : World → Value → α → Prop} {S S' : Nat → Prop} {B : Nat} {e : TypeId} {w w' : World} {v r : Value} {xs : List α}
theorem GrowS.nil : GrowS R S B e w (.slice none 0 0) [] := ⟨fun _ => default, World.ownsRow_nil _ _ _ _, fun i hi => by simp at hi⟩
theorem GrowS.empty (h : B ≤ w.heap.size) : GrowS R S B e (w.alloc (.cells #[] e)) (.slice (some ⟨w.heap.size, 0, none⟩) 0 0) [] :=
  ⟨fun _ => default, by simpa [Grow] using Grow.empty B e w h, fun i hi => by simp at hi⟩
theorem GrowS.form (h : GrowS R S B e w v xs) : ∃ A c, v = .slice A xs.length c := let ⟨_, h, _⟩ := h; ownsRow_form h
theorem GrowS.block (h : GrowS R S B e w v xs) : ∀ k, v.ownBlock = some k → B ≤ k ∧ k < w.heap.size := let ⟨_, h, _⟩ := h; World.ownsRow.lt h
theorem GrowS.new (h : GrowS R S B e w v xs) (hn : New w w') : GrowS R S B e w' v xs := let ⟨r, h1, h2⟩ := h; ⟨r, ownsRow_new h1 hn, fun i hi => (h2 i hi).new hn⟩
/-- What is changed is neither the list's own block nor what its elements lean on. -/
theorem GrowS.step {T : Nat → Prop} (h : GrowS R S B e w v xs) (hb : But T w w') (hT : ∀ k, T k → S k ∨ w.heap.size ≤ k) (hv : ∀ k, v.ownBlock = some k → ¬ T k) (hS : ∀ k, S' k → S k ∨ w.heap.size ≤ k) : GrowS R S' B e w' v xs :=
  let ⟨r, h1, h2⟩ := h
  ⟨r, hb.row h1 hv, fun i hi => (h2 i hi).step (But.trans But.refl hb hT) hS⟩
theorem GrowS.at (h : GrowS R S B e w v xs) (hl : xs.length ≤ 9223372036854775807) : ListAt R w v xs := by
  obtain ⟨r, h1, h2⟩ := h
  obtain ⟨A, c, rfl⟩ := ownsRow_form h1
  refine ⟨A, c, rfl, hl, fun i hi => ?_⟩
  obtain ⟨b, hb, ⟨c', e'⟩, hB, hlt, hc, _⟩ := ownsRow_cells h1 i (by simpa using hi)
  cases e'
  exact ⟨b, 0, r i, rfl, by rw [Nat.zero_add, hc]; simp, (h2 i hi).now⟩
/-- What lies in the list's blocks and its elements' alone. -/
theorem GrowS.lies (h : GrowS R S B e w v xs) (hl : xs.length ≤ 9223372036854775807) (hS : ∀ k, k < B → S k) : Solid (fun k => k < B ∨ w.heap.size ≤ k) w (fun w => ListAt R w v xs) := by
  obtain ⟨r, h1, h2⟩ := h
  intro w' hb
  obtain ⟨A, c, rfl⟩ := ownsRow_form h1
  refine ⟨A, c, rfl, hl, fun i hi => ?_⟩
  obtain ⟨b, hb', ⟨c', e'⟩, hB, hlt, hc, _⟩ := ownsRow_cells h1 i (by simpa using hi)
  cases e'
  have hc' : w.cell? ⟨b, i, none⟩ = some (r i) := by rw [hc]; simp
  have hcell := hb.cell hc' (fun q => q.elim (fun q => absurd q (Nat.not_lt.2 hB)) (fun q => absurd hlt (Nat.not_lt.2 q)))
  exact ⟨b, 0, r i, rfl, by rw [Nat.zero_add]; exact hcell, h2 i hi w' ⟨hb.1, hb.2.1, hb.2.2.1, hb.2.2.2.1, fun k hk hn => hb.2.2.2.2 k hk (fun q => q.elim (fun q => hn (hS k q)) (fun q => absurd hk (Nat.not_lt.2 q)))⟩⟩
/-- One more element: the list's frame before the append, and what the list is behind it. -/
theorem GrowS.app (h : GrowS R S B e w v xs) : ∃ l, w.ownsRow B e 1 v xs.length l ∧ ∀ (T : Nat → Prop) (w1 w' : World) (g cap : Nat) (r : Value) (x : α),
    But T w w1 → (∀ k, T k → S k ∨ w.heap.size ≤ k) → (∀ k, v.ownBlock = some k → S k) → Solid S w1 (fun w => R w r x) → w'.ownsRow B e 1 (.slice (some ⟨g, 0, none⟩) (xs.length + 1) cap) (xs.length + 1) (l ++ [r]) → w1.grownBy w' v.ownBlock → (∀ k, S' k → S k ∨ w1.heap.size ≤ k) →
    GrowS R S' B e w' (.slice (some ⟨g, 0, none⟩) (xs.length + 1) cap) (xs ++ [x]) := by
  obtain ⟨rr, h1, h2⟩ := h
  refine ⟨_, h1, fun T w1 w' g cap r x hb hT hv hr ho hg hS => ?_⟩
  have hs := hb.size
  have hb2 : But S w1 w' := But.of_grown hg hv
  refine ⟨fun i => if i < xs.length then rr i else r, by rw [List.length_append, List.length_singleton, range_pick]; exact ho, fun i hi => ?_⟩
  rw [List.length_append, List.length_singleton] at hi
  by_cases e : i < xs.length
  · simp only [if_pos e]
    rw [nth_append_left _ _ _ e]
    exact ((h2 i e).step (S' := S) (But.trans But.refl hb hT) (fun k hk => Or.inl hk)).step hb2 hS
  · have e' : i = xs.length := by omega
    subst e'
    simp only [if_neg (Nat.lt_irrefl _)]
    rw [nth_append_here]
    exact hr.step hb2 hS
end
/-- What lies in the blocks from B to E. -/
def Lies {α : Type} (R : World → Value → α → Prop) (B E : Nat) (w : World) (v : Value) (x : α) : Prop := Solid (fun k => k < B ∨ E ≤ k) w (fun w => R w v x)
theorem Lies.now {α : Type} {R : World → Value → α → Prop} {B E : Nat} {w : World} {v : Value} {x : α} (h : Lies R B E w v x) : R w v x := Solid.now h
theorem Lies.widen {α : Type} {R : World → Value → α → Prop} {B E B' E' : Nat} {w : World} {v : Value} {x : α} (h : Lies R B E w v x) (hB : B' ≤ B) (hE : E ≤ E') : Lies R B' E' w v x := Solid.mono h (fun k hk => by omega)
theorem Lies.new {α : Type} {R : World → Value → α → Prop} {B E : Nat} {w w' : World} {v : Value} {x : α} (h : Lies R B E w v x) (hn : New w w') : Lies R B E w' v x := Solid.new h hn
end
section
section
variable {S S' : Nat → Prop} {w w' : World} {b : Nat} {v : Value}
/-- A box of three cells, all of which may be written. -/
def Box3 (w : World) (b : Nat) (u0 u1 u2 : Value) : Prop := (w.cell? ⟨b, 0, none⟩ = some u0 ∧ w.cell? ⟨b, 1, none⟩ = some u1 ∧ w.cell? ⟨b, 2, none⟩ = some u2) ∧ (w.frozen? ⟨b, 0, none⟩ = false ∧ w.frozen? ⟨b, 1, none⟩ = false ∧ w.frozen? ⟨b, 2, none⟩ = false)
theorem Box3.lt {u0 u1 u2 : Value} (h : Box3 w b u0 u1 u2) : b < w.heap.size := World.block_lt_of_cell? w _ h.1.1
theorem Box3.but {u0 u1 u2 : Value} (h : Box3 w b u0 u1 u2) (hb : But S w w') (hS : ¬ S b) : Box3 w' b u0 u1 u2 :=
  let ⟨⟨a0, a1, a2⟩, f0, f1, f2⟩ := h
  ⟨⟨hb.cell a0 hS, hb.cell a1 hS, hb.cell a2 hS⟩, by rw [hb.frozen a0 hS]; exact f0, by rw [hb.frozen a1 hS]; exact f1, by rw [hb.frozen a2 hS]; exact f2⟩
theorem Box3.new {u0 u1 u2 : Value} (h : Box3 w b u0 u1 u2) (hn : New w w') : Box3 w' b u0 u1 u2 := h.but (S := fun _ => False) (But.of_new hn) id
theorem Box3.set0 {u0 u1 u2 : Value} (h : Box3 w b u0 u1 u2) (x : Value) : Box3 (w.setCell ⟨b, 0, none⟩ x) b x u1 u2 :=
  ⟨⟨World.cell?_setCell_same _ _ _ h.1.1, by rw [World.cell?_setCell_other]; exact h.1.2.1; simp, by rw [World.cell?_setCell_other]; exact h.1.2.2; simp⟩, by simpa using h.2.1, by simpa using h.2.2.1, by simpa using h.2.2.2⟩
theorem Box3.set1 {u0 u1 u2 : Value} (h : Box3 w b u0 u1 u2) (x : Value) : Box3 (w.setCell ⟨b, 1, none⟩ x) b u0 x u2 :=
  ⟨⟨by rw [World.cell?_setCell_other]; exact h.1.1; simp, World.cell?_setCell_same _ _ _ h.1.2.1, by rw [World.cell?_setCell_other]; exact h.1.2.2; simp⟩, by simpa using h.2.1, by simpa using h.2.2.1, by simpa using h.2.2.2⟩
theorem Box3.set2 {u0 u1 u2 : Value} (h : Box3 w b u0 u1 u2) (x : Value) : Box3 (w.setCell ⟨b, 2, none⟩ x) b u0 u1 x :=
  ⟨⟨by rw [World.cell?_setCell_other]; exact h.1.1; simp, by rw [World.cell?_setCell_other]; exact h.1.2.1; simp, World.cell?_setCell_same _ _ _ h.1.2.2⟩, by simpa using h.2.1, by simpa using h.2.2.1, by simpa using h.2.2.2⟩
end
section
variable {α : Type} [Inhabited α] {R : World → Value → α → Prop} {S : Nat → Prop} {B : Nat} {e : TypeId} {w : World} {v : Value} {xs : List α}
/-- One more element: the list's frame before the append, and what the list is behind it. -/
theorem GrowS.appT (h : GrowS R S B e w v xs) : ∃ l, w.ownsRow B e 1 v xs.length l ∧ ∀ (T S' : Nat → Prop) (w1 w' : World) (g cap : Nat) (r : Value) (x : α),
    But T w w1 → (∀ k, T k → S k ∨ w.heap.size ≤ k) → (∀ k, v.ownBlock = some k → S k) → Solid S w1 (fun w => R w r x) → w'.ownsRow B e 1 (.slice (some ⟨g, 0, none⟩) (xs.length + 1) cap) (xs.length + 1) (l ++ [r]) → w1.grownBy w' v.ownBlock → (∀ k, S' k → S k ∨ w1.heap.size ≤ k) →
    GrowS R S' B e w' (.slice (some ⟨g, 0, none⟩) (xs.length + 1) cap) (xs ++ [x]) := by
  obtain ⟨rr, h1, h2⟩ := h
  refine ⟨_, h1, fun T S' w1 w' g cap r x hb hT hv hr ho hg hS => ?_⟩
  have hs := hb.size
  have hb2 : But S w1 w' := But.of_grown hg hv
  refine ⟨fun i => if i < xs.length then rr i else r, by rw [List.length_append, List.length_singleton, range_pick]; exact ho, fun i hi => ?_⟩
  rw [List.length_append, List.length_singleton] at hi
  by_cases e : i < xs.length
  · simp only [if_pos e]
    rw [nth_append_left _ _ _ e]
    exact ((h2 i e).step (S' := S) (But.trans But.refl hb hT) (fun k hk => Or.inl hk)).step hb2 hS
  · have e' : i = xs.length := by omega
    subst e'
    simp only [if_neg (Nat.lt_irrefl _)]
    rw [nth_append_here]
    exact hr.step hb2 hS
end
theorem But.of_within {B E : Nat} {w w' : World} (h : Within B E w w') : But (fun k => B ≤ k ∧ k < E) w w' := ⟨h.1, h.2.1, h.2.2.1, h.2.2.2.1, fun k hk hn => h.2.2.2.2 k hk (by omega)⟩
theorem But.mono {S S' : Nat → Prop} {w w' : World} (h : But S w w') (hS : ∀ k, S k → S' k) : But S' w w' := ⟨h.1, h.2.1, h.2.2.1, h.2.2.2.1, fun k hk hn => h.2.2.2.2 k hk (fun q => hn (hS k q))⟩
end
section
/-- A box of one cell, which may be written. -/
def Box1 (w : World) (b : Nat) (v : Value) : Prop := w.cell? ⟨b, 0, none⟩ = some v ∧ w.frozen? ⟨b, 0, none⟩ = false
section
variable {S S' : Nat → Prop} {w w' : World} {b : Nat} {v : Value}
theorem Box1.lt (h : Box1 w b v) : b < w.heap.size := World.block_lt_of_cell? w _ h.1
theorem Box1.but (h : Box1 w b v) (hb : But S w w') (hS : ¬ S b) : Box1 w' b v := ⟨hb.cell h.1 hS, by rw [hb.frozen h.1 hS]; exact h.2⟩
theorem Box1.new (h : Box1 w b v) (hn : New w w') : Box1 w' b v := h.but (S := fun _ => False) (But.of_new hn) id
theorem Box1.set (h : Box1 w b v) (x : Value) : Box1 (w.setCell ⟨b, 0, none⟩ x) b x := ⟨World.cell?_setCell_same _ _ _ h.1, by simpa using h.2⟩
theorem Grow.but {B : Nat} {e : TypeId} {xs : List Int} (h : Grow B e w v xs) (hb : But S w w') (hS : ∀ k, v.ownBlock = some k → ¬ S k) : Grow B e w' v xs := hb.row h hS
end
theorem ownsRow_cap {w : World} {B m c n : Nat} {e : TypeId} {A : Option Addr} {xs : List Value} (h : w.ownsRow B e 1 (.slice A m c) n xs) : m ≤ c := by
  obtain ⟨_, ⟨h0, _⟩ | ⟨_, _, _, hv, _, _, hcp, _⟩⟩ := h
  · injection h0 with _ h1 h2; omega
  · injection hv with _ h1 h2; omega
/-- The blocks that the two lists may change. -/
def ArrS (b3 b4 : Nat) (vo vn : Value) (k : Nat) : Prop := k = b3 ∨ k = b4 ∨ vo.ownBlock = some k ∨ vn.ownBlock = some k
/-- The same, and all that is old. -/
def ArrT (B b3 b4 : Nat) (vo vn : Value) (k : Nat) : Prop := k < B ∨ ArrS b3 b4 vo vn k
structure ArrSt (B : Nat) (eR eI : TypeId) (b3 b4 : Nat) (w : World) (vo vn : Value) (XS : List (List Int)) (N : List Int) : Prop where
  c3 : Box1 w b3 vo
  c4 : Box1 w b4 vn
  out : GrowS IntsAt (ArrT B b3 b4 vo vn) B eR w vo XS
  now : Grow B eI w vn N
  hb : b3 ≠ b4
  o3 : vo.ownBlock ≠ some b3
  o4 : vo.ownBlock ≠ some b4
  n3 : vn.ownBlock ≠ some b3
  n4 : vn.ownBlock ≠ some b4
  av : ApartV vo vn
section
variable {B : Nat} {eR eI : TypeId} {b3 b4 : Nat} {w w' : World} {vo vn : Value} {XS : List (List Int)} {N : List Int}
theorem ApartV.no {a b : Value} (h : ApartV a b) {k : Nat} (ha : a.ownBlock = some k) (hb : b.ownBlock = some k) : False := by
  rcases h with q | q
  · exact q (ha.trans hb.symm)
  · rw [q] at ha; cases ha
theorem ArrSt.lt (h : ArrSt B eR eI b3 b4 w vo vn XS N) (k : Nat) (hk : ArrS b3 b4 vo vn k) : k < w.heap.size := by
  rcases hk with rfl | rfl | q | q
  · exact h.c3.lt
  · exact h.c4.lt
  · exact (h.out.block k q).2
  · exact (h.now.block k q).2
theorem ArrSt.new (h : ArrSt B eR eI b3 b4 w vo vn XS N) (hn : New w w') : ArrSt B eR eI b3 b4 w' vo vn XS N :=
  ⟨h.c3.new hn, h.c4.new hn, h.out.new hn, h.now.new hn, h.hb, h.o3, h.o4, h.n3, h.n4, h.av⟩
/-- One more list, which is the numbers at hand. -/
theorem ArrSt.push (h : ArrSt B eR eI b3 b4 w vo vn XS N) : ∃ l, w.ownsRow B eR 1 vo XS.length l ∧ ∀ (W1 wd : World) (g cap : Nat) (r : Value), New w W1 → Solid (ArrT B b3 b4 vo vn) W1 (fun w => IntsAt w r N) →
    wd.ownsRow B eR 1 (.slice (some ⟨g, 0, none⟩) (XS.length + 1) cap) (XS.length + 1) (l ++ [r]) → W1.grownBy wd vo.ownBlock → (vo.ownBlock = some g ∨ W1.heap.size ≤ g) →
    (wd.cell? ⟨b3, 0, none⟩ = some vo ∧ wd.frozen? ⟨b3, 0, none⟩ = false) ∧ But (ArrS b3 b4 vo vn) w (wd.setCell ⟨b3, 0, none⟩ (.slice (some ⟨g, 0, none⟩) (XS.length + 1) cap)) ∧
      ArrSt B eR eI b3 b4 (wd.setCell ⟨b3, 0, none⟩ (.slice (some ⟨g, 0, none⟩) (XS.length + 1) cap)) (.slice (some ⟨g, 0, none⟩) (XS.length + 1) cap) vn (XS ++ [N]) N ∧
      ∀ k, ArrS b3 b4 (.slice (some ⟨g, 0, none⟩) (XS.length + 1) cap) vn k → ArrS b3 b4 vo vn k ∨ w.heap.size ≤ k := by
  obtain ⟨rr, hr1, hr2⟩ := id h.out
  refine ⟨_, hr1, fun W1 wd g cap r hn hr ho hg hloc => ?_⟩
  have hs := hn.size
  have hlt := h.lt
  have hS : ∀ k, ArrS b3 b4 (.slice (some ⟨g, 0, none⟩) (XS.length + 1) cap) vn k → ArrS b3 b4 vo vn k ∨ W1.heap.size ≤ k := by
    intro k hk
    rcases hk with q | q | q | q
    · exact Or.inl (Or.inl q)
    · exact Or.inl (Or.inr (Or.inl q))
    · simp [Value.ownBlock] at q
      subst q
      rcases hloc with q | q
      · exact Or.inl (Or.inr (Or.inr (Or.inl q)))
      · exact Or.inr q
    · exact Or.inl (Or.inr (Or.inr (Or.inr q)))
  have hb2 : But (fun k => vo.ownBlock = some k) W1 wd := But.of_grown hg (fun k hk => hk)
  have e3 := (h.c3.new hn).but hb2 h.o3
  have hT : ∀ k, ArrT B b3 b4 (.slice (some ⟨g, 0, none⟩) (XS.length + 1) cap) vn k → ArrT B b3 b4 vo vn k ∨ W1.heap.size ≤ k := by
    intro k hk
    rcases hk with q | q
    · exact Or.inl (Or.inl q)
    · exact (hS k q).imp Or.inr id
  have hout : GrowS IntsAt (ArrT B b3 b4 (.slice (some ⟨g, 0, none⟩) (XS.length + 1) cap) vn) B eR wd (.slice (some ⟨g, 0, none⟩) (XS.length + 1) cap) (XS ++ [N]) := by
    refine ⟨fun i => if i < XS.length then rr i else r, by rw [List.length_append, List.length_singleton, range_pick]; exact ho, fun i hi => ?_⟩
    rw [List.length_append, List.length_singleton] at hi
    have hb3 : But (ArrT B b3 b4 vo vn) W1 wd := But.of_grown hg (fun k hk => Or.inr (Or.inr (Or.inr (Or.inl hk))))
    by_cases e : i < XS.length
    · simp only [if_pos e]
      rw [nth_append_left _ _ _ e]
      exact ((hr2 i e).new hn).step hb3 hT
    · have e' : i = XS.length := by omega
      subst e'
      simp only [if_neg (Nat.lt_irrefl _)]
      rw [nth_append_here]
      exact hr.step hb3 hT
  have g3 : g ≠ b3 := by
    rintro rfl
    rcases hloc with q | q
    · exact h.o3 q
    · have := h.c3.lt; omega
  have g4 : g ≠ b4 := by
    rintro rfl
    rcases hloc with q | q
    · exact h.o4 q
    · have := h.c4.lt; omega
  have hb4 : But (fun k => k = b3) wd (wd.setCell ⟨b3, 0, none⟩ (.slice (some ⟨g, 0, none⟩) (XS.length + 1) cap)) := But.setCell _ _ rfl
  refine ⟨e3, ?_, ⟨e3.set _, ((h.c4.new hn).but hb2 h.o4).but hb4 (fun e => h.hb e.symm), ?_, ((h.now.new hn).but hb2 (fun k hk q => h.av.no q hk)).but hb4 (fun k hk q => h.n3 (by rw [hk, q])), h.hb, by simp [Value.ownBlock]; exact g3, by simp [Value.ownBlock]; exact g4, h.n3, h.n4, ?_⟩, fun k hk => (hS k hk).imp id (fun q => by omega)⟩
  · refine ((But.of_new (S := ArrS b3 b4 vo vn) hn).trans hb2 (fun k hk => Or.inl ?_)).trans hb4 (fun k hk => Or.inl ?_)
    · exact Or.inr (Or.inr (Or.inl hk))
    · exact Or.inl hk
  · exact hout.step hb4 (fun k hk => Or.inl (Or.inr (Or.inl hk))) (fun k hk q => by simp [Value.ownBlock] at hk; omega) (fun k hk => Or.inl hk)
  · exact (ApartV.frame h.av.symm (fun k hk => by have := (h.now.block k hk).2; omega) hloc).symm
/-- One more number. -/
theorem ArrSt.more {W1 wd : World} {g cap n : Nat} {x : Int} (h : ArrSt B eR eI b3 b4 w vo vn XS N) (hl : N.length = n) (hn : New w W1) (ho : wd.ownsRow B eI 1 (.slice (some ⟨g, 0, none⟩) (n + 1) cap) (n + 1) (N.map (Value.int .i64) ++ [.int .i64 x]))
    (hg : W1.grownBy wd vn.ownBlock) (hloc : vn.ownBlock = some g ∨ W1.heap.size ≤ g) :
    (wd.cell? ⟨b4, 0, none⟩ = some vn ∧ wd.frozen? ⟨b4, 0, none⟩ = false) ∧ But (ArrS b3 b4 vo vn) w (wd.setCell ⟨b4, 0, none⟩ (.slice (some ⟨g, 0, none⟩) (n + 1) cap)) ∧
      ArrSt B eR eI b3 b4 (wd.setCell ⟨b4, 0, none⟩ (.slice (some ⟨g, 0, none⟩) (n + 1) cap)) vo (.slice (some ⟨g, 0, none⟩) (n + 1) cap) XS (N ++ [x]) ∧
      ∀ k, ArrS b3 b4 vo (.slice (some ⟨g, 0, none⟩) (n + 1) cap) k → ArrS b3 b4 vo vn k ∨ w.heap.size ≤ k := by
  subst hl
  have hs := hn.size
  have hS : ∀ k, ArrS b3 b4 vo (.slice (some ⟨g, 0, none⟩) (N.length + 1) cap) k → ArrS b3 b4 vo vn k ∨ W1.heap.size ≤ k := by
    intro k hk
    rcases hk with q | q | q | q
    · exact Or.inl (Or.inl q)
    · exact Or.inl (Or.inr (Or.inl q))
    · exact Or.inl (Or.inr (Or.inr (Or.inl q)))
    · simp [Value.ownBlock] at q
      subst q
      rcases hloc with q | q
      · exact Or.inl (Or.inr (Or.inr (Or.inr q)))
      · exact Or.inr q
  have hb2 : But (fun k => vn.ownBlock = some k) W1 wd := But.of_grown hg (fun k hk => hk)
  have e4 := (h.c4.new hn).but hb2 h.n4
  have g3 : g ≠ b3 := by
    rintro rfl
    rcases hloc with q | q
    · exact h.n3 q
    · have := h.c3.lt; omega
  have g4 : g ≠ b4 := by
    rintro rfl
    rcases hloc with q | q
    · exact h.n4 q
    · have := h.c4.lt; omega
  have hb4 : But (fun k => k = b4) wd (wd.setCell ⟨b4, 0, none⟩ (.slice (some ⟨g, 0, none⟩) (N.length + 1) cap)) := But.setCell _ _ rfl
  have hnow : Grow B eI wd (.slice (some ⟨g, 0, none⟩) (N.length + 1) cap) (N ++ [x]) := by simpa [Grow] using ho
  refine ⟨e4, ?_, ⟨((h.c3.new hn).but hb2 h.n3).but hb4 h.hb, e4.set _, ?_, hnow.but hb4 (fun k hk q => by simp [Value.ownBlock] at hk; omega), h.hb, h.o3, h.o4, by simp [Value.ownBlock]; exact g3, by simp [Value.ownBlock]; exact g4, ?_⟩, fun k hk => (hS k hk).imp id (fun q => by omega)⟩
  · refine ((But.of_new (S := ArrS b3 b4 vo vn) hn).trans hb2 (fun k hk => Or.inl ?_)).trans hb4 (fun k hk => Or.inl ?_)
    · exact Or.inr (Or.inr (Or.inr hk))
    · exact Or.inr (Or.inl hk)
  · have h1 := (h.out.new hn).step (S' := ArrT B b3 b4 vo (.slice (some ⟨g, 0, none⟩) (N.length + 1) cap)) hb2 (fun k hk => Or.inl (Or.inr (Or.inr (Or.inr (Or.inr hk))))) (fun k hk q => h.av.no hk q) (fun k hk => by
      rcases hk with q | q
      · exact Or.inl (Or.inl q)
      · exact (hS k q).imp Or.inr id)
    exact h1.step hb4 (fun k hk => Or.inl (Or.inr (Or.inr (Or.inl hk)))) (fun k hk q => h.o4 (by rw [hk, q])) (fun k hk => Or.inl hk)
  · exact ApartV.frame h.av (fun k hk => by have := (h.out.block k hk).2; omega) hloc
/-- One number less. -/
theorem ArrSt.pop {g cap n : Nat} {x : Int} (h : ArrSt B eR eI b3 b4 w vo (.slice (some ⟨g, 0, none⟩) (n + 1) cap) XS (N ++ [x])) (hl : N.length = n) :
    But (ArrS b3 b4 vo (.slice (some ⟨g, 0, none⟩) (n + 1) cap)) w (w.setCell ⟨b4, 0, none⟩ (.slice (some ⟨g, 0, none⟩) n cap)) ∧
      ArrSt B eR eI b3 b4 (w.setCell ⟨b4, 0, none⟩ (.slice (some ⟨g, 0, none⟩) n cap)) vo (.slice (some ⟨g, 0, none⟩) n cap) XS N := by
  subst hl
  have hb4 : But (fun k => k = b4) w (w.setCell ⟨b4, 0, none⟩ (.slice (some ⟨g, 0, none⟩) N.length cap)) := But.setCell _ _ rfl
  have hnow : Grow B eI w (.slice (some ⟨g, 0, none⟩) N.length cap) N := by
    refine Go.ownsRow_pop (last := [.int .i64 x]) (by simp) ?_
    have := h.now
    simpa [Grow] using this
  have hg4 : g ≠ b4 := fun e => h.n4 (by simp [Value.ownBlock, e])
  exact ⟨But.setCell _ _ (Or.inr (Or.inl rfl)), h.c3.but hb4 h.hb, h.c4.set _, h.out.step hb4 (fun k hk => Or.inl (Or.inr (Or.inr (Or.inl hk)))) (fun k hk q => h.o4 (by rw [hk, q])) (fun k hk => Or.inl hk), hnow.but hb4 (fun k hk q => by simp [Value.ownBlock] at hk; omega), h.hb, h.o3, h.o4, h.n3, h.n4, h.av⟩
end
end

end Go.Proofs.YthbebnfhplacnaaDoor
