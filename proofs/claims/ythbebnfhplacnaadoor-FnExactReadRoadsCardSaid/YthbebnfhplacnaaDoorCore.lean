/- Parts of the proof that lean on no program: Base, Aut, Mach, App, AppRows, AppStep, AppAll, AppV, OwnC, XBox. -/
import Derived.WalkKit
import Derived.WalkSpells
import Derived.WalkLawsBesides
import Derived.Deep.QuietTactic
import Derived.Deep.OwnRows
import Derived.BigQuiet
import Derived.KernelRfl
import Derived.OwnWalk
import Derived.Maps.AppendAt
import Derived.Deep.AppendLies
import Derived.Deep.AppendSrc
namespace Go.Proofs.YthbebnfhplacnaaDoor
open Go.RowKit

section
/-- A fact kept from the walk's rules. -/
theorem hid {p : Prop} (h : p) : Hid p := h
/-- The i-th element, or the type's own default. -/
def nth {α : Type} [Inhabited α] (xs : List α) (i : Nat) : α := xs.getD i default
theorem nth_eq {α : Type} [Inhabited α] (xs : List α) (i : Nat) (h : i < xs.length) : nth xs i = xs[i] := by simp [nth, h]
theorem nth_append_left {α : Type} [Inhabited α] (xs ys : List α) (i : Nat) (h : i < xs.length) : nth (xs ++ ys) i = nth xs i := by
  simp [nth, List.getElem?_append_left h]
theorem nth_append_here {α : Type} [Inhabited α] (xs : List α) (y : α) : nth (xs ++ [y]) xs.length = y := by simp [nth]
theorem take_succ_nth {α : Type} [Inhabited α] (xs : List α) (k : Nat) (h : k < xs.length) : xs.take (k + 1) = xs.take k ++ [nth xs k] := by
  rw [List.take_succ_eq_append_getElem h, nth_eq xs k h]
theorem nth_mem {α : Type} [Inhabited α] (xs : List α) (i : Nat) (h : i < xs.length) : nth xs i ∈ xs := by
  rw [nth_eq xs i h]; exact List.getElem_mem h
theorem mem_nth {α : Type} [Inhabited α] (xs : List α) (x : α) (h : x ∈ xs) : ∃ i, i < xs.length ∧ nth xs i = x := by
  obtain ⟨i, hi, e⟩ := List.getElem_of_mem h
  exact ⟨i, hi, by rw [nth_eq xs i hi, e]⟩
theorem ext_nth {α : Type} [Inhabited α] (xs ys : List α) (hl : xs.length = ys.length) (h : ∀ i, i < xs.length → nth xs i = nth ys i) : xs = ys := by
  apply List.ext_getElem hl
  intro i h1 h2
  have := h i h1
  rwa [nth_eq xs i h1, nth_eq ys i h2] at this
theorem nth_map {α β : Type} [Inhabited α] [Inhabited β] (f : α → β) (xs : List α) (i : Nat) (h : i < xs.length) : nth (xs.map f) i = f (nth xs i) := by
  rw [nth_eq _ _ (by simpa using h), nth_eq _ _ h, List.getElem_map]
theorem nth_set {α : Type} [Inhabited α] (xs : List α) (i j : Nat) (x : α) (h : i < xs.length) : nth (xs.set i x) j = if j = i then x else nth xs j := by
  unfold nth
  by_cases e : j = i
  · subst e; simp [h]
  · simp [e, Ne.symm e]

theorem ret_int {a b : Int} (h : a = b) : Ending.returned (.int .i64 a) = .returned (.int .i64 b) := by rw [h]
theorem ret_bool {a b : Bool} (h : a = b) : Ending.returned (.bool a) = .returned (.bool b) := by rw [h]

/-- Nothing that was there has turned. -/
def New (w w' : World) : Prop := Below w.heap.size w w'
theorem New.refl (w : World) : New w w := Below.refl _ _
theorem New.size {w w' : World} (h : New w w') : w.heap.size ≤ w'.heap.size := Below.size h
theorem New.trans {a b c : World} (h : New a b) (k : New b c) : New a c := Below.trans h (Below.mono k h.size)
theorem New.drew {a w : World} (h : New a w) : New a w.drew := Below.drew h
theorem New.alloc {a w : World} (h : New a w) (o : Obj) : New a (w.alloc o) := Below.alloc h h.size o
theorem New.below {w w' : World} (h : New w w') : Below w.heap.size w w' := h
theorem New.cell {w w' : World} (h : New w w') {p : Addr} {v : Value} (hc : w.cell? p = some v) : w'.cell? p = some v := by
  rw [Below.cell h (World.block_lt_of_cell? w p hc)]; exact hc
/-- Only blocks from B to E (E itself out) have turned. -/
def Within (B E : Nat) (w w' : World) : Prop := w'.os = w.os ∧ w'.tape = w.tape ∧ w'.output = w.output ∧ w.heap.size ≤ w'.heap.size ∧ ∀ k, k < w.heap.size → (k < B ∨ E ≤ k) → w'.heap[k]? = w.heap[k]?

/-- The slice value v reads, in w, as the list xs of int64 (or int). -/
def IntsAt (w : World) (v : Value) (xs : List Int) : Prop :=
  ∃ A c, v = .slice A xs.length c ∧ xs.length ≤ 9223372036854775807 ∧ ∀ i, i < xs.length → ∃ b off, A = some ⟨b, off, none⟩ ∧ w.cell? ⟨b, off + i, none⟩ = some (.int .i64 (nth xs i))
/-- The slice value v reads as a list of lists. -/
def RowsAt (w : World) (v : Value) (xss : List (List Int)) : Prop :=
  ∃ A c, v = .slice A xss.length c ∧ xss.length ≤ 9223372036854775807 ∧ ∀ i, i < xss.length → ∃ b off rv, A = some ⟨b, off, none⟩ ∧ w.cell? ⟨b, off + i, none⟩ = some rv ∧ IntsAt w rv (nth xss i)

theorem IntsAt.new {w w' : World} {v : Value} {xs : List Int} (h : IntsAt w v xs) (hw : New w w') : IntsAt w' v xs := by
  obtain ⟨A, c, rfl, hl, hc⟩ := h
  refine ⟨A, c, rfl, hl, fun i hi => ?_⟩
  obtain ⟨b, off, hA, hx⟩ := hc i hi
  exact ⟨b, off, hA, hw.cell hx⟩
theorem RowsAt.new {w w' : World} {v : Value} {xss : List (List Int)} (h : RowsAt w v xss) (hw : New w w') : RowsAt w' v xss := by
  obtain ⟨A, c, rfl, hl, hc⟩ := h
  refine ⟨A, c, rfl, hl, fun i hi => ?_⟩
  obtain ⟨b, off, rv, hA, hx, hr⟩ := hc i hi
  exact ⟨b, off, rv, hA, hw.cell hx, hr.new hw⟩

theorem New.within {a w w' : World} {B E : Nat} (h : New a w) (hw : Within B E w w') (hB : a.heap.size ≤ B) : New a w' := by
  obtain ⟨h1, h2, h3, h4, h5⟩ := hw
  have hs := h.size
  exact Below.trans h ⟨h1, h2, h3, h4, fun k hk => h5 k (by omega) (Or.inl (by omega))⟩
theorem Within.of_new {w w' : World} (h : New w w') (B E : Nat) : Within B E w w' := ⟨h.os, h.tape, h.output, Below.size h, fun k hk _ => h.block k hk⟩
theorem Within.trans {B E : Nat} {a b c : World} (h : Within B E a b) (k : Within B E b c) : Within B E a c := by
  obtain ⟨h1, h2, h3, h4, h5⟩ := h
  obtain ⟨k1, k2, k3, k4, k5⟩ := k
  exact ⟨k1.trans h1, k2.trans h2, k3.trans h3, by omega, fun i hi ho => (k5 i (by omega) ho).trans (h5 i hi ho)⟩
theorem Within.cell {B E : Nat} {w w' : World} (h : Within B E w w') {p : Addr} {v : Value} (hc : w.cell? p = some v) (hp : p.block < B ∨ E ≤ p.block) : w'.cell? p = some v := by
  rw [World.cell?_of_block (w := w) (h.2.2.2.2 p.block (World.block_lt_of_cell? w p hc) hp)]; exact hc
theorem New.frozen {w w' : World} (h : New w w') {p : Addr} {v : Value} (hc : w.cell? p = some v) : w'.frozen? p = w.frozen? p := Below.frozen h (World.block_lt_of_cell? w p hc)
theorem New.setCell {a w : World} (h : New a w) {p : Addr} (hp : a.heap.size ≤ p.block) (u : Value) : New a (w.setCell p u) := Below.setCell h hp u
theorem New.grown {a w w' : World} {row : Option Nat} (h : New a w) (hg : w.grownBy w' row) (hr : ∀ k, row = some k → a.heap.size ≤ k) : New a w' := Below.grown h hg h.size hr
theorem New.drewN {a w : World} (h : New a w) (n : Nat) : New a (w.drewN n) := Below.trans h ⟨rfl, rfl, rfl, Nat.le_refl _, fun _ _ => rfl⟩

/-- The slice value v, all of it in blocks from B to E, reads as xs, and may be written. -/
def OwnInts (B E : Nat) (w : World) (v : Value) (xs : List Int) : Prop :=
  ∃ A c, v = .slice A xs.length c ∧ xs.length ≤ 1099511627776 ∧ (∀ a, A = some a → B ≤ a.block ∧ a.block < E) ∧
    ∀ i, i < xs.length → ∃ b off, A = some ⟨b, off, none⟩ ∧ w.cell? ⟨b, off + i, none⟩ = some (.int .i64 (nth xs i)) ∧ w.frozen? ⟨b, off + i, none⟩ = false
/-- The same of a list of lists; no two rows share a block, and none lies in the outer one's. -/
def OwnRows (B E : Nat) (w : World) (v : Value) (xss : List (List Int)) : Prop :=
  ∃ A c, ∃ rv : Nat → Value, v = .slice A xss.length c ∧ xss.length ≤ 1099511627776 ∧ (∀ a, A = some a → B ≤ a.block ∧ a.block < E) ∧
    (∀ i, i < xss.length → (∃ b off, A = some ⟨b, off, none⟩ ∧ w.cell? ⟨b, off + i, none⟩ = some (rv i) ∧ (rv i).ownBlock ≠ some b) ∧ OwnInts B E w (rv i) (nth xss i)) ∧
    ∀ i j, i < j → j < xss.length → (rv i).ownBlock ≠ (rv j).ownBlock ∨ (rv i).ownBlock = none

theorem OwnInts.at {B E : Nat} {w : World} {v : Value} {xs : List Int} (h : OwnInts B E w v xs) : IntsAt w v xs := by
  obtain ⟨A, c, rfl, hl, _, hc⟩ := h
  exact ⟨A, c, rfl, by omega, fun i hi => let ⟨b, off, h1, h2, _⟩ := hc i hi; ⟨b, off, h1, h2⟩⟩
theorem OwnRows.at {B E : Nat} {w : World} {v : Value} {xss : List (List Int)} (h : OwnRows B E w v xss) : RowsAt w v xss := by
  obtain ⟨A, c, rv, rfl, hl, _, hc, _⟩ := h
  exact ⟨A, c, rfl, by omega, fun i hi => let ⟨⟨b, off, h1, h2, _⟩, h3⟩ := hc i hi; ⟨b, off, rv i, h1, h2, h3.at⟩⟩
theorem OwnInts.new {B E : Nat} {w w' : World} {v : Value} {xs : List Int} (h : OwnInts B E w v xs) (hw : New w w') : OwnInts B E w' v xs := by
  obtain ⟨A, c, rfl, hl, ha, hc⟩ := h
  refine ⟨A, c, rfl, hl, ha, fun i hi => ?_⟩
  obtain ⟨b, off, hA, hx, hf⟩ := hc i hi
  exact ⟨b, off, hA, hw.cell hx, by rw [hw.frozen hx]; exact hf⟩
theorem OwnRows.new {B E : Nat} {w w' : World} {v : Value} {xss : List (List Int)} (h : OwnRows B E w v xss) (hw : New w w') : OwnRows B E w' v xss := by
  obtain ⟨A, c, rv, rfl, hl, ha, hc, hd⟩ := h
  refine ⟨A, c, rv, rfl, hl, ha, fun i hi => ?_, hd⟩
  obtain ⟨⟨b, off, hA, hx, hb⟩, ho⟩ := hc i hi
  exact ⟨⟨b, off, hA, hw.cell hx, hb⟩, ho.new hw⟩
theorem OwnInts.within {B E B' E' : Nat} {w w' : World} {v : Value} {xs : List Int} (h : OwnInts B E w v xs) (hw : Within B' E' w w') (hd : E ≤ B' ∨ E' ≤ B) : OwnInts B E w' v xs := by
  obtain ⟨A, c, rfl, hl, ha, hc⟩ := h
  refine ⟨A, c, rfl, hl, ha, fun i hi => ?_⟩
  obtain ⟨b, off, hA, hx, hf⟩ := hc i hi
  have hb := ha _ hA
  have ho : b < B' ∨ E' ≤ b := by simp at hb; omega
  refine ⟨b, off, hA, hw.cell hx ho, ?_⟩
  rw [World.frozen?_of_block (w := w) (hw.2.2.2.2 b (World.block_lt_of_cell? w _ hx) ho)]; exact hf
theorem OwnRows.within {B E B' E' : Nat} {w w' : World} {v : Value} {xss : List (List Int)} (h : OwnRows B E w v xss) (hw : Within B' E' w w') (hd : E ≤ B' ∨ E' ≤ B) : OwnRows B E w' v xss := by
  obtain ⟨A, c, rv, rfl, hl, ha, hc, hdd⟩ := h
  refine ⟨A, c, rv, rfl, hl, ha, fun i hi => ?_, hdd⟩
  obtain ⟨⟨b, off, hA, hx, hb⟩, ho⟩ := hc i hi
  have hb' := ha _ hA
  exact ⟨⟨b, off, hA, hw.cell hx (by simp at hb' ⊢; omega), hb⟩, ho.within hw hd⟩
theorem OwnInts.widen {B E B' E' : Nat} {w : World} {v : Value} {xs : List Int} (h : OwnInts B E w v xs) (hB : B' ≤ B) (hE : E ≤ E') : OwnInts B' E' w v xs := by
  obtain ⟨A, c, rfl, hl, ha, hc⟩ := h
  exact ⟨A, c, rfl, hl, fun a e => by have := ha a e; omega, hc⟩
theorem OwnRows.widen {B E B' E' : Nat} {w : World} {v : Value} {xss : List (List Int)} (h : OwnRows B E w v xss) (hB : B' ≤ B) (hE : E ≤ E') : OwnRows B' E' w v xss := by
  obtain ⟨A, c, rv, rfl, hl, ha, hc, hd⟩ := h
  exact ⟨A, c, rv, rfl, hl, fun a e => by have := ha a e; omega, fun i hi => ⟨(hc i hi).1, (hc i hi).2.widen hB hE⟩, hd⟩
theorem OwnInts.block {B E : Nat} {w : World} {v : Value} {xs : List Int} (h : OwnInts B E w v xs) : ∀ b, v.ownBlock = some b → B ≤ b ∧ b < E := by
  obtain ⟨A, c, rfl, hl, ha, hc⟩ := h
  intro b hb
  cases A with
  | none => simp [Value.ownBlock] at hb
  | some a => simp [Value.ownBlock] at hb; subst hb; exact ha a rfl
/-- What append has grown. -/
theorem OwnInts.of_row {B n : Nat} {e : TypeId} {w : World} {v : Value} {xs : List Int} (h : w.ownsRow B e 1 v n (xs.map (Value.int .i64))) (hl : xs.length ≤ 1099511627776) : OwnInts B w.heap.size w v xs := by
  obtain ⟨h1, h2⟩ := h
  simp at h1
  rcases h2 with ⟨rfl, rfl⟩ | ⟨g, cap, cur, rfl, hg, hh, hn, hc, hs, ht⟩
  · have : xs = [] := by simpa using h1
    subst this
    exact ⟨none, 0, rfl, by simp, by simp, by simp⟩
  · subst h1
    have hlt : g < w.heap.size := (Array.getElem?_eq_some_iff.1 hh).1
    refine ⟨_, cap, rfl, hl, fun a e => by cases e; exact ⟨hg, hlt⟩, fun i hi => ⟨g, 0, rfl, ?_, by simp [World.frozen?, hh]⟩⟩
    have : (cur.toList.take (xs.length * 1))[i]? = (xs.map (Value.int .i64))[i]? := by rw [ht]
    simp [World.cell?, hh]
    rw [List.getElem?_take, if_pos (by omega)] at this
    simp [hi] at this
    rw [this, nth_eq xs i hi]
theorem OwnInts.form {B E : Nat} {w : World} {v : Value} {xs : List Int} (h : OwnInts B E w v xs) : ∃ A c, v = .slice A xs.length c := let ⟨A, c, h, _⟩ := h; ⟨A, c, h⟩
theorem OwnRows.form {B E : Nat} {w : World} {v : Value} {xss : List (List Int)} (h : OwnRows B E w v xss) : ∃ A c, v = .slice A xss.length c := let ⟨A, c, _, h, _⟩ := h; ⟨A, c, h⟩
theorem IntsAt.form {w : World} {v : Value} {xs : List Int} (h : IntsAt w v xs) : ∃ A c, v = .slice A xs.length c := let ⟨A, c, h, _⟩ := h; ⟨A, c, h⟩
theorem RowsAt.form {w : World} {v : Value} {xss : List (List Int)} (h : RowsAt w v xss) : ∃ A c, v = .slice A xss.length c := let ⟨A, c, h, _⟩ := h; ⟨A, c, h⟩
theorem grown_setCell (w : World) (a : Addr) (u : Value) : w.grownBy (w.setCell a u) (some a.block) :=
  ⟨rfl, rfl, rfl, by simp [World.setCell], fun k _ hne => Below.heap_setCell _ _ _ _ (fun e => hne (by rw [e]))⟩
theorem grown_refl (w : World) (r : Option Nat) : w.grownBy w r := ⟨rfl, rfl, rfl, Nat.le_refl _, fun _ _ _ => rfl⟩
theorem grown_trans {w w1 w2 : World} {r : Option Nat} (h : w.grownBy w1 r) (k : w1.grownBy w2 r) : w.grownBy w2 r :=
  ⟨k.os.trans h.os, k.tape.trans h.tape, k.output.trans h.output, Nat.le_trans h.size k.size, fun i hi hne => (k.block i (Nat.lt_of_lt_of_le hi h.size) hne).trans (h.block i hi hne)⟩
theorem Within.of_grown {w w' : World} {r : Option Nat} {B E : Nat} (h : w.grownBy w' r) (hr : ∀ b, r = some b → B ≤ b ∧ b < E) : Within B E w w' :=
  ⟨h.os, h.tape, h.output, h.size, fun k hk ho => h.block k hk (fun e => by have := hr k e.symm; omega)⟩
theorem OwnInts.grown {B E : Nat} {w w' : World} {v : Value} {xs : List Int} {r : Option Nat} (h : OwnInts B E w v xs) (hg : w.grownBy w' r) (hne : v.ownBlock ≠ r ∨ v.ownBlock = none) : OwnInts B E w' v xs := by
  obtain ⟨A, c, rfl, hl, ha, hc⟩ := h
  refine ⟨A, c, rfl, hl, ha, fun i hi => ?_⟩
  obtain ⟨b, off, rfl, hx, hf⟩ := hc i hi
  have hn : some b ≠ r := by
    rcases hne with h | h
    · exact h
    · simp [Value.ownBlock] at h
  exact ⟨b, off, rfl, hg.cell hx hn, by rw [World.frozen?_of_block (w := w) (hg.block b (World.block_lt_of_cell? w _ hx) hn)]; exact hf⟩
theorem OwnInts.set {B E b off n c : Nat} {w : World} {xs : List Int} (h : OwnInts B E w (.slice (some ⟨b, off, none⟩) n c) xs) (i : Nat) (hi : i < xs.length) (x : Int) :
    OwnInts B E (w.setCell ⟨b, off + i, none⟩ (.int .i64 x)) (.slice (some ⟨b, off, none⟩) n c) (xs.set i x) := by
  obtain ⟨A, c', e, hl, ha, hc⟩ := h
  cases e
  refine ⟨_, c, by simp, by simpa using hl, ha, fun j hj => ?_⟩
  simp at hj
  obtain ⟨b', off', e, hx, hf⟩ := hc j hj
  cases e
  refine ⟨_, _, rfl, ?_, by simpa using hf⟩
  rw [nth_set xs i j x hi]
  by_cases e : j = i
  · subst e; rw [if_pos rfl]; exact World.cell?_setCell_same _ _ _ hx
  · rw [if_neg e, World.cell?_setCell_other]
    · exact hx
    · intro h; injection h with _ h _; omega

/-- The numbers k, k + 1 and so on, n of them. -/
def iota (k : Int) (n : Nat) : List Int := (List.range n).map fun (i : Nat) => k + (i : Int)
theorem iota_length (k : Int) (n : Nat) : (iota k n).length = n := by simp [iota]
theorem nth_iota (k : Int) (n i : Nat) (h : i < n) : nth (iota k n) i = k + i := by
  rw [nth_eq _ _ (by simpa [iota] using h)]; simp [iota]
theorem iota_step (k : Int) (xs : List Int) (j : Nat) (h : j < xs.length) : (iota k j ++ xs.drop j).set j (k + j) = iota k (j + 1) ++ xs.drop (j + 1) := by
  apply ext_nth
  · simp [iota]; omega
  · intro i hi
    rw [nth_set _ _ _ _ (by simp [iota]; omega)]
    by_cases e : i = j
    · subst e
      rw [if_pos rfl, nth_append_left _ _ _ (by simp [iota]), nth_iota _ _ _ (by omega)]
    · rw [if_neg e]
      unfold nth
      by_cases h2 : i < j
      · simp [iota, List.getElem?_append, h2, show i < j + 1 by omega]
      · simp [iota, List.getElem?_append, h2, show ¬ i < j + 1 by omega, List.getElem?_drop]
        rw [show j + (i - j) = j + 1 + (i - (j + 1)) by omega]
def iotaRows (k : Int) : List (List Int) → List (List Int)
  | [] => []
  | xs :: r => iota k xs.length :: iotaRows (k + xs.length) r
/-- How many numbers the lists hold together. -/
def total : List (List Int) → Nat
  | [] => 0
  | xs :: r => xs.length + total r
theorem total_append (a b : List (List Int)) : total (a ++ b) = total a + total b := by
  induction a with
  | nil => simp [total]
  | cons x r ih => simp [total, ih]; omega
theorem iotaRows_length (k : Int) (xss : List (List Int)) : (iotaRows k xss).length = xss.length := by
  induction xss generalizing k with
  | nil => rfl
  | cons x r ih => simp [iotaRows, ih]
theorem iotaRows_append (k : Int) (a b : List (List Int)) : iotaRows k (a ++ b) = iotaRows k a ++ iotaRows (k + total a) b := by
  induction a generalizing k with
  | nil => simp [iotaRows, total]
  | cons x r ih => simp [iotaRows, total, ih, Int.add_assoc]
theorem nth_iotaRows (k : Int) (xss : List (List Int)) (i : Nat) (h : i < xss.length) : nth (iotaRows k xss) i = iota (k + total (xss.take i)) (nth xss i).length := by
  have e : xss = xss.take i ++ (nth xss i :: xss.drop (i + 1)) := by
    rw [nth_eq xss i h, ← List.drop_eq_getElem_cons h, List.take_append_drop]
  conv => lhs; rw [e, iotaRows_append]
  have hl : (iotaRows k (xss.take i)).length = i := by simp [iotaRows_length]; omega
  have : nth (iotaRows k (xss.take i) ++ iotaRows (k + total (xss.take i)) (nth xss i :: xss.drop (i + 1))) i = nth (iotaRows (k + total (xss.take i)) (nth xss i :: xss.drop (i + 1))) 0 := by
    simp [nth, List.getElem?_append, hl]
  rw [this]; rfl
theorem total_take_succ (xss : List (List Int)) (i : Nat) (h : i < xss.length) : total (xss.take (i + 1)) = total (xss.take i) + (nth xss i).length := by
  rw [take_succ_nth xss i h, total_append]; simp [total]
theorem total_take_le (xss : List (List Int)) (i : Nat) : total (xss.take i) ≤ total xss := by
  have := total_append (xss.take i) (xss.drop i)
  rw [List.take_append_drop] at this; omega
/-- One row of an own list of lists; and what becomes of the whole where this row alone is written. -/
theorem OwnRows.row {B E n c : Nat} {A : Option Addr} {w : World} {xss : List (List Int)} (h : OwnRows B E w (.slice A n c) xss) (i : Nat) (hi : i < xss.length) :
    n = xss.length ∧ ∃ b off rv, A = some ⟨b, off, none⟩ ∧ w.cell? ⟨b, off + i, none⟩ = some rv ∧ OwnInts B E w rv (nth xss i) ∧
      ∀ w' ys, OwnInts B E w' rv ys → w.grownBy w' rv.ownBlock → OwnRows B E w' (.slice A n c) (xss.set i ys) ∧ Within B E w w' := by
  obtain ⟨A', c', rv, e, hl, ha, hc, hd⟩ := h
  cases e
  obtain ⟨⟨b, off, rfl, hx, hb⟩, ho⟩ := hc i hi
  refine ⟨rfl, b, off, rv i, rfl, hx, ho, fun w' ys ho' hg => ⟨⟨_, c, rv, by simp, by simpa using hl, ha, fun j hj => ?_, fun j k hj hk => hd j k hj (by simpa using hk)⟩, Within.of_grown hg (fun g hg => ho.block g hg)⟩⟩
  simp at hj
  obtain ⟨⟨b', off', e, hx', hb'⟩, hoj⟩ := hc j hj
  cases e
  refine ⟨⟨_, _, rfl, hg.cell hx' (Ne.symm hb), hb'⟩, ?_⟩
  rw [nth_set _ _ _ _ hi]
  by_cases e : j = i
  · subst e; rw [if_pos rfl]; exact ho'
  · rw [if_neg e]
    by_cases hn : (rv j).ownBlock = none
    · exact hoj.grown hg (Or.inr hn)
    · refine hoj.grown hg (Or.inl fun heq => ?_)
      rcases Nat.lt_or_gt_of_ne e with h | h
      · rcases hd j i h hi with h1 | h1
        · exact h1 heq
        · exact hn h1
      · rcases hd i j h hj with h1 | h1
        · exact h1 heq.symm
        · exact hn (heq.trans h1)
theorem iotaRows_step (k : Int) (xss : List (List Int)) (j : Nat) (h : j < xss.length) :
    (iotaRows k (xss.take j) ++ xss.drop j).set j (iota (k + total (xss.take j)) (nth xss j).length) = iotaRows k (xss.take (j + 1)) ++ xss.drop (j + 1) := by
  have hl : (iotaRows k (xss.take j)).length = j := by simp [iotaRows_length]; omega
  rw [take_succ_nth xss j h, iotaRows_append]
  rw [List.set_append_right _ _ (by omega), hl, Nat.sub_self, List.drop_eq_getElem_cons h, List.set_cons_zero]
  simp [iotaRows]
theorem New.both {W w1 : World} (hb : New W w1) : (∀ b o, b < W.heap.size → w1.cell? ⟨b, o, none⟩ = W.cell? ⟨b, o, none⟩) ∧ (∀ b o, b < W.heap.size → w1.frozen? ⟨b, o, none⟩ = W.frozen? ⟨b, o, none⟩) :=
  ⟨fun b o h => Below.cell (p := ⟨b, o, none⟩) hb h, fun b o h => Below.frozen (p := ⟨b, o, none⟩) hb h⟩
theorem size_alloc (w : World) (o : Obj) : (w.alloc o).heap.size = w.heap.size + 1 := by simp
theorem size_drew (w : World) : w.drew.heap.size = w.heap.size := rfl
theorem size_drewN (w : World) (n : Nat) : (w.drewN n).heap.size = w.heap.size := rfl
theorem size_setCell (w : World) (a : Addr) (u : Value) : (w.setCell a u).heap.size = w.heap.size := by simp [World.setCell]
theorem sizes : (∀ (w : World) (o : Obj), (w.alloc o).heap.size = w.heap.size + 1) ∧ (∀ w : World, w.drew.heap.size = w.heap.size) ∧ (∀ (w : World) (n : Nat), (w.drewN n).heap.size = w.heap.size) ∧ ∀ (w : World) (a : Addr) (u : Value), (w.setCell a u).heap.size = w.heap.size :=
  ⟨size_alloc, size_drew, size_drewN, size_setCell⟩
theorem Within.refl (B E : Nat) (w : World) : Within B E w w := Within.of_new (New.refl _) _ _
theorem Within.setCell {B E : Nat} {a w : World} (h : Within B E a w) {p : Addr} (hp : B ≤ p.block) (hp2 : p.block < E) (u : Value) : Within B E a (w.setCell p u) :=
  h.trans ⟨rfl, rfl, rfl, by simp [World.setCell], fun k hk ho => Below.heap_setCell _ _ _ _ (by omega)⟩
/-- A function that has a body of its own is entered. -/
theorem enters {P : Program} {f : FuncId} {fn : Func} (hf : P.funcs[f]? = some fn) (hn : fn.name ≠ "runtime.NumGoroutine") (hb : fn.body ≠ none) (args : Array Value) (w : World) :
    Sem.run P (callFunc f args) w = .ok (.enter f args) w := by
  simp [callFunc, hf, hn, hb, go_sem]

/-- A world that has grown: new blocks behind the old ones, another count of draws. -/
structure Ext where
  new : List Obj
  count : Nat
  deriving Inhabited
def ext (W : World) (e : Ext) : World := { W with heap := W.heap ++ e.new.toArray, drawn := e.count }
theorem ext_new (W : World) (e : Ext) : New W (ext W e) :=
  ⟨rfl, rfl, rfl, by simp [ext], fun k hk => by simp only [ext]; rw [Array.getElem?_append_left hk]⟩
theorem ext_of_new {W w : World} (h : New W w) : ∃ e, w = ext W e := by
  refine ⟨⟨w.heap.toList.drop W.heap.size, w.drawn⟩, ?_⟩
  have h1 := h.os
  have h2 := h.tape
  have h3 := h.output
  have h4 := h.size
  have h5 := h.block
  cases w; cases W
  simp only [ext] at *
  subst h1; subst h2; subst h3
  congr 1
  rename_i hp _ _ _ _ HP _
  apply Array.ext'
  simp only [Array.toList_append]
  conv => lhs; rw [← List.take_append_drop HP.size hp.toList]
  congr 1
  apply List.ext_getElem?
  intro i
  rw [List.getElem?_take]
  split
  · rename_i hi
    have := h5 i hi
    simpa using this
  · rename_i hi
    rw [List.getElem?_eq_none (by simpa using Nat.le_of_not_lt hi)]
theorem new_of_ext {W w : World} (h : ∃ e, w = ext W e) : New W w := by obtain ⟨e, rfl⟩ := h; exact ext_new W e
/-- A region that draws its order, and whose operations and callees read old memory and make new: one walk, in the order of the text. -/
theorem wp_region_quiet_new {P : Program} {id : Nat} {Q : Exit → Act → World → Prop} {a : Act} {W : World} {l : List Oper} (hm : P.follows .mixedOrders = true) (hB : Region.lexB .any l.toArray = true)
    (h : wpQuiet P l.toArray (fun w' => ∃ e, w' = ext W e) (fun a' => ∀ w', (∃ e, w' = ext W e) → Q .normal a' w') l a) : (Code.region id l.toArray true).wp P Q a W :=
  wp_region_quiet (C := fun w' => ∃ e, w' = ext W e) hm hB (ext_of_new (New.refl W).drew) (by simpa using h)
theorem quiet_new {P : Program} {f : FuncId} {args : Array Value} {W : World} {e : Ext} {v : Value}
    (h : Calls P f args (ext W e) fun e' w' => e' = .returned v ∧ New (ext W e) w') : Calls P f args (ext W e) fun e' w'' => e' = .returned v ∧ ∃ e2, w'' = ext W e2 :=
  h.mono fun _ _ ⟨he, hw⟩ => ⟨he, ext_of_new ((ext_new W e).trans hw)⟩
theorem quiet_same {P : Program} {f : FuncId} {args : Array Value} {W : World} {e : Ext} {v : Value}
    (h : Calls P f args (ext W e) fun e' w' => e' = .returned v ∧ w' = ext W e) : Calls P f args (ext W e) fun e' w'' => e' = .returned v ∧ ∃ e2, w'' = ext W e2 :=
  h.mono fun _ _ ⟨he, hw⟩ => ⟨he, e, hw⟩
theorem ext_cell {W : World} {p : Addr} {v : Value} (h : W.cell? p = some v) (e : Ext) : (ext W e).cell? p = some v := (ext_new W e).cell h
theorem IntsAt.len {w : World} {A : Option Addr} {n c : Nat} {xs : List Int} (h : IntsAt w (.slice A n c) xs) : n ≤ 9223372036854775807 := by
  obtain ⟨_, _, e, hl, _⟩ := h; cases e; exact hl
theorem RowsAt.len {w : World} {A : Option Addr} {n c : Nat} {xs : List (List Int)} (h : RowsAt w (.slice A n c) xs) : n ≤ 9223372036854775807 := by
  obtain ⟨_, _, e, hl, _⟩ := h; cases e; exact hl
theorem OwnInts.nil (B E : Nat) (w : World) : OwnInts B E w (.slice none 0 0) [] := ⟨none, 0, rfl, by simp, by simp, by simp⟩
theorem OwnInts.none' {B E g c : Nat} (w : World) (hB : B ≤ g) (hE : g < E) : OwnInts B E w (.slice (some ⟨g, 0, none⟩) 0 c) [] :=
  ⟨_, c, rfl, by simp, fun a e => by cases e; exact ⟨hB, hE⟩, by simp⟩
theorem New.of_eq {w w' : World} (h : w' = w) : New w w' := by subst h; exact New.refl _
theorem Within.widen {B E B' E' : Nat} {w w' : World} (h : Within B E w w') (hB : B' ≤ B) (hE : E ≤ E') : Within B' E' w w' :=
  ⟨h.1, h.2.1, h.2.2.1, h.2.2.2.1, fun k hk ho => h.2.2.2.2 k hk (by omega)⟩
end
section
/-- A number and lists: an automaton, a partial automaton, roads. -/
structure Aut where
  n : Int
  nx : List (List Int)
  deriving DecidableEq
def AutAt (w : World) (v : Value) (a : Aut) : Prop := ∃ rv, v = .agg #[.int .i64 a.n, rv] ∧ RowsAt w rv a.nx
def OwnAut (B E : Nat) (w : World) (v : Value) (a : Aut) : Prop := ∃ rv, v = .agg #[.int .i64 a.n, rv] ∧ OwnRows B E w rv a.nx
theorem AutAt.new {w w' : World} {v : Value} {a : Aut} (h : AutAt w v a) (hw : New w w') : AutAt w' v a := let ⟨rv, e, h⟩ := h; ⟨rv, e, h.new hw⟩
theorem OwnAut.new {B E : Nat} {w w' : World} {v : Value} {a : Aut} (h : OwnAut B E w v a) (hw : New w w') : OwnAut B E w' v a := let ⟨rv, e, h⟩ := h; ⟨rv, e, h.new hw⟩
theorem OwnAut.at {B E : Nat} {w : World} {v : Value} {a : Aut} (h : OwnAut B E w v a) : AutAt w v a := let ⟨rv, e, h⟩ := h; ⟨rv, e, h.at⟩
theorem OwnAut.within {B E B' E' : Nat} {w w' : World} {v : Value} {a : Aut} (h : OwnAut B E w v a) (hw : Within B' E' w w') (hd : E ≤ B' ∨ E' ≤ B) : OwnAut B E w' v a := let ⟨rv, e, h⟩ := h; ⟨rv, e, h.within hw hd⟩
theorem OwnAut.widen {B E B' E' : Nat} {w : World} {v : Value} {a : Aut} (h : OwnAut B E w v a) (hB : B' ≤ B) (hE : E ≤ E') : OwnAut B' E' w v a := let ⟨rv, e, h⟩ := h; ⟨rv, e, h.widen hB hE⟩
theorem Aut.ext' (a b : Aut) : decide (a = b) = (decide (a.n = b.n) && decide (a.nx = b.nx)) := by
  cases a; cases b; simp
end
section
structure Mach where
  n : Int
  o : Int
  nx : List (List Int)
  out : List (List Int)
  deriving DecidableEq
def Mach.size (m : Mach) : Nat := total m.nx + total m.out
def MachAt (w : World) (v : Value) (m : Mach) : Prop := ∃ r1 r2, v = .agg #[.int .i64 m.n, .int .i64 m.o, r1, r2] ∧ RowsAt w r1 m.nx ∧ RowsAt w r2 m.out
/-- The blocks of a list of lists: its own, and its rows'. -/
def RowFoot (w : World) (v : Value) (k : Nat) : Prop := ∃ b off n c i rv, v = .slice (some ⟨b, off, none⟩) n c ∧ i < n ∧ w.cell? ⟨b, off + i, none⟩ = some rv ∧ rv.ownBlock = some k
def Foot (w : World) (v : Value) (k : Nat) : Prop := v.ownBlock = some k ∨ RowFoot w v k
/-- The two tables of an own machine lie in blocks apart. -/
def OwnMach (B E : Nat) (w : World) (v : Value) (m : Mach) : Prop :=
  ∃ r1 r2, v = .agg #[.int .i64 m.n, .int .i64 m.o, r1, r2] ∧ OwnRows B E w r1 m.nx ∧ OwnRows B E w r2 m.out ∧ ∀ k, Foot w r1 k → ¬ Foot w r2 k
theorem OwnRows.foot_lt {B E : Nat} {w : World} {v : Value} {xss : List (List Int)} (h : OwnRows B E w v xss) (k : Nat) (hk : Foot w v k) : B ≤ k ∧ k < E := by
  obtain ⟨A, c, rv, rfl, hl, ha, hc, hd⟩ := h
  rcases hk with hk | ⟨b, off, n, c', i, r, e, hi, hx, hb⟩
  · cases A with
    | none => simp [Value.ownBlock] at hk
    | some a => simp [Value.ownBlock] at hk; subst hk; exact ha a rfl
  · cases e
    obtain ⟨⟨b', off', e, hx', _⟩, ho⟩ := hc i hi
    cases e
    rw [hx] at hx'
    cases hx'
    exact ho.block k hb
/-- If no block of the rows' frame has turned, the rows' blocks are the same. -/
theorem RowFoot.back {w w' : World} {v : Value} {k : Nat} {B E : Nat} {xss : List (List Int)} (h : OwnRows B E w v xss) (hf : ∀ b, v.ownBlock = some b → b < w.heap.size → w'.heap[b]? = w.heap[b]?) (hk : RowFoot w' v k) : RowFoot w v k := by
  obtain ⟨A, c, rv, rfl, hl, ha, hc, hd⟩ := h
  obtain ⟨b, off, n, c', i, r, e, hi, hx, hb⟩ := hk
  cases e
  obtain ⟨⟨b', off', e, hx', _⟩, ho⟩ := hc i hi
  cases e
  have := hf b rfl (World.block_lt_of_cell? w _ hx')
  rw [World.cell?_of_block (w := w) this, hx'] at hx
  cases hx
  exact ⟨b, off, _, c, i, _, rfl, hi, hx', hb⟩
theorem Foot.back {w w' : World} {v : Value} {k : Nat} {B E : Nat} {xss : List (List Int)} (h : OwnRows B E w v xss) (hf : ∀ b, v.ownBlock = some b → b < w.heap.size → w'.heap[b]? = w.heap[b]?) (hk : Foot w' v k) : Foot w v k := by
  rcases hk with hk | hk
  · exact Or.inl hk
  · exact Or.inr (hk.back h hf)
theorem OwnInts.still {B E : Nat} {w w' : World} {v : Value} {xs : List Int} (h : OwnInts B E w v xs) (hf : ∀ b, v.ownBlock = some b → b < w.heap.size → w'.heap[b]? = w.heap[b]?) : OwnInts B E w' v xs := by
  obtain ⟨A, c, rfl, hl, ha, hc⟩ := h
  refine ⟨A, c, rfl, hl, ha, fun i hi => ?_⟩
  obtain ⟨b, off, rfl, hx, hfz⟩ := hc i hi
  have := hf b rfl (World.block_lt_of_cell? w _ hx)
  exact ⟨b, off, rfl, by rw [World.cell?_of_block (w := w) this]; exact hx, by rw [World.frozen?_of_block (w := w) this]; exact hfz⟩
theorem OwnRows.still {B E : Nat} {w w' : World} {v : Value} {xss : List (List Int)} (h : OwnRows B E w v xss) (hf : ∀ k, Foot w v k → k < w.heap.size → w'.heap[k]? = w.heap[k]?) : OwnRows B E w' v xss := by
  obtain ⟨A, c, rv, rfl, hl, ha, hc, hd⟩ := h
  refine ⟨A, c, rv, rfl, hl, ha, fun i hi => ?_, hd⟩
  obtain ⟨⟨b, off, rfl, hx, hb⟩, ho⟩ := hc i hi
  refine ⟨⟨b, off, rfl, ?_, hb⟩, ho.still fun k hk hlt => hf k (Or.inr ⟨b, off, _, c, i, _, rfl, hi, hx, hk⟩) hlt⟩
  rw [World.cell?_of_block (w := w) (hf b (Or.inl rfl) (World.block_lt_of_cell? w _ hx))]; exact hx
theorem OwnMach.parts {B E : Nat} {w : World} {v : Value} {m : Mach} (h : ∃ r1 r2 M, v = .agg #[.int .i64 m.n, .int .i64 m.o, r1, r2] ∧ B ≤ M ∧ M ≤ E ∧ OwnRows B M w r1 m.nx ∧ OwnRows M E w r2 m.out) : OwnMach B E w v m := by
  obtain ⟨r1, r2, M, e, hB, hE, h1, h2⟩ := h
  exact ⟨r1, r2, e, h1.widen (Nat.le_refl _) hE, h2.widen hB (Nat.le_refl _), fun k k1 k2 => by have := h1.foot_lt k k1; have := h2.foot_lt k k2; omega⟩
theorem MachAt.new {w w' : World} {v : Value} {m : Mach} (h : MachAt w v m) (hw : New w w') : MachAt w' v m := let ⟨r1, r2, e, h1, h2⟩ := h; ⟨r1, r2, e, h1.new hw, h2.new hw⟩
theorem OwnMach.new {B E : Nat} {w w' : World} {v : Value} {m : Mach} (h : OwnMach B E w v m) (hw : New w w') : OwnMach B E w' v m :=
  let ⟨r1, r2, e, h1, h2, h3⟩ := h; ⟨r1, r2, e, h1.new hw, h2.new hw, fun k k1 k2 => h3 k (k1.back h1 fun b _ hb => hw.block b hb) (k2.back h2 fun b _ hb => hw.block b hb)⟩
theorem OwnMach.at {B E : Nat} {w : World} {v : Value} {m : Mach} (h : OwnMach B E w v m) : MachAt w v m := let ⟨r1, r2, e, h1, h2, _⟩ := h; ⟨r1, r2, e, h1.at, h2.at⟩
theorem OwnMach.within {B E B' E' : Nat} {w w' : World} {v : Value} {m : Mach} (h : OwnMach B E w v m) (hw : Within B' E' w w') (hd : E ≤ B' ∨ E' ≤ B) : OwnMach B E w' v m := by
  obtain ⟨r1, r2, e, h1, h2, h3⟩ := h
  have q1 : ∀ b, r1.ownBlock = some b → b < w.heap.size → w'.heap[b]? = w.heap[b]? := fun b hb hlt => hw.2.2.2.2 b hlt (by have := h1.foot_lt b (Or.inl hb); omega)
  have q2 : ∀ b, r2.ownBlock = some b → b < w.heap.size → w'.heap[b]? = w.heap[b]? := fun b hb hlt => hw.2.2.2.2 b hlt (by have := h2.foot_lt b (Or.inl hb); omega)
  exact ⟨r1, r2, e, h1.within hw hd, h2.within hw hd, fun k k1 k2 => h3 k (k1.back h1 q1) (k2.back h2 q2)⟩
theorem OwnMach.widen {B E B' E' : Nat} {w : World} {v : Value} {m : Mach} (h : OwnMach B E w v m) (hB : B' ≤ B) (hE : E ≤ E') : OwnMach B' E' w v m := by
  obtain ⟨r1, r2, e, h1, h2, h3⟩ := h
  exact ⟨r1, r2, e, h1.widen hB hE, h2.widen hB hE, h3⟩
theorem Mach.ext' (a b : Mach) : decide (a = b) = (decide (a.n = b.n) && (decide (a.o = b.o) && (decide (a.nx = b.nx) && decide (a.out = b.out)))) := by
  cases a; cases b; simp
end
section
theorem ownsRow_new {w w' : World} {B n : Nat} {e : TypeId} {size : Nat} {v : Value} {xs : List Value} (h : w.ownsRow B e size v n xs) (hw : New w w') : w'.ownsRow B e size v n xs := by
  obtain ⟨h1, h2⟩ := h
  refine ⟨h1, ?_⟩
  rcases h2 with h2 | ⟨g, cap, cur, hv, hg, hh, r⟩
  · exact Or.inl h2
  · exact Or.inr ⟨g, cap, cur, hv, hg, by rw [hw.block g (Array.getElem?_eq_some_iff.1 hh).1]; exact hh, r⟩
/-- A list of int64 (elements of type e) under construction, in a block of its own from B on. -/
def Grow (B : Nat) (e : TypeId) (w : World) (v : Value) (xs : List Int) : Prop := w.ownsRow B e 1 v xs.length (xs.map (Value.int .i64))
theorem Grow.new {B : Nat} {e : TypeId} {w w' : World} {v : Value} {xs : List Int} (h : Grow B e w v xs) (hw : New w w') : Grow B e w' v xs := ownsRow_new h hw
theorem Grow.empty (B : Nat) (e : TypeId) (w : World) (h : B ≤ w.heap.size) : Grow B e (w.alloc (.cells #[] e)) (.slice (some ⟨w.heap.size, 0, none⟩) 0 0) [] := by
  have := World.ownsRow_made (w := w) (base := B) (e := e) (size := 1) #[] 0 h (by simp) (by simp)
  exact this
theorem Grow.nil (B : Nat) (e : TypeId) (w : World) : Grow B e w (.slice none 0 0) [] := World.ownsRow_nil _ _ _ _
theorem Grow.own {B : Nat} {e : TypeId} {w : World} {v : Value} {xs : List Int} (h : Grow B e w v xs) (hl : xs.length ≤ 1099511627776) : OwnInts B w.heap.size w v xs := OwnInts.of_row h hl
theorem Grow.form {B : Nat} {e : TypeId} {w : World} {v : Value} {xs : List Int} (h : Grow B e w v xs) : ∃ A c, v = .slice A xs.length c := by
  obtain ⟨h1, ⟨rfl, h2⟩ | ⟨g, cap, cur, rfl, _⟩⟩ := h
  · exact ⟨none, 0, by rw [h2]⟩
  · exact ⟨_, _, rfl⟩
theorem Grow.block {B : Nat} {e : TypeId} {w : World} {v : Value} {xs : List Int} (h : Grow B e w v xs) : ∀ k, v.ownBlock = some k → B ≤ k ∧ k < w.heap.size := World.ownsRow.lt h
section
variable {P : Program}
/-- 'append(out, z)' to a list under construction. -/
theorem wpList_app {ops : Array Oper} {rest : List Oper} {o : Oper} {a : Act} {Q : Exit → Act → World → Prop} {w1 : World} {T : TypeId} {z : Int} (hg : o.guard = none) (s x : Operand) (t : TypeId)
    (ho : o.op = .call { callee := .builtin .append, args := #[s, x], argTypes := #[t, t] }) {B : Nat} {e : TypeId} (ht : P.underlying t = some (.slice e))
    (hinfo : (P.info? e).map (fun i => (i.zero, i.size, i.bytes)) = some (some (.int .i64 0), 1, 8)) (v : Value) (xs : List Int) (hs : a.eval s = v) (hown : Grow B e w1 v xs)
    (hx : a.eval x = .slice (some ⟨w1.heap.size, 0, none⟩) 1 1) (hlen : xs.length < 1099511627776) (hB : B ≤ w1.heap.size)
    (h : ∀ g cap w', Grow B e w' (.slice (some ⟨g, 0, none⟩) (xs.length + 1) cap) (xs ++ [z]) → w1.grownBy w' v.ownBlock → wpList P ops Q rest (a.put o.dst (.slice (some ⟨g, 0, none⟩) (xs.length + 1) cap)) w') :
    wpList P ops Q (o :: rest) a (w1.alloc (.cells #[.int .i64 z] T)) := by
  obtain ⟨i0, hi, hz0, hz1, hz2⟩ := info_parts hinfo
  refine wpList_append_own _ hg s x t ho B e i0 (.int .i64 0) 1 8 ht hi hz0 hz1 hz2 rfl (by decide) v xs.length _ hs (World.ownsRow.alloc hown _) ⟨w1.heap.size, 0, none⟩ 1 1 [.int .i64 z] hx rfl ?_ (by intro u hu; simp at hu; subst hu; rfl) (by unfold maxLen; omega) (by omega) (by simp; omega) ?_
  · intro j u hj
    rcases j with _ | j
    · simp at hj; subst hj
      unfold Addr.add World.cell?
      simp only [if_true]
      rw [heap_alloc_new]; rfl
    · simp at hj
  · intro v' w' hown' hgrow hnil
    have hgr : w1.grownBy w' v.ownBlock := grown_trans (World.grownBy_alloc _ _ _) hgrow
    have hown2 : Grow B e w' v' (xs ++ [z]) := by simpa [Grow] using hown'
    obtain ⟨h1, ⟨rfl, h2⟩ | ⟨g, cap, cur, rfl, _⟩⟩ := id hown'
    · omega
    · exact h g cap w' hown2 hgr
end
theorem New.app {a w1 w' : World} {v : Value} {B : Nat} {e : TypeId} {xs : List Int} (h : New a w1) (hg : w1.grownBy w' v.ownBlock) (ho : Grow B e w1 v xs) (hB : a.heap.size ≤ B) : New a w' :=
  h.grown hg fun k hk => by have := ho.block k hk; omega
end
section
theorem list_range_snoc {α : Type} (f : Nat → α) (n : Nat) : (List.range (n + 1)).map f = (List.range n).map f ++ [f n] := by simp [List.range_succ]
/-- A list of lists under construction: the rows may be written and lie in blocks apart. -/
def GrowRows (B : Nat) (e : TypeId) (w : World) (v : Value) (xss : List (List Int)) : Prop :=
  ∃ rv : Nat → Value, w.ownsRow B e 1 v xss.length ((List.range xss.length).map rv) ∧
    (∀ i, i < xss.length → OwnInts B w.heap.size w (rv i) (nth xss i) ∧ ((rv i).ownBlock ≠ v.ownBlock ∨ (rv i).ownBlock = none)) ∧
    ∀ i j, i < j → j < xss.length → (rv i).ownBlock ≠ (rv j).ownBlock ∨ (rv i).ownBlock = none
theorem GrowRows.new {B : Nat} {e : TypeId} {w w' : World} {v : Value} {xss : List (List Int)} (h : GrowRows B e w v xss) (hw : New w w') : GrowRows B e w' v xss := by
  obtain ⟨rv, h1, h2, h3⟩ := h
  exact ⟨rv, ownsRow_new h1 hw, fun i hi => ⟨((h2 i hi).1.new hw).widen (Nat.le_refl _) hw.size, (h2 i hi).2⟩, h3⟩
theorem GrowRows.empty (B : Nat) (e : TypeId) (w : World) (h : B ≤ w.heap.size) : GrowRows B e (w.alloc (.cells #[] e)) (.slice (some ⟨w.heap.size, 0, none⟩) 0 0) [] :=
  ⟨fun _ => default, World.ownsRow_made (w := w) (base := B) (e := e) (size := 1) #[] 0 h (by simp) (by simp), by simp, by simp⟩
theorem GrowRows.nil (B : Nat) (e : TypeId) (w : World) : GrowRows B e w (.slice none 0 0) [] :=
  ⟨fun _ => default, World.ownsRow_nil _ _ _ _, by simp, by simp⟩
theorem ownsRow_form {B n : Nat} {e : TypeId} {w : World} {v : Value} {xs : List Value} (h : w.ownsRow B e 1 v n xs) : ∃ A c, v = .slice A n c := by
  obtain ⟨h1, ⟨rfl, h2⟩ | ⟨g, cap, cur, rfl, _⟩⟩ := h
  · exact ⟨none, 0, by rw [h2]⟩
  · exact ⟨_, _, rfl⟩
theorem GrowRows.form {B : Nat} {e : TypeId} {w : World} {v : Value} {xss : List (List Int)} (h : GrowRows B e w v xss) : ∃ A c, v = .slice A xss.length c :=
  let ⟨_, h1, _⟩ := h; ownsRow_form h1
theorem GrowRows.block {B : Nat} {e : TypeId} {w : World} {v : Value} {xss : List (List Int)} (h : GrowRows B e w v xss) : ∀ k, v.ownBlock = some k → B ≤ k ∧ k < w.heap.size :=
  let ⟨_, h1, _⟩ := h; World.ownsRow.lt h1
/-- The cells of an own row. -/
theorem ownsRow_cells {B n : Nat} {e : TypeId} {w : World} {v : Value} {xs : List Value} (h : w.ownsRow B e 1 v n xs) (i : Nat) (hi : i < xs.length) :
    ∃ b, v.ownBlock = some b ∧ (∃ c, v = .slice (some ⟨b, 0, none⟩) n c) ∧ B ≤ b ∧ b < w.heap.size ∧ w.cell? ⟨b, i, none⟩ = some (xs[i]) ∧ w.frozen? ⟨b, i, none⟩ = false := by
  obtain ⟨h1, h2⟩ := h
  rcases h2 with ⟨rfl, rfl⟩ | ⟨g, cap, cur, rfl, hg, hh, hn, hc, hs, ht⟩
  · simp at h1; subst h1; simp at hi
  · have hlt : g < w.heap.size := (Array.getElem?_eq_some_iff.1 hh).1
    refine ⟨g, rfl, ⟨cap, rfl⟩, hg, hlt, ?_, by simp [World.frozen?, hh]⟩
    have : (cur.toList.take (n * 1))[i]? = xs[i]? := by rw [ht]
    simp [World.cell?, hh]
    rw [List.getElem?_take, if_pos (by omega)] at this
    simpa [hi] using this
theorem GrowRows.own {B : Nat} {e : TypeId} {w : World} {v : Value} {xss : List (List Int)} (h : GrowRows B e w v xss) (hl : xss.length ≤ 1099511627776) : OwnRows B w.heap.size w v xss := by
  obtain ⟨rv, h1, h2, h3⟩ := h
  obtain ⟨A, c, rfl⟩ := ownsRow_form h1
  refine ⟨A, c, rv, rfl, hl, ?_, fun i hi => ⟨?_, (h2 i hi).1⟩, h3⟩
  · rintro a rfl
    exact World.ownsRow.lt h1 _ rfl
  · obtain ⟨b, hb, ⟨c', e⟩, hB, hlt, hc, _⟩ := ownsRow_cells h1 i (by simpa using hi)
    cases e
    refine ⟨b, 0, rfl, by simpa using hc, ?_⟩
    rcases (h2 i hi).2 with h | h
    · rw [hb] at h; exact h
    · rw [h]; simp
section
variable {P : Program}
/-- 'append(out, z)', z of one cell, to an own row; where the new row lies. -/
theorem wpList_appV {ops : Array Oper} {rest : List Oper} {o : Oper} {a : Act} {Q : Exit → Act → World → Prop} {w1 : World} {T : TypeId} {z : Value} (hg : o.guard = none) (s x : Operand) (t : TypeId)
    (ho : o.op = .call { callee := .builtin .append, args := #[s, x], argTypes := #[t, t] }) {B : Nat} {e : TypeId} (ht : P.underlying t = some (.slice e)) {z0 : Value} {bytes : Nat}
    (hinfo : (P.info? e).map (fun i => (i.zero, i.size, i.bytes)) = some (some z0, 1, bytes)) (hz0' : z0.cells.size = 1) (hb : bytes ≤ 64) (hz : z.oneCell' = true) (v : Value) (n : Nat) (xs : List Value) (hs : a.eval s = v) (hown : w1.ownsRow B e 1 v n xs)
    (hx : a.eval x = .slice (some ⟨w1.heap.size, 0, none⟩) 1 1) (hlen : n < 1099511627776) (hB : B ≤ w1.heap.size)
    (h : ∀ g cap w', w'.ownsRow B e 1 (.slice (some ⟨g, 0, none⟩) (n + 1) cap) (n + 1) (xs ++ [z]) → w1.grownBy w' v.ownBlock → (v.ownBlock = some g ∨ w1.heap.size < g) → wpList P ops Q rest (a.put o.dst (.slice (some ⟨g, 0, none⟩) (n + 1) cap)) w') :
    wpList P ops Q (o :: rest) a (w1.alloc (.cells #[z] T)) := by
  obtain ⟨i0, hi, hz0, hz1, hz2⟩ := info_parts hinfo
  refine wpList_append_own_at _ hg s x t ho B e i0 z0 1 bytes ht hi hz0 hz1 hz2 hz0' (by decide) v n _ hs (World.ownsRow.alloc hown _) ⟨w1.heap.size, 0, none⟩ 1 1 [z] hx rfl ?_ (by intro u hu; simp at hu; subst hu; exact hz) (by unfold maxLen; omega) ?_ (by simp; omega) ?_
  · exact cell_one_new _ _ _
  · have : (n + 1) * bytes ≤ 1099511627776 * 64 := Nat.mul_le_mul (by omega) hb
    omega
  · intro v' w' hown' hgrow hnil hloc
    have hgr : w1.grownBy w' v.ownBlock := grown_trans (World.grownBy_alloc _ _ _) hgrow
    obtain ⟨h1, ⟨rfl, h2⟩ | ⟨g, cap, cur, rfl, _⟩⟩ := id hown'
    · omega
    · refine h g cap w' hown' hgr ?_
      rcases hloc with h | h
      · exact Or.inl h.symm
      · right
        simp [Value.ownBlock] at h
        omega
/-- 'append(out, row)', the row being newer than all that was there. -/
theorem wpList_appRows {ops : Array Oper} {rest : List Oper} {o : Oper} {a : Act} {Q : Exit → Act → World → Prop} {w0 w1 : World} {T : TypeId} {r : Value} (hg : o.guard = none) (s x : Operand) (t : TypeId)
    (ho : o.op = .call { callee := .builtin .append, args := #[s, x], argTypes := #[t, t] }) {B : Nat} {e : TypeId} (ht : P.underlying t = some (.slice e))
    (hinfo : (P.info? e).map (fun i => (i.zero, i.size, i.bytes)) = some (some (.slice none 0 0), 1, 24)) (v : Value) (xss : List (List Int)) (ys : List Int) (hs : a.eval s = v) (hown : GrowRows B e w0 v xss) (hn : New w0 w1)
    (hr : OwnInts w0.heap.size w1.heap.size w1 r ys)
    (hx : a.eval x = .slice (some ⟨w1.heap.size, 0, none⟩) 1 1) (hlen : xss.length < 1099511627776) (hB : B ≤ w0.heap.size)
    (h : ∀ g cap w', GrowRows B e w' (.slice (some ⟨g, 0, none⟩) (xss.length + 1) cap) (xss ++ [ys]) → w1.grownBy w' v.ownBlock → wpList P ops Q rest (a.put o.dst (.slice (some ⟨g, 0, none⟩) (xss.length + 1) cap)) w') :
    wpList P ops Q (o :: rest) a (w1.alloc (.cells #[r] T)) := by
  obtain ⟨rv, h1, h2, h3⟩ := hown
  have hv : ∀ k, v.ownBlock = some k → B ≤ k ∧ k < w0.heap.size := World.ownsRow.lt h1
  have hsz := hn.size
  refine wpList_appV hg s x t ho ht hinfo (by decide) (by decide) (by obtain ⟨A, c, rfl⟩ := hr.form; rfl) v xss.length _ hs (ownsRow_new h1 hn) hx hlen (by omega) ?_
  intro g cap w' ho' hgr hloc
  have hsz' := hgr.size
  have hrb := hr.block
  have hrne : r.ownBlock ≠ v.ownBlock ∨ r.ownBlock = none := by
    cases e1 : r.ownBlock with
    | none => exact Or.inr rfl
    | some k =>
      left
      intro e2
      have := hrb k e1
      have := hv k e2.symm
      omega
  refine h g cap w' ⟨fun i => if i < xss.length then rv i else r, ?_, ?_, ?_⟩ hgr
  · have e1 : (List.range (xss ++ [ys]).length).map (fun i => if i < xss.length then rv i else r) = (List.range xss.length).map rv ++ [r] := by
      rw [List.length_append, List.length_singleton, list_range_snoc]
      congr 1
      · apply List.map_congr_left
        intro i hi
        rw [if_pos (List.mem_range.1 hi)]
      · rw [if_neg (Nat.lt_irrefl _)]
    rw [e1, List.length_append, List.length_singleton]
    exact ho'
  · intro i hi
    rw [List.length_append, List.length_singleton] at hi
    by_cases hlt : i < xss.length
    · simp only [if_pos hlt]
      obtain ⟨k1, k2⟩ := h2 i hlt
      have k1' := k1.new hn
      have hb1 := k1.block
      rw [nth_append_left _ _ _ hlt]
      refine ⟨(k1'.grown hgr k2).widen (Nat.le_refl _) (by omega), ?_⟩
      cases e1 : (rv i).ownBlock with
      | none => exact Or.inr rfl
      | some k =>
        left
        have := hb1 k e1
        rcases hloc with hl | hl
        · rcases k2 with k2 | k2
          · rw [e1, hl] at k2; simpa [Value.ownBlock] using k2
          · rw [e1] at k2; cases k2
        · simp [Value.ownBlock]; omega
    · have hi' : i = xss.length := by omega
      subst hi'
      simp only [if_neg (Nat.lt_irrefl _)]
      rw [nth_append_here]
      refine ⟨(hr.grown hgr hrne).widen (by omega) (by omega), ?_⟩
      cases e1 : r.ownBlock with
      | none => exact Or.inr rfl
      | some k =>
        left
        have := hrb k e1
        rcases hloc with hl | hl
        · have := hv g hl; simp [Value.ownBlock]; omega
        · simp [Value.ownBlock]; omega
  · intro i j hij hj
    rw [List.length_append, List.length_singleton] at hj
    by_cases hlt : j < xss.length
    · simp only [if_pos hlt, if_pos (show i < xss.length by omega)]
      exact h3 i j hij hlt
    · have hj' : j = xss.length := by omega
      subst hj'
      simp only [if_neg (Nat.lt_irrefl _), if_pos hij]
      cases e1 : (rv i).ownBlock with
      | none => exact Or.inr rfl
      | some k =>
        left
        have := (h2 i hij).1.block k e1
        intro e2
        have := hrb k e2.symm
        omega
end
theorem New.appRows {a w1 w' : World} {v : Value} {B : Nat} {e : TypeId} {xss : List (List Int)} {w0 : World} (h : New a w1) (hg : w1.grownBy w' v.ownBlock) (ho : GrowRows B e w0 v xss) (hB : a.heap.size ≤ B) : New a w' :=
  h.grown hg fun k hk => by have := ho.block k hk; omega
theorem ownsRow_within {w w' : World} {B B' E' n : Nat} {e : TypeId} {size : Nat} {v : Value} {xs : List Value} (h : w.ownsRow B e size v n xs) (hw : Within B' E' w w') (hd : E' ≤ B) : w'.ownsRow B e size v n xs := by
  obtain ⟨h1, h2⟩ := h
  refine ⟨h1, ?_⟩
  rcases h2 with h2 | ⟨g, cap, cur, hv, hg, hh, r⟩
  · exact Or.inl h2
  · exact Or.inr ⟨g, cap, cur, hv, hg, by rw [hw.2.2.2.2 g (Array.getElem?_eq_some_iff.1 hh).1 (Or.inr (by omega))]; exact hh, r⟩
theorem Grow.within {B B' E' : Nat} {e : TypeId} {w w' : World} {v : Value} {xs : List Int} (h : Grow B e w v xs) (hw : Within B' E' w w') (hd : E' ≤ B) : Grow B e w' v xs := ownsRow_within h hw hd
theorem GrowRows.within {B B' E' : Nat} {e : TypeId} {w w' : World} {v : Value} {xss : List (List Int)} (h : GrowRows B e w v xss) (hw : Within B' E' w w') (hd : E' ≤ B) : GrowRows B e w' v xss := by
  obtain ⟨rv, h1, h2, h3⟩ := h
  have hs := hw.2.2.2.1
  exact ⟨rv, ownsRow_within h1 hw hd, fun i hi => ⟨((h2 i hi).1.within hw (Or.inr hd)).widen (Nat.le_refl _) hs, (h2 i hi).2⟩, h3⟩
theorem within_setCell (w : World) (p : Addr) (u : Value) : Within p.block (p.block + 1) w (w.setCell p u) := Within.setCell (Within.refl _ _ _) (Nat.le_refl _) (Nat.lt_succ_self _) u
theorem IntsAt.within {B' E' : Nat} {w w' : World} {v : Value} {xs : List Int} (h : IntsAt w v xs) (hw : Within B' E' w w') (hd : ∀ A n c, v = .slice (some A) n c → A.block < B' ∨ E' ≤ A.block) : IntsAt w' v xs := by
  obtain ⟨A, c, rfl, hl, hc⟩ := h
  refine ⟨A, c, rfl, hl, fun i hi => ?_⟩
  obtain ⟨b, off, hA, hx⟩ := hc i hi
  subst hA
  exact ⟨b, off, rfl, hw.cell hx (show b < B' ∨ E' ≤ b from hd ⟨b, off, none⟩ _ _ rfl)⟩
/-- A box of two cells that may be written. -/
def Box2 (w : World) (b : Nat) (u v : Value) : Prop := w.cell? ⟨b, 0, none⟩ = some u ∧ w.cell? ⟨b, 1, none⟩ = some v ∧ w.frozen? ⟨b, 0, none⟩ = false ∧ w.frozen? ⟨b, 1, none⟩ = false
theorem Box2.new {w w' : World} {b : Nat} {u v : Value} (h : Box2 w b u v) (hn : New w w') : Box2 w' b u v :=
  ⟨hn.cell h.1, hn.cell h.2.1, by rw [hn.frozen h.1]; exact h.2.2.1, by rw [hn.frozen h.2.1]; exact h.2.2.2⟩
theorem Box2.block {w w' : World} {b : Nat} {u v : Value} (h : Box2 w b u v) (hb : w'.heap[b]? = w.heap[b]?) : Box2 w' b u v :=
  ⟨by rw [World.cell?_of_block (w := w) hb]; exact h.1, by rw [World.cell?_of_block (w := w) hb]; exact h.2.1, by rw [World.frozen?_of_block (w := w) hb]; exact h.2.2.1, by rw [World.frozen?_of_block (w := w) hb]; exact h.2.2.2⟩
theorem Box2.lt {w : World} {b : Nat} {u v : Value} (h : Box2 w b u v) : b < w.heap.size := World.block_lt_of_cell? w _ h.1
theorem Box2.grown {w w' : World} {b : Nat} {u v : Value} {r : Option Nat} (h : Box2 w b u v) (hg : w.grownBy w' r) (hr : ∀ k, r = some k → k ≠ b) : Box2 w' b u v :=
  h.block (hg.block b h.lt (fun e => hr b e.symm rfl))
theorem Box2.within {w w' : World} {B E b : Nat} {u v : Value} (h : Box2 w b u v) (hw : Within B E w w') (hb : b < B ∨ E ≤ b) : Box2 w' b u v := h.block (hw.2.2.2.2 b h.lt hb)
theorem Box2.set1 {w : World} {b : Nat} {u v : Value} (h : Box2 w b u v) (v' : Value) : Box2 (w.setCell ⟨b, 1, none⟩ v') b u v' :=
  ⟨by rw [World.cell?_setCell_other]; exact h.1; simp, World.cell?_setCell_same _ _ _ h.2.1, by simpa using h.2.2.1, by simpa using h.2.2.2⟩
theorem Box2.set0 {w : World} {b : Nat} {u v : Value} (h : Box2 w b u v) (u' : Value) : Box2 (w.setCell ⟨b, 0, none⟩ u') b u' v :=
  ⟨World.cell?_setCell_same _ _ _ h.1, by rw [World.cell?_setCell_other]; exact h.2.1; simp, by simpa using h.2.2.1, by simpa using h.2.2.2⟩
theorem Box2.other {w : World} {b : Nat} {u v : Value} (h : Box2 w b u v) (p : Addr) (hp : p.block ≠ b) (x : Value) : Box2 (w.setCell p x) b u v :=
  h.block (Below.heap_setCell _ _ _ _ (Ne.symm hp))
theorem Box2.fill {w : World} {b : Nat} {u v : Value} (h : Box2 w b u v) (u' v' : Value) : Box2 ((w.setCell ⟨b, 0, none⟩ u').setCell ⟨b, 1, none⟩ v') b u' v' := (h.set0 u').set1 v'
theorem Within.fill (w : World) (b : Nat) (u' v' : Value) : Within b (b + 1) w ((w.setCell ⟨b, 0, none⟩ u').setCell ⟨b, 1, none⟩ v') :=
  Within.setCell (Within.setCell (Within.refl _ _ _) (by simp) (by simp) _) (by simp) (by simp) _
theorem New.fill {a w : World} {b : Nat} (h : New a w) (hb : a.heap.size ≤ b) (u' v' : Value) : New a ((w.setCell ⟨b, 0, none⟩ u').setCell ⟨b, 1, none⟩ v') := h.within (Within.fill w b u' v') hb
end
section
section
variable {P : Program}
theorem step_of_wp {ops : Array Oper} {o : Oper} {a : Act} {w : World} {K : Act → World → Prop} {Q : Exit → Act → World → Prop} {E : Prop} (hg : o.guard = none) (h : Oper.wp P o a w K Q) :
    if Region.wanted o (yielded ops a.tmps) = true then Oper.wp P o a w K Q else E := by
  have hw : Region.wanted o (yielded ops a.tmps) = true := by simp [Region.wanted, hg]
  rw [if_pos hw]; exact h
theorem addr_zero (h : Nat) : ∀ j u (z : Value) (w : World), w.cell? ⟨h, 0, none⟩ = some z → [z][j]? = some u → w.cell? ((⟨h, 0, none⟩ : Addr).add j) = some u := by
  intro j u z w hc hj
  match j, hj with
  | 0, hj =>
    simp at hj
    subst hj
    simpa [Addr.add] using hc
/-- 'append(out, z)' in whatever world, z's cell being known. -/
theorem wp_app1 {o : Oper} {a : Act} {w : World} {K : Act → World → Prop} {Q : Exit → Act → World → Prop} (s x : Operand) (t : TypeId)
    (ho : o.op = .call { callee := .builtin .append, args := #[s, x], argTypes := #[t, t] }) {B : Nat} {e : TypeId} (ht : P.underlying t = some (.slice e))
    (hinfo : (P.info? e).map (fun i => (i.zero, i.size, i.bytes)) = some (some (.int .i64 0), 1, 8)) (v : Value) (xs : List Int) (z : Int) (h : Nat) (hs : a.eval s = v) (hown : Grow B e w v xs)
    (hx : a.eval x = .slice (some ⟨h, 0, none⟩) 1 1) (hc : w.cell? ⟨h, 0, none⟩ = some (.int .i64 z)) (hlen : xs.length < 1099511627776) (hB : B ≤ w.heap.size)
    (hK : ∀ g cap w', Grow B e w' (.slice (some ⟨g, 0, none⟩) (xs.length + 1) cap) (xs ++ [z]) → w.grownBy w' v.ownBlock → K (a.put o.dst (.slice (some ⟨g, 0, none⟩) (xs.length + 1) cap)) w') : o.wp P a w K Q := by
  obtain ⟨i0, hi, hz0, hz1, hz2⟩ := info_parts hinfo
  refine wp_append_lies w s x t ho B e i0 (.int .i64 0) 1 8 ht hi hz0 hz1 hz2 rfl (by decide) v xs.length _ hs hown ⟨h, 0, none⟩ 1 1 [.int .i64 z] hx rfl (fun j u hj => addr_zero h j u _ w hc hj) (by intro u hu; simp at hu; subst hu; rfl) (by decide) (by unfold maxLen; omega) (by omega) hB w.heap.size rfl ?_
  intro g cap w' h1 h2 _ _
  exact hK g cap w' (by simpa [Grow] using h1) h2
theorem step_app1 {ops : Array Oper} {E : Prop} {o : Oper} {a : Act} {w : World} {K : Act → World → Prop} {Q : Exit → Act → World → Prop} (hg : o.guard = none) (s x : Operand) (t : TypeId)
    (ho : o.op = .call { callee := .builtin .append, args := #[s, x], argTypes := #[t, t] }) {B : Nat} {e : TypeId} (ht : P.underlying t = some (.slice e))
    (hinfo : (P.info? e).map (fun i => (i.zero, i.size, i.bytes)) = some (some (.int .i64 0), 1, 8)) (v : Value) (xs : List Int) (z : Int) (h : Nat) (hs : a.eval s = v) (hown : Grow B e w v xs)
    (hx : a.eval x = .slice (some ⟨h, 0, none⟩) 1 1) (hc : w.cell? ⟨h, 0, none⟩ = some (.int .i64 z)) (hlen : xs.length < 1099511627776) (hB : B ≤ w.heap.size)
    (hK : ∀ g cap w', Grow B e w' (.slice (some ⟨g, 0, none⟩) (xs.length + 1) cap) (xs ++ [z]) → w.grownBy w' v.ownBlock → K (a.put o.dst (.slice (some ⟨g, 0, none⟩) (xs.length + 1) cap)) w') :
    if Region.wanted o (yielded ops a.tmps) = true then Oper.wp P o a w K Q else E :=
  step_of_wp hg (wp_app1 s x t ho ht hinfo v xs z h hs hown hx hc hlen hB hK)
/-- 'append(out, row)', the row being newer than all rows before. -/
theorem wp_appRows1 {o : Oper} {a : Act} {w0 w1 : World} {K : Act → World → Prop} {Q : Exit → Act → World → Prop} (s x : Operand) (t : TypeId)
    (ho : o.op = .call { callee := .builtin .append, args := #[s, x], argTypes := #[t, t] }) {B : Nat} {e : TypeId} (ht : P.underlying t = some (.slice e))
    (hinfo : (P.info? e).map (fun i => (i.zero, i.size, i.bytes)) = some (some (.slice none 0 0), 1, 24)) (v r : Value) (xss : List (List Int)) (ys : List Int) (h : Nat) (hs : a.eval s = v) (hown : GrowRows B e w0 v xss) (hn : New w0 w1)
    (hr : OwnInts w0.heap.size w1.heap.size w1 r ys)
    (hx : a.eval x = .slice (some ⟨h, 0, none⟩) 1 1) (hc : w1.cell? ⟨h, 0, none⟩ = some r) (hlen : xss.length < 1099511627776) (hB : B ≤ w0.heap.size)
    (hK : ∀ g cap w', GrowRows B e w' (.slice (some ⟨g, 0, none⟩) (xss.length + 1) cap) (xss ++ [ys]) → w1.grownBy w' v.ownBlock → K (a.put o.dst (.slice (some ⟨g, 0, none⟩) (xss.length + 1) cap)) w') : o.wp P a w1 K Q := by
  obtain ⟨i0, hi, hz0, hz1, hz2⟩ := info_parts hinfo
  obtain ⟨rv, h1, h2, h3⟩ := hown
  have hv : ∀ k, v.ownBlock = some k → B ≤ k ∧ k < w0.heap.size := World.ownsRow.lt h1
  have hsz := hn.size
  refine wp_append_lies w1 s x t ho B e i0 (.slice none 0 0) 1 24 ht hi hz0 hz1 hz2 (by decide) (by decide) v xss.length _ hs (ownsRow_new h1 hn) ⟨h, 0, none⟩ 1 1 [r] hx rfl (fun j u hj => addr_zero h j u _ w1 hc hj) (by intro u hu; simp at hu; subst hu; obtain ⟨A, c, rfl⟩ := hr.form; rfl) (by decide) (by unfold maxLen; omega) (by omega) (by omega) w1.heap.size rfl ?_
  intro g cap w' ho' hgr hloc' hlt
  have hloc : v.ownBlock = some g ∨ w1.heap.size ≤ g := by
    rcases hloc' with h | h
    · exact Or.inl h
    · exact Or.inr (by omega)
  have hsz' := hgr.size
  have hrb := hr.block
  have hrne : r.ownBlock ≠ v.ownBlock ∨ r.ownBlock = none := by
    cases e1 : r.ownBlock with
    | none => exact Or.inr rfl
    | some k =>
      left
      intro e2
      have := hrb k e1
      have := hv k e2.symm
      omega
  refine hK g cap w' ⟨fun i => if i < xss.length then rv i else r, ?_, ?_, ?_⟩ hgr
  · have e1 : (List.range (xss ++ [ys]).length).map (fun i => if i < xss.length then rv i else r) = (List.range xss.length).map rv ++ [r] := by
      rw [List.length_append, List.length_singleton, list_range_snoc]
      congr 1
      · apply List.map_congr_left
        intro i hi
        rw [if_pos (List.mem_range.1 hi)]
      · rw [if_neg (Nat.lt_irrefl _)]
    rw [e1, List.length_append, List.length_singleton]
    exact ho'
  · intro i hi
    rw [List.length_append, List.length_singleton] at hi
    by_cases hlt : i < xss.length
    · simp only [if_pos hlt]
      obtain ⟨k1, k2⟩ := h2 i hlt
      have k1' := k1.new hn
      have hb1 := k1.block
      rw [nth_append_left _ _ _ hlt]
      refine ⟨(k1'.grown hgr k2).widen (Nat.le_refl _) (by omega), ?_⟩
      cases e1 : (rv i).ownBlock with
      | none => exact Or.inr rfl
      | some k =>
        left
        have := hb1 k e1
        rcases hloc with hl | hl
        · rcases k2 with k2 | k2
          · rw [e1, hl] at k2; simpa [Value.ownBlock] using k2
          · rw [e1] at k2; cases k2
        · simp [Value.ownBlock]; omega
    · have hi' : i = xss.length := by omega
      subst hi'
      simp only [if_neg (Nat.lt_irrefl _)]
      rw [nth_append_here]
      refine ⟨(hr.grown hgr hrne).widen (by omega) (by omega), ?_⟩
      cases e1 : r.ownBlock with
      | none => exact Or.inr rfl
      | some k =>
        left
        have := hrb k e1
        rcases hloc with hl | hl
        · have := hv g hl; simp [Value.ownBlock]; omega
        · simp [Value.ownBlock]; omega
  · intro i j hij hj
    rw [List.length_append, List.length_singleton] at hj
    by_cases hlt : j < xss.length
    · simp only [if_pos hlt, if_pos (show i < xss.length by omega)]
      exact h3 i j hij hlt
    · have hj' : j = xss.length := by omega
      subst hj'
      simp only [if_neg (Nat.lt_irrefl _), if_pos hij]
      cases e1 : (rv i).ownBlock with
      | none => exact Or.inr rfl
      | some k =>
        left
        have := (h2 i hij).1.block k e1
        intro e2
        have := hrb k e2.symm
        omega
theorem step_appRows1 {ops : Array Oper} {E : Prop} {o : Oper} {a : Act} {w0 w1 : World} {K : Act → World → Prop} {Q : Exit → Act → World → Prop} (hg : o.guard = none) (s x : Operand) (t : TypeId)
    (ho : o.op = .call { callee := .builtin .append, args := #[s, x], argTypes := #[t, t] }) {B : Nat} {e : TypeId} (ht : P.underlying t = some (.slice e))
    (hinfo : (P.info? e).map (fun i => (i.zero, i.size, i.bytes)) = some (some (.slice none 0 0), 1, 24)) (v r : Value) (xss : List (List Int)) (ys : List Int) (h : Nat) (hs : a.eval s = v) (hown : GrowRows B e w0 v xss) (hn : New w0 w1)
    (hr : OwnInts w0.heap.size w1.heap.size w1 r ys)
    (hx : a.eval x = .slice (some ⟨h, 0, none⟩) 1 1) (hc : w1.cell? ⟨h, 0, none⟩ = some r) (hlen : xss.length < 1099511627776) (hB : B ≤ w0.heap.size)
    (hK : ∀ g cap w', GrowRows B e w' (.slice (some ⟨g, 0, none⟩) (xss.length + 1) cap) (xss ++ [ys]) → w1.grownBy w' v.ownBlock → K (a.put o.dst (.slice (some ⟨g, 0, none⟩) (xss.length + 1) cap)) w') :
    if Region.wanted o (yielded ops a.tmps) = true then Oper.wp P o a w1 K Q else E :=
  step_of_wp hg (wp_appRows1 s x t ho ht hinfo v r xss ys h hs hown hn hr hx hc hlen hB hK)
end
end
section
section
variable {P : Program}
theorem setCells_nil (w : World) (b o : Nat) : w.setCells b o [] = w := by simp [World.setCells]
theorem grown_drew (w : World) (r : Option Nat) : w.grownBy w.drew r := ⟨rfl, rfl, rfl, Nat.le_refl _, fun _ _ _ => rfl⟩
/-- 'append(out, ys...)'. -/
theorem wpList_appAll {ops : Array Oper} {rest : List Oper} {o : Oper} {a : Act} {Q : Exit → Act → World → Prop} {w1 : World} (hg : o.guard = none) (s x : Operand) (t : TypeId)
    (ho : o.op = .call { callee := .builtin .append, args := #[s, x], argTypes := #[t, t] }) {B : Nat} {e : TypeId} (ht : P.underlying t = some (.slice e))
    (hinfo : (P.info? e).map (fun i => (i.zero, i.size, i.bytes)) = some (some (.int .i64 0), 1, 8)) (v u : Value) (xs ys : List Int) (g0 : Nat) (hs : a.eval s = v) (hown : Grow B e w1 v xs) (hv0 : v.ownBlock = some g0)
    (hx : a.eval x = u) (hu : IntsAt w1 u ys) (hlen : xs.length + ys.length ≤ 1099511627776) (hB : B ≤ w1.heap.size)
    (h : ∀ g cap w', Grow B e w' (.slice (some ⟨g, 0, none⟩) (xs.length + ys.length) cap) (xs ++ ys) → w1.grownBy w' v.ownBlock → (v.ownBlock = some g ∨ w1.heap.size ≤ g) → wpList P ops Q rest (a.put o.dst (.slice (some ⟨g, 0, none⟩) (xs.length + ys.length) cap)) w') :
    wpList P ops Q (o :: rest) a w1 := by
  obtain ⟨i0, hi, hz0, hz1, hz2⟩ := info_parts hinfo
  obtain ⟨A, c, rfl, hl, hc⟩ := hu
  cases A with
  | some ad =>
    refine wpList_append_own_at _ hg s x t ho B e i0 (.int .i64 0) 1 8 ht hi hz0 hz1 hz2 rfl (by decide) v xs.length _ hs hown ad ys.length c (ys.map (Value.int .i64)) hx (by simp) ?_ (by intro u hu; simp at hu; obtain ⟨z, _, rfl⟩ := hu; rfl) (by unfold maxLen; omega) (by omega) hB ?_
    · intro j u hj
      have hjl : j < ys.length := by
        rcases Nat.lt_or_ge j ys.length with h | h
        · exact h
        · rw [List.getElem?_eq_none (by simpa using h)] at hj; cases hj
      obtain ⟨b, off, e1, hx1⟩ := hc j hjl
      cases e1
      simp [hjl] at hj
      subst hj
      have e2 : (⟨b, off, none⟩ : Addr).add j = ⟨b, off + j, none⟩ := by
        unfold Addr.add
        split
        · rename_i h; subst h; rfl
        · rfl
      rw [e2, hx1, nth_eq ys j hjl]
    · intro v' w' hown' hgrow hnil hloc
      have hown2 : Grow B e w' v' (xs ++ ys) := by simpa [Grow] using hown'
      obtain ⟨h1, ⟨rfl, h2⟩ | ⟨g, cap, cur, rfl, _⟩⟩ := id hown'
      · rcases hloc with h | h
        · rw [hv0] at h; simp [Value.ownBlock] at h
        · simp [Value.ownBlock] at h
      · refine h g cap w' hown2 hgrow ?_
        rcases hloc with h | h
        · exact Or.inl h.symm
        · right; simp [Value.ownBlock] at h; omega
  | none =>
    have hy : ys = [] := by
      cases ys with
      | nil => rfl
      | cons y r => obtain ⟨b, off, e1, _⟩ := hc 0 (by simp); cases e1
    subst hy
    refine wpList_plain hg fun K hK => ?_
    obtain ⟨h1, ⟨rfl, h2⟩ | ⟨g, cap, cur, rfl, r⟩⟩ := id hown
    · simp [Value.ownBlock] at hv0
    · obtain ⟨hgB, hh, hn, hcs, hs', ht'⟩ := r
      have hrun := run_append_room_src (P := P) w1 t t o.type e i0 ht hi g 0 xs.length cap (.slice none 0 c) 0 [] (by rw [hz1]; exact Src.ofNil w1 ht c) (by omega) (by simp) (by simp)
      rw [setCells_nil] at hrun
      unfold Oper.wp
      have hx' : a.eval x = .slice none 0 c := hx
      simp [execOp, ho, resolve, invoke, builtin, hs, hx', hrun, Result.andThen]
      refine hK _ _ ?_
      have := h g cap w1 (by simpa using hown) (grown_refl _ _) (Or.inl rfl)
      simpa using this
end
end
section
theorem cell_box1 (w : World) (z : Value) (T : TypeId) : (w.alloc (.cells #[z] T)).cell? ⟨w.heap.size, 0, none⟩ = some z := by unfold World.cell?; rw [heap_alloc_new]; rfl
section
variable {P : Program}
theorem wp_appV1 {o : Oper} {a : Act} {w : World} {K : Act → World → Prop} {Q : Exit → Act → World → Prop} (s x : Operand) (t : TypeId)
    (ho : o.op = .call { callee := .builtin .append, args := #[s, x], argTypes := #[t, t] }) {B : Nat} {e : TypeId} (ht : P.underlying t = some (.slice e)) {z0 : Value} {bytes : Nat}
    (hinfo : (P.info? e).map (fun i => (i.zero, i.size, i.bytes)) = some (some z0, 1, bytes)) (hz0' : z0.cells.size = 1) (hb : bytes ≤ 64) (v : Value) (n : Nat) (xs : List Value) (z : Value) (hz : z.oneCell' = true) (h : Nat) (hs : a.eval s = v) (hown : w.ownsRow B e 1 v n xs)
    (hx : a.eval x = .slice (some ⟨h, 0, none⟩) 1 1) (hc : w.cell? ⟨h, 0, none⟩ = some z) (hlen : n < 1099511627776) (hB : B ≤ w.heap.size)
    (hK : ∀ g cap w', w'.ownsRow B e 1 (.slice (some ⟨g, 0, none⟩) (n + 1) cap) (n + 1) (xs ++ [z]) → w.grownBy w' v.ownBlock → (v.ownBlock = some g ∨ w.heap.size ≤ g) → K (a.put o.dst (.slice (some ⟨g, 0, none⟩) (n + 1) cap)) w') : o.wp P a w K Q := by
  obtain ⟨i0, hi, hz0, hz1, hz2⟩ := info_parts hinfo
  refine wp_append_lies w s x t ho B e i0 z0 1 bytes ht hi hz0 hz1 hz2 hz0' (by decide) v n _ hs hown ⟨h, 0, none⟩ 1 1 [z] hx rfl (fun j u hj => addr_zero h j u _ w hc hj) (by intro u hu; simp at hu; subst hu; exact hz) (by decide) (by unfold maxLen; omega) ?_ hB w.heap.size rfl ?_
  · have : (n + 1) * bytes ≤ 1099511627776 * 64 := Nat.mul_le_mul (by omega) hb
    omega
  · intro g cap w' h1 h2 h3 h4
    refine hK g cap w' h1 h2 ?_
    rcases h3 with h | h
    · exact Or.inl h
    · exact Or.inr (by omega)
theorem step_appV1 {ops : Array Oper} {E : Prop} {o : Oper} {a : Act} {w : World} {K : Act → World → Prop} {Q : Exit → Act → World → Prop} (hg : o.guard = none) (s x : Operand) (t : TypeId)
    (ho : o.op = .call { callee := .builtin .append, args := #[s, x], argTypes := #[t, t] }) {B : Nat} {e : TypeId} (ht : P.underlying t = some (.slice e)) {z0 : Value} {bytes : Nat}
    (hinfo : (P.info? e).map (fun i => (i.zero, i.size, i.bytes)) = some (some z0, 1, bytes)) (hz0' : z0.cells.size = 1) (hb : bytes ≤ 64) (v : Value) (n : Nat) (xs : List Value) (z : Value) (hz : z.oneCell' = true) (h : Nat) (hs : a.eval s = v) (hown : w.ownsRow B e 1 v n xs)
    (hx : a.eval x = .slice (some ⟨h, 0, none⟩) 1 1) (hc : w.cell? ⟨h, 0, none⟩ = some z) (hlen : n < 1099511627776) (hB : B ≤ w.heap.size)
    (hK : ∀ g cap w', w'.ownsRow B e 1 (.slice (some ⟨g, 0, none⟩) (n + 1) cap) (n + 1) (xs ++ [z]) → w.grownBy w' v.ownBlock → (v.ownBlock = some g ∨ w.heap.size ≤ g) → K (a.put o.dst (.slice (some ⟨g, 0, none⟩) (n + 1) cap)) w') :
    if Region.wanted o (yielded ops a.tmps) = true then Oper.wp P o a w K Q else E :=
  step_of_wp hg (wp_appV1 s x t ho ht hinfo hz0' hb v n xs z hz h hs hown hx hc hlen hB hK)
end
end
section
theorem OwnInts.cells {B E b off n c : Nat} {w : World} {m : List Int} (h : OwnInts B E w (.slice (some ⟨b, off, none⟩) n c) m) :
    n = m.length ∧ B ≤ b ∧ b < E ∧ ∀ i, i < m.length → w.cell? ⟨b, off + i, none⟩ = some (.int .i64 (nth m i)) ∧ w.frozen? ⟨b, off + i, none⟩ = false := by
  obtain ⟨A, c', e, hl, ha, hc⟩ := h
  cases e
  have := ha _ rfl
  refine ⟨rfl, this.1, this.2, fun i hi => ?_⟩
  obtain ⟨b', off', e, hx, hf⟩ := hc i hi
  cases e
  exact ⟨hx, hf⟩
/-- What the cells of a row read. -/
def readC (w : World) (b off n : Nat) : List Int := (List.range n).map fun i => match w.cell? ⟨b, off + i, none⟩ with
  | some (.int _ x) => x
  | _ => 0
theorem OwnInts.read {B E b off n c : Nat} {w : World} {m : List Int} (h : OwnInts B E w (.slice (some ⟨b, off, none⟩) n c) m) : readC w b off n = m := by
  obtain ⟨rfl, _, _, hc⟩ := h.cells
  apply ext_nth _ _ (by simp [readC])
  intro i hi
  have hi' : i < m.length := by simpa [readC] using hi
  rw [nth_eq _ _ hi]
  simp [readC, (hc i hi').1]
theorem OwnInts.addr {B E : Nat} {w : World} {v : Value} {m : List Int} (h : OwnInts B E w v m) (hm : 0 < m.length) : ∃ b off c, v = .slice (some ⟨b, off, none⟩) m.length c := by
  obtain ⟨A, c, rfl, hl, ha, hc⟩ := h
  obtain ⟨b, off, rfl, _⟩ := hc 0 hm
  exact ⟨b, off, c, rfl⟩
theorem OwnInts.made (w : World) (n : Nat) (e : TypeId) (hn : n ≤ 1099511627776) : OwnInts w.heap.size (w.heap.size + 1) (w.alloc (.cells (madeCells #[.int .i64 0] n) e)) (.slice (some ⟨w.heap.size, 0, none⟩) n n) (List.replicate n 0) := by
  have hrow := World.rowIs_made w (.int .i64 0) n e
  refine ⟨some ⟨w.heap.size, 0, none⟩, n, by rw [List.length_replicate], by rw [List.length_replicate]; exact hn, fun a h => by cases h; exact ⟨Nat.le_refl _, Nat.lt_succ_self _⟩, fun i hi => ⟨_, _, rfl, ?_, hrow.frozen _⟩⟩
  have hi' : i < n := by simpa using hi
  rw [Nat.zero_add, hrow.cell hi']
  simp [nth, hi']
theorem OwnInts.cell_at {B E b off n c : Nat} {w : World} {m : List Int} (h : OwnInts B E w (.slice (some ⟨b, off, none⟩) n c) m) (i : Nat) (hi : i < m.length) : w.cell? ⟨b, off + i, none⟩ = some (.int .i64 (nth m i)) ∧ w.frozen? ⟨b, off + i, none⟩ = false := h.cells.2.2.2 i hi
end
section
def XBox (w : World) (b : Nat) (u0 u1 v1 v2 : Value) : Prop :=
  w.cell? ⟨b, 0, none⟩ = some u0 ∧ w.cell? ⟨b, 1, none⟩ = some u1 ∧ w.cell? ⟨b, 2, none⟩ = some v1 ∧ w.cell? ⟨b, 3, none⟩ = some v2 ∧ w.frozen? ⟨b, 2, none⟩ = false ∧ w.frozen? ⟨b, 3, none⟩ = false
theorem XBox.lt {w : World} {b : Nat} {u0 u1 v1 v2 : Value} (h : XBox w b u0 u1 v1 v2) : b < w.heap.size := World.block_lt_of_cell? w _ h.1
theorem XBox.new {w w' : World} {b : Nat} {u0 u1 v1 v2 : Value} (h : XBox w b u0 u1 v1 v2) (hn : New w w') : XBox w' b u0 u1 v1 v2 :=
  ⟨hn.cell h.1, hn.cell h.2.1, hn.cell h.2.2.1, hn.cell h.2.2.2.1, by rw [hn.frozen h.2.2.1]; exact h.2.2.2.2.1, by rw [hn.frozen h.2.2.2.1]; exact h.2.2.2.2.2⟩
theorem XBox.block {w w' : World} {b : Nat} {u0 u1 v1 v2 : Value} (h : XBox w b u0 u1 v1 v2) (hb : w'.heap[b]? = w.heap[b]?) : XBox w' b u0 u1 v1 v2 :=
  ⟨by rw [World.cell?_of_block (w := w) hb]; exact h.1, by rw [World.cell?_of_block (w := w) hb]; exact h.2.1, by rw [World.cell?_of_block (w := w) hb]; exact h.2.2.1, by rw [World.cell?_of_block (w := w) hb]; exact h.2.2.2.1, by rw [World.frozen?_of_block (w := w) hb]; exact h.2.2.2.2.1, by rw [World.frozen?_of_block (w := w) hb]; exact h.2.2.2.2.2⟩
theorem XBox.grown {w w' : World} {b : Nat} {u0 u1 v1 v2 : Value} {r : Option Nat} (h : XBox w b u0 u1 v1 v2) (hg : w.grownBy w' r) (hr : ∀ k, r = some k → k ≠ b) : XBox w' b u0 u1 v1 v2 :=
  h.block (hg.block b h.lt (fun e => hr b e.symm rfl))
theorem XBox.other {w : World} {b : Nat} {u0 u1 v1 v2 : Value} (h : XBox w b u0 u1 v1 v2) (p : Addr) (hp : p.block ≠ b) (x : Value) : XBox (w.setCell p x) b u0 u1 v1 v2 := h.block (Below.heap_setCell _ _ _ _ (Ne.symm hp))
theorem XBox.set2 {w : World} {b : Nat} {u0 u1 v1 v2 : Value} (h : XBox w b u0 u1 v1 v2) (x : Value) : XBox (w.setCell ⟨b, 2, none⟩ x) b u0 u1 x v2 :=
  ⟨by rw [World.cell?_setCell_other]; exact h.1; simp, by rw [World.cell?_setCell_other]; exact h.2.1; simp, World.cell?_setCell_same _ _ _ h.2.2.1, by rw [World.cell?_setCell_other]; exact h.2.2.2.1; simp, by simpa using h.2.2.2.2.1, by simpa using h.2.2.2.2.2⟩
theorem XBox.set3 {w : World} {b : Nat} {u0 u1 v1 v2 : Value} (h : XBox w b u0 u1 v1 v2) (x : Value) : XBox (w.setCell ⟨b, 3, none⟩ x) b u0 u1 v1 x :=
  ⟨by rw [World.cell?_setCell_other]; exact h.1; simp, by rw [World.cell?_setCell_other]; exact h.2.1; simp, by rw [World.cell?_setCell_other]; exact h.2.2.1; simp, World.cell?_setCell_same _ _ _ h.2.2.2.1, by simpa using h.2.2.2.2.1, by simpa using h.2.2.2.2.2⟩
theorem Within.app {B E : Nat} {a w w' : World} {r : Option Nat} (h : Within B E a w) (hg : w.grownBy w' r) (hr : ∀ k, r = some k → a.heap.size ≤ k) : Within B E a w' :=
  ⟨hg.os.trans h.1, hg.tape.trans h.2.1, hg.output.trans h.2.2.1, Nat.le_trans h.2.2.2.1 hg.size, fun k hk ho => (hg.block k (Nat.lt_of_lt_of_le hk h.2.2.2.1) (fun e => by have := hr k e.symm; omega)).trans (h.2.2.2.2 k hk ho)⟩
end

end Go.Proofs.YthbebnfhplacnaaDoor
