/- The words in which the contracts of this proof are said: lists in memory, what a call may turn, plain lists. -/
import Derived.WalkKit
import Derived.WalkSpells
import Derived.WalkLawsBesides
import Derived.Deep.QuietTactic
import Derived.Deep.OwnRows
import Derived.BigQuiet
import Derived.KernelRfl
namespace Go.Proofs.Ytcjmcpfdpnakkaa
open Go.RowKit

/-- A fact kept from the walk's rules. -/
theorem hid {p : Prop} (h : p) : Hid p := h
/-- The i-th element, or the type's own default. -/
def nth {α : Type} [Inhabited α] (xs : List α) (i : Nat) : α := xs.getD i default
theorem nth_eq {α : Type} [Inhabited α] (xs : List α) (i : Nat) (h : i < xs.length) : nth xs i = xs[i] := by simp [nth, h]
theorem nth_append_left {α : Type} [Inhabited α] (xs ys : List α) (i : Nat) (h : i < xs.length) : nth (xs ++ ys) i = nth xs i := by
  simp [nth, List.getElem?_append_left h]
theorem nth_append_here {α : Type} [Inhabited α] (xs : List α) (y : α) : nth (xs ++ [y]) xs.length = y := by simp [nth]
theorem take_succ_nth {α : Type} [Inhabited α] (xs : List α) (k : Nat) (h : k < xs.length) : xs.take (k + 1) = xs.take k ++ [nth xs k] := by
  rw [List.take_succ_eq_append_getElem h, nth_eq xs k h]
theorem nth_mem {α : Type} [Inhabited α] (xs : List α) (i : Nat) (h : i < xs.length) : nth xs i ∈ xs := by
  rw [nth_eq xs i h]; exact List.getElem_mem h
theorem mem_nth {α : Type} [Inhabited α] (xs : List α) (x : α) (h : x ∈ xs) : ∃ i, i < xs.length ∧ nth xs i = x := by
  obtain ⟨i, hi, e⟩ := List.getElem_of_mem h
  exact ⟨i, hi, by rw [nth_eq xs i hi, e]⟩
theorem ext_nth {α : Type} [Inhabited α] (xs ys : List α) (hl : xs.length = ys.length) (h : ∀ i, i < xs.length → nth xs i = nth ys i) : xs = ys := by
  apply List.ext_getElem hl
  intro i h1 h2
  have := h i h1
  rwa [nth_eq xs i h1, nth_eq ys i h2] at this
theorem nth_map {α β : Type} [Inhabited α] [Inhabited β] (f : α → β) (xs : List α) (i : Nat) (h : i < xs.length) : nth (xs.map f) i = f (nth xs i) := by
  rw [nth_eq _ _ (by simpa using h), nth_eq _ _ h, List.getElem_map]
theorem nth_set {α : Type} [Inhabited α] (xs : List α) (i j : Nat) (x : α) (h : i < xs.length) : nth (xs.set i x) j = if j = i then x else nth xs j := by
  unfold nth
  by_cases e : j = i
  · subst e; simp [h]
  · simp [e, Ne.symm e]

theorem ret_int {a b : Int} (h : a = b) : Ending.returned (.int .i64 a) = .returned (.int .i64 b) := by rw [h]
theorem ret_bool {a b : Bool} (h : a = b) : Ending.returned (.bool a) = .returned (.bool b) := by rw [h]

/-- Nothing that was there has turned. -/
def New (w w' : World) : Prop := Below w.heap.size w w'
theorem New.refl (w : World) : New w w := Below.refl _ _
theorem New.size {w w' : World} (h : New w w') : w.heap.size ≤ w'.heap.size := Below.size h
theorem New.trans {a b c : World} (h : New a b) (k : New b c) : New a c := Below.trans h (Below.mono k h.size)
theorem New.drew {a w : World} (h : New a w) : New a w.drew := Below.drew h
theorem New.alloc {a w : World} (h : New a w) (o : Obj) : New a (w.alloc o) := Below.alloc h h.size o
theorem New.below {w w' : World} (h : New w w') : Below w.heap.size w w' := h
theorem New.cell {w w' : World} (h : New w w') {p : Addr} {v : Value} (hc : w.cell? p = some v) : w'.cell? p = some v := by
  rw [Below.cell h (World.block_lt_of_cell? w p hc)]; exact hc
/-- Only blocks from B to E (E itself out) have turned. -/
def Within (B E : Nat) (w w' : World) : Prop := w'.os = w.os ∧ w'.tape = w.tape ∧ w'.output = w.output ∧ w.heap.size ≤ w'.heap.size ∧ ∀ k, k < w.heap.size → (k < B ∨ E ≤ k) → w'.heap[k]? = w.heap[k]?

/-- The slice value v reads, in w, as the list xs of int64 (or int). -/
def IntsAt (w : World) (v : Value) (xs : List Int) : Prop :=
  ∃ A c, v = .slice A xs.length c ∧ xs.length ≤ 9223372036854775807 ∧ ∀ i, i < xs.length → ∃ b off, A = some ⟨b, off, none⟩ ∧ w.cell? ⟨b, off + i, none⟩ = some (.int .i64 (nth xs i))
/-- The slice value v reads as a list of lists. -/
def RowsAt (w : World) (v : Value) (xss : List (List Int)) : Prop :=
  ∃ A c, v = .slice A xss.length c ∧ xss.length ≤ 9223372036854775807 ∧ ∀ i, i < xss.length → ∃ b off rv, A = some ⟨b, off, none⟩ ∧ w.cell? ⟨b, off + i, none⟩ = some rv ∧ IntsAt w rv (nth xss i)

theorem IntsAt.new {w w' : World} {v : Value} {xs : List Int} (h : IntsAt w v xs) (hw : New w w') : IntsAt w' v xs := by
  obtain ⟨A, c, rfl, hl, hc⟩ := h
  refine ⟨A, c, rfl, hl, fun i hi => ?_⟩
  obtain ⟨b, off, hA, hx⟩ := hc i hi
  exact ⟨b, off, hA, hw.cell hx⟩
theorem RowsAt.new {w w' : World} {v : Value} {xss : List (List Int)} (h : RowsAt w v xss) (hw : New w w') : RowsAt w' v xss := by
  obtain ⟨A, c, rfl, hl, hc⟩ := h
  refine ⟨A, c, rfl, hl, fun i hi => ?_⟩
  obtain ⟨b, off, rv, hA, hx, hr⟩ := hc i hi
  exact ⟨b, off, rv, hA, hw.cell hx, hr.new hw⟩

theorem New.within {a w w' : World} {B E : Nat} (h : New a w) (hw : Within B E w w') (hB : a.heap.size ≤ B) : New a w' := by
  obtain ⟨h1, h2, h3, h4, h5⟩ := hw
  have hs := h.size
  exact Below.trans h ⟨h1, h2, h3, h4, fun k hk => h5 k (by omega) (Or.inl (by omega))⟩
theorem Within.of_new {w w' : World} (h : New w w') (B E : Nat) : Within B E w w' := ⟨h.os, h.tape, h.output, Below.size h, fun k hk _ => h.block k hk⟩
theorem Within.trans {B E : Nat} {a b c : World} (h : Within B E a b) (k : Within B E b c) : Within B E a c := by
  obtain ⟨h1, h2, h3, h4, h5⟩ := h
  obtain ⟨k1, k2, k3, k4, k5⟩ := k
  exact ⟨k1.trans h1, k2.trans h2, k3.trans h3, by omega, fun i hi ho => (k5 i (by omega) ho).trans (h5 i hi ho)⟩
theorem Within.cell {B E : Nat} {w w' : World} (h : Within B E w w') {p : Addr} {v : Value} (hc : w.cell? p = some v) (hp : p.block < B ∨ E ≤ p.block) : w'.cell? p = some v := by
  rw [World.cell?_of_block (w := w) (h.2.2.2.2 p.block (World.block_lt_of_cell? w p hc) hp)]; exact hc
theorem New.frozen {w w' : World} (h : New w w') {p : Addr} {v : Value} (hc : w.cell? p = some v) : w'.frozen? p = w.frozen? p := Below.frozen h (World.block_lt_of_cell? w p hc)
theorem New.setCell {a w : World} (h : New a w) {p : Addr} (hp : a.heap.size ≤ p.block) (u : Value) : New a (w.setCell p u) := Below.setCell h hp u
theorem New.grown {a w w' : World} {row : Option Nat} (h : New a w) (hg : w.grownBy w' row) (hr : ∀ k, row = some k → a.heap.size ≤ k) : New a w' := Below.grown h hg h.size hr
theorem New.drewN {a w : World} (h : New a w) (n : Nat) : New a (w.drewN n) := Below.trans h ⟨rfl, rfl, rfl, Nat.le_refl _, fun _ _ => rfl⟩

/-- The slice value v, all of it in blocks from B to E, reads as xs, and may be written. -/
def OwnInts (B E : Nat) (w : World) (v : Value) (xs : List Int) : Prop :=
  ∃ A c, v = .slice A xs.length c ∧ xs.length ≤ 1099511627776 ∧ (∀ a, A = some a → B ≤ a.block ∧ a.block < E) ∧
    ∀ i, i < xs.length → ∃ b off, A = some ⟨b, off, none⟩ ∧ w.cell? ⟨b, off + i, none⟩ = some (.int .i64 (nth xs i)) ∧ w.frozen? ⟨b, off + i, none⟩ = false
/-- The same of a list of lists; no two rows share a block, and none lies in the outer one's. -/
def OwnRows (B E : Nat) (w : World) (v : Value) (xss : List (List Int)) : Prop :=
  ∃ A c, ∃ rv : Nat → Value, v = .slice A xss.length c ∧ xss.length ≤ 1099511627776 ∧ (∀ a, A = some a → B ≤ a.block ∧ a.block < E) ∧
    (∀ i, i < xss.length → (∃ b off, A = some ⟨b, off, none⟩ ∧ w.cell? ⟨b, off + i, none⟩ = some (rv i) ∧ (rv i).ownBlock ≠ some b) ∧ OwnInts B E w (rv i) (nth xss i)) ∧
    ∀ i j, i < j → j < xss.length → (rv i).ownBlock ≠ (rv j).ownBlock ∨ (rv i).ownBlock = none

theorem OwnInts.at {B E : Nat} {w : World} {v : Value} {xs : List Int} (h : OwnInts B E w v xs) : IntsAt w v xs := by
  obtain ⟨A, c, rfl, hl, _, hc⟩ := h
  exact ⟨A, c, rfl, by omega, fun i hi => let ⟨b, off, h1, h2, _⟩ := hc i hi; ⟨b, off, h1, h2⟩⟩
theorem OwnRows.at {B E : Nat} {w : World} {v : Value} {xss : List (List Int)} (h : OwnRows B E w v xss) : RowsAt w v xss := by
  obtain ⟨A, c, rv, rfl, hl, _, hc, _⟩ := h
  exact ⟨A, c, rfl, by omega, fun i hi => let ⟨⟨b, off, h1, h2, _⟩, h3⟩ := hc i hi; ⟨b, off, rv i, h1, h2, h3.at⟩⟩
theorem OwnInts.new {B E : Nat} {w w' : World} {v : Value} {xs : List Int} (h : OwnInts B E w v xs) (hw : New w w') : OwnInts B E w' v xs := by
  obtain ⟨A, c, rfl, hl, ha, hc⟩ := h
  refine ⟨A, c, rfl, hl, ha, fun i hi => ?_⟩
  obtain ⟨b, off, hA, hx, hf⟩ := hc i hi
  exact ⟨b, off, hA, hw.cell hx, by rw [hw.frozen hx]; exact hf⟩
theorem OwnRows.new {B E : Nat} {w w' : World} {v : Value} {xss : List (List Int)} (h : OwnRows B E w v xss) (hw : New w w') : OwnRows B E w' v xss := by
  obtain ⟨A, c, rv, rfl, hl, ha, hc, hd⟩ := h
  refine ⟨A, c, rv, rfl, hl, ha, fun i hi => ?_, hd⟩
  obtain ⟨⟨b, off, hA, hx, hb⟩, ho⟩ := hc i hi
  exact ⟨⟨b, off, hA, hw.cell hx, hb⟩, ho.new hw⟩
theorem OwnInts.within {B E B' E' : Nat} {w w' : World} {v : Value} {xs : List Int} (h : OwnInts B E w v xs) (hw : Within B' E' w w') (hd : E ≤ B' ∨ E' ≤ B) : OwnInts B E w' v xs := by
  obtain ⟨A, c, rfl, hl, ha, hc⟩ := h
  refine ⟨A, c, rfl, hl, ha, fun i hi => ?_⟩
  obtain ⟨b, off, hA, hx, hf⟩ := hc i hi
  have hb := ha _ hA
  have ho : b < B' ∨ E' ≤ b := by simp at hb; omega
  refine ⟨b, off, hA, hw.cell hx ho, ?_⟩
  rw [World.frozen?_of_block (w := w) (hw.2.2.2.2 b (World.block_lt_of_cell? w _ hx) ho)]; exact hf
theorem OwnRows.within {B E B' E' : Nat} {w w' : World} {v : Value} {xss : List (List Int)} (h : OwnRows B E w v xss) (hw : Within B' E' w w') (hd : E ≤ B' ∨ E' ≤ B) : OwnRows B E w' v xss := by
  obtain ⟨A, c, rv, rfl, hl, ha, hc, hdd⟩ := h
  refine ⟨A, c, rv, rfl, hl, ha, fun i hi => ?_, hdd⟩
  obtain ⟨⟨b, off, hA, hx, hb⟩, ho⟩ := hc i hi
  have hb' := ha _ hA
  exact ⟨⟨b, off, hA, hw.cell hx (by simp at hb' ⊢; omega), hb⟩, ho.within hw hd⟩
theorem OwnInts.widen {B E B' E' : Nat} {w : World} {v : Value} {xs : List Int} (h : OwnInts B E w v xs) (hB : B' ≤ B) (hE : E ≤ E') : OwnInts B' E' w v xs := by
  obtain ⟨A, c, rfl, hl, ha, hc⟩ := h
  exact ⟨A, c, rfl, hl, fun a e => by have := ha a e; omega, hc⟩
theorem OwnRows.widen {B E B' E' : Nat} {w : World} {v : Value} {xss : List (List Int)} (h : OwnRows B E w v xss) (hB : B' ≤ B) (hE : E ≤ E') : OwnRows B' E' w v xss := by
  obtain ⟨A, c, rv, rfl, hl, ha, hc, hd⟩ := h
  exact ⟨A, c, rv, rfl, hl, fun a e => by have := ha a e; omega, fun i hi => ⟨(hc i hi).1, (hc i hi).2.widen hB hE⟩, hd⟩
theorem OwnInts.block {B E : Nat} {w : World} {v : Value} {xs : List Int} (h : OwnInts B E w v xs) : ∀ b, v.ownBlock = some b → B ≤ b ∧ b < E := by
  obtain ⟨A, c, rfl, hl, ha, hc⟩ := h
  intro b hb
  cases A with
  | none => simp [Value.ownBlock] at hb
  | some a => simp [Value.ownBlock] at hb; subst hb; exact ha a rfl
/-- What append has grown. -/
theorem OwnInts.of_row {B n : Nat} {e : TypeId} {w : World} {v : Value} {xs : List Int} (h : w.ownsRow B e 1 v n (xs.map (Value.int .i64))) (hl : xs.length ≤ 1099511627776) : OwnInts B w.heap.size w v xs := by
  obtain ⟨h1, h2⟩ := h
  simp at h1
  rcases h2 with ⟨rfl, rfl⟩ | ⟨g, cap, cur, rfl, hg, hh, hn, hc, hs, ht⟩
  · have : xs = [] := by simpa using h1
    subst this
    exact ⟨none, 0, rfl, by simp, by simp, by simp⟩
  · subst h1
    have hlt : g < w.heap.size := (Array.getElem?_eq_some_iff.1 hh).1
    refine ⟨_, cap, rfl, hl, fun a e => by cases e; exact ⟨hg, hlt⟩, fun i hi => ⟨g, 0, rfl, ?_, by simp [World.frozen?, hh]⟩⟩
    have : (cur.toList.take (xs.length * 1))[i]? = (xs.map (Value.int .i64))[i]? := by rw [ht]
    simp [World.cell?, hh]
    rw [List.getElem?_take, if_pos (by omega)] at this
    simp [hi] at this
    rw [this, nth_eq xs i hi]
theorem OwnInts.form {B E : Nat} {w : World} {v : Value} {xs : List Int} (h : OwnInts B E w v xs) : ∃ A c, v = .slice A xs.length c := let ⟨A, c, h, _⟩ := h; ⟨A, c, h⟩
theorem OwnRows.form {B E : Nat} {w : World} {v : Value} {xss : List (List Int)} (h : OwnRows B E w v xss) : ∃ A c, v = .slice A xss.length c := let ⟨A, c, _, h, _⟩ := h; ⟨A, c, h⟩
theorem IntsAt.form {w : World} {v : Value} {xs : List Int} (h : IntsAt w v xs) : ∃ A c, v = .slice A xs.length c := let ⟨A, c, h, _⟩ := h; ⟨A, c, h⟩
theorem RowsAt.form {w : World} {v : Value} {xss : List (List Int)} (h : RowsAt w v xss) : ∃ A c, v = .slice A xss.length c := let ⟨A, c, h, _⟩ := h; ⟨A, c, h⟩
theorem grown_setCell (w : World) (a : Addr) (u : Value) : w.grownBy (w.setCell a u) (some a.block) :=
  ⟨rfl, rfl, rfl, by simp [World.setCell], fun k _ hne => Below.heap_setCell _ _ _ _ (fun e => hne (by rw [e]))⟩
theorem grown_refl (w : World) (r : Option Nat) : w.grownBy w r := ⟨rfl, rfl, rfl, Nat.le_refl _, fun _ _ _ => rfl⟩
theorem grown_trans {w w1 w2 : World} {r : Option Nat} (h : w.grownBy w1 r) (k : w1.grownBy w2 r) : w.grownBy w2 r :=
  ⟨k.os.trans h.os, k.tape.trans h.tape, k.output.trans h.output, Nat.le_trans h.size k.size, fun i hi hne => (k.block i (Nat.lt_of_lt_of_le hi h.size) hne).trans (h.block i hi hne)⟩
theorem Within.of_grown {w w' : World} {r : Option Nat} {B E : Nat} (h : w.grownBy w' r) (hr : ∀ b, r = some b → B ≤ b ∧ b < E) : Within B E w w' :=
  ⟨h.os, h.tape, h.output, h.size, fun k hk ho => h.block k hk (fun e => by have := hr k e.symm; omega)⟩
theorem OwnInts.grown {B E : Nat} {w w' : World} {v : Value} {xs : List Int} {r : Option Nat} (h : OwnInts B E w v xs) (hg : w.grownBy w' r) (hne : v.ownBlock ≠ r ∨ v.ownBlock = none) : OwnInts B E w' v xs := by
  obtain ⟨A, c, rfl, hl, ha, hc⟩ := h
  refine ⟨A, c, rfl, hl, ha, fun i hi => ?_⟩
  obtain ⟨b, off, rfl, hx, hf⟩ := hc i hi
  have hn : some b ≠ r := by
    rcases hne with h | h
    · exact h
    · simp [Value.ownBlock] at h
  exact ⟨b, off, rfl, hg.cell hx hn, by rw [World.frozen?_of_block (w := w) (hg.block b (World.block_lt_of_cell? w _ hx) hn)]; exact hf⟩
theorem OwnInts.set {B E b off n c : Nat} {w : World} {xs : List Int} (h : OwnInts B E w (.slice (some ⟨b, off, none⟩) n c) xs) (i : Nat) (hi : i < xs.length) (x : Int) :
    OwnInts B E (w.setCell ⟨b, off + i, none⟩ (.int .i64 x)) (.slice (some ⟨b, off, none⟩) n c) (xs.set i x) := by
  obtain ⟨A, c', e, hl, ha, hc⟩ := h
  cases e
  refine ⟨_, c, by simp, by simpa using hl, ha, fun j hj => ?_⟩
  simp at hj
  obtain ⟨b', off', e, hx, hf⟩ := hc j hj
  cases e
  refine ⟨_, _, rfl, ?_, by simpa using hf⟩
  rw [nth_set xs i j x hi]
  by_cases e : j = i
  · subst e; rw [if_pos rfl]; exact World.cell?_setCell_same _ _ _ hx
  · rw [if_neg e, World.cell?_setCell_other]
    · exact hx
    · intro h; injection h with _ h _; omega

/-- The numbers k, k + 1 and so on, n of them. -/
def iota (k : Int) (n : Nat) : List Int := (List.range n).map fun (i : Nat) => k + (i : Int)
theorem iota_length (k : Int) (n : Nat) : (iota k n).length = n := by simp [iota]
theorem nth_iota (k : Int) (n i : Nat) (h : i < n) : nth (iota k n) i = k + i := by
  rw [nth_eq _ _ (by simpa [iota] using h)]; simp [iota]
theorem iota_step (k : Int) (xs : List Int) (j : Nat) (h : j < xs.length) : (iota k j ++ xs.drop j).set j (k + j) = iota k (j + 1) ++ xs.drop (j + 1) := by
  apply ext_nth
  · simp [iota]; omega
  · intro i hi
    rw [nth_set _ _ _ _ (by simp [iota]; omega)]
    by_cases e : i = j
    · subst e
      rw [if_pos rfl, nth_append_left _ _ _ (by simp [iota]), nth_iota _ _ _ (by omega)]
    · rw [if_neg e]
      unfold nth
      by_cases h2 : i < j
      · simp [iota, List.getElem?_append, h2, show i < j + 1 by omega]
      · simp [iota, List.getElem?_append, h2, show ¬ i < j + 1 by omega, List.getElem?_drop]
        rw [show j + (i - j) = j + 1 + (i - (j + 1)) by omega]
def iotaRows (k : Int) : List (List Int) → List (List Int)
  | [] => []
  | xs :: r => iota k xs.length :: iotaRows (k + xs.length) r
/-- How many numbers the lists hold together. -/
def total : List (List Int) → Nat
  | [] => 0
  | xs :: r => xs.length + total r
theorem total_append (a b : List (List Int)) : total (a ++ b) = total a + total b := by
  induction a with
  | nil => simp [total]
  | cons x r ih => simp [total, ih]; omega
theorem iotaRows_length (k : Int) (xss : List (List Int)) : (iotaRows k xss).length = xss.length := by
  induction xss generalizing k with
  | nil => rfl
  | cons x r ih => simp [iotaRows, ih]
theorem iotaRows_append (k : Int) (a b : List (List Int)) : iotaRows k (a ++ b) = iotaRows k a ++ iotaRows (k + total a) b := by
  induction a generalizing k with
  | nil => simp [iotaRows, total]
  | cons x r ih => simp [iotaRows, total, ih, Int.add_assoc]
theorem nth_iotaRows (k : Int) (xss : List (List Int)) (i : Nat) (h : i < xss.length) : nth (iotaRows k xss) i = iota (k + total (xss.take i)) (nth xss i).length := by
  have e : xss = xss.take i ++ (nth xss i :: xss.drop (i + 1)) := by
    rw [nth_eq xss i h, ← List.drop_eq_getElem_cons h, List.take_append_drop]
  conv => lhs; rw [e, iotaRows_append]
  have hl : (iotaRows k (xss.take i)).length = i := by simp [iotaRows_length]; omega
  have : nth (iotaRows k (xss.take i) ++ iotaRows (k + total (xss.take i)) (nth xss i :: xss.drop (i + 1))) i = nth (iotaRows (k + total (xss.take i)) (nth xss i :: xss.drop (i + 1))) 0 := by
    simp [nth, List.getElem?_append, hl]
  rw [this]; rfl
theorem total_take_succ (xss : List (List Int)) (i : Nat) (h : i < xss.length) : total (xss.take (i + 1)) = total (xss.take i) + (nth xss i).length := by
  rw [take_succ_nth xss i h, total_append]; simp [total]
theorem total_take_le (xss : List (List Int)) (i : Nat) : total (xss.take i) ≤ total xss := by
  have := total_append (xss.take i) (xss.drop i)
  rw [List.take_append_drop] at this; omega
/-- One row of an own list of lists; and what becomes of the whole where this row alone is written. -/
theorem OwnRows.row {B E n c : Nat} {A : Option Addr} {w : World} {xss : List (List Int)} (h : OwnRows B E w (.slice A n c) xss) (i : Nat) (hi : i < xss.length) :
    n = xss.length ∧ ∃ b off rv, A = some ⟨b, off, none⟩ ∧ w.cell? ⟨b, off + i, none⟩ = some rv ∧ OwnInts B E w rv (nth xss i) ∧
      ∀ w' ys, OwnInts B E w' rv ys → w.grownBy w' rv.ownBlock → OwnRows B E w' (.slice A n c) (xss.set i ys) ∧ Within B E w w' := by
  obtain ⟨A', c', rv, e, hl, ha, hc, hd⟩ := h
  cases e
  obtain ⟨⟨b, off, rfl, hx, hb⟩, ho⟩ := hc i hi
  refine ⟨rfl, b, off, rv i, rfl, hx, ho, fun w' ys ho' hg => ⟨⟨_, c, rv, by simp, by simpa using hl, ha, fun j hj => ?_, fun j k hj hk => hd j k hj (by simpa using hk)⟩, Within.of_grown hg (fun g hg => ho.block g hg)⟩⟩
  simp at hj
  obtain ⟨⟨b', off', e, hx', hb'⟩, hoj⟩ := hc j hj
  cases e
  refine ⟨⟨_, _, rfl, hg.cell hx' (Ne.symm hb), hb'⟩, ?_⟩
  rw [nth_set _ _ _ _ hi]
  by_cases e : j = i
  · subst e; rw [if_pos rfl]; exact ho'
  · rw [if_neg e]
    by_cases hn : (rv j).ownBlock = none
    · exact hoj.grown hg (Or.inr hn)
    · refine hoj.grown hg (Or.inl fun heq => ?_)
      rcases Nat.lt_or_gt_of_ne e with h | h
      · rcases hd j i h hi with h1 | h1
        · exact h1 heq
        · exact hn h1
      · rcases hd i j h hj with h1 | h1
        · exact h1 heq.symm
        · exact hn (heq.trans h1)
theorem iotaRows_step (k : Int) (xss : List (List Int)) (j : Nat) (h : j < xss.length) :
    (iotaRows k (xss.take j) ++ xss.drop j).set j (iota (k + total (xss.take j)) (nth xss j).length) = iotaRows k (xss.take (j + 1)) ++ xss.drop (j + 1) := by
  have hl : (iotaRows k (xss.take j)).length = j := by simp [iotaRows_length]; omega
  rw [take_succ_nth xss j h, iotaRows_append]
  rw [List.set_append_right _ _ (by omega), hl, Nat.sub_self, List.drop_eq_getElem_cons h, List.set_cons_zero]
  simp [iotaRows]
theorem New.both {W w1 : World} (hb : New W w1) : (∀ b o, b < W.heap.size → w1.cell? ⟨b, o, none⟩ = W.cell? ⟨b, o, none⟩) ∧ (∀ b o, b < W.heap.size → w1.frozen? ⟨b, o, none⟩ = W.frozen? ⟨b, o, none⟩) :=
  ⟨fun b o h => Below.cell (p := ⟨b, o, none⟩) hb h, fun b o h => Below.frozen (p := ⟨b, o, none⟩) hb h⟩
theorem size_alloc (w : World) (o : Obj) : (w.alloc o).heap.size = w.heap.size + 1 := by simp
theorem size_drew (w : World) : w.drew.heap.size = w.heap.size := rfl
theorem size_drewN (w : World) (n : Nat) : (w.drewN n).heap.size = w.heap.size := rfl
theorem size_setCell (w : World) (a : Addr) (u : Value) : (w.setCell a u).heap.size = w.heap.size := by simp [World.setCell]
theorem sizes : (∀ (w : World) (o : Obj), (w.alloc o).heap.size = w.heap.size + 1) ∧ (∀ w : World, w.drew.heap.size = w.heap.size) ∧ (∀ (w : World) (n : Nat), (w.drewN n).heap.size = w.heap.size) ∧ ∀ (w : World) (a : Addr) (u : Value), (w.setCell a u).heap.size = w.heap.size :=
  ⟨size_alloc, size_drew, size_drewN, size_setCell⟩
theorem Within.refl (B E : Nat) (w : World) : Within B E w w := Within.of_new (New.refl _) _ _
theorem Within.setCell {B E : Nat} {a w : World} (h : Within B E a w) {p : Addr} (hp : B ≤ p.block) (hp2 : p.block < E) (u : Value) : Within B E a (w.setCell p u) :=
  h.trans ⟨rfl, rfl, rfl, by simp [World.setCell], fun k hk ho => Below.heap_setCell _ _ _ _ (by omega)⟩
/-- A function that has a body of its own is entered. -/
theorem enters {P : Program} {f : FuncId} {fn : Func} (hf : P.funcs[f]? = some fn) (hn : fn.name ≠ "runtime.NumGoroutine") (hb : fn.body ≠ none) (args : Array Value) (w : World) :
    Sem.run P (callFunc f args) w = .ok (.enter f args) w := by
  simp [callFunc, hf, hn, hb, go_sem]

/-- A world that has grown: new blocks behind the old ones, another count of draws. -/
structure Ext where
  new : List Obj
  count : Nat
  deriving Inhabited
def ext (W : World) (e : Ext) : World := { W with heap := W.heap ++ e.new.toArray, drawn := e.count }
theorem ext_new (W : World) (e : Ext) : New W (ext W e) :=
  ⟨rfl, rfl, rfl, by simp [ext], fun k hk => by simp only [ext]; rw [Array.getElem?_append_left hk]⟩
theorem ext_of_new {W w : World} (h : New W w) : ∃ e, w = ext W e := by
  refine ⟨⟨w.heap.toList.drop W.heap.size, w.drawn⟩, ?_⟩
  have h1 := h.os
  have h2 := h.tape
  have h3 := h.output
  have h4 := h.size
  have h5 := h.block
  cases w; cases W
  simp only [ext] at *
  subst h1; subst h2; subst h3
  congr 1
  rename_i hp _ _ _ _ HP _
  apply Array.ext'
  simp only [Array.toList_append]
  conv => lhs; rw [← List.take_append_drop HP.size hp.toList]
  congr 1
  apply List.ext_getElem?
  intro i
  rw [List.getElem?_take]
  split
  · rename_i hi
    have := h5 i hi
    simpa using this
  · rename_i hi
    rw [List.getElem?_eq_none (by simpa using Nat.le_of_not_lt hi)]
theorem new_of_ext {W w : World} (h : ∃ e, w = ext W e) : New W w := by obtain ⟨e, rfl⟩ := h; exact ext_new W e
/-- A region that draws its order, and whose operations and callees read old memory and make new: one walk, in the order of the text. -/
theorem wp_region_quiet_new {P : Program} {id : Nat} {Q : Exit → Act → World → Prop} {a : Act} {W : World} {l : List Oper} (hm : P.follows .mixedOrders = true) (hB : Region.lexB .any l.toArray = true)
    (h : wpQuiet P l.toArray (fun w' => ∃ e, w' = ext W e) (fun a' => ∀ w', (∃ e, w' = ext W e) → Q .normal a' w') l a) : (Code.region id l.toArray true).wp P Q a W :=
  wp_region_quiet (C := fun w' => ∃ e, w' = ext W e) hm hB (ext_of_new (New.refl W).drew) (by simpa using h)
theorem quiet_new {P : Program} {f : FuncId} {args : Array Value} {W : World} {e : Ext} {v : Value}
    (h : Calls P f args (ext W e) fun e' w' => e' = .returned v ∧ New (ext W e) w') : Calls P f args (ext W e) fun e' w'' => e' = .returned v ∧ ∃ e2, w'' = ext W e2 :=
  h.mono fun _ _ ⟨he, hw⟩ => ⟨he, ext_of_new ((ext_new W e).trans hw)⟩
theorem quiet_same {P : Program} {f : FuncId} {args : Array Value} {W : World} {e : Ext} {v : Value}
    (h : Calls P f args (ext W e) fun e' w' => e' = .returned v ∧ w' = ext W e) : Calls P f args (ext W e) fun e' w'' => e' = .returned v ∧ ∃ e2, w'' = ext W e2 :=
  h.mono fun _ _ ⟨he, hw⟩ => ⟨he, e, hw⟩
theorem ext_cell {W : World} {p : Addr} {v : Value} (h : W.cell? p = some v) (e : Ext) : (ext W e).cell? p = some v := (ext_new W e).cell h
theorem IntsAt.len {w : World} {A : Option Addr} {n c : Nat} {xs : List Int} (h : IntsAt w (.slice A n c) xs) : n ≤ 9223372036854775807 := by
  obtain ⟨_, _, e, hl, _⟩ := h; cases e; exact hl
theorem RowsAt.len {w : World} {A : Option Addr} {n c : Nat} {xs : List (List Int)} (h : RowsAt w (.slice A n c) xs) : n ≤ 9223372036854775807 := by
  obtain ⟨_, _, e, hl, _⟩ := h; cases e; exact hl
theorem OwnInts.nil (B E : Nat) (w : World) : OwnInts B E w (.slice none 0 0) [] := ⟨none, 0, rfl, by simp, by simp, by simp⟩
theorem OwnInts.none' {B E g c : Nat} (w : World) (hB : B ≤ g) (hE : g < E) : OwnInts B E w (.slice (some ⟨g, 0, none⟩) 0 c) [] :=
  ⟨_, c, rfl, by simp, fun a e => by cases e; exact ⟨hB, hE⟩, by simp⟩
theorem New.of_eq {w w' : World} (h : w' = w) : New w w' := by subst h; exact New.refl _
theorem Within.widen {B E B' E' : Nat} {w w' : World} (h : Within B E w w') (hB : B' ≤ B) (hE : E ≤ E') : Within B' E' w w' :=
  ⟨h.1, h.2.1, h.2.2.1, h.2.2.2.1, fun k hk ho => h.2.2.2.2 k hk (by omega)⟩

end Go.Proofs.Ytcjmcpfdpnakkaa
