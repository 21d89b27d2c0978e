/- What is reached from a start, in memory: the list of the things, and the map of their first words. -/
import Derived.Test.YtcjmcpfdpnakkaaBase
import Derived.Test.YtcjmcpfdpnakkaaApp
import Derived.Test.YtcjmcpfdpnakkaaAppRows
import Derived.Test.YtcjmcpfdpnakkaaMapV
import Derived.Test.YtcjmcpfdpnakkaaAut
import Derived.Test.YtcjmcpfdpnakkaaPlain1
import Derived.Test.YtcjmcpfdpnakkaaPlainBits
import Derived.Test.YtcjmcpfdpnakkaaPlainTour
import Derived.Test.YtcjmcpfdpnakkaaPlainBfs
import Derived.Test.YtcjmcpfdpnakkaaTourV
import Derived.Test.YtcjmcpfdpnakkaaGrow2
import Derived.WalkKit
import Derived.WalkSpells
import Derived.WalkLawsBesides
import Derived.Deep.QuietTactic
import Derived.Deep.OwnRows
import Derived.BigQuiet
import Derived.KernelRfl
import Derived.OwnWalk
import Derived.Maps.AppendAt
namespace Go.Proofs.Ytcjmcpfdpnakkaa
open Go.RowKit

/-- How things lie in memory: the types of a key and of an element, an element's cells, its key. -/
structure BMem (α : Type) where
  K : TypeId
  e : TypeId
  z : Nat
  cells : α → List Value
  val : α → Value
  key : α → Lit
  ok : α → Prop
section
variable {α : Type} [DecidableEq α] [Inhabited α] (M : BMem α)
def BLoop (P : Program) (B : Nat) (w : World) (lv : Value) (mb : Nat) (t : Bfs α) : Prop :=
  ∃ F, ∃ vals : Nat → Value, MapAt P M.K w mb t.list.length F ∧ B ≤ mb ∧ w.ownsRow B M.e M.z lv t.list.length (t.list.flatMap M.cells) ∧
    (∀ i, i < t.list.length → F (M.key (nth t.list i)) = some (vals i) ∧ OwnInts B w.heap.size w (vals i) (nth t.words i) ∧ ApartV (vals i) lv) ∧
    ∀ x, M.ok x → x ∉ t.list → F (M.key x) = none
/-- The word of x is stored; x is not on the list yet. -/
def BPend (P : Program) (B : Nat) (w : World) (lv : Value) (mb : Nat) (t : Bfs α) (x : α) (word : List Int) : Prop :=
  ∃ F, ∃ vals : Nat → Value, ∃ wv, MapAt P M.K w mb (t.list.length + 1) F ∧ B ≤ mb ∧ w.ownsRow B M.e M.z lv t.list.length (t.list.flatMap M.cells) ∧
    (∀ i, i < t.list.length → F (M.key (nth t.list i)) = some (vals i) ∧ OwnInts B w.heap.size w (vals i) (nth t.words i) ∧ ApartV (vals i) lv) ∧
    (F (M.key x) = some wv ∧ OwnInts B w.heap.size w wv word ∧ ApartV wv lv) ∧ ∀ y, M.ok y → y ∉ t.list → y ≠ x → F (M.key y) = none
variable {M} {P : Program}
theorem ownsRow_formZ {B n z : Nat} {e : TypeId} {w : World} {v : Value} {xs : List Value} (h : w.ownsRow B e z v n xs) : ∃ A c, v = .slice A n c := by
  obtain ⟨h1, ⟨rfl, h2⟩ | ⟨g, cap, cur, rfl, _⟩⟩ := h
  · exact ⟨none, 0, by rw [h2]⟩
  · exact ⟨_, _, rfl⟩
theorem ownsRow_cellsZ {B n z : Nat} {e : TypeId} {w : World} {v : Value} {xs : List Value} (h : w.ownsRow B e z v n xs) (i : Nat) (hi : i < xs.length) :
    ∃ b c, v = .slice (some ⟨b, 0, none⟩) n c ∧ B ≤ b ∧ b < w.heap.size ∧ w.cell? ⟨b, i, none⟩ = some (xs[i]) := by
  obtain ⟨h1, h2⟩ := h
  rcases h2 with ⟨rfl, rfl⟩ | ⟨g, cap, cur, rfl, hg, hh, hn, hc, hs, ht⟩
  · simp at h1; subst h1; simp at hi
  · have hlt : g < w.heap.size := (Array.getElem?_eq_some_iff.1 hh).1
    refine ⟨g, cap, rfl, hg, hlt, ?_⟩
    have : (cur.toList.take (n * z))[i]? = xs[i]? := by rw [ht]
    simp [World.cell?, hh]
    rw [List.getElem?_take, if_pos (by omega)] at this
    simpa [hi] using this
omit [DecidableEq α] in
theorem flat_get {cells : α → List Value} {z : Nat} (hz : ∀ x, (cells x).length = z) (l : List α) (i j : Nat) (hi : i < l.length) (hj : j < z) : (l.flatMap cells)[i * z + j]? = (cells (nth l i))[j]? := by
  induction l generalizing i with
  | nil => simp at hi
  | cons x r ih =>
    rw [List.flatMap_cons]
    cases i with
    | zero => rw [Nat.zero_mul, Nat.zero_add, List.getElem?_append_left (by rw [hz]; exact hj)]; rfl
    | succ i =>
      rw [List.getElem?_append_right (by rw [hz, Nat.succ_mul]; omega), hz, show (i + 1) * z + j - z = i * z + j by rw [Nat.succ_mul]; omega]
      exact ih i (by simpa using hi)
omit [DecidableEq α] [Inhabited α] in
theorem flat_len {cells : α → List Value} {z : Nat} (hz : ∀ x, (cells x).length = z) (l : List α) : (l.flatMap cells).length = l.length * z := by
  induction l with
  | nil => simp
  | cons x r ih => rw [List.flatMap_cons, List.length_append, ih, hz, List.length_cons, Nat.succ_mul]; omega
omit [DecidableEq α] in
theorem BLoop.new {B : Nat} {w w' : World} {lv : Value} {mb : Nat} {t : Bfs α} (h : BLoop M P B w lv mb t) (hn : New w w') : BLoop M P B w' lv mb t := by
  obtain ⟨F, vals, h1, h2, h3, h4, h5⟩ := h
  exact ⟨F, vals, h1.new hn, h2, ownsRow_new h3 hn, fun i hi => let ⟨a, b, c⟩ := h4 i hi; ⟨a, (b.new hn).widen (Nat.le_refl _) hn.size, c⟩, h5⟩
omit [DecidableEq α] in
theorem BLoop.form {B : Nat} {w : World} {lv : Value} {mb : Nat} {t : Bfs α} (h : BLoop M P B w lv mb t) : ∃ A c, lv = .slice A t.list.length c := let ⟨_, _, _, _, h3, _⟩ := h; ownsRow_formZ h3
omit [DecidableEq α] in
theorem BLoop.list {B : Nat} {w : World} {lv : Value} {mb : Nat} {t : Bfs α} (h : BLoop M P B w lv mb t) : w.ownsRow B M.e M.z lv t.list.length (t.list.flatMap M.cells) := let ⟨_, _, _, _, h3, _⟩ := h; h3
omit [DecidableEq α] in
theorem BLoop.low {B : Nat} {w : World} {lv : Value} {mb : Nat} {t : Bfs α} (h : BLoop M P B w lv mb t) : B ≤ mb ∧ mb < w.heap.size := let ⟨_, _, h1, h2, _⟩ := h; ⟨h2, h1.lt⟩
omit [DecidableEq α] in
theorem BLoop.cell_ne {B : Nat} {w : World} {lv : Value} {mb : Nat} {t : Bfs α} (h : BLoop M P B w lv mb t) {p : Addr} {v : Value} (hc : w.cell? p = some v) : p.block ≠ mb := let ⟨_, _, h1, _⟩ := h; h1.cell_ne hc
omit [DecidableEq α] in
/-- The k-th thing's cells. -/
theorem BLoop.cell {B : Nat} {w : World} {lv : Value} {mb : Nat} {t : Bfs α} (h : BLoop M P B w lv mb t) (hz : ∀ x, (M.cells x).length = M.z) (k : Nat) (hk : k < t.list.length) (h0 : 0 < M.z) :
    ∃ b c, lv = .slice (some ⟨b, 0, none⟩) t.list.length c ∧ ∀ j u, (M.cells (nth t.list k))[j]? = some u → w.cell? ⟨b, k * M.z + j, none⟩ = some u := by
  have h3 := h.list
  have hlen := flat_len hz t.list
  have hb : ∀ j, j < M.z → k * M.z + j < (t.list.flatMap M.cells).length := fun j hj => by
    rw [hlen]
    have : (k + 1) * M.z ≤ t.list.length * M.z := Nat.mul_le_mul_right _ hk
    rw [Nat.succ_mul] at this; omega
  obtain ⟨b, c, rfl, _, _, _⟩ := ownsRow_cellsZ h3 (k * M.z + 0) (hb 0 h0)
  refine ⟨b, c, rfl, fun j u hj => ?_⟩
  have hjz : j < M.z := by
    rcases Nat.lt_or_ge j M.z with h | h
    · exact h
    · rw [List.getElem?_eq_none (by rw [hz]; exact h)] at hj; cases hj
  obtain ⟨b', c', e, _, _, hc⟩ := ownsRow_cellsZ h3 (k * M.z + j) (hb j hjz)
  cases e
  rw [hc]
  have := flat_get hz t.list k j hk hjz
  rw [hj, List.getElem?_eq_getElem (hb j hjz)] at this
  exact this
theorem BLoop.look {B : Nat} {w : World} {lv : Value} {mb : Nat} {t : Bfs α} (h : BLoop M P B w lv mb t) (Kl : Go.Maps.Keyed P M.K) {T E : TypeId} (ht : P.underlying T = some (.map M.K E)) {zv : Value} (hz : ∀ w, (zeroValue E).run P w = .ok zv w)
    (x : α) (hx : M.ok x) (hkey : keyOf P M.K (M.val x) = some (M.key x)) : ∃ v, (x ∈ t.list → (Instr.lookup T (.map (some mb)) (M.val x) true).run P w = .ok (.tuple #[v, .bool true]) w) ∧ (x ∉ t.list → (Instr.lookup T (.map (some mb)) (M.val x) true).run P w = .ok (.tuple #[v, .bool false]) w) := by
  obtain ⟨F, vals, h1, _, _, h4, h5⟩ := h
  have := (h1.look Kl ht (hz w) hkey).2
  by_cases hm : x ∈ t.list
  · obtain ⟨i, hi, rfl⟩ := mem_nth t.list x hm
    rw [(h4 i hi).1] at this
    exact ⟨vals i, fun _ => this, fun h => absurd (nth_mem t.list i hi) h⟩
  · rw [h5 x hx hm] at this
    exact ⟨zv, fun h => absurd h hm, fun _ => this⟩
omit [DecidableEq α] in
theorem BLoop.word {B : Nat} {w : World} {lv : Value} {mb : Nat} {t : Bfs α} (h : BLoop M P B w lv mb t) (Kl : Go.Maps.Keyed P M.K) {T E : TypeId} (ht : P.underlying T = some (.map M.K E)) {zv : Value} (hz : ∀ w, (zeroValue E).run P w = .ok zv w)
    (i : Nat) (hi : i < t.list.length) (hkey : keyOf P M.K (M.val (nth t.list i)) = some (M.key (nth t.list i))) :
    ∃ A c, OwnInts B w.heap.size w (.slice A (nth t.words i).length c) (nth t.words i) ∧ ∀ w', New w w' → (Instr.lookup T (.map (some mb)) (M.val (nth t.list i)) false).run P w' = .ok (.slice A (nth t.words i).length c) w' := by
  obtain ⟨F, vals, h1, _, _, h4, h5⟩ := h
  obtain ⟨A, c, hf⟩ := (h4 i hi).2.1.form
  refine ⟨A, c, hf ▸ (h4 i hi).2.1, fun w' hn => ?_⟩
  have := ((h1.new hn).look Kl ht (hz w') hkey).1
  rw [(h4 i hi).1] at this
  rw [← hf]; exact this
omit [DecidableEq α] in
/-- A new word is stored. -/
theorem BLoop.put {B : Nat} {w0 w2 : World} {lv wv : Value} {mb : Nat} {t : Bfs α} {word : List Int} (h : BLoop M P B w0 lv mb t) (hn : New w0 w2) (hw : OwnInts w0.heap.size w2.heap.size w2 wv word) (hB : B ≤ w0.heap.size)
    (Kl : Go.Maps.Keyed P M.K) {T E : TypeId} (ht : P.underlying T = some (.map M.K E)) (hinj : ∀ x y, M.ok x → M.ok y → M.key x = M.key y → x = y) (hall : ∀ x, x ∈ t.list → M.ok x) (x : α) (hok : M.ok x) (hkey : keyOf P M.K (M.val x) = some (M.key x)) (hx : x ∉ t.list) (hl : t.list.length < 1099511627776) :
    ∃ w3, (Instr.mapUpdate T (.map (some mb)) (M.val x) wv).run P w2 = .ok () w3 ∧ w2.grownBy w3 (some mb) ∧ BPend M P B w3 lv mb t x word := by
  obtain ⟨F, vals, h1, h2, h3, h4, h5⟩ := h
  have h1' := h1.new hn
  obtain ⟨w3, r1, r2, r3⟩ := h1'.put_spec (val := wv) Kl ht (by unfold maxLen; omega) hkey
  rw [h5 x hok hx] at r2
  simp only [Option.isSome_none, Bool.false_eq_true, if_false] at r2
  have hs := r3.size
  have hb3 := World.ownsRow.lt h3
  refine ⟨w3, r1, r3, putF F (M.key x) wv, vals, wv, r2, h2, h1'.ownsRow r3 (ownsRow_new h3 hn), fun i hi => ?_, ⟨?_, ?_, ?_⟩, fun y hoy hy hyx => ?_⟩
  · obtain ⟨a, b, c⟩ := h4 i hi
    refine ⟨?_, (h1'.ownInts r3 (b.new hn)).widen (Nat.le_refl _) (by have := hn.size; omega), c⟩
    unfold putF
    rw [if_neg]
    · exact a
    · intro e
      have := hinj _ _ (hall _ (nth_mem _ _ hi)) hok e
      exact hx (this ▸ nth_mem _ _ hi)
  · unfold putF; rw [if_pos rfl]
  · exact (h1'.ownInts r3 hw).widen hB hs
  · exact ApartV.of_lt (fun k hk => (hw.block k hk).1) (fun k hk => (hb3 k hk).2)
  · unfold putF
    rw [if_neg]
    · exact h5 y hoy hy
    · intro e
      exact hyx (hinj _ _ hoy hok e)
omit [DecidableEq α] in
theorem BPend.list {B : Nat} {w : World} {lv : Value} {mb : Nat} {t : Bfs α} {x : α} {word : List Int} (h : BPend M P B w lv mb t x word) : w.ownsRow B M.e M.z lv t.list.length (t.list.flatMap M.cells) := let ⟨_, _, _, _, _, h3, _⟩ := h; h3
omit [DecidableEq α] in
theorem BPend.new {B : Nat} {w w' : World} {lv : Value} {mb : Nat} {t : Bfs α} {x : α} {word : List Int} (h : BPend M P B w lv mb t x word) (hn : New w w') : BPend M P B w' lv mb t x word := by
  obtain ⟨F, vals, wv, h1, h2, h3, h4, ⟨q1, q2, q3⟩, h5⟩ := h
  exact ⟨F, vals, wv, h1.new hn, h2, ownsRow_new h3 hn, fun i hi => let ⟨a, b, c⟩ := h4 i hi; ⟨a, (b.new hn).widen (Nat.le_refl _) hn.size, c⟩, ⟨q1, (q2.new hn).widen (Nat.le_refl _) hn.size, q3⟩, h5⟩
omit [DecidableEq α] in
/-- The new thing is appended to the list. -/
theorem BPend.app {B : Nat} {w3 w4 : World} {lv : Value} {mb : Nat} {t : Bfs α} {x : α} {word : List Int} {g cap : Nat} (h : BPend M P B w3 lv mb t x word) (hw : t.words.length = t.list.length) (_hx : x ∉ t.list)
    (ho : w4.ownsRow B M.e M.z (.slice (some ⟨g, 0, none⟩) (t.list.length + 1) cap) (t.list.length + 1) (t.list.flatMap M.cells ++ M.cells x)) (hg : w3.grownBy w4 lv.ownBlock) (hloc : lv.ownBlock = some g ∨ w3.heap.size ≤ g) :
    BLoop M P B w4 (.slice (some ⟨g, 0, none⟩) (t.list.length + 1) cap) mb ⟨t.list ++ [x], t.words ++ [word]⟩ := by
  obtain ⟨F, vals, wv, h1, h2, h3, h4, ⟨q1, q2, q3⟩, h6⟩ := h
  have hs := hg.size
  have hmb : some mb ≠ lv.ownBlock := by
    intro e1
    obtain ⟨D, ⟨es, clock, k1, _⟩, _⟩ := h1
    obtain ⟨_, k2⟩ := h3
    rcases k2 with ⟨rfl, _⟩ | ⟨g', cap', cur, rfl, _, hh, _⟩
    · simp [Value.ownBlock] at e1
    · simp [Value.ownBlock] at e1
      rw [e1, hh] at k1; cases k1
  have keep : ∀ v xs, OwnInts B w3.heap.size w3 v xs → ApartV v lv → OwnInts B w4.heap.size w4 v xs ∧ ApartV v (.slice (some ⟨g, 0, none⟩) (t.list.length + 1) cap) := fun v xs hv hd =>
    ⟨(hv.grown hg hd).widen (Nat.le_refl _) hs, hd.frame (fun k hk => (hv.block k hk).2) hloc⟩
  refine ⟨F, fun i => if i < t.list.length then vals i else wv, ?_, h2, ?_, fun i hi => ?_, fun y hoy hy => ?_⟩
  · have := h1.kept hg hmb
    simpa using this
  · rw [List.flatMap_append]
    simpa using ho
  · simp at hi
    by_cases e : i < t.list.length
    · simp only [if_pos e]
      rw [nth_append_left _ _ _ e, nth_append_left _ _ _ (by rw [hw]; exact e)]
      obtain ⟨a, b, c⟩ := h4 i e
      obtain ⟨k1, k2⟩ := keep _ _ b c
      exact ⟨a, k1, k2⟩
    · have ei : i = t.list.length := by omega
      subst ei
      simp only [if_neg (Nat.lt_irrefl _)]
      rw [nth_append_here]
      have e2 : nth (t.words ++ [word]) t.list.length = word := by rw [← hw, nth_append_here]
      rw [e2]
      obtain ⟨k1, k2⟩ := keep _ _ q2 q3
      exact ⟨q1, k1, k2⟩
  · simp at hy
    exact h6 y hoy hy.1 hy.2
omit [DecidableEq α] in
/-- The start: one thing, with the empty word. -/
theorem BLoop.start {B : Nat} {w : World} {lv wv : Value} {mb : Nat} {x : α} {F : Lit → Option Value} (hm : MapAt P M.K w mb 1 F) (hB : B ≤ mb) (hl : w.ownsRow B M.e M.z lv 1 (M.cells x)) (hF : F (M.key x) = some wv) (hw : OwnInts B w.heap.size w wv []) (ha : ApartV wv lv)
    (hn : ∀ y, M.ok y → y ≠ x → F (M.key y) = none) : BLoop M P B w lv mb (bStart x) := by
  refine ⟨F, fun _ => wv, hm, hB, by simpa [bStart] using hl, fun i hi => ?_, fun y hoy hy => hn y hoy (by simpa [bStart] using hy)⟩
  have : i = 0 := by simpa [bStart] using hi
  subst this
  exact ⟨hF, hw, ha⟩
end
section
variable {P : Program}
theorem cells_new (w : World) (zs : List Value) (T : TypeId) (j : Nat) (u : Value) (h : zs[j]? = some u) : (w.alloc (.cells zs.toArray T)).cell? ((⟨w.heap.size, 0, none⟩ : Addr).add j) = some u := by
  have e : (⟨w.heap.size, 0, none⟩ : Addr).add j = ⟨w.heap.size, j, none⟩ := by
    unfold Addr.add
    split
    · rename_i h; subst h; rfl
    · simp
  rw [e]
  unfold World.cell?
  rw [heap_alloc_new]
  simpa using h
/-- 'append(out, z)', z of so many cells, to an own row. -/
theorem wpList_appC {ops : Array Oper} {rest : List Oper} {o : Oper} {a : Act} {Q : Exit → Act → World → Prop} {w1 : World} {T : TypeId} {zs : List Value} (hg : o.guard = none) (s x : Operand) (t : TypeId)
    (ho : o.op = .call { callee := .builtin .append, args := #[s, x], argTypes := #[t, t] }) {B : Nat} {e : TypeId} (ht : P.underlying t = some (.slice e)) {z0 : Value} {size bytes : Nat}
    (hinfo : (P.info? e).map (fun i => (i.zero, i.size, i.bytes)) = some (some z0, size, bytes)) (hz0' : z0.cells.size = size) (hsz : 0 < size) (hb : bytes ≤ 64) (hzl : zs.length = size) (hz : ∀ u ∈ zs, u.oneCell' = true) (v : Value) (n : Nat) (xs : List Value) (hs : a.eval s = v) (hown : w1.ownsRow B e size v n xs)
    (hx : a.eval x = .slice (some ⟨w1.heap.size, 0, none⟩) 1 1) (hlen : n < 1099511627776) (hB : B ≤ w1.heap.size)
    (h : ∀ g cap w', w'.ownsRow B e size (.slice (some ⟨g, 0, none⟩) (n + 1) cap) (n + 1) (xs ++ zs) → w1.grownBy w' v.ownBlock → (v.ownBlock = some g ∨ w1.heap.size < g) → wpList P ops Q rest (a.put o.dst (.slice (some ⟨g, 0, none⟩) (n + 1) cap)) w') :
    wpList P ops Q (o :: rest) a (w1.alloc (.cells zs.toArray T)) := by
  obtain ⟨i0, hi, hz0, hz1, hz2⟩ := info_parts hinfo
  refine wpList_append_own_at _ hg s x t ho B e i0 z0 size bytes ht hi hz0 hz1 hz2 hz0' hsz v n _ hs (World.ownsRow.alloc hown _) ⟨w1.heap.size, 0, none⟩ 1 1 zs hx (by rw [Nat.one_mul]; exact hzl) (fun j u hj => cells_new w1 zs T j u hj) hz (by unfold maxLen; omega) ?_ (by simp; omega) ?_
  · have : (n + 1) * bytes ≤ 1099511627776 * 64 := Nat.mul_le_mul (by omega) hb
    omega
  · intro v' w' hown' hgrow hnil hloc
    have hgr : w1.grownBy w' v.ownBlock := grown_trans (World.grownBy_alloc _ _ _) hgrow
    obtain ⟨h1, ⟨rfl, h2⟩ | ⟨g, cap, cur, rfl, _⟩⟩ := id hown'
    · omega
    · refine h g cap w' hown' hgr ?_
      rcases hloc with h | h
      · exact Or.inl h.symm
      · right
        simp [Value.ownBlock] at h
        omega
end
section
variable {α : Type} [DecidableEq α] [Inhabited α] {M : BMem α} {P : Program}
/-- A list of one thing, just made. -/
theorem ownsRow_startZ {B : Nat} {e : TypeId} {w : World} {zs : List Value} (h : B ≤ w.heap.size) (_hz : 0 < zs.length) : (w.alloc (.cells zs.toArray e)).ownsRow B e zs.length (.slice (some ⟨w.heap.size, 0, none⟩) 1 1) 1 zs :=
  ⟨by simp, .inr ⟨w.heap.size, 1, zs.toArray, rfl, h, heap_alloc_new w _, Nat.le_refl _, by decide, by simp, by simp⟩⟩
omit [DecidableEq α] in
/-- The start's word is put into an empty map. -/
theorem BLoop.begin {B mb : Nat} {wb : World} {wv : Value} (x : α) (hM : MapAt P M.K wb mb 0 (fun _ => none)) (hB : B ≤ mb) (hv : OwnInts B wb.heap.size wb wv []) (Kl : Go.Maps.Keyed P M.K) {T E : TypeId} (ht : P.underlying T = some (.map M.K E))
    (hinj : ∀ x y, M.ok x → M.ok y → M.key x = M.key y → x = y) (hok : M.ok x) (hkey : keyOf P M.K (M.val x) = some (M.key x)) :
    ∃ w5, (Instr.mapUpdate T (.map (some mb)) (M.val x) wv).run P wb = .ok () w5 ∧ wb.grownBy w5 (some mb) ∧ (∀ {B' n z : Nat} {e : TypeId} {v : Value} {xs : List Value}, wb.ownsRow B' e z v n xs → w5.ownsRow B' e z v n xs) ∧
      ∀ (wf : World) (lv : Value), New w5 wf → wf.ownsRow B M.e M.z lv 1 (M.cells x) → ApartV wv lv → BLoop M P B wf lv mb (bStart x) := by
  obtain ⟨w5, r1, r2, r3⟩ := hM.put_spec (val := wv) Kl ht (by decide) hkey
  simp only [Option.isSome_none, Bool.false_eq_true, if_false, Nat.zero_add] at r2
  refine ⟨w5, r1, r3, fun h => hM.ownsRow r3 h, fun wf lv hn hl ha => ?_⟩
  refine BLoop.start (F := putF (fun _ => none) (M.key x) wv) (r2.new hn) hB hl (by unfold putF; rw [if_pos rfl]) (((hM.ownInts r3 hv).new hn).widen (Nat.le_refl _) (Nat.le_trans r3.size hn.size)) ha (fun y hoy hy => ?_)
  unfold putF
  rw [if_neg]
  intro e
  exact hy (hinj _ _ hoy hok e)
end

end Go.Proofs.Ytcjmcpfdpnakkaa
