/- A tour in memory: the list of its sets, and the map of their first words. -/
import Derived.Test.YtcjmcpfdpnakkaaBase
import Derived.Test.YtcjmcpfdpnakkaaApp
import Derived.Test.YtcjmcpfdpnakkaaAppRows
import Derived.Test.YtcjmcpfdpnakkaaMapV
import Derived.Test.YtcjmcpfdpnakkaaAut
import Derived.Test.YtcjmcpfdpnakkaaPlain1
import Derived.Test.YtcjmcpfdpnakkaaPlainBits
import Derived.Test.YtcjmcpfdpnakkaaPlainTour
import Derived.WalkKit
import Derived.WalkSpells
import Derived.WalkLawsBesides
import Derived.Deep.QuietTactic
import Derived.Deep.OwnRows
import Derived.BigQuiet
import Derived.KernelRfl
namespace Go.Proofs.Ytcjmcpfdpnakkaa
open Go.RowKit

/-- A list of numbers of a kind under construction. -/
def GrowK (q : IntKind) (B : Nat) (e : TypeId) (w : World) (v : Value) (xs : List Nat) : Prop := w.ownsRow B e 1 v xs.length (xs.map fun (x : Nat) => Value.int q (x : Int))
def NatsAt (q : IntKind) (w : World) (v : Value) (xs : List Nat) : Prop :=
  ∃ A c, v = .slice A xs.length c ∧ xs.length ≤ 1099511627776 ∧ ∀ i, i < xs.length → ∃ b off, A = some ⟨b, off, none⟩ ∧ w.cell? ⟨b, off + i, none⟩ = some (.int q (nth xs i : Nat))
theorem NatsAt.new {q : IntKind} {w w' : World} {v : Value} {xs : List Nat} (h : NatsAt q w v xs) (hw : New w w') : NatsAt q w' v xs := by
  obtain ⟨A, c, rfl, hl, hc⟩ := h
  refine ⟨A, c, rfl, hl, fun i hi => ?_⟩
  obtain ⟨b, off, hA, hx⟩ := hc i hi
  exact ⟨b, off, hA, hw.cell hx⟩
theorem NatsAt.form {q : IntKind} {w : World} {v : Value} {xs : List Nat} (h : NatsAt q w v xs) : ∃ A c, v = .slice A xs.length c := let ⟨A, c, h, _⟩ := h; ⟨A, c, h⟩
theorem GrowK.at {q : IntKind} {B : Nat} {e : TypeId} {w : World} {v : Value} {xs : List Nat} (h : GrowK q B e w v xs) (hl : xs.length ≤ 1099511627776) : NatsAt q w v xs := by
  obtain ⟨A, c, rfl⟩ := ownsRow_form h
  refine ⟨A, c, rfl, hl, fun i hi => ?_⟩
  obtain ⟨b, hb, ⟨c', e⟩, hB, hlt, hc, _⟩ := ownsRow_cells h i (by simpa using hi)
  cases e
  refine ⟨b, 0, rfl, ?_⟩
  rw [Nat.zero_add, hc, nth_eq xs i hi]; simp
theorem GrowK.new {q : IntKind} {B : Nat} {e : TypeId} {w w' : World} {v : Value} {xs : List Nat} (h : GrowK q B e w v xs) (hw : New w w') : GrowK q B e w' v xs := ownsRow_new h hw
theorem GrowK.form {q : IntKind} {B : Nat} {e : TypeId} {w : World} {v : Value} {xs : List Nat} (h : GrowK q B e w v xs) : ∃ A c, v = .slice A xs.length c := ownsRow_form h
theorem GrowK.block {q : IntKind} {B : Nat} {e : TypeId} {w : World} {v : Value} {xs : List Nat} (h : GrowK q B e w v xs) : ∀ k, v.ownBlock = some k → B ≤ k ∧ k < w.heap.size := World.ownsRow.lt h
theorem ownsRow_grown {w w' : World} {B n : Nat} {e : TypeId} {size : Nat} {v : Value} {xs : List Value} {r : Option Nat} (h : w.ownsRow B e size v n xs) (hg : w.grownBy w' r) (hne : v.ownBlock ≠ r ∨ v.ownBlock = none) : w'.ownsRow B e size v n xs := by
  obtain ⟨h1, h2⟩ := h
  refine ⟨h1, ?_⟩
  rcases h2 with h2 | ⟨g, cap, cur, rfl, hgB, hh, rr⟩
  · exact Or.inl h2
  · refine Or.inr ⟨g, cap, cur, rfl, hgB, ?_, rr⟩
    rw [hg.block g (Array.getElem?_eq_some_iff.1 hh).1]
    · exact hh
    · rcases hne with h | h
      · exact h
      · simp [Value.ownBlock] at h
/-- A list of one number. -/
theorem GrowK.one (q : IntKind) (B : Nat) (e : TypeId) (w : World) (x : Nat) (h : B ≤ w.heap.size) : GrowK q B e (w.alloc (.cells #[.int q x] e)) (.slice (some ⟨w.heap.size, 0, none⟩) 1 1) [x] :=
  ⟨rfl, .inr ⟨w.heap.size, 1, #[.int q x], rfl, h, heap_alloc_new w _, Nat.le_refl _, by decide, rfl, rfl⟩⟩
/-- The tour's parts, while they are built; bx is the box that holds them. -/
def TLoop (P : Program) (K e : TypeId) (B bx : Nat) (w : World) (lv : Value) (mb : Nat) (t : Tour) : Prop :=
  ∃ F, ∃ vals : Nat → Value, MapAt P K w mb t.sets.length F ∧ mb ≠ bx ∧ B ≤ mb ∧ GrowK .u64 B e w lv t.sets ∧ lv.ownBlock ≠ some bx ∧
    (∀ i, i < t.sets.length → F (.int .u64 (nth t.sets i : Nat)) = some (vals i) ∧ OwnInts B w.heap.size w (vals i) (nth t.words i) ∧ ((vals i).ownBlock ≠ lv.ownBlock ∨ (vals i).ownBlock = none) ∧ (vals i).ownBlock ≠ some bx) ∧
    ∀ x : Nat, x ∉ t.sets → F (.int .u64 (x : Nat)) = none
theorem TLoop.new {P : Program} {K e : TypeId} {B bx : Nat} {w w' : World} {lv : Value} {mb : Nat} {t : Tour} (h : TLoop P K e B bx w lv mb t) (hn : New w w') : TLoop P K e B bx w' lv mb t := by
  obtain ⟨F, vals, h1, h2, h2', h3, h4, h5, h6⟩ := h
  exact ⟨F, vals, h1.new hn, h2, h2', h3.new hn, h4, fun i hi => let ⟨a, b, c, d⟩ := h5 i hi; ⟨a, (b.new hn).widen (Nat.le_refl _) hn.size, c, d⟩, h6⟩
theorem TLoop.box {P : Program} {K e : TypeId} {B bx : Nat} {w w' : World} {lv : Value} {mb : Nat} {t : Tour} (h : TLoop P K e B bx w lv mb t) (hg : w.grownBy w' (some bx)) : TLoop P K e B bx w' lv mb t := by
  obtain ⟨F, vals, h1, h2, h2', h3, h4, h5, h6⟩ := h
  have hs := hg.size
  exact ⟨F, vals, h1.kept hg (by simpa using h2), h2, h2', ownsRow_grown h3 hg (Or.inl h4), h4, fun i hi => let ⟨a, b, c, d⟩ := h5 i hi; ⟨a, (b.grown hg (Or.inl d)).widen (Nat.le_refl _) hs, c, d⟩, h6⟩
/-- The map's word at a set. -/
theorem TLoop.look {P : Program} {K e : TypeId} {B bx : Nat} {w : World} {lv : Value} {mb : Nat} {t : Tour} (h : TLoop P K e B bx w lv mb t) (Kl : Go.Maps.Keyed P K) {T E : TypeId} (ht : P.underlying T = some (.map K E)) {z : Value} (hz : ∀ w, (zeroValue E).run P w = .ok z w)
    (hkey : ∀ x : Nat, x < 1024 → keyOf P K (.int .u64 (x : Nat)) = some (.int .u64 (x : Nat))) (x : Nat) (hx : x < 1024) :
    ∃ v, (Instr.lookup T (.map (some mb)) (.int .u64 (x : Nat)) true).run P w = .ok (.tuple #[v, .bool (t.sets.contains x)]) w := by
  obtain ⟨F, vals, h1, _, _, _, _, h5, h6⟩ := h
  have := (h1.look Kl ht (hz w) (hkey x hx)).2
  by_cases hm : x ∈ t.sets
  · obtain ⟨i, hi, rfl⟩ := mem_nth t.sets x hm
    rw [(h5 i hi).1] at this
    exact ⟨vals i, by rw [this]; simp [nth_mem t.sets i hi]⟩
  · rw [h6 x hm] at this
    exact ⟨z, by rw [this]; simp [hm]⟩
theorem TLoop.at {P : Program} {K e : TypeId} {B bx : Nat} {w : World} {lv : Value} {mb : Nat} {t : Tour} (h : TLoop P K e B bx w lv mb t) (Kl : Go.Maps.Keyed P K) {T E : TypeId} (ht : P.underlying T = some (.map K E)) {z : Value} (hz : ∀ w, (zeroValue E).run P w = .ok z w)
    (hkey : ∀ x : Nat, x < 1024 → keyOf P K (.int .u64 (x : Nat)) = some (.int .u64 (x : Nat))) (i : Nat) (hi : i < t.sets.length) (hx : nth t.sets i < 1024) :
    ∃ v, (Instr.lookup T (.map (some mb)) (.int .u64 (nth t.sets i : Nat)) false).run P w = .ok v w ∧ OwnInts B w.heap.size w v (nth t.words i) := by
  obtain ⟨F, vals, h1, _, _, _, _, h5, h6⟩ := h
  have := (h1.look Kl ht (hz w) (hkey _ hx)).1
  rw [(h5 i hi).1] at this
  exact ⟨vals i, this, (h5 i hi).2.1⟩
/-- The word of the set x is stored; x is not on the list yet. -/
def TPend (P : Program) (K e : TypeId) (B bx : Nat) (w : World) (lv : Value) (mb : Nat) (t : Tour) (x : Nat) (word : List Int) : Prop :=
  ∃ F, ∃ vals : Nat → Value, ∃ wv, MapAt P K w mb (t.sets.length + 1) F ∧ mb ≠ bx ∧ B ≤ mb ∧ GrowK .u64 B e w lv t.sets ∧ lv.ownBlock ≠ some bx ∧
    (∀ i, i < t.sets.length → F (.int .u64 (nth t.sets i : Nat)) = some (vals i) ∧ OwnInts B w.heap.size w (vals i) (nth t.words i) ∧ ((vals i).ownBlock ≠ lv.ownBlock ∨ (vals i).ownBlock = none) ∧ (vals i).ownBlock ≠ some bx) ∧
    (F (.int .u64 (x : Nat)) = some wv ∧ OwnInts B w.heap.size w wv word ∧ (wv.ownBlock ≠ lv.ownBlock ∨ wv.ownBlock = none) ∧ wv.ownBlock ≠ some bx) ∧
    ∀ y : Nat, y ∉ t.sets → y ≠ x → F (.int .u64 (y : Nat)) = none
theorem TPend.new {P : Program} {K e : TypeId} {B bx : Nat} {w w' : World} {lv : Value} {mb : Nat} {t : Tour} {x : Nat} {word : List Int} (h : TPend P K e B bx w lv mb t x word) (hn : New w w') : TPend P K e B bx w' lv mb t x word := by
  obtain ⟨F, vals, wv, h1, h2, h2', h3, h4, h5, ⟨q1, q2, q3, q4⟩, h6⟩ := h
  exact ⟨F, vals, wv, h1.new hn, h2, h2', h3.new hn, h4, fun i hi => let ⟨a, b, c, d⟩ := h5 i hi; ⟨a, (b.new hn).widen (Nat.le_refl _) hn.size, c, d⟩, ⟨q1, (q2.new hn).widen (Nat.le_refl _) hn.size, q3, q4⟩, h6⟩
theorem TPend.form {P : Program} {K e : TypeId} {B bx : Nat} {w : World} {lv : Value} {mb : Nat} {t : Tour} {x : Nat} {word : List Int} (h : TPend P K e B bx w lv mb t x word) : ∃ A c, lv = .slice A t.sets.length c :=
  let ⟨_, _, _, _, _, _, h3, _⟩ := h; h3.form
theorem TLoop.form {P : Program} {K e : TypeId} {B bx : Nat} {w : World} {lv : Value} {mb : Nat} {t : Tour} (h : TLoop P K e B bx w lv mb t) : ∃ A c, lv = .slice A t.sets.length c :=
  let ⟨_, _, _, _, _, h3, _⟩ := h; h3.form
theorem TLoop.nats {P : Program} {K e : TypeId} {B bx : Nat} {w : World} {lv : Value} {mb : Nat} {t : Tour} (h : TLoop P K e B bx w lv mb t) (hl : t.sets.length ≤ 1099511627776) : NatsAt .u64 w lv t.sets :=
  let ⟨_, _, _, _, _, h3, _⟩ := h; h3.at hl
/-- A new word is stored. -/
theorem TLoop.put {P : Program} {K e : TypeId} {B bx : Nat} {w0 w2 : World} {lv wv : Value} {mb : Nat} {t : Tour} {word : List Int} (h : TLoop P K e B bx w0 lv mb t) (hn : New w0 w2) (hw : OwnInts w0.heap.size w2.heap.size w2 wv word) (hB : B ≤ w0.heap.size) (hbx : bx < w0.heap.size)
    (Kl : Go.Maps.Keyed P K) {T E : TypeId} (ht : P.underlying T = some (.map K E)) {z : Value} (hz : ∀ w, (zeroValue E).run P w = .ok z w) (hkeys : ∀ x : Nat, x < 1024 → keyOf P K (.int .u64 (x : Nat)) = some (.int .u64 (x : Nat))) (x : Nat) (hx10 : x < 1024) (hx : x ∉ t.sets) (hl : t.sets.length < 1099511627776) :
    ∃ w3, (Instr.mapUpdate T (.map (some mb)) (.int .u64 (x : Nat)) wv).run P w2 = .ok () w3 ∧ w2.grownBy w3 (some mb) ∧ TPend P K e B bx w3 lv mb t x word ∧
      ∀ (y : Nat) v, y < 1024 → y ≠ x → (Instr.lookup T (.map (some mb)) (.int .u64 (y : Nat)) false).run P w2 = .ok v w2 → (Instr.lookup T (.map (some mb)) (.int .u64 (y : Nat)) false).run P w3 = .ok v w3 := by
  have hkey := hkeys x hx10
  obtain ⟨F, vals, h1, h2, h2', h3, h4, h5, h6⟩ := h
  have h1' := h1.new hn
  obtain ⟨w3, r1, r2, r3⟩ := h1'.put_spec (val := wv) Kl ht (by unfold maxLen; omega) hkey
  rw [h6 x hx] at r2
  simp only [Option.isSome_none, Bool.false_eq_true, if_false] at r2
  have hs := r3.size
  have hwb := hw.block
  refine ⟨w3, r1, r3, ⟨putF F (.int .u64 (x : Nat)) wv, vals, wv, r2, h2, h2', h1'.ownsRow r3 (h3.new hn), h4, fun i hi => ?_, ⟨?_, ?_, ?_, ?_⟩, fun y hy hyx => ?_⟩, fun y v hy10 hyx hlk => ?_⟩
  · obtain ⟨a, b, c, d⟩ := h5 i hi
    refine ⟨?_, (h1'.ownInts r3 (b.new hn)).widen (Nat.le_refl _) (by have := hn.size; omega), c, d⟩
    unfold putF
    rw [if_neg]
    · exact a
    · intro e
      injection e with _ e
      have : nth t.sets i = x := by exact_mod_cast e
      exact hx (this ▸ nth_mem _ _ hi)
  · unfold putF; rw [if_pos rfl]
  · exact (h1'.ownInts r3 hw).widen hB hs
  · cases e1 : wv.ownBlock with
    | none => exact Or.inr rfl
    | some k =>
      left
      intro e2
      have a1 := hwb k e1
      have a2 := h3.block k e2.symm
      omega
  · intro e1
    have := hwb bx e1
    omega
  · unfold putF
    rw [if_neg]
    · exact h6 y hy
    · intro e
      injection e with _ e
      exact hyx (by exact_mod_cast e)
  · have k1 := (h1'.look Kl ht (hz w2) (hkeys y hy10)).1
    have k2 := (r2.look Kl ht (hz w3) (hkeys y hy10)).1
    rw [hlk] at k1
    injection k1 with k1
    have e1 : putF F (.int .u64 (x : Nat)) wv (.int .u64 (y : Nat)) = F (.int .u64 (y : Nat)) := by
      unfold putF
      rw [if_neg]
      intro e
      injection e with _ e
      exact hyx (by exact_mod_cast e)
    rw [k2, e1, k1]
/-- The new set is appended to the list. -/
theorem TPend.app {P : Program} {K e : TypeId} {B bx : Nat} {w3 w4 : World} {lv : Value} {mb : Nat} {t : Tour} {x : Nat} {word : List Int} {bef let' : List Int} {g cap : Nat} (h : TPend P K e B bx w3 lv mb t x word) (hw : t.words.length = t.sets.length) (_hx : x ∉ t.sets) (hbx : bx < w3.heap.size)
    (ho : w4.ownsRow B e 1 (.slice (some ⟨g, 0, none⟩) (t.sets.length + 1) cap) (t.sets.length + 1) ((t.sets.map fun (y : Nat) => Value.int .u64 (y : Int)) ++ [.int .u64 (x : Nat)])) (hg : w3.grownBy w4 lv.ownBlock) (hloc : lv.ownBlock = some g ∨ w3.heap.size ≤ g) :
    TLoop P K e B bx w4 (.slice (some ⟨g, 0, none⟩) (t.sets.length + 1) cap) mb ⟨t.sets ++ [x], t.words ++ [word], bef, let'⟩ := by
  obtain ⟨F, vals, wv, h1, h2, h2', h3, h4, h5, ⟨q1, q2, q3, q4⟩, h6⟩ := h
  have hs := hg.size
  have hmb : some mb ≠ lv.ownBlock := by
    intro e1
    obtain ⟨D, ⟨es, clock, k1, _⟩, _⟩ := h1
    obtain ⟨_, k2⟩ := h3
    rcases k2 with ⟨rfl, _⟩ | ⟨g', cap', cur, rfl, _, hh, _⟩
    · simp [Value.ownBlock] at e1
    · simp [Value.ownBlock] at e1
      rw [e1, hh] at k1; cases k1
  have keep : ∀ v xs, OwnInts B w3.heap.size w3 v xs → (v.ownBlock ≠ lv.ownBlock ∨ v.ownBlock = none) → OwnInts B w4.heap.size w4 v xs ∧ (v.ownBlock ≠ (Value.slice (some ⟨g, 0, none⟩) (t.sets.length + 1) cap).ownBlock ∨ v.ownBlock = none) := by
    intro v xs hv hd
    refine ⟨(hv.grown hg hd).widen (Nat.le_refl _) hs, ?_⟩
    cases e1 : v.ownBlock with
    | none => exact Or.inr rfl
    | some k =>
      left
      have := hv.block k e1
      rcases hloc with hl | hl
      · rcases hd with hd | hd
        · rw [e1, hl] at hd; simpa [Value.ownBlock] using hd
        · rw [e1] at hd; cases hd
      · simp [Value.ownBlock]; omega
  refine ⟨F, fun i => if i < t.sets.length then vals i else wv, ?_, h2, h2', ?_, ?_, fun i hi => ?_, fun y hy => ?_⟩
  · have := h1.kept hg hmb
    simpa using this
  · unfold GrowK
    simpa using ho
  · intro e1
    simp [Value.ownBlock] at e1
    rcases hloc with hl | hl
    · rw [hl, e1] at h4; exact h4 rfl
    · omega
  · simp at hi
    by_cases e : i < t.sets.length
    · simp only [if_pos e]
      rw [nth_append_left _ _ _ e, nth_append_left _ _ _ (by rw [hw]; exact e)]
      obtain ⟨a, b, c, d⟩ := h5 i e
      obtain ⟨k1, k2⟩ := keep _ _ b c
      exact ⟨a, k1, k2, d⟩
    · have ei : i = t.sets.length := by omega
      subst ei
      simp only [if_neg (Nat.lt_irrefl _)]
      rw [nth_append_here]
      have e2 : nth (t.words ++ [word]) t.sets.length = word := by rw [← hw, nth_append_here]
      rw [e2]
      obtain ⟨k1, k2⟩ := keep _ _ q2 q3
      exact ⟨q1, k1, k2, q4⟩
  · simp at hy
    exact h6 y hy.1 hy.2
theorem TLoop.word {P : Program} {K e : TypeId} {B bx : Nat} {w : World} {lv : Value} {mb : Nat} {t : Tour} (h : TLoop P K e B bx w lv mb t) (Kl : Go.Maps.Keyed P K) {T E : TypeId} (ht : P.underlying T = some (.map K E)) {z : Value} (hz : ∀ w, (zeroValue E).run P w = .ok z w)
    (hkey : ∀ x : Nat, x < 1024 → keyOf P K (.int .u64 (x : Nat)) = some (.int .u64 (x : Nat))) (i : Nat) (hi : i < t.sets.length) (hx : nth t.sets i < 1024) :
    ∃ A c, OwnInts B w.heap.size w (.slice A (nth t.words i).length c) (nth t.words i) ∧ ∀ w', New w w' → (Instr.lookup T (.map (some mb)) (.int .u64 (nth t.sets i : Nat)) false).run P w' = .ok (.slice A (nth t.words i).length c) w' := by
  obtain ⟨F, vals, h1, _, _, _, _, h5, h6⟩ := h
  obtain ⟨A, c, hf⟩ := (h5 i hi).2.1.form
  refine ⟨A, c, hf ▸ (h5 i hi).2.1, fun w' hn => ?_⟩
  have := ((h1.new hn).look Kl ht (hz w') (hkey _ hx)).1
  rw [(h5 i hi).1] at this
  rw [← hf]; exact this
theorem TLoop.mb_ne {P : Program} {K e : TypeId} {B bx : Nat} {w : World} {lv : Value} {mb : Nat} {t : Tour} (h : TLoop P K e B bx w lv mb t) : mb ≠ bx ∧ B ≤ mb ∧ mb < w.heap.size := let ⟨_, _, h1, h2, h3, _⟩ := h; ⟨h2, h3, h1.lt⟩
theorem TLoop.cell_ne {P : Program} {K e : TypeId} {B bx : Nat} {w : World} {lv : Value} {mb : Nat} {t : Tour} (h : TLoop P K e B bx w lv mb t) {p : Addr} {v : Value} (hc : w.cell? p = some v) : p.block ≠ mb := let ⟨_, _, h1, _⟩ := h; h1.cell_ne hc
theorem TPend.list {P : Program} {K e : TypeId} {B bx : Nat} {w : World} {lv : Value} {mb : Nat} {t : Tour} {x : Nat} {word : List Int} (h : TPend P K e B bx w lv mb t x word) : GrowK .u64 B e w lv t.sets ∧ lv.ownBlock ≠ some bx :=
  let ⟨_, _, _, _, _, _, h3, h4, _⟩ := h; ⟨h3, h4⟩
theorem TLoop.widen {P : Program} {K e : TypeId} {B B' bx bx' : Nat} {w : World} {lv : Value} {mb : Nat} {t : Tour} (h : TLoop P K e B bx w lv mb t) (hB : B' ≤ B) (hb : bx' < B) : TLoop P K e B' bx' w lv mb t := by
  obtain ⟨F, vals, h1, h2, h2', h3, h4, h5, h6⟩ := h
  refine ⟨F, vals, h1, by omega, by omega, ?_, ?_, fun i hi => ?_, h6⟩
  · obtain ⟨k1, k2⟩ := h3
    refine ⟨k1, ?_⟩
    rcases k2 with k2 | ⟨g, cap, cur, hv, hg, r⟩
    · exact Or.inl k2
    · exact Or.inr ⟨g, cap, cur, hv, by omega, r⟩
  · intro e1
    have := h3.block bx' e1
    omega
  · obtain ⟨a, b, c, d⟩ := h5 i hi
    refine ⟨a, b.widen hB (Nat.le_refl _), c, fun e1 => ?_⟩
    have := b.block bx' e1
    omega

end Go.Proofs.Ytcjmcpfdpnakkaa
