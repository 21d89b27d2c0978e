/- Parts of the proof that lean on no program: MapV, TourV, Grow2, BfsV, MapR. -/
import Derived.Test.YthbebnfhplacnaaDoorCore
import Derived.Test.YthbebnfhplacnaaDoorPlains
import Derived.WalkKit
import Derived.WalkSpells
import Derived.WalkLawsBesides
import Derived.Deep.QuietTactic
import Derived.Deep.OwnRows
import Derived.BigQuiet
import Derived.KernelRfl
import Derived.Maps.Own
import Derived.Maps.OwnOps
import Derived.Maps.OwnSet
import Derived.Maps.Views
import Derived.OwnWalk
import Derived.Maps.AppendAt
import Derived.Maps.RangeWalk
namespace Go.Proofs.YthbebnfhplacnaaDoor
open Go.RowKit

section
open Go.Maps (Keyed)
/-- An element of a map, as the value that it is. -/
def rawE (v : Value) : Option (DataW Value × List MemPlace) := some (.held v, [])
/-- Block b is a map of s entries; F tells what lies at a key. -/
def MapAt (P : Program) (K : TypeId) (w : World) (b s : Nat) (F : Lit → Option Value) : Prop :=
  ∃ D : DataW Value, w.ownsMap P K rawE b s D ∧ Maps.size D = s ∧ Maps.Tidy D ∧ ∀ kl, WideAt.IsKeyLit kl → Maps.has D kl = (F kl).isSome ∧ ∀ z : Value, D.atKey kl (.held z) = .held ((F kl).getD z)
open Classical in
noncomputable def putF (F : Lit → Option Value) (k : Lit) (v : Value) : Lit → Option Value := fun l => if l = k then some v else F l
section
variable {P : Program} {K : TypeId} {w w' : World} {b s : Nat} {F : Lit → Option Value}
theorem MapAt.made (P : Program) (K : TypeId) (w : World) : MapAt P K (w.alloc (.map #[] 0)) w.heap.size 0 (fun _ => none) :=
  ⟨.map [], World.ownsMap_made _ _ _ _, rfl, Maps.tidy_empty, fun _kl _ => ⟨rfl, fun _z => rfl⟩⟩
theorem MapAt.lt (h : MapAt P K w b s F) : b < w.heap.size := let ⟨_, h, _⟩ := h; h.lt
theorem MapAt.kept {row : Option Nat} (h : MapAt P K w b s F) (hg : w.grownBy w' row) (hne : some b ≠ row) : MapAt P K w' b s F :=
  let ⟨D, h1, h2, h3⟩ := h; ⟨D, h1.kept hg hne, h2, h3⟩
theorem MapAt.block (h : MapAt P K w b s F) (hb : w'.heap[b]? = w.heap[b]?) : MapAt P K w' b s F := by
  obtain ⟨D, ⟨es, clock, h1, r⟩, h2⟩ := h
  exact ⟨D, ⟨es, clock, hb.trans h1, r⟩, h2⟩
theorem MapAt.new (h : MapAt P K w b s F) (hn : New w w') : MapAt P K w' b s F := h.block (hn.block b h.lt)
theorem MapAt.within {B E : Nat} (h : MapAt P K w b s F) (hw : Within B E w w') (hb : b < B ∨ E ≤ b) : MapAt P K w' b s F := h.block (hw.2.2.2.2 b h.lt hb)
theorem MapAt.eqF {G : Lit → Option Value} (h : MapAt P K w b s F) (e : ∀ kl, WideAt.IsKeyLit kl → F kl = G kl) : MapAt P K w b s G := by
  obtain ⟨D, h1, h2, h3, h4⟩ := h
  exact ⟨D, h1, h2, h3, fun kl hk => by rw [← e kl hk]; exact h4 kl hk⟩
/-- A cell is no map. -/
theorem MapAt.cell_ne (h : MapAt P K w b s F) {p : Addr} {v : Value} (hc : w.cell? p = some v) : p.block ≠ b := by
  obtain ⟨D, ⟨es, clock, h1, _⟩, _⟩ := h
  rintro rfl
  simp [World.cell?, h1] at hc
/-- Where a map alone has turned, the cells are as they were. -/
theorem MapAt.cells (h : MapAt P K w b s F) (hg : w.grownBy w' (some b)) {p : Addr} {v : Value} (hc : w.cell? p = some v) : w'.cell? p = some v := by
  have := h.cell_ne hc
  rw [World.cell?_of_block (w := w) (hg.block p.block (World.block_lt_of_cell? w p hc) (by simpa using this))]; exact hc
theorem MapAt.ints (h : MapAt P K w b s F) (hg : w.grownBy w' (some b)) {v : Value} {xs : List Int} (hv : IntsAt w v xs) : IntsAt w' v xs := by
  obtain ⟨A, c, rfl, hl, hc⟩ := hv
  refine ⟨A, c, rfl, hl, fun i hi => ?_⟩
  obtain ⟨b', off, hA, hx⟩ := hc i hi
  exact ⟨b', off, hA, h.cells hg hx⟩
theorem MapAt.ownInts {B E : Nat} (h : MapAt P K w b s F) (hg : w.grownBy w' (some b)) {v : Value} {xs : List Int} (hv : OwnInts B E w v xs) : OwnInts B E w' v xs := by
  obtain ⟨A, c, rfl, hl, ha, hc⟩ := hv
  refine ⟨A, c, rfl, hl, ha, fun i hi => ?_⟩
  obtain ⟨b', off, hA, hx, hf⟩ := hc i hi
  have := h.cell_ne hx
  refine ⟨b', off, hA, h.cells hg hx, ?_⟩
  rw [World.frozen?_of_block (w := w) (hg.block b' (World.block_lt_of_cell? w _ hx) (by simpa using this))]; exact hf
theorem MapAt.rows (h : MapAt P K w b s F) (hg : w.grownBy w' (some b)) {v : Value} {xss : List (List Int)} (hv : RowsAt w v xss) : RowsAt w' v xss := by
  obtain ⟨A, c, rfl, hl, hc⟩ := hv
  refine ⟨A, c, rfl, hl, fun i hi => ?_⟩
  obtain ⟨b', off, rv, hA, hx, hr⟩ := hc i hi
  exact ⟨b', off, rv, hA, h.cells hg hx, h.ints hg hr⟩
theorem MapAt.ownsRow (h : MapAt P K w b s F) (hg : w.grownBy w' (some b)) {B n z : Nat} {e : TypeId} {v : Value} {xs : List Value} (hv : w.ownsRow B e z v n xs) : w'.ownsRow B e z v n xs := by
  obtain ⟨h1, h2⟩ := hv
  refine ⟨h1, ?_⟩
  rcases h2 with h2 | ⟨g, cap, cur, hv, hgB, hh, r⟩
  · exact Or.inl h2
  · refine Or.inr ⟨g, cap, cur, hv, hgB, ?_, r⟩
    rw [hg.block g (Array.getElem?_eq_some_iff.1 hh).1]
    · exact hh
    · intro e
      cases e
      obtain ⟨D, ⟨es, clock, h1, _⟩, _⟩ := h
      rw [hh] at h1; cases h1
theorem MapAt.put_spec (h : MapAt P K w b s F) (Kl : Keyed P K) {t e : TypeId} (ht : P.underlying t = some (.map K e)) (hn : s < maxLen) {key val : Value} {kl : Lit} (hkey : keyOf P K key = some kl) :
    ∃ w', (Instr.mapUpdate t (.map (some b)) key val).run P w = .ok () w' ∧ MapAt P K w' b (if (F kl).isSome = true then s else s + 1) (putF F kl val) ∧ w.grownBy w' (some b) := by
  obtain ⟨D, h1, h2, h3, h4⟩ := h
  have hkl := Kl.key hkey
  obtain ⟨w', r1, r2, r3⟩ := h1.update (val := val) (d := .held val) (ps := []) Kl ht hn hkey rfl
  have hsz : Maps.size (D.put kl (.held val)) = if (F kl).isSome = true then s else s + 1 := by
    rw [Maps.size_put h3, (h4 kl hkl).1, h2]
  refine ⟨w', r1, ⟨D.put kl (.held val), ?_, hsz, h3.put hkl _, ?_⟩, r3⟩
  · obtain ⟨es, clock, k1, k2, k3, k4⟩ := r2
    refine ⟨es, clock, k1, k2, ?_, k4⟩
    have : Maps.size (D.put kl (.held val)) = es.size := by rw [k4]; simp [Maps.size, length_sorted]
    omega
  · intro l hl
    unfold putF
    by_cases e : l = kl
    · subst e
      rw [if_pos rfl, Maps.has_put_same h3.isMap hl]
      exact ⟨rfl, fun z => Maps.atKey_put_same h3.isMap hl _ _⟩
    · rw [if_neg e, Maps.has_put_other e]
      exact ⟨(h4 l hl).1, fun z => by rw [Maps.atKey_put_other e]; exact (h4 l hl).2 z⟩
theorem MapAt.look (h : MapAt P K w b s F) (Kl : Keyed P K) {t e : TypeId} (ht : P.underlying t = some (.map K e)) {z : Value} (hz : (zeroValue e).run P w = .ok z w) {key : Value} {kl : Lit} (hkey : keyOf P K key = some kl) :
    (Instr.lookup t (.map (some b)) key false).run P w = .ok ((F kl).getD z) w ∧ (Instr.lookup t (.map (some b)) key true).run P w = .ok (.tuple #[(F kl).getD z, .bool (F kl).isSome]) w := by
  obtain ⟨D, h1, h2, h3, h4⟩ := h
  have hkl := Kl.key hkey
  constructor
  · obtain ⟨v, ps, r1, r2⟩ := h1.lookup (zd := .held z) (zp := []) Kl ht hz rfl hkey
    rw [(h4 kl hkl).2 z] at r2
    cases r2
    exact r1
  · obtain ⟨v, ps, r1, r2⟩ := h1.look_ok (zd := .held z) (zp := []) Kl ht hz rfl hkey
    rw [(h4 kl hkl).2 z] at r2
    cases r2
    rw [(h4 kl hkl).1] at r1
    exact r1
end
section
variable {P : Program} {w : World} {ops : Array Oper} {rest : List Oper} {o : Oper} {a : Act} {Q : Exit → Act → World → Prop} {K : TypeId} {b s : Nat} {F : Lit → Option Value}
/-- 'v, ok := m[k]'. -/
theorem wpList_lookOk (hg : o.guard = none) (m x : Operand) (t : TypeId) (hop : o.op = Op.lookup t m x true) (e : TypeId) (Kl : Keyed P K) (ht : P.underlying t = some (.map K e)) (z : Value) (hz : ∀ w, (zeroValue e).run P w = .ok z w)
    (hm : a.eval m = .map (some b)) (hown : MapAt P K w b s F) (key : Value) (kl : Lit) (hx : a.eval x = key) (hkey : keyOf P K key = some kl)
    (hK : wpList P ops Q rest (a.put o.dst (.tuple #[(F kl).getD z, .bool (F kl).isSome])) w) : wpList P ops Q (o :: rest) a w := by
  refine wpList_plain hg fun K' hK' => ?_
  have hrun := (hown.look Kl ht (hz w) hkey).2
  unfold Oper.wp
  simp [execOp, hop, hm, hx, hrun, Result.andThen]
  exact hK' _ _ hK
/-- 'm[k]'. -/
theorem wpList_look (hg : o.guard = none) (m x : Operand) (t : TypeId) (hop : o.op = Op.lookup t m x false) (e : TypeId) (Kl : Keyed P K) (ht : P.underlying t = some (.map K e)) (z : Value) (hz : ∀ w, (zeroValue e).run P w = .ok z w)
    (hm : a.eval m = .map (some b)) (hown : MapAt P K w b s F) (key : Value) (kl : Lit) (hx : a.eval x = key) (hkey : keyOf P K key = some kl)
    (hK : wpList P ops Q rest (a.put o.dst ((F kl).getD z)) w) : wpList P ops Q (o :: rest) a w := by
  refine wpList_plain hg fun K' hK' => ?_
  have hrun := (hown.look Kl ht (hz w) hkey).1
  unfold Oper.wp
  simp [execOp, hop, hm, hx, hrun, Result.andThen]
  exact hK' _ _ hK
/-- 'm[k] = v'. -/
theorem wpList_store (hg : o.guard = none) (m x v : Operand) (t : TypeId) (hop : o.op = Op.mapUpdate t m x v) (e : TypeId) (Kl : Keyed P K) (ht : P.underlying t = some (.map K e))
    (hm : a.eval m = .map (some b)) (hown : MapAt P K w b s F) (hn : s < maxLen) (key val : Value) (kl : Lit) (hx : a.eval x = key) (hv : a.eval v = val) (hkey : keyOf P K key = some kl)
    (hK : ∀ w', MapAt P K w' b (if (F kl).isSome = true then s else s + 1) (putF F kl val) → w.grownBy w' (some b) → wpList P ops Q rest (a.put o.dst undef) w') : wpList P ops Q (o :: rest) a w := by
  refine wpList_plain hg fun K' hK' => ?_
  obtain ⟨w', hrun, r1, r2⟩ := hown.put_spec (val := val) Kl ht hn hkey
  unfold Oper.wp
  simp [execOp, hop, hm, hx, hv, hrun, Result.andThen]
  exact hK' _ _ (hK w' r1 r2)
/-- 'len(m)'. -/
theorem wpList_lenM (hg : o.guard = none) (m : Operand) (t : TypeId) (hop : o.op = Op.call { callee := Callee.builtin Builtin.len, args := #[m], argTypes := #[t] }) (e : TypeId) (ht : P.underlying t = some (.map K e))
    (hm : a.eval m = .map (some b)) (hown : MapAt P K w b s F) (hK : wpList P ops Q rest (a.put o.dst (.int .i64 s)) w) : wpList P ops Q (o :: rest) a w := by
  obtain ⟨D, h1, h2, _⟩ := hown
  refine wpList_len_own w hg m t hop K e ht rawE b s D hm h1 ?_
  rw [h2]; exact hK
end
section
variable {P : Program} {w : World} {ops : Array Oper} {rest : List Oper} {o : Oper} {a : Act} {Q : Exit → Act → World → Prop} {K : TypeId} {b s : Nat} {F : Lit → Option Value}
/-- An element of a map's literal. -/
theorem wpList_insert (hg : o.guard = none) (m x v : Operand) (t : TypeId) (hop : o.op = Op.insert t m x v) (e : TypeId) (Kl : Keyed P K) (ht : P.underlying t = some (.map K e))
    (hm : a.eval m = .map (some b)) (hown : MapAt P K w b s F) (hn : s < maxLen) (key val : Value) (kl : Lit) (hx : a.eval x = key) (hv : a.eval v = val) (hkey : keyOf P K key = some kl)
    (hK : ∀ w', MapAt P K w' b (if (F kl).isSome = true then s else s + 1) (putF F kl val) → w.grownBy w' (some b) → wpList P ops Q rest (a.put o.dst undef) w') : wpList P ops Q (o :: rest) a w := by
  refine wpList_plain hg fun K' hK' => ?_
  obtain ⟨w', hrun, r1, r2⟩ := hown.put_spec (val := val) Kl ht hn hkey
  unfold Oper.wp
  simp [execOp, hop, hm, hx, hv, hrun, Result.andThen]
  exact hK' _ _ (hK w' r1 r2)
end
end
section
/-- A list of numbers of a kind under construction. -/
def GrowK (q : IntKind) (B : Nat) (e : TypeId) (w : World) (v : Value) (xs : List Nat) : Prop := w.ownsRow B e 1 v xs.length (xs.map fun (x : Nat) => Value.int q (x : Int))
def NatsAt (q : IntKind) (w : World) (v : Value) (xs : List Nat) : Prop :=
  ∃ A c, v = .slice A xs.length c ∧ xs.length ≤ 1099511627776 ∧ ∀ i, i < xs.length → ∃ b off, A = some ⟨b, off, none⟩ ∧ w.cell? ⟨b, off + i, none⟩ = some (.int q (nth xs i : Nat))
theorem NatsAt.new {q : IntKind} {w w' : World} {v : Value} {xs : List Nat} (h : NatsAt q w v xs) (hw : New w w') : NatsAt q w' v xs := by
  obtain ⟨A, c, rfl, hl, hc⟩ := h
  refine ⟨A, c, rfl, hl, fun i hi => ?_⟩
  obtain ⟨b, off, hA, hx⟩ := hc i hi
  exact ⟨b, off, hA, hw.cell hx⟩
theorem NatsAt.form {q : IntKind} {w : World} {v : Value} {xs : List Nat} (h : NatsAt q w v xs) : ∃ A c, v = .slice A xs.length c := let ⟨A, c, h, _⟩ := h; ⟨A, c, h⟩
theorem GrowK.at {q : IntKind} {B : Nat} {e : TypeId} {w : World} {v : Value} {xs : List Nat} (h : GrowK q B e w v xs) (hl : xs.length ≤ 1099511627776) : NatsAt q w v xs := by
  obtain ⟨A, c, rfl⟩ := ownsRow_form h
  refine ⟨A, c, rfl, hl, fun i hi => ?_⟩
  obtain ⟨b, hb, ⟨c', e⟩, hB, hlt, hc, _⟩ := ownsRow_cells h i (by simpa using hi)
  cases e
  refine ⟨b, 0, rfl, ?_⟩
  rw [Nat.zero_add, hc, nth_eq xs i hi]; simp
theorem GrowK.new {q : IntKind} {B : Nat} {e : TypeId} {w w' : World} {v : Value} {xs : List Nat} (h : GrowK q B e w v xs) (hw : New w w') : GrowK q B e w' v xs := ownsRow_new h hw
theorem GrowK.form {q : IntKind} {B : Nat} {e : TypeId} {w : World} {v : Value} {xs : List Nat} (h : GrowK q B e w v xs) : ∃ A c, v = .slice A xs.length c := ownsRow_form h
theorem GrowK.block {q : IntKind} {B : Nat} {e : TypeId} {w : World} {v : Value} {xs : List Nat} (h : GrowK q B e w v xs) : ∀ k, v.ownBlock = some k → B ≤ k ∧ k < w.heap.size := World.ownsRow.lt h
theorem ownsRow_grown {w w' : World} {B n : Nat} {e : TypeId} {size : Nat} {v : Value} {xs : List Value} {r : Option Nat} (h : w.ownsRow B e size v n xs) (hg : w.grownBy w' r) (hne : v.ownBlock ≠ r ∨ v.ownBlock = none) : w'.ownsRow B e size v n xs := by
  obtain ⟨h1, h2⟩ := h
  refine ⟨h1, ?_⟩
  rcases h2 with h2 | ⟨g, cap, cur, rfl, hgB, hh, rr⟩
  · exact Or.inl h2
  · refine Or.inr ⟨g, cap, cur, rfl, hgB, ?_, rr⟩
    rw [hg.block g (Array.getElem?_eq_some_iff.1 hh).1]
    · exact hh
    · rcases hne with h | h
      · exact h
      · simp [Value.ownBlock] at h
/-- A list of one number. -/
theorem GrowK.one (q : IntKind) (B : Nat) (e : TypeId) (w : World) (x : Nat) (h : B ≤ w.heap.size) : GrowK q B e (w.alloc (.cells #[.int q x] e)) (.slice (some ⟨w.heap.size, 0, none⟩) 1 1) [x] :=
  ⟨rfl, .inr ⟨w.heap.size, 1, #[.int q x], rfl, h, heap_alloc_new w _, Nat.le_refl _, by decide, rfl, rfl⟩⟩
/-- The tour's parts, while they are built; bx is the box that holds them. -/
def TLoop (P : Program) (K e : TypeId) (B bx : Nat) (w : World) (lv : Value) (mb : Nat) (t : Tour) : Prop :=
  ∃ F, ∃ vals : Nat → Value, MapAt P K w mb t.sets.length F ∧ mb ≠ bx ∧ B ≤ mb ∧ GrowK .u64 B e w lv t.sets ∧ lv.ownBlock ≠ some bx ∧
    (∀ i, i < t.sets.length → F (.int .u64 (nth t.sets i : Nat)) = some (vals i) ∧ OwnInts B w.heap.size w (vals i) (nth t.words i) ∧ ((vals i).ownBlock ≠ lv.ownBlock ∨ (vals i).ownBlock = none) ∧ (vals i).ownBlock ≠ some bx) ∧
    ∀ x : Nat, x ∉ t.sets → F (.int .u64 (x : Nat)) = none
theorem TLoop.new {P : Program} {K e : TypeId} {B bx : Nat} {w w' : World} {lv : Value} {mb : Nat} {t : Tour} (h : TLoop P K e B bx w lv mb t) (hn : New w w') : TLoop P K e B bx w' lv mb t := by
  obtain ⟨F, vals, h1, h2, h2', h3, h4, h5, h6⟩ := h
  exact ⟨F, vals, h1.new hn, h2, h2', h3.new hn, h4, fun i hi => let ⟨a, b, c, d⟩ := h5 i hi; ⟨a, (b.new hn).widen (Nat.le_refl _) hn.size, c, d⟩, h6⟩
theorem TLoop.box {P : Program} {K e : TypeId} {B bx : Nat} {w w' : World} {lv : Value} {mb : Nat} {t : Tour} (h : TLoop P K e B bx w lv mb t) (hg : w.grownBy w' (some bx)) : TLoop P K e B bx w' lv mb t := by
  obtain ⟨F, vals, h1, h2, h2', h3, h4, h5, h6⟩ := h
  have hs := hg.size
  exact ⟨F, vals, h1.kept hg (by simpa using h2), h2, h2', ownsRow_grown h3 hg (Or.inl h4), h4, fun i hi => let ⟨a, b, c, d⟩ := h5 i hi; ⟨a, (b.grown hg (Or.inl d)).widen (Nat.le_refl _) hs, c, d⟩, h6⟩
/-- The map's word at a set. -/
theorem TLoop.look {P : Program} {K e : TypeId} {B bx : Nat} {w : World} {lv : Value} {mb : Nat} {t : Tour} (h : TLoop P K e B bx w lv mb t) (Kl : Go.Maps.Keyed P K) {T E : TypeId} (ht : P.underlying T = some (.map K E)) {z : Value} (hz : ∀ w, (zeroValue E).run P w = .ok z w)
    (hkey : ∀ x : Nat, x < 1024 → keyOf P K (.int .u64 (x : Nat)) = some (.int .u64 (x : Nat))) (x : Nat) (hx : x < 1024) :
    ∃ v, (Instr.lookup T (.map (some mb)) (.int .u64 (x : Nat)) true).run P w = .ok (.tuple #[v, .bool (t.sets.contains x)]) w := by
  obtain ⟨F, vals, h1, _, _, _, _, h5, h6⟩ := h
  have := (h1.look Kl ht (hz w) (hkey x hx)).2
  by_cases hm : x ∈ t.sets
  · obtain ⟨i, hi, rfl⟩ := mem_nth t.sets x hm
    rw [(h5 i hi).1] at this
    exact ⟨vals i, by rw [this]; simp [nth_mem t.sets i hi]⟩
  · rw [h6 x hm] at this
    exact ⟨z, by rw [this]; simp [hm]⟩
theorem TLoop.at {P : Program} {K e : TypeId} {B bx : Nat} {w : World} {lv : Value} {mb : Nat} {t : Tour} (h : TLoop P K e B bx w lv mb t) (Kl : Go.Maps.Keyed P K) {T E : TypeId} (ht : P.underlying T = some (.map K E)) {z : Value} (hz : ∀ w, (zeroValue E).run P w = .ok z w)
    (hkey : ∀ x : Nat, x < 1024 → keyOf P K (.int .u64 (x : Nat)) = some (.int .u64 (x : Nat))) (i : Nat) (hi : i < t.sets.length) (hx : nth t.sets i < 1024) :
    ∃ v, (Instr.lookup T (.map (some mb)) (.int .u64 (nth t.sets i : Nat)) false).run P w = .ok v w ∧ OwnInts B w.heap.size w v (nth t.words i) := by
  obtain ⟨F, vals, h1, _, _, _, _, h5, h6⟩ := h
  have := (h1.look Kl ht (hz w) (hkey _ hx)).1
  rw [(h5 i hi).1] at this
  exact ⟨vals i, this, (h5 i hi).2.1⟩
/-- The word of the set x is stored; x is not on the list yet. -/
def TPend (P : Program) (K e : TypeId) (B bx : Nat) (w : World) (lv : Value) (mb : Nat) (t : Tour) (x : Nat) (word : List Int) : Prop :=
  ∃ F, ∃ vals : Nat → Value, ∃ wv, MapAt P K w mb (t.sets.length + 1) F ∧ mb ≠ bx ∧ B ≤ mb ∧ GrowK .u64 B e w lv t.sets ∧ lv.ownBlock ≠ some bx ∧
    (∀ i, i < t.sets.length → F (.int .u64 (nth t.sets i : Nat)) = some (vals i) ∧ OwnInts B w.heap.size w (vals i) (nth t.words i) ∧ ((vals i).ownBlock ≠ lv.ownBlock ∨ (vals i).ownBlock = none) ∧ (vals i).ownBlock ≠ some bx) ∧
    (F (.int .u64 (x : Nat)) = some wv ∧ OwnInts B w.heap.size w wv word ∧ (wv.ownBlock ≠ lv.ownBlock ∨ wv.ownBlock = none) ∧ wv.ownBlock ≠ some bx) ∧
    ∀ y : Nat, y ∉ t.sets → y ≠ x → F (.int .u64 (y : Nat)) = none
theorem TPend.new {P : Program} {K e : TypeId} {B bx : Nat} {w w' : World} {lv : Value} {mb : Nat} {t : Tour} {x : Nat} {word : List Int} (h : TPend P K e B bx w lv mb t x word) (hn : New w w') : TPend P K e B bx w' lv mb t x word := by
  obtain ⟨F, vals, wv, h1, h2, h2', h3, h4, h5, ⟨q1, q2, q3, q4⟩, h6⟩ := h
  exact ⟨F, vals, wv, h1.new hn, h2, h2', h3.new hn, h4, fun i hi => let ⟨a, b, c, d⟩ := h5 i hi; ⟨a, (b.new hn).widen (Nat.le_refl _) hn.size, c, d⟩, ⟨q1, (q2.new hn).widen (Nat.le_refl _) hn.size, q3, q4⟩, h6⟩
theorem TPend.form {P : Program} {K e : TypeId} {B bx : Nat} {w : World} {lv : Value} {mb : Nat} {t : Tour} {x : Nat} {word : List Int} (h : TPend P K e B bx w lv mb t x word) : ∃ A c, lv = .slice A t.sets.length c :=
  let ⟨_, _, _, _, _, _, h3, _⟩ := h; h3.form
theorem TLoop.form {P : Program} {K e : TypeId} {B bx : Nat} {w : World} {lv : Value} {mb : Nat} {t : Tour} (h : TLoop P K e B bx w lv mb t) : ∃ A c, lv = .slice A t.sets.length c :=
  let ⟨_, _, _, _, _, h3, _⟩ := h; h3.form
theorem TLoop.nats {P : Program} {K e : TypeId} {B bx : Nat} {w : World} {lv : Value} {mb : Nat} {t : Tour} (h : TLoop P K e B bx w lv mb t) (hl : t.sets.length ≤ 1099511627776) : NatsAt .u64 w lv t.sets :=
  let ⟨_, _, _, _, _, h3, _⟩ := h; h3.at hl
/-- A new word is stored. -/
theorem TLoop.put {P : Program} {K e : TypeId} {B bx : Nat} {w0 w2 : World} {lv wv : Value} {mb : Nat} {t : Tour} {word : List Int} (h : TLoop P K e B bx w0 lv mb t) (hn : New w0 w2) (hw : OwnInts w0.heap.size w2.heap.size w2 wv word) (hB : B ≤ w0.heap.size) (hbx : bx < w0.heap.size)
    (Kl : Go.Maps.Keyed P K) {T E : TypeId} (ht : P.underlying T = some (.map K E)) {z : Value} (hz : ∀ w, (zeroValue E).run P w = .ok z w) (hkeys : ∀ x : Nat, x < 1024 → keyOf P K (.int .u64 (x : Nat)) = some (.int .u64 (x : Nat))) (x : Nat) (hx10 : x < 1024) (hx : x ∉ t.sets) (hl : t.sets.length < 1099511627776) :
    ∃ w3, (Instr.mapUpdate T (.map (some mb)) (.int .u64 (x : Nat)) wv).run P w2 = .ok () w3 ∧ w2.grownBy w3 (some mb) ∧ TPend P K e B bx w3 lv mb t x word ∧
      ∀ (y : Nat) v, y < 1024 → y ≠ x → (Instr.lookup T (.map (some mb)) (.int .u64 (y : Nat)) false).run P w2 = .ok v w2 → (Instr.lookup T (.map (some mb)) (.int .u64 (y : Nat)) false).run P w3 = .ok v w3 := by
  have hkey := hkeys x hx10
  obtain ⟨F, vals, h1, h2, h2', h3, h4, h5, h6⟩ := h
  have h1' := h1.new hn
  obtain ⟨w3, r1, r2, r3⟩ := h1'.put_spec (val := wv) Kl ht (by unfold maxLen; omega) hkey
  rw [h6 x hx] at r2
  simp only [Option.isSome_none, Bool.false_eq_true, if_false] at r2
  have hs := r3.size
  have hwb := hw.block
  refine ⟨w3, r1, r3, ⟨putF F (.int .u64 (x : Nat)) wv, vals, wv, r2, h2, h2', h1'.ownsRow r3 (h3.new hn), h4, fun i hi => ?_, ⟨?_, ?_, ?_, ?_⟩, fun y hy hyx => ?_⟩, fun y v hy10 hyx hlk => ?_⟩
  · obtain ⟨a, b, c, d⟩ := h5 i hi
    refine ⟨?_, (h1'.ownInts r3 (b.new hn)).widen (Nat.le_refl _) (by have := hn.size; omega), c, d⟩
    unfold putF
    rw [if_neg]
    · exact a
    · intro e
      injection e with _ e
      have : nth t.sets i = x := by exact_mod_cast e
      exact hx (this ▸ nth_mem _ _ hi)
  · unfold putF; rw [if_pos rfl]
  · exact (h1'.ownInts r3 hw).widen hB hs
  · cases e1 : wv.ownBlock with
    | none => exact Or.inr rfl
    | some k =>
      left
      intro e2
      have a1 := hwb k e1
      have a2 := h3.block k e2.symm
      omega
  · intro e1
    have := hwb bx e1
    omega
  · unfold putF
    rw [if_neg]
    · exact h6 y hy
    · intro e
      injection e with _ e
      exact hyx (by exact_mod_cast e)
  · have k1 := (h1'.look Kl ht (hz w2) (hkeys y hy10)).1
    have k2 := (r2.look Kl ht (hz w3) (hkeys y hy10)).1
    rw [hlk] at k1
    injection k1 with k1
    have e1 : putF F (.int .u64 (x : Nat)) wv (.int .u64 (y : Nat)) = F (.int .u64 (y : Nat)) := by
      unfold putF
      rw [if_neg]
      intro e
      injection e with _ e
      exact hyx (by exact_mod_cast e)
    rw [k2, e1, k1]
/-- The new set is appended to the list. -/
theorem TPend.app {P : Program} {K e : TypeId} {B bx : Nat} {w3 w4 : World} {lv : Value} {mb : Nat} {t : Tour} {x : Nat} {word : List Int} {bef let' : List Int} {g cap : Nat} (h : TPend P K e B bx w3 lv mb t x word) (hw : t.words.length = t.sets.length) (_hx : x ∉ t.sets) (hbx : bx < w3.heap.size)
    (ho : w4.ownsRow B e 1 (.slice (some ⟨g, 0, none⟩) (t.sets.length + 1) cap) (t.sets.length + 1) ((t.sets.map fun (y : Nat) => Value.int .u64 (y : Int)) ++ [.int .u64 (x : Nat)])) (hg : w3.grownBy w4 lv.ownBlock) (hloc : lv.ownBlock = some g ∨ w3.heap.size ≤ g) :
    TLoop P K e B bx w4 (.slice (some ⟨g, 0, none⟩) (t.sets.length + 1) cap) mb ⟨t.sets ++ [x], t.words ++ [word], bef, let'⟩ := by
  obtain ⟨F, vals, wv, h1, h2, h2', h3, h4, h5, ⟨q1, q2, q3, q4⟩, h6⟩ := h
  have hs := hg.size
  have hmb : some mb ≠ lv.ownBlock := by
    intro e1
    obtain ⟨D, ⟨es, clock, k1, _⟩, _⟩ := h1
    obtain ⟨_, k2⟩ := h3
    rcases k2 with ⟨rfl, _⟩ | ⟨g', cap', cur, rfl, _, hh, _⟩
    · simp [Value.ownBlock] at e1
    · simp [Value.ownBlock] at e1
      rw [e1, hh] at k1; cases k1
  have keep : ∀ v xs, OwnInts B w3.heap.size w3 v xs → (v.ownBlock ≠ lv.ownBlock ∨ v.ownBlock = none) → OwnInts B w4.heap.size w4 v xs ∧ (v.ownBlock ≠ (Value.slice (some ⟨g, 0, none⟩) (t.sets.length + 1) cap).ownBlock ∨ v.ownBlock = none) := by
    intro v xs hv hd
    refine ⟨(hv.grown hg hd).widen (Nat.le_refl _) hs, ?_⟩
    cases e1 : v.ownBlock with
    | none => exact Or.inr rfl
    | some k =>
      left
      have := hv.block k e1
      rcases hloc with hl | hl
      · rcases hd with hd | hd
        · rw [e1, hl] at hd; simpa [Value.ownBlock] using hd
        · rw [e1] at hd; cases hd
      · simp [Value.ownBlock]; omega
  refine ⟨F, fun i => if i < t.sets.length then vals i else wv, ?_, h2, h2', ?_, ?_, fun i hi => ?_, fun y hy => ?_⟩
  · have := h1.kept hg hmb
    simpa using this
  · unfold GrowK
    simpa using ho
  · intro e1
    simp [Value.ownBlock] at e1
    rcases hloc with hl | hl
    · rw [hl, e1] at h4; exact h4 rfl
    · omega
  · simp at hi
    by_cases e : i < t.sets.length
    · simp only [if_pos e]
      rw [nth_append_left _ _ _ e, nth_append_left _ _ _ (by rw [hw]; exact e)]
      obtain ⟨a, b, c, d⟩ := h5 i e
      obtain ⟨k1, k2⟩ := keep _ _ b c
      exact ⟨a, k1, k2, d⟩
    · have ei : i = t.sets.length := by omega
      subst ei
      simp only [if_neg (Nat.lt_irrefl _)]
      rw [nth_append_here]
      have e2 : nth (t.words ++ [word]) t.sets.length = word := by rw [← hw, nth_append_here]
      rw [e2]
      obtain ⟨k1, k2⟩ := keep _ _ q2 q3
      exact ⟨q1, k1, k2, q4⟩
  · simp at hy
    exact h6 y hy.1 hy.2
theorem TLoop.word {P : Program} {K e : TypeId} {B bx : Nat} {w : World} {lv : Value} {mb : Nat} {t : Tour} (h : TLoop P K e B bx w lv mb t) (Kl : Go.Maps.Keyed P K) {T E : TypeId} (ht : P.underlying T = some (.map K E)) {z : Value} (hz : ∀ w, (zeroValue E).run P w = .ok z w)
    (hkey : ∀ x : Nat, x < 1024 → keyOf P K (.int .u64 (x : Nat)) = some (.int .u64 (x : Nat))) (i : Nat) (hi : i < t.sets.length) (hx : nth t.sets i < 1024) :
    ∃ A c, OwnInts B w.heap.size w (.slice A (nth t.words i).length c) (nth t.words i) ∧ ∀ w', New w w' → (Instr.lookup T (.map (some mb)) (.int .u64 (nth t.sets i : Nat)) false).run P w' = .ok (.slice A (nth t.words i).length c) w' := by
  obtain ⟨F, vals, h1, _, _, _, _, h5, h6⟩ := h
  obtain ⟨A, c, hf⟩ := (h5 i hi).2.1.form
  refine ⟨A, c, hf ▸ (h5 i hi).2.1, fun w' hn => ?_⟩
  have := ((h1.new hn).look Kl ht (hz w') (hkey _ hx)).1
  rw [(h5 i hi).1] at this
  rw [← hf]; exact this
theorem TLoop.mb_ne {P : Program} {K e : TypeId} {B bx : Nat} {w : World} {lv : Value} {mb : Nat} {t : Tour} (h : TLoop P K e B bx w lv mb t) : mb ≠ bx ∧ B ≤ mb ∧ mb < w.heap.size := let ⟨_, _, h1, h2, h3, _⟩ := h; ⟨h2, h3, h1.lt⟩
theorem TLoop.cell_ne {P : Program} {K e : TypeId} {B bx : Nat} {w : World} {lv : Value} {mb : Nat} {t : Tour} (h : TLoop P K e B bx w lv mb t) {p : Addr} {v : Value} (hc : w.cell? p = some v) : p.block ≠ mb := let ⟨_, _, h1, _⟩ := h; h1.cell_ne hc
theorem TPend.list {P : Program} {K e : TypeId} {B bx : Nat} {w : World} {lv : Value} {mb : Nat} {t : Tour} {x : Nat} {word : List Int} (h : TPend P K e B bx w lv mb t x word) : GrowK .u64 B e w lv t.sets ∧ lv.ownBlock ≠ some bx :=
  let ⟨_, _, _, _, _, _, h3, h4, _⟩ := h; ⟨h3, h4⟩
theorem TLoop.widen {P : Program} {K e : TypeId} {B B' bx bx' : Nat} {w : World} {lv : Value} {mb : Nat} {t : Tour} (h : TLoop P K e B bx w lv mb t) (hB : B' ≤ B) (hb : bx' < B) : TLoop P K e B' bx' w lv mb t := by
  obtain ⟨F, vals, h1, h2, h2', h3, h4, h5, h6⟩ := h
  refine ⟨F, vals, h1, by omega, by omega, ?_, ?_, fun i hi => ?_, h6⟩
  · obtain ⟨k1, k2⟩ := h3
    refine ⟨k1, ?_⟩
    rcases k2 with k2 | ⟨g, cap, cur, hv, hg, r⟩
    · exact Or.inl k2
    · exact Or.inr ⟨g, cap, cur, hv, by omega, r⟩
  · intro e1
    have := h3.block bx' e1
    omega
  · obtain ⟨a, b, c, d⟩ := h5 i hi
    refine ⟨a, b.widen hB (Nat.le_refl _), c, fun e1 => ?_⟩
    have := b.block bx' e1
    omega
end
section
/-- Two values lie in blocks apart. -/
def ApartV (a b : Value) : Prop := a.ownBlock ≠ b.ownBlock ∨ a.ownBlock = none
/-- Two lists of lists under construction; the rows may be written, and none lies in a frame. -/
def Grow2 (B : Nat) (e1 e2 : TypeId) (w : World) (v1 v2 : Value) (xs1 xs2 : List (List Int)) : Prop :=
  ∃ r1 r2 : Nat → Value, w.ownsRow B e1 1 v1 xs1.length ((List.range xs1.length).map r1) ∧ w.ownsRow B e2 1 v2 xs2.length ((List.range xs2.length).map r2) ∧ ApartV v1 v2 ∧
    (∀ i, i < xs1.length → OwnInts B w.heap.size w (r1 i) (nth xs1 i) ∧ ApartV (r1 i) v1 ∧ ApartV (r1 i) v2) ∧
    ∀ i, i < xs2.length → OwnInts B w.heap.size w (r2 i) (nth xs2 i) ∧ ApartV (r2 i) v1 ∧ ApartV (r2 i) v2
theorem ApartV.symm {a b : Value} (h : ApartV a b) : ApartV b a := by
  unfold ApartV at *
  cases e : b.ownBlock with
  | none => exact Or.inr rfl
  | some k =>
    left
    rw [e] at h
    rcases h with h | h
    · exact Ne.symm h
    · rw [h]; simp
theorem ApartV.of_lt {a b : Value} {M : Nat} (ha : ∀ k, a.ownBlock = some k → M ≤ k) (hb : ∀ k, b.ownBlock = some k → k < M) : ApartV a b := by
  unfold ApartV
  cases e : a.ownBlock with
  | none => exact Or.inr rfl
  | some k =>
    left
    intro e2
    have h1 := ha k e
    have h2 := hb k e2.symm
    omega
/-- The new frame is the old one's block, or newer than whatever is there. -/
theorem ApartV.frame {r v : Value} {g n cap M : Nat} (h : ApartV r v) (hr : ∀ k, r.ownBlock = some k → k < M) (hloc : v.ownBlock = some g ∨ M ≤ g) : ApartV r (.slice (some ⟨g, 0, none⟩) n cap) := by
  rcases hloc with hl | hl
  · unfold ApartV at *
    rw [hl] at h
    exact h
  · exact ApartV.symm (ApartV.of_lt (M := M) (fun k hk => by simp [Value.ownBlock] at hk; omega) hr)
theorem Grow2.new {B : Nat} {e1 e2 : TypeId} {w w' : World} {v1 v2 : Value} {xs1 xs2 : List (List Int)} (h : Grow2 B e1 e2 w v1 v2 xs1 xs2) (hn : New w w') : Grow2 B e1 e2 w' v1 v2 xs1 xs2 := by
  obtain ⟨r1, r2, h1, h2, h3, h4, h5⟩ := h
  exact ⟨r1, r2, ownsRow_new h1 hn, ownsRow_new h2 hn, h3, fun i hi => let ⟨a, b⟩ := h4 i hi; ⟨(a.new hn).widen (Nat.le_refl _) hn.size, b⟩, fun i hi => let ⟨a, b⟩ := h5 i hi; ⟨(a.new hn).widen (Nat.le_refl _) hn.size, b⟩⟩
theorem Grow2.form {B : Nat} {e1 e2 : TypeId} {w : World} {v1 v2 : Value} {xs1 xs2 : List (List Int)} (h : Grow2 B e1 e2 w v1 v2 xs1 xs2) : (∃ A c, v1 = .slice A xs1.length c) ∧ ∃ A c, v2 = .slice A xs2.length c :=
  let ⟨_, _, h1, h2, _⟩ := h; ⟨ownsRow_form h1, ownsRow_form h2⟩
theorem Grow2.blocks {B : Nat} {e1 e2 : TypeId} {w : World} {v1 v2 : Value} {xs1 xs2 : List (List Int)} (h : Grow2 B e1 e2 w v1 v2 xs1 xs2) : (∀ k, v1.ownBlock = some k → B ≤ k ∧ k < w.heap.size) ∧ ∀ k, v2.ownBlock = some k → B ≤ k ∧ k < w.heap.size :=
  let ⟨_, _, h1, h2, _⟩ := h; ⟨World.ownsRow.lt h1, World.ownsRow.lt h2⟩
theorem Grow2.spine {B : Nat} {e1 e2 : TypeId} {w : World} {v1 v2 : Value} {xs1 xs2 : List (List Int)} (h : Grow2 B e1 e2 w v1 v2 xs1 xs2) :
    (∃ l1, w.ownsRow B e1 1 v1 xs1.length l1 ∧ l1.length = xs1.length) ∧ ∃ l2, w.ownsRow B e2 1 v2 xs2.length l2 ∧ l2.length = xs2.length :=
  let ⟨_, _, h1, h2, _⟩ := h; ⟨⟨_, h1, by simp⟩, ⟨_, h2, by simp⟩⟩
theorem rows_of_spine {B : Nat} {e : TypeId} {w : World} {v : Value} {xss : List (List Int)} {r : Nat → Value} (h1 : w.ownsRow B e 1 v xss.length ((List.range xss.length).map r)) (h2 : ∀ i, i < xss.length → IntsAt w (r i) (nth xss i)) (hl : xss.length ≤ 1099511627776) : RowsAt w v xss := by
  obtain ⟨A, c, rfl⟩ := ownsRow_form h1
  refine ⟨A, c, rfl, by omega, fun i hi => ?_⟩
  obtain ⟨b, hb, ⟨c', e⟩, hB, hlt, hc, _⟩ := ownsRow_cells h1 i (by simpa using hi)
  cases e
  refine ⟨b, 0, r i, rfl, ?_, h2 i hi⟩
  rw [Nat.zero_add, hc]; simp
theorem Grow2.rows {B : Nat} {e1 e2 : TypeId} {w : World} {v1 v2 : Value} {xs1 xs2 : List (List Int)} (h : Grow2 B e1 e2 w v1 v2 xs1 xs2) (hl1 : xs1.length ≤ 1099511627776) (hl2 : xs2.length ≤ 1099511627776) : RowsAt w v1 xs1 ∧ RowsAt w v2 xs2 :=
  let ⟨_, _, h1, h2, _, h4, h5⟩ := h; ⟨rows_of_spine h1 (fun i hi => (h4 i hi).1.at) hl1, rows_of_spine h2 (fun i hi => (h5 i hi).1.at) hl2⟩
/-- A row that lies apart from both frames. -/
def RowIn (B : Nat) (w : World) (v1 v2 r : Value) (ys : List Int) : Prop := OwnInts B w.heap.size w r ys ∧ ApartV r v1 ∧ ApartV r v2
theorem RowIn.new {B : Nat} {w w' : World} {v1 v2 r : Value} {ys : List Int} (h : RowIn B w v1 v2 r ys) (hn : New w w') : RowIn B w' v1 v2 r ys := ⟨(h.1.new hn).widen (Nat.le_refl _) hn.size, h.2⟩
theorem RowIn.low {B b : Nat} {w w' : World} {v1 v2 r : Value} {ys : List Int} (h : RowIn B w v1 v2 r ys) (hg : w.grownBy w' (some b)) (hb : b < B) : RowIn B w' v1 v2 r ys := by
  refine ⟨(h.1.grown hg ?_).widen (Nat.le_refl _) hg.size, h.2⟩
  cases e : r.ownBlock with
  | none => exact Or.inr rfl
  | some k => left; have := h.1.block k e; simp; omega
theorem RowIn.app1 {B g n cap : Nat} {w w' : World} {v1 v2 r : Value} {ys : List Int} (h : RowIn B w v1 v2 r ys) (hg : w.grownBy w' v1.ownBlock) (hloc : v1.ownBlock = some g ∨ w.heap.size ≤ g) : RowIn B w' (.slice (some ⟨g, 0, none⟩) n cap) v2 r ys :=
  ⟨(h.1.grown hg h.2.1).widen (Nat.le_refl _) hg.size, h.2.1.frame (fun k hk => (h.1.block k hk).2) hloc, h.2.2⟩
theorem RowIn.app2 {B g n cap : Nat} {w w' : World} {v1 v2 r : Value} {ys : List Int} (h : RowIn B w v1 v2 r ys) (hg : w.grownBy w' v2.ownBlock) (hloc : v2.ownBlock = some g ∨ w.heap.size ≤ g) : RowIn B w' v1 (.slice (some ⟨g, 0, none⟩) n cap) r ys :=
  ⟨(h.1.grown hg h.2.2).widen (Nat.le_refl _) hg.size, h.2.1, h.2.2.frame (fun k hk => (h.1.block k hk).2) hloc⟩
/-- What is newer than both frames. -/
theorem RowIn.fresh {B M : Nat} {w : World} {v1 v2 r : Value} {ys : List Int} (hr : OwnInts M w.heap.size w r ys) (hB : B ≤ M) (h1 : ∀ k, v1.ownBlock = some k → k < M) (h2 : ∀ k, v2.ownBlock = some k → k < M) : RowIn B w v1 v2 r ys :=
  ⟨hr.widen hB (Nat.le_refl _), ApartV.of_lt (fun k hk => (hr.block k hk).1) h1, ApartV.of_lt (fun k hk => (hr.block k hk).1) h2⟩
/-- One row of the first list, of the second. -/
theorem Grow2.row1 {B : Nat} {e1 e2 : TypeId} {w : World} {v1 v2 : Value} {xs1 xs2 : List (List Int)} (h : Grow2 B e1 e2 w v1 v2 xs1 xs2) (i : Nat) (hi : i < xs1.length) :
    ∃ b c A cr, v1 = .slice (some ⟨b, 0, none⟩) xs1.length c ∧ w.cell? ⟨b, i, none⟩ = some (.slice A (nth xs1 i).length cr) ∧ RowIn B w v1 v2 (.slice A (nth xs1 i).length cr) (nth xs1 i) := by
  obtain ⟨r1, r2, h1, h2, _, h4, h5⟩ := h
  obtain ⟨b, hb, ⟨c', e⟩, hB, hlt, hc, _⟩ := ownsRow_cells h1 i (by simpa using hi)
  have ho := h4 i hi
  obtain ⟨A, cr, er⟩ := ho.1.form
  simp at hc
  exact ⟨b, c', A, cr, e, er ▸ hc, er ▸ ho⟩
theorem Grow2.row2 {B : Nat} {e1 e2 : TypeId} {w : World} {v1 v2 : Value} {xs1 xs2 : List (List Int)} (h : Grow2 B e1 e2 w v1 v2 xs1 xs2) (i : Nat) (hi : i < xs2.length) :
    ∃ b c A cr, v2 = .slice (some ⟨b, 0, none⟩) xs2.length c ∧ w.cell? ⟨b, i, none⟩ = some (.slice A (nth xs2 i).length cr) ∧ RowIn B w v1 v2 (.slice A (nth xs2 i).length cr) (nth xs2 i) := by
  obtain ⟨r1, r2, h1, h2, _, h4, h5⟩ := h
  obtain ⟨b, hb, ⟨c', e⟩, hB, hlt, hc, _⟩ := ownsRow_cells h2 i (by simpa using hi)
  have ho := h5 i hi
  obtain ⟨A, cr, er⟩ := ho.1.form
  simp at hc
  exact ⟨b, c', A, cr, e, er ▸ hc, er ▸ ho⟩
/-- What else is written, below B, leaves both lists as they are. -/
theorem Grow2.low {B b : Nat} {e1 e2 : TypeId} {w w' : World} {v1 v2 : Value} {xs1 xs2 : List (List Int)} (h : Grow2 B e1 e2 w v1 v2 xs1 xs2) (hg : w.grownBy w' (some b)) (hb : b < B) : Grow2 B e1 e2 w' v1 v2 xs1 xs2 := by
  obtain ⟨r1, r2, h1, h2, h3, h4, h5⟩ := h
  have ne : ∀ v : Value, (∀ k, v.ownBlock = some k → B ≤ k) → v.ownBlock ≠ some b ∨ v.ownBlock = none := fun v hv => by
    cases e : v.ownBlock with
    | none => exact Or.inr rfl
    | some k => left; have := hv k e; simp; omega
  have a1 := World.ownsRow.lt h1
  have a2 := World.ownsRow.lt h2
  refine ⟨r1, r2, ownsRow_grown h1 hg (ne _ fun k hk => (a1 k hk).1), ownsRow_grown h2 hg (ne _ fun k hk => (a2 k hk).1), h3, fun i hi => ?_, fun i hi => ?_⟩
  · obtain ⟨a, b⟩ := h4 i hi
    exact ⟨(a.grown hg (ne _ fun k hk => (a.block k hk).1)).widen (Nat.le_refl _) hg.size, b⟩
  · obtain ⟨a, b⟩ := h5 i hi
    exact ⟨(a.grown hg (ne _ fun k hk => (a.block k hk).1)).widen (Nat.le_refl _) hg.size, b⟩
theorem range_pick {n : Nat} (r : Nat → Value) (x : Value) : (List.range (n + 1)).map (fun i => if i < n then r i else x) = (List.range n).map r ++ [x] := by
  rw [list_range_snoc]
  congr 1
  · apply List.map_congr_left
    intro i hi
    rw [if_pos (List.mem_range.1 hi)]
  · rw [if_neg (Nat.lt_irrefl _)]
/-- A row is appended to the first list. -/
theorem Grow2.app1 {B g cap : Nat} {e1 e2 : TypeId} {w w' : World} {v1 v2 r : Value} {xs1 xs2 : List (List Int)} {ys : List Int} {l : List Value} (h : Grow2 B e1 e2 w v1 v2 xs1 xs2) (hl : w.ownsRow B e1 1 v1 xs1.length l) (hr : OwnInts B w.heap.size w r ys) (a1 : ApartV r v1) (a2 : ApartV r v2)
    (ho : w'.ownsRow B e1 1 (.slice (some ⟨g, 0, none⟩) (xs1.length + 1) cap) (xs1.length + 1) (l ++ [r])) (hg : w.grownBy w' v1.ownBlock) (hloc : v1.ownBlock = some g ∨ w.heap.size ≤ g) :
    Grow2 B e1 e2 w' (.slice (some ⟨g, 0, none⟩) (xs1.length + 1) cap) v2 (xs1 ++ [ys]) xs2 := by
  obtain ⟨r1, r2, h1, h2, h3, h4, h5⟩ := h
  have hll : l = (List.range xs1.length).map r1 := by
    obtain ⟨A, c, rfl⟩ := ownsRow_form hl
    apply List.ext_getElem
    · have e1 := hl.1
      have e2 := h1.1
      simp at e1 e2 ⊢; omega
    · intro i k1 k2
      obtain ⟨b, _, ⟨c', e⟩, _, _, hc, _⟩ := ownsRow_cells hl i k1
      obtain ⟨b2, _, ⟨c2, e'⟩, _, _, hc2, _⟩ := ownsRow_cells h1 i k2
      cases e
      cases e'
      rw [hc] at hc2
      exact Option.some.inj hc2
  subst hll
  have hs := hg.size
  have b2 := World.ownsRow.lt h2
  refine ⟨fun i => if i < xs1.length then r1 i else r, r2, ?_, ownsRow_grown h2 hg ?_, ?_, fun i hi => ?_, fun i hi => ?_⟩
  · rw [List.length_append, List.length_singleton, range_pick]
    exact ho
  · exact ApartV.symm h3
  · exact ApartV.symm (ApartV.frame (ApartV.symm h3) (fun k hk => (b2 k hk).2) hloc)
  · rw [List.length_append, List.length_singleton] at hi
    by_cases hlt : i < xs1.length
    · simp only [if_pos hlt]
      rw [nth_append_left _ _ _ hlt]
      obtain ⟨k1, k2, k3⟩ := h4 i hlt
      exact ⟨(k1.grown hg k2).widen (Nat.le_refl _) hs, k2.frame (fun k hk => (k1.block k hk).2) hloc, k3⟩
    · have e : i = xs1.length := by omega
      subst e
      simp only [if_neg (Nat.lt_irrefl _)]
      rw [nth_append_here]
      exact ⟨(hr.grown hg a1).widen (Nat.le_refl _) hs, a1.frame (fun k hk => (hr.block k hk).2) hloc, a2⟩
  · obtain ⟨k1, k2, k3⟩ := h5 i hi
    exact ⟨(k1.grown hg k2).widen (Nat.le_refl _) hs, k2.frame (fun k hk => (k1.block k hk).2) hloc, k3⟩
theorem Grow2.swap {B : Nat} {e1 e2 : TypeId} {w : World} {v1 v2 : Value} {xs1 xs2 : List (List Int)} (h : Grow2 B e1 e2 w v1 v2 xs1 xs2) : Grow2 B e2 e1 w v2 v1 xs2 xs1 := by
  obtain ⟨r1, r2, h1, h2, h3, h4, h5⟩ := h
  exact ⟨r2, r1, h2, h1, h3.symm, fun i hi => let ⟨a, b, c⟩ := h5 i hi; ⟨a, c, b⟩, fun i hi => let ⟨a, b, c⟩ := h4 i hi; ⟨a, c, b⟩⟩
/-- A row is appended to the second list. -/
theorem Grow2.app2 {B g cap : Nat} {e1 e2 : TypeId} {w w' : World} {v1 v2 r : Value} {xs1 xs2 : List (List Int)} {ys : List Int} {l : List Value} (h : Grow2 B e1 e2 w v1 v2 xs1 xs2) (hl : w.ownsRow B e2 1 v2 xs2.length l) (hr : OwnInts B w.heap.size w r ys) (a1 : ApartV r v1) (a2 : ApartV r v2)
    (ho : w'.ownsRow B e2 1 (.slice (some ⟨g, 0, none⟩) (xs2.length + 1) cap) (xs2.length + 1) (l ++ [r])) (hg : w.grownBy w' v2.ownBlock) (hloc : v2.ownBlock = some g ∨ w.heap.size ≤ g) :
    Grow2 B e1 e2 w' v1 (.slice (some ⟨g, 0, none⟩) (xs2.length + 1) cap) xs1 (xs2 ++ [ys]) :=
  (h.swap.app1 hl hr a2 a1 ho hg hloc).swap
theorem ownsRow_one {B : Nat} {e : TypeId} {w : World} {x : Value} (h : B ≤ w.heap.size) : (w.alloc (.cells #[x] e)).ownsRow B e 1 (.slice (some ⟨w.heap.size, 0, none⟩) 1 1) 1 [x] :=
  ⟨rfl, .inr ⟨w.heap.size, 1, #[x], rfl, h, heap_alloc_new w _, Nat.le_refl _, by decide, rfl, rfl⟩⟩
/-- Two lists of one row each, just made: a pair, and an empty list. -/
theorem Grow2.start (wq : World) (n : Nat) (hn : wq.heap.size = n) (s t : Int) (T1 T2 : TypeId) :
    Grow2 n T2 T2 ((((wq.alloc (.cells #[.int .i64 s, .int .i64 t] T1)).alloc (.cells #[.slice (some ⟨n, 0, none⟩) 2 2] T2)).alloc (.cells #[] T1)).alloc (.cells #[.slice (some ⟨n + 1 + 1, 0, none⟩) 0 0] T2)) (.slice (some ⟨n + 1, 0, none⟩) 1 1) (.slice (some ⟨n + 1 + 1 + 1, 0, none⟩) 1 1) [[s, t]] [[]] := by
  subst hn
  have s1 : (wq.alloc (.cells #[.int .i64 s, .int .i64 t] T1)).heap.size = wq.heap.size + 1 := size_alloc _ _
  have s3 : (((wq.alloc (.cells #[.int .i64 s, .int .i64 t] T1)).alloc (.cells #[.slice (some ⟨wq.heap.size, 0, none⟩) 2 2] T2)).alloc (.cells #[] T1)).heap.size = wq.heap.size + 1 + 1 + 1 := by simp only [size_alloc]
  refine ⟨fun _ => .slice (some ⟨wq.heap.size, 0, none⟩) 2 2, fun _ => .slice (some ⟨wq.heap.size + 1 + 1, 0, none⟩) 0 0, ?_, ?_, ?_, fun i hi => ?_, fun i hi => ?_⟩
  · have := ownsRow_one (B := wq.heap.size) (e := T2) (w := wq.alloc (.cells #[.int .i64 s, .int .i64 t] T1)) (x := .slice (some ⟨wq.heap.size, 0, none⟩) 2 2) (by omega)
    rw [s1] at this
    exact ownsRow_new this (((New.refl _).alloc _).alloc _)
  · have := ownsRow_one (B := wq.heap.size) (e := T2) (w := ((wq.alloc (.cells #[.int .i64 s, .int .i64 t] T1)).alloc (.cells #[.slice (some ⟨wq.heap.size, 0, none⟩) 2 2] T2)).alloc (.cells #[] T1)) (x := .slice (some ⟨wq.heap.size + 1 + 1, 0, none⟩) 0 0) (by omega)
    rw [s3] at this
    exact this
  · left; simp [Value.ownBlock]
  · simp at hi
    subst hi
    refine ⟨?_, Or.inl (by simp [Value.ownBlock]), Or.inl (by simp [Value.ownBlock]; omega)⟩
    have hb : OwnInts wq.heap.size (wq.heap.size + 1) (wq.alloc (.cells #[.int .i64 s, .int .i64 t] T1)) (.slice (some ⟨wq.heap.size, 0, none⟩) 2 2) [s, t] := by
      refine ⟨_, 2, rfl, by simp, fun a e => by cases e; exact ⟨Nat.le_refl _, Nat.lt_succ_self _⟩, fun i hi => ⟨wq.heap.size, 0, rfl, ?_, by unfold World.frozen?; rw [heap_alloc_new]; simp <;> omega⟩⟩
      have : i = 0 ∨ i = 1 := by simp at hi; omega
      rcases this with rfl | rfl <;> (unfold World.cell?; rw [heap_alloc_new]; rfl)
    exact (hb.new ((((New.refl _).alloc _).alloc _).alloc _)).widen (Nat.le_refl _) (by simp only [size_alloc]; omega)
  · simp at hi
    subst hi
    exact ⟨OwnInts.none' _ (by omega) (by simp only [size_alloc] <;> omega), Or.inl (by simp [Value.ownBlock] <;> omega), Or.inl (by simp [Value.ownBlock])⟩
/-- A list of two numbers, just made. -/
theorem OwnInts.pair (w : World) (x y : Int) (T : TypeId) : OwnInts w.heap.size (w.alloc (.cells #[.int .i64 x, .int .i64 y] T)).heap.size (w.alloc (.cells #[.int .i64 x, .int .i64 y] T)) (.slice (some ⟨w.heap.size, 0, none⟩) 2 2) [x, y] := by
  refine ⟨_, 2, rfl, by simp, fun a e => by cases e; exact ⟨Nat.le_refl _, by rw [size_alloc]; exact Nat.lt_succ_self _⟩, fun i hi => ⟨w.heap.size, 0, rfl, ?_, by unfold World.frozen?; rw [heap_alloc_new]; simp <;> omega⟩⟩
  have : i = 0 ∨ i = 1 := by simp at hi; omega
  rcases this with rfl | rfl <;> (unfold World.cell?; rw [heap_alloc_new]; rfl)
/-- Two lists of one row each, just made: a row that was there, and an empty list. -/
theorem Grow2.startR (wq : World) (B n m : Nat) (hn : wq.heap.size = n) (r : Value) (xs : List Int) (hB : B ≤ m) (hm : m ≤ n) (hr : OwnInts m n wq r xs) (T1 T2 : TypeId) :
    Grow2 B T2 T2 (((wq.alloc (.cells #[r] T2)).alloc (.cells #[] T1)).alloc (.cells #[.slice (some ⟨n + 1, 0, none⟩) 0 0] T2)) (.slice (some ⟨n, 0, none⟩) 1 1) (.slice (some ⟨n + 1 + 1, 0, none⟩) 1 1) [xs] [[]] := by
  subst hn
  have s1 : (wq.alloc (.cells #[r] T2)).heap.size = wq.heap.size + 1 := size_alloc _ _
  have s2 : ((wq.alloc (.cells #[r] T2)).alloc (.cells #[] T1)).heap.size = wq.heap.size + 1 + 1 := by simp only [size_alloc]
  refine ⟨fun _ => r, fun _ => .slice (some ⟨wq.heap.size + 1, 0, none⟩) 0 0, ?_, ?_, ?_, fun i hi => ?_, fun i hi => ?_⟩
  · exact ownsRow_new (ownsRow_one (B := B) (e := T2) (w := wq) (x := r) (by omega)) (((New.refl _).alloc _).alloc _)
  · have := ownsRow_one (B := B) (e := T2) (w := (wq.alloc (.cells #[r] T2)).alloc (.cells #[] T1)) (x := .slice (some ⟨wq.heap.size + 1, 0, none⟩) 0 0) (by omega)
    rw [s2] at this
    exact this
  · left; simp [Value.ownBlock]; omega
  · simp at hi
    subst hi
    have ap : ∀ q, wq.heap.size ≤ q → ∀ a b, ApartV r (.slice (some ⟨q, 0, none⟩) a b) := fun q hq a b => ApartV.symm (ApartV.of_lt (M := wq.heap.size) (fun k hk => by simp [Value.ownBlock] at hk; omega) (fun k hk => (hr.block k hk).2))
    refine ⟨?_, ap _ (Nat.le_refl _) _ _, ap _ (by omega) _ _⟩
    exact (hr.new (((New.refl _).alloc _).alloc _ |>.alloc _)).widen hB (by simp only [size_alloc]; omega)
  · simp at hi
    subst hi
    exact ⟨OwnInts.none' _ (by omega) (by simp only [size_alloc] <;> omega), Or.inl (by simp [Value.ownBlock]), Or.inl (by simp [Value.ownBlock])⟩
/-- An own row is no map's block. -/
theorem MapAt.ne_row {P : Program} {K : TypeId} {w : World} {mb s : Nat} {F : Lit → Option Value} (h : MapAt P K w mb s F) {B n z : Nat} {e : TypeId} {v : Value} {xs : List Value} (ho : w.ownsRow B e z v n xs) : some mb ≠ v.ownBlock := by
  intro e1
  obtain ⟨D, ⟨es, clock, k1, _⟩, _⟩ := h
  obtain ⟨_, k2⟩ := ho
  rcases k2 with ⟨rfl, _⟩ | ⟨g', cap', cur, rfl, _, hh, _⟩
  · simp [Value.ownBlock] at e1
  · simp [Value.ownBlock] at e1
    rw [e1, hh] at k1; cases k1
theorem Grow2.mapped {P : Program} {K : TypeId} {B mb s : Nat} {F : Lit → Option Value} {e1 e2 : TypeId} {w w' : World} {v1 v2 : Value} {xs1 xs2 : List (List Int)} (h : Grow2 B e1 e2 w v1 v2 xs1 xs2) (hM : MapAt P K w mb s F) (hg : w.grownBy w' (some mb)) : Grow2 B e1 e2 w' v1 v2 xs1 xs2 := by
  obtain ⟨r1, r2, h1, h2, h3, h4, h5⟩ := h
  exact ⟨r1, r2, hM.ownsRow hg h1, hM.ownsRow hg h2, h3, fun i hi => let ⟨a, b⟩ := h4 i hi; ⟨(hM.ownInts hg a).widen (Nat.le_refl _) hg.size, b⟩, fun i hi => let ⟨a, b⟩ := h5 i hi; ⟨(hM.ownInts hg a).widen (Nat.le_refl _) hg.size, b⟩⟩
theorem ownsRow_base {B B' n z : Nat} {e : TypeId} {w : World} {v : Value} {xs : List Value} (h : w.ownsRow B e z v n xs) (hB : B' ≤ B) : w.ownsRow B' e z v n xs := by
  obtain ⟨h1, h2⟩ := h
  refine ⟨h1, ?_⟩
  rcases h2 with h2 | ⟨g, cap, cur, hv, hg, r⟩
  · exact Or.inl h2
  · exact Or.inr ⟨g, cap, cur, hv, Nat.le_trans hB hg, r⟩
theorem Grow2.base {B B' : Nat} {e1 e2 : TypeId} {w : World} {v1 v2 : Value} {xs1 xs2 : List (List Int)} (h : Grow2 B e1 e2 w v1 v2 xs1 xs2) (hB : B' ≤ B) : Grow2 B' e1 e2 w v1 v2 xs1 xs2 := by
  obtain ⟨r1, r2, h1, h2, h3, h4, h5⟩ := h
  exact ⟨r1, r2, ownsRow_base h1 hB, ownsRow_base h2 hB, h3, fun i hi => let ⟨a, b⟩ := h4 i hi; ⟨a.widen hB (Nat.le_refl _), b⟩, fun i hi => let ⟨a, b⟩ := h5 i hi; ⟨a.widen hB (Nat.le_refl _), b⟩⟩
/-- A row is appended to the first list, in a world that is only newer than the one in which the lists are known. -/
theorem Grow2.appN1 {B g cap : Nat} {e1 e2 : TypeId} {w5 w w' : World} {v1 v2 r : Value} {xs1 xs2 : List (List Int)} {ys : List Int} {l : List Value} (hg : w.grownBy w' v1.ownBlock) (hn : New w5 w) (h : Grow2 B e1 e2 w5 v1 v2 xs1 xs2) (hr : RowIn B w5 v1 v2 r ys) (hl : w5.ownsRow B e1 1 v1 xs1.length l)
    (ho : w'.ownsRow B e1 1 (.slice (some ⟨g, 0, none⟩) (xs1.length + 1) cap) (xs1.length + 1) (l ++ [r])) (hloc : v1.ownBlock = some g ∨ w.heap.size ≤ g) :
    Grow2 B e1 e2 w' (.slice (some ⟨g, 0, none⟩) (xs1.length + 1) cap) v2 (xs1 ++ [ys]) xs2 :=
  (h.new hn).app1 (ownsRow_new hl hn) (hr.new hn).1 (hr.new hn).2.1 (hr.new hn).2.2 ho hg hloc
theorem Grow2.appN2 {B g cap : Nat} {e1 e2 : TypeId} {w5 w w' : World} {v1 v2 r : Value} {xs1 xs2 : List (List Int)} {ys : List Int} {l : List Value} (hg : w.grownBy w' v2.ownBlock) (hn : New w5 w) (h : Grow2 B e1 e2 w5 v1 v2 xs1 xs2) (hr : RowIn B w5 v1 v2 r ys) (hl : w5.ownsRow B e2 1 v2 xs2.length l)
    (ho : w'.ownsRow B e2 1 (.slice (some ⟨g, 0, none⟩) (xs2.length + 1) cap) (xs2.length + 1) (l ++ [r])) (hloc : v2.ownBlock = some g ∨ w.heap.size ≤ g) :
    Grow2 B e1 e2 w' v1 (.slice (some ⟨g, 0, none⟩) (xs2.length + 1) cap) xs1 (xs2 ++ [ys]) :=
  (h.new hn).app2 (ownsRow_new hl hn) (hr.new hn).1 (hr.new hn).2.1 (hr.new hn).2.2 ho hg hloc
theorem RowIn.appN1 {B g n cap : Nat} {w5 w w' : World} {v1 v2 r : Value} {ys : List Int} (hg : w.grownBy w' v1.ownBlock) (hn : New w5 w) (h : RowIn B w5 v1 v2 r ys) (hloc : v1.ownBlock = some g ∨ w.heap.size ≤ g) : RowIn B w' (.slice (some ⟨g, 0, none⟩) n cap) v2 r ys :=
  (h.new hn).app1 hg hloc
theorem RowIn.mapped {P : Program} {K : TypeId} {B mb s : Nat} {F : Lit → Option Value} {w w' : World} {v1 v2 r : Value} {ys : List Int} (h : RowIn B w v1 v2 r ys) (hM : MapAt P K w mb s F) (hg : w.grownBy w' (some mb)) : RowIn B w' v1 v2 r ys :=
  ⟨(hM.ownInts hg h.1).widen (Nat.le_refl _) hg.size, h.2⟩
theorem Grow2.apart {B : Nat} {e1 e2 : TypeId} {w : World} {v1 v2 : Value} {xs1 xs2 : List (List Int)} (h : Grow2 B e1 e2 w v1 v2 xs1 xs2) : ApartV v1 v2 := let ⟨_, _, _, _, h3, _⟩ := h; h3
end
section
/-- How things lie in memory: the types of a key and of an element, an element's cells, its key. -/
structure BMem (α : Type) where
  K : TypeId
  e : TypeId
  z : Nat
  cells : α → List Value
  val : α → Value
  key : α → Lit
  ok : α → Prop
section
variable {α : Type} [DecidableEq α] [Inhabited α] (M : BMem α)
def BLoop (P : Program) (B : Nat) (w : World) (lv : Value) (mb : Nat) (t : Bfs α) : Prop :=
  ∃ F, ∃ vals : Nat → Value, MapAt P M.K w mb t.list.length F ∧ B ≤ mb ∧ w.ownsRow B M.e M.z lv t.list.length (t.list.flatMap M.cells) ∧
    (∀ i, i < t.list.length → F (M.key (nth t.list i)) = some (vals i) ∧ OwnInts B w.heap.size w (vals i) (nth t.words i) ∧ ApartV (vals i) lv) ∧
    ∀ x, M.ok x → x ∉ t.list → F (M.key x) = none
/-- The word of x is stored; x is not on the list yet. -/
def BPend (P : Program) (B : Nat) (w : World) (lv : Value) (mb : Nat) (t : Bfs α) (x : α) (word : List Int) : Prop :=
  ∃ F, ∃ vals : Nat → Value, ∃ wv, MapAt P M.K w mb (t.list.length + 1) F ∧ B ≤ mb ∧ w.ownsRow B M.e M.z lv t.list.length (t.list.flatMap M.cells) ∧
    (∀ i, i < t.list.length → F (M.key (nth t.list i)) = some (vals i) ∧ OwnInts B w.heap.size w (vals i) (nth t.words i) ∧ ApartV (vals i) lv) ∧
    (F (M.key x) = some wv ∧ OwnInts B w.heap.size w wv word ∧ ApartV wv lv) ∧ ∀ y, M.ok y → y ∉ t.list → y ≠ x → F (M.key y) = none
variable {M} {P : Program}
theorem ownsRow_formZ {B n z : Nat} {e : TypeId} {w : World} {v : Value} {xs : List Value} (h : w.ownsRow B e z v n xs) : ∃ A c, v = .slice A n c := by
  obtain ⟨h1, ⟨rfl, h2⟩ | ⟨g, cap, cur, rfl, _⟩⟩ := h
  · exact ⟨none, 0, by rw [h2]⟩
  · exact ⟨_, _, rfl⟩
theorem ownsRow_cellsZ {B n z : Nat} {e : TypeId} {w : World} {v : Value} {xs : List Value} (h : w.ownsRow B e z v n xs) (i : Nat) (hi : i < xs.length) :
    ∃ b c, v = .slice (some ⟨b, 0, none⟩) n c ∧ B ≤ b ∧ b < w.heap.size ∧ w.cell? ⟨b, i, none⟩ = some (xs[i]) := by
  obtain ⟨h1, h2⟩ := h
  rcases h2 with ⟨rfl, rfl⟩ | ⟨g, cap, cur, rfl, hg, hh, hn, hc, hs, ht⟩
  · simp at h1; subst h1; simp at hi
  · have hlt : g < w.heap.size := (Array.getElem?_eq_some_iff.1 hh).1
    refine ⟨g, cap, rfl, hg, hlt, ?_⟩
    have : (cur.toList.take (n * z))[i]? = xs[i]? := by rw [ht]
    simp [World.cell?, hh]
    rw [List.getElem?_take, if_pos (by omega)] at this
    simpa [hi] using this
omit [DecidableEq α] in
theorem flat_get {cells : α → List Value} {z : Nat} (hz : ∀ x, (cells x).length = z) (l : List α) (i j : Nat) (hi : i < l.length) (hj : j < z) : (l.flatMap cells)[i * z + j]? = (cells (nth l i))[j]? := by
  induction l generalizing i with
  | nil => simp at hi
  | cons x r ih =>
    rw [List.flatMap_cons]
    cases i with
    | zero => rw [Nat.zero_mul, Nat.zero_add, List.getElem?_append_left (by rw [hz]; exact hj)]; rfl
    | succ i =>
      rw [List.getElem?_append_right (by rw [hz, Nat.succ_mul]; omega), hz, show (i + 1) * z + j - z = i * z + j by rw [Nat.succ_mul]; omega]
      exact ih i (by simpa using hi)
omit [DecidableEq α] [Inhabited α] in
theorem flat_len {cells : α → List Value} {z : Nat} (hz : ∀ x, (cells x).length = z) (l : List α) : (l.flatMap cells).length = l.length * z := by
  induction l with
  | nil => simp
  | cons x r ih => rw [List.flatMap_cons, List.length_append, ih, hz, List.length_cons, Nat.succ_mul]; omega
omit [DecidableEq α] in
theorem BLoop.new {B : Nat} {w w' : World} {lv : Value} {mb : Nat} {t : Bfs α} (h : BLoop M P B w lv mb t) (hn : New w w') : BLoop M P B w' lv mb t := by
  obtain ⟨F, vals, h1, h2, h3, h4, h5⟩ := h
  exact ⟨F, vals, h1.new hn, h2, ownsRow_new h3 hn, fun i hi => let ⟨a, b, c⟩ := h4 i hi; ⟨a, (b.new hn).widen (Nat.le_refl _) hn.size, c⟩, h5⟩
omit [DecidableEq α] in
theorem BLoop.form {B : Nat} {w : World} {lv : Value} {mb : Nat} {t : Bfs α} (h : BLoop M P B w lv mb t) : ∃ A c, lv = .slice A t.list.length c := let ⟨_, _, _, _, h3, _⟩ := h; ownsRow_formZ h3
omit [DecidableEq α] in
theorem BLoop.list {B : Nat} {w : World} {lv : Value} {mb : Nat} {t : Bfs α} (h : BLoop M P B w lv mb t) : w.ownsRow B M.e M.z lv t.list.length (t.list.flatMap M.cells) := let ⟨_, _, _, _, h3, _⟩ := h; h3
omit [DecidableEq α] in
theorem BLoop.low {B : Nat} {w : World} {lv : Value} {mb : Nat} {t : Bfs α} (h : BLoop M P B w lv mb t) : B ≤ mb ∧ mb < w.heap.size := let ⟨_, _, h1, h2, _⟩ := h; ⟨h2, h1.lt⟩
omit [DecidableEq α] in
theorem BLoop.cell_ne {B : Nat} {w : World} {lv : Value} {mb : Nat} {t : Bfs α} (h : BLoop M P B w lv mb t) {p : Addr} {v : Value} (hc : w.cell? p = some v) : p.block ≠ mb := let ⟨_, _, h1, _⟩ := h; h1.cell_ne hc
omit [DecidableEq α] in
/-- The k-th thing's cells. -/
theorem BLoop.cell {B : Nat} {w : World} {lv : Value} {mb : Nat} {t : Bfs α} (h : BLoop M P B w lv mb t) (hz : ∀ x, (M.cells x).length = M.z) (k : Nat) (hk : k < t.list.length) (h0 : 0 < M.z) :
    ∃ b c, lv = .slice (some ⟨b, 0, none⟩) t.list.length c ∧ ∀ j u, (M.cells (nth t.list k))[j]? = some u → w.cell? ⟨b, k * M.z + j, none⟩ = some u := by
  have h3 := h.list
  have hlen := flat_len hz t.list
  have hb : ∀ j, j < M.z → k * M.z + j < (t.list.flatMap M.cells).length := fun j hj => by
    rw [hlen]
    have : (k + 1) * M.z ≤ t.list.length * M.z := Nat.mul_le_mul_right _ hk
    rw [Nat.succ_mul] at this; omega
  obtain ⟨b, c, rfl, _, _, _⟩ := ownsRow_cellsZ h3 (k * M.z + 0) (hb 0 h0)
  refine ⟨b, c, rfl, fun j u hj => ?_⟩
  have hjz : j < M.z := by
    rcases Nat.lt_or_ge j M.z with h | h
    · exact h
    · rw [List.getElem?_eq_none (by rw [hz]; exact h)] at hj; cases hj
  obtain ⟨b', c', e, _, _, hc⟩ := ownsRow_cellsZ h3 (k * M.z + j) (hb j hjz)
  cases e
  rw [hc]
  have := flat_get hz t.list k j hk hjz
  rw [hj, List.getElem?_eq_getElem (hb j hjz)] at this
  exact this
theorem BLoop.look {B : Nat} {w : World} {lv : Value} {mb : Nat} {t : Bfs α} (h : BLoop M P B w lv mb t) (Kl : Go.Maps.Keyed P M.K) {T E : TypeId} (ht : P.underlying T = some (.map M.K E)) {zv : Value} (hz : ∀ w, (zeroValue E).run P w = .ok zv w)
    (x : α) (hx : M.ok x) (hkey : keyOf P M.K (M.val x) = some (M.key x)) : ∃ v, (x ∈ t.list → (Instr.lookup T (.map (some mb)) (M.val x) true).run P w = .ok (.tuple #[v, .bool true]) w) ∧ (x ∉ t.list → (Instr.lookup T (.map (some mb)) (M.val x) true).run P w = .ok (.tuple #[v, .bool false]) w) := by
  obtain ⟨F, vals, h1, _, _, h4, h5⟩ := h
  have := (h1.look Kl ht (hz w) hkey).2
  by_cases hm : x ∈ t.list
  · obtain ⟨i, hi, rfl⟩ := mem_nth t.list x hm
    rw [(h4 i hi).1] at this
    exact ⟨vals i, fun _ => this, fun h => absurd (nth_mem t.list i hi) h⟩
  · rw [h5 x hx hm] at this
    exact ⟨zv, fun h => absurd h hm, fun _ => this⟩
omit [DecidableEq α] in
theorem BLoop.word {B : Nat} {w : World} {lv : Value} {mb : Nat} {t : Bfs α} (h : BLoop M P B w lv mb t) (Kl : Go.Maps.Keyed P M.K) {T E : TypeId} (ht : P.underlying T = some (.map M.K E)) {zv : Value} (hz : ∀ w, (zeroValue E).run P w = .ok zv w)
    (i : Nat) (hi : i < t.list.length) (hkey : keyOf P M.K (M.val (nth t.list i)) = some (M.key (nth t.list i))) :
    ∃ A c, OwnInts B w.heap.size w (.slice A (nth t.words i).length c) (nth t.words i) ∧ ∀ w', New w w' → (Instr.lookup T (.map (some mb)) (M.val (nth t.list i)) false).run P w' = .ok (.slice A (nth t.words i).length c) w' := by
  obtain ⟨F, vals, h1, _, _, h4, h5⟩ := h
  obtain ⟨A, c, hf⟩ := (h4 i hi).2.1.form
  refine ⟨A, c, hf ▸ (h4 i hi).2.1, fun w' hn => ?_⟩
  have := ((h1.new hn).look Kl ht (hz w') hkey).1
  rw [(h4 i hi).1] at this
  rw [← hf]; exact this
omit [DecidableEq α] in
/-- A new word is stored. -/
theorem BLoop.put {B : Nat} {w0 w2 : World} {lv wv : Value} {mb : Nat} {t : Bfs α} {word : List Int} (h : BLoop M P B w0 lv mb t) (hn : New w0 w2) (hw : OwnInts w0.heap.size w2.heap.size w2 wv word) (hB : B ≤ w0.heap.size)
    (Kl : Go.Maps.Keyed P M.K) {T E : TypeId} (ht : P.underlying T = some (.map M.K E)) (hinj : ∀ x y, M.ok x → M.ok y → M.key x = M.key y → x = y) (hall : ∀ x, x ∈ t.list → M.ok x) (x : α) (hok : M.ok x) (hkey : keyOf P M.K (M.val x) = some (M.key x)) (hx : x ∉ t.list) (hl : t.list.length < 1099511627776) :
    ∃ w3, (Instr.mapUpdate T (.map (some mb)) (M.val x) wv).run P w2 = .ok () w3 ∧ w2.grownBy w3 (some mb) ∧ BPend M P B w3 lv mb t x word := by
  obtain ⟨F, vals, h1, h2, h3, h4, h5⟩ := h
  have h1' := h1.new hn
  obtain ⟨w3, r1, r2, r3⟩ := h1'.put_spec (val := wv) Kl ht (by unfold maxLen; omega) hkey
  rw [h5 x hok hx] at r2
  simp only [Option.isSome_none, Bool.false_eq_true, if_false] at r2
  have hs := r3.size
  have hb3 := World.ownsRow.lt h3
  refine ⟨w3, r1, r3, putF F (M.key x) wv, vals, wv, r2, h2, h1'.ownsRow r3 (ownsRow_new h3 hn), fun i hi => ?_, ⟨?_, ?_, ?_⟩, fun y hoy hy hyx => ?_⟩
  · obtain ⟨a, b, c⟩ := h4 i hi
    refine ⟨?_, (h1'.ownInts r3 (b.new hn)).widen (Nat.le_refl _) (by have := hn.size; omega), c⟩
    unfold putF
    rw [if_neg]
    · exact a
    · intro e
      have := hinj _ _ (hall _ (nth_mem _ _ hi)) hok e
      exact hx (this ▸ nth_mem _ _ hi)
  · unfold putF; rw [if_pos rfl]
  · exact (h1'.ownInts r3 hw).widen hB hs
  · exact ApartV.of_lt (fun k hk => (hw.block k hk).1) (fun k hk => (hb3 k hk).2)
  · unfold putF
    rw [if_neg]
    · exact h5 y hoy hy
    · intro e
      exact hyx (hinj _ _ hoy hok e)
omit [DecidableEq α] in
theorem BPend.list {B : Nat} {w : World} {lv : Value} {mb : Nat} {t : Bfs α} {x : α} {word : List Int} (h : BPend M P B w lv mb t x word) : w.ownsRow B M.e M.z lv t.list.length (t.list.flatMap M.cells) := let ⟨_, _, _, _, _, h3, _⟩ := h; h3
omit [DecidableEq α] in
theorem BPend.new {B : Nat} {w w' : World} {lv : Value} {mb : Nat} {t : Bfs α} {x : α} {word : List Int} (h : BPend M P B w lv mb t x word) (hn : New w w') : BPend M P B w' lv mb t x word := by
  obtain ⟨F, vals, wv, h1, h2, h3, h4, ⟨q1, q2, q3⟩, h5⟩ := h
  exact ⟨F, vals, wv, h1.new hn, h2, ownsRow_new h3 hn, fun i hi => let ⟨a, b, c⟩ := h4 i hi; ⟨a, (b.new hn).widen (Nat.le_refl _) hn.size, c⟩, ⟨q1, (q2.new hn).widen (Nat.le_refl _) hn.size, q3⟩, h5⟩
omit [DecidableEq α] in
/-- The new thing is appended to the list. -/
theorem BPend.app {B : Nat} {w3 w4 : World} {lv : Value} {mb : Nat} {t : Bfs α} {x : α} {word : List Int} {g cap : Nat} (h : BPend M P B w3 lv mb t x word) (hw : t.words.length = t.list.length) (_hx : x ∉ t.list)
    (ho : w4.ownsRow B M.e M.z (.slice (some ⟨g, 0, none⟩) (t.list.length + 1) cap) (t.list.length + 1) (t.list.flatMap M.cells ++ M.cells x)) (hg : w3.grownBy w4 lv.ownBlock) (hloc : lv.ownBlock = some g ∨ w3.heap.size ≤ g) :
    BLoop M P B w4 (.slice (some ⟨g, 0, none⟩) (t.list.length + 1) cap) mb ⟨t.list ++ [x], t.words ++ [word]⟩ := by
  obtain ⟨F, vals, wv, h1, h2, h3, h4, ⟨q1, q2, q3⟩, h6⟩ := h
  have hs := hg.size
  have hmb : some mb ≠ lv.ownBlock := by
    intro e1
    obtain ⟨D, ⟨es, clock, k1, _⟩, _⟩ := h1
    obtain ⟨_, k2⟩ := h3
    rcases k2 with ⟨rfl, _⟩ | ⟨g', cap', cur, rfl, _, hh, _⟩
    · simp [Value.ownBlock] at e1
    · simp [Value.ownBlock] at e1
      rw [e1, hh] at k1; cases k1
  have keep : ∀ v xs, OwnInts B w3.heap.size w3 v xs → ApartV v lv → OwnInts B w4.heap.size w4 v xs ∧ ApartV v (.slice (some ⟨g, 0, none⟩) (t.list.length + 1) cap) := fun v xs hv hd =>
    ⟨(hv.grown hg hd).widen (Nat.le_refl _) hs, hd.frame (fun k hk => (hv.block k hk).2) hloc⟩
  refine ⟨F, fun i => if i < t.list.length then vals i else wv, ?_, h2, ?_, fun i hi => ?_, fun y hoy hy => ?_⟩
  · have := h1.kept hg hmb
    simpa using this
  · rw [List.flatMap_append]
    simpa using ho
  · simp at hi
    by_cases e : i < t.list.length
    · simp only [if_pos e]
      rw [nth_append_left _ _ _ e, nth_append_left _ _ _ (by rw [hw]; exact e)]
      obtain ⟨a, b, c⟩ := h4 i e
      obtain ⟨k1, k2⟩ := keep _ _ b c
      exact ⟨a, k1, k2⟩
    · have ei : i = t.list.length := by omega
      subst ei
      simp only [if_neg (Nat.lt_irrefl _)]
      rw [nth_append_here]
      have e2 : nth (t.words ++ [word]) t.list.length = word := by rw [← hw, nth_append_here]
      rw [e2]
      obtain ⟨k1, k2⟩ := keep _ _ q2 q3
      exact ⟨q1, k1, k2⟩
  · simp at hy
    exact h6 y hoy hy.1 hy.2
omit [DecidableEq α] in
/-- The start: one thing, with the empty word. -/
theorem BLoop.start {B : Nat} {w : World} {lv wv : Value} {mb : Nat} {x : α} {F : Lit → Option Value} (hm : MapAt P M.K w mb 1 F) (hB : B ≤ mb) (hl : w.ownsRow B M.e M.z lv 1 (M.cells x)) (hF : F (M.key x) = some wv) (hw : OwnInts B w.heap.size w wv []) (ha : ApartV wv lv)
    (hn : ∀ y, M.ok y → y ≠ x → F (M.key y) = none) : BLoop M P B w lv mb (bStart x) := by
  refine ⟨F, fun _ => wv, hm, hB, by simpa [bStart] using hl, fun i hi => ?_, fun y hoy hy => hn y hoy (by simpa [bStart] using hy)⟩
  have : i = 0 := by simpa [bStart] using hi
  subst this
  exact ⟨hF, hw, ha⟩
end
section
variable {P : Program}
theorem cells_new (w : World) (zs : List Value) (T : TypeId) (j : Nat) (u : Value) (h : zs[j]? = some u) : (w.alloc (.cells zs.toArray T)).cell? ((⟨w.heap.size, 0, none⟩ : Addr).add j) = some u := by
  have e : (⟨w.heap.size, 0, none⟩ : Addr).add j = ⟨w.heap.size, j, none⟩ := by
    unfold Addr.add
    split
    · rename_i h; subst h; rfl
    · simp
  rw [e]
  unfold World.cell?
  rw [heap_alloc_new]
  simpa using h
/-- 'append(out, z)', z of so many cells, to an own row. -/
theorem wpList_appC {ops : Array Oper} {rest : List Oper} {o : Oper} {a : Act} {Q : Exit → Act → World → Prop} {w1 : World} {T : TypeId} {zs : List Value} (hg : o.guard = none) (s x : Operand) (t : TypeId)
    (ho : o.op = .call { callee := .builtin .append, args := #[s, x], argTypes := #[t, t] }) {B : Nat} {e : TypeId} (ht : P.underlying t = some (.slice e)) {z0 : Value} {size bytes : Nat}
    (hinfo : (P.info? e).map (fun i => (i.zero, i.size, i.bytes)) = some (some z0, size, bytes)) (hz0' : z0.cells.size = size) (hsz : 0 < size) (hb : bytes ≤ 64) (hzl : zs.length = size) (hz : ∀ u ∈ zs, u.oneCell' = true) (v : Value) (n : Nat) (xs : List Value) (hs : a.eval s = v) (hown : w1.ownsRow B e size v n xs)
    (hx : a.eval x = .slice (some ⟨w1.heap.size, 0, none⟩) 1 1) (hlen : n < 1099511627776) (hB : B ≤ w1.heap.size)
    (h : ∀ g cap w', w'.ownsRow B e size (.slice (some ⟨g, 0, none⟩) (n + 1) cap) (n + 1) (xs ++ zs) → w1.grownBy w' v.ownBlock → (v.ownBlock = some g ∨ w1.heap.size < g) → wpList P ops Q rest (a.put o.dst (.slice (some ⟨g, 0, none⟩) (n + 1) cap)) w') :
    wpList P ops Q (o :: rest) a (w1.alloc (.cells zs.toArray T)) := by
  obtain ⟨i0, hi, hz0, hz1, hz2⟩ := info_parts hinfo
  refine wpList_append_own_at _ hg s x t ho B e i0 z0 size bytes ht hi hz0 hz1 hz2 hz0' hsz v n _ hs (World.ownsRow.alloc hown _) ⟨w1.heap.size, 0, none⟩ 1 1 zs hx (by rw [Nat.one_mul]; exact hzl) (fun j u hj => cells_new w1 zs T j u hj) hz (by unfold maxLen; omega) ?_ (by simp; omega) ?_
  · have : (n + 1) * bytes ≤ 1099511627776 * 64 := Nat.mul_le_mul (by omega) hb
    omega
  · intro v' w' hown' hgrow hnil hloc
    have hgr : w1.grownBy w' v.ownBlock := grown_trans (World.grownBy_alloc _ _ _) hgrow
    obtain ⟨h1, ⟨rfl, h2⟩ | ⟨g, cap, cur, rfl, _⟩⟩ := id hown'
    · omega
    · refine h g cap w' hown' hgr ?_
      rcases hloc with h | h
      · exact Or.inl h.symm
      · right
        simp [Value.ownBlock] at h
        omega
end
section
variable {α : Type} [DecidableEq α] [Inhabited α] {M : BMem α} {P : Program}
/-- A list of one thing, just made. -/
theorem ownsRow_startZ {B : Nat} {e : TypeId} {w : World} {zs : List Value} (h : B ≤ w.heap.size) (_hz : 0 < zs.length) : (w.alloc (.cells zs.toArray e)).ownsRow B e zs.length (.slice (some ⟨w.heap.size, 0, none⟩) 1 1) 1 zs :=
  ⟨by simp, .inr ⟨w.heap.size, 1, zs.toArray, rfl, h, heap_alloc_new w _, Nat.le_refl _, by decide, by simp, by simp⟩⟩
omit [DecidableEq α] in
/-- The start's word is put into an empty map. -/
theorem BLoop.begin {B mb : Nat} {wb : World} {wv : Value} (x : α) (hM : MapAt P M.K wb mb 0 (fun _ => none)) (hB : B ≤ mb) (hv : OwnInts B wb.heap.size wb wv []) (Kl : Go.Maps.Keyed P M.K) {T E : TypeId} (ht : P.underlying T = some (.map M.K E))
    (hinj : ∀ x y, M.ok x → M.ok y → M.key x = M.key y → x = y) (hok : M.ok x) (hkey : keyOf P M.K (M.val x) = some (M.key x)) :
    ∃ w5, (Instr.mapUpdate T (.map (some mb)) (M.val x) wv).run P wb = .ok () w5 ∧ wb.grownBy w5 (some mb) ∧ (∀ {B' n z : Nat} {e : TypeId} {v : Value} {xs : List Value}, wb.ownsRow B' e z v n xs → w5.ownsRow B' e z v n xs) ∧
      ∀ (wf : World) (lv : Value), New w5 wf → wf.ownsRow B M.e M.z lv 1 (M.cells x) → ApartV wv lv → BLoop M P B wf lv mb (bStart x) := by
  obtain ⟨w5, r1, r2, r3⟩ := hM.put_spec (val := wv) Kl ht (by decide) hkey
  simp only [Option.isSome_none, Bool.false_eq_true, if_false, Nat.zero_add] at r2
  refine ⟨w5, r1, r3, fun h => hM.ownsRow r3 h, fun wf lv hn hl ha => ?_⟩
  refine BLoop.start (F := putF (fun _ => none) (M.key x) wv) (r2.new hn) hB hl (by unfold putF; rw [if_pos rfl]) (((hM.ownInts r3 hv).new hn).widen (Nat.le_refl _) (Nat.le_trans r3.size hn.size)) ha (fun y hoy hy => ?_)
  unfold putF
  rw [if_neg]
  intro e
  exact hy (hinj _ _ hoy hok e)
end
end
section
open Go.Maps (Keyed)
def RangeAt (P : Program) (K : TypeId) (w : World) (b r s : Nat) (F : Lit → Option Value) (left : Lit → Bool) (cnt : Nat) : Prop :=
  ∃ D : DataW Value, w.ranges P K rawE b r s D left cnt ∧ ∀ kl, WideAt.IsKeyLit kl → Maps.has D kl = (F kl).isSome ∧ ∀ z : Value, D.atKey kl (.held z) = .held ((F kl).getD z)
section
variable {P : Program} {K : TypeId} {w w' : World} {b r s cnt : Nat} {F : Lit → Option Value} {left : Lit → Bool}
theorem RangeAt.kept {row : Option Nat} (h : RangeAt P K w b r s F left cnt) (hg : w.grownBy w' row) (hb : some b ≠ row) (hr : some r ≠ row) : RangeAt P K w' b r s F left cnt :=
  let ⟨D, h1, h2⟩ := h; ⟨D, h1.kept hg hb hr, h2⟩
theorem grown_of_new (h : New w w') : w.grownBy w' none := ⟨h.os, h.tape, h.output, h.size, fun k hk _ => h.block k hk⟩
theorem RangeAt.new (h : RangeAt P K w b r s F left cnt) (hn : New w w') : RangeAt P K w' b r s F left cnt := h.kept (grown_of_new hn) (by simp) (by simp)
theorem RangeAt.left_eq (h : RangeAt P K w b r s F left cnt) : w.rangeLeft b r = cnt := let ⟨_, h1, _⟩ := h; h1.left_eq
theorem RangeAt.lt (h : RangeAt P K w b r s F left cnt) : r < w.heap.size ∧ b < w.heap.size ∧ r ≠ b := let ⟨_, h1, _⟩ := h; ⟨h1.lt, h1.owns.lt, h1.ne⟩
end
section
variable {P : Program} (w : World) {ops : Array Oper} {rest : List Oper} {o : Oper} {a : Act} {Q : Exit → Act → World → Prop} {K : TypeId} {b s : Nat} {F : Lit → Option Value}
theorem wpList_rangeM (hg : o.guard = none) (m : Operand) (t : TypeId) (hop : o.op = Op.range t m) (e : TypeId) (Kl : Keyed P K) (ht : P.underlying t = some (.map K e)) (hm : a.eval m = .map (some b)) (hown : MapAt P K w b s F)
    (hK : ∀ w' left, (∀ kl, WideAt.IsKeyLit kl → left kl = (F kl).isSome) → RangeAt P K w' b w.heap.size s F left s → w.grownBy w' none → w'.heap.size = w.heap.size + 1 → wpList P ops Q rest (a.put o.dst (.pointer (some ⟨w.heap.size, 0, none⟩))) w') :
    wpList P ops Q (o :: rest) a w := by
  obtain ⟨D, h1, h2, h3, h4⟩ := hown
  refine wpList_range_own w hg m t hop K e Kl ht rawE b s D hm h1 ?_
  intro w' hr hgr hsz
  rw [h2] at hr
  exact hK w' _ (fun kl hk => (h4 kl hk).1) ⟨D, hr, h4⟩ hgr hsz
theorem wpList_nextM {q : IntKind} (hg : o.guard = none) (it : Operand) (hop : o.op = Op.next it false) (Kl : Keyed P K) (hk : P.underlying K = some (.int q)) {r cnt : Nat} {left : Lit → Bool}
    (hit : a.eval it = .pointer (some ⟨r, 0, none⟩)) (h : RangeAt P K w b r s F left cnt)
    (hDone : cnt = 0 → (∀ kl, left kl = false) → wpList P ops Q rest (a.put o.dst (.tuple #[.bool false])) w)
    (hMore : ∀ (x : Int) (v : Value) (w' : World) (cnt' : Nat), (Lit.int q x).wf = true → left (.int q x) = true → F (.int q x) = some v → RangeAt P K w' b r s F (fun z => left z && !z.sameKey (.int q x)) cnt' → cnt' < cnt →
      w.grownBy w' (some r) → w'.heap.size = w.heap.size → (Instr.entry (.pointer (some ⟨r, 0, none⟩))).run P w' = .ok (.tuple #[.int q x, v]) w' → wpList P ops Q rest (a.put o.dst (.tuple #[.bool true, .int q x, v])) w') :
    wpList P ops Q (o :: rest) a w := by
  obtain ⟨D, h1, h2⟩ := h
  refine wpList_next_ranges w hg it hop K Kl rawE (Value.int q) (fun v : Value => v) (fun key kl hkey => by obtain ⟨x, rfl, _⟩ := Maps.keyOf_int_inv hk hkey; exact ⟨x, rfl⟩) (fun v y _ => ⟨v, rfl⟩) b r s D left cnt hit h1 hDone ?_
  intro x v kl y w' cnt' hkey hlk hv hat hrg hlt hgr hsz hen
  obtain ⟨x', ex, rfl, hwx⟩ := Maps.keyOf_int_inv hk hkey
  cases ex
  have hy : y = (.held v, []) := by simpa [rawE] using hv.symm
  subst hy
  have hkl : WideAt.IsKeyLit (.int q x) := Kl.key hkey
  have e1 := hat (.held (.bool false))
  have e2 := hat (.held (.bool true))
  rw [(h2 _ hkl).2] at e1 e2
  have hF : F (.int q x) = some v := by
    cases hf : F (.int q x) with
    | some u => rw [hf] at e1; simp at e1; rw [e1]
    | none =>
      rw [hf] at e1 e2
      simp at e1 e2
      rw [← e1] at e2; cases e2
  exact hMore x v w' cnt' hwx hlk hF ⟨D, hrg, h2⟩ hlt hgr hsz hen
end
end

end Go.Proofs.YthbebnfhplacnaaDoor
