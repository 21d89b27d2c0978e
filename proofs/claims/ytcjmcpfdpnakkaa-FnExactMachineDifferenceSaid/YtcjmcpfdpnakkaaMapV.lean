/- Maps that the call itself makes: what lies at each key, as a value. -/
import Derived.Test.YtcjmcpfdpnakkaaBase
import Derived.WalkKit
import Derived.WalkSpells
import Derived.WalkLawsBesides
import Derived.Deep.QuietTactic
import Derived.Deep.OwnRows
import Derived.BigQuiet
import Derived.KernelRfl
import Derived.Maps.Own
import Derived.Maps.OwnOps
import Derived.Maps.OwnSet
import Derived.Maps.Views
namespace Go.Proofs.Ytcjmcpfdpnakkaa
open Go.RowKit

open Go.Maps (Keyed)
/-- An element of a map, as the value that it is. -/
def rawE (v : Value) : Option (DataW Value × List MemPlace) := some (.held v, [])
/-- Block b is a map of s entries; F tells what lies at a key. -/
def MapAt (P : Program) (K : TypeId) (w : World) (b s : Nat) (F : Lit → Option Value) : Prop :=
  ∃ D : DataW Value, w.ownsMap P K rawE b s D ∧ Maps.size D = s ∧ Maps.Tidy D ∧ ∀ kl, WideAt.IsKeyLit kl → Maps.has D kl = (F kl).isSome ∧ ∀ z : Value, D.atKey kl (.held z) = .held ((F kl).getD z)
open Classical in
noncomputable def putF (F : Lit → Option Value) (k : Lit) (v : Value) : Lit → Option Value := fun l => if l = k then some v else F l
section
variable {P : Program} {K : TypeId} {w w' : World} {b s : Nat} {F : Lit → Option Value}
theorem MapAt.made (P : Program) (K : TypeId) (w : World) : MapAt P K (w.alloc (.map #[] 0)) w.heap.size 0 (fun _ => none) :=
  ⟨.map [], World.ownsMap_made _ _ _ _, rfl, Maps.tidy_empty, fun _kl _ => ⟨rfl, fun _z => rfl⟩⟩
theorem MapAt.lt (h : MapAt P K w b s F) : b < w.heap.size := let ⟨_, h, _⟩ := h; h.lt
theorem MapAt.kept {row : Option Nat} (h : MapAt P K w b s F) (hg : w.grownBy w' row) (hne : some b ≠ row) : MapAt P K w' b s F :=
  let ⟨D, h1, h2, h3⟩ := h; ⟨D, h1.kept hg hne, h2, h3⟩
theorem MapAt.block (h : MapAt P K w b s F) (hb : w'.heap[b]? = w.heap[b]?) : MapAt P K w' b s F := by
  obtain ⟨D, ⟨es, clock, h1, r⟩, h2⟩ := h
  exact ⟨D, ⟨es, clock, hb.trans h1, r⟩, h2⟩
theorem MapAt.new (h : MapAt P K w b s F) (hn : New w w') : MapAt P K w' b s F := h.block (hn.block b h.lt)
theorem MapAt.within {B E : Nat} (h : MapAt P K w b s F) (hw : Within B E w w') (hb : b < B ∨ E ≤ b) : MapAt P K w' b s F := h.block (hw.2.2.2.2 b h.lt hb)
theorem MapAt.eqF {G : Lit → Option Value} (h : MapAt P K w b s F) (e : ∀ kl, WideAt.IsKeyLit kl → F kl = G kl) : MapAt P K w b s G := by
  obtain ⟨D, h1, h2, h3, h4⟩ := h
  exact ⟨D, h1, h2, h3, fun kl hk => by rw [← e kl hk]; exact h4 kl hk⟩
/-- A cell is no map. -/
theorem MapAt.cell_ne (h : MapAt P K w b s F) {p : Addr} {v : Value} (hc : w.cell? p = some v) : p.block ≠ b := by
  obtain ⟨D, ⟨es, clock, h1, _⟩, _⟩ := h
  rintro rfl
  simp [World.cell?, h1] at hc
/-- Where a map alone has turned, the cells are as they were. -/
theorem MapAt.cells (h : MapAt P K w b s F) (hg : w.grownBy w' (some b)) {p : Addr} {v : Value} (hc : w.cell? p = some v) : w'.cell? p = some v := by
  have := h.cell_ne hc
  rw [World.cell?_of_block (w := w) (hg.block p.block (World.block_lt_of_cell? w p hc) (by simpa using this))]; exact hc
theorem MapAt.ints (h : MapAt P K w b s F) (hg : w.grownBy w' (some b)) {v : Value} {xs : List Int} (hv : IntsAt w v xs) : IntsAt w' v xs := by
  obtain ⟨A, c, rfl, hl, hc⟩ := hv
  refine ⟨A, c, rfl, hl, fun i hi => ?_⟩
  obtain ⟨b', off, hA, hx⟩ := hc i hi
  exact ⟨b', off, hA, h.cells hg hx⟩
theorem MapAt.ownInts {B E : Nat} (h : MapAt P K w b s F) (hg : w.grownBy w' (some b)) {v : Value} {xs : List Int} (hv : OwnInts B E w v xs) : OwnInts B E w' v xs := by
  obtain ⟨A, c, rfl, hl, ha, hc⟩ := hv
  refine ⟨A, c, rfl, hl, ha, fun i hi => ?_⟩
  obtain ⟨b', off, hA, hx, hf⟩ := hc i hi
  have := h.cell_ne hx
  refine ⟨b', off, hA, h.cells hg hx, ?_⟩
  rw [World.frozen?_of_block (w := w) (hg.block b' (World.block_lt_of_cell? w _ hx) (by simpa using this))]; exact hf
theorem MapAt.rows (h : MapAt P K w b s F) (hg : w.grownBy w' (some b)) {v : Value} {xss : List (List Int)} (hv : RowsAt w v xss) : RowsAt w' v xss := by
  obtain ⟨A, c, rfl, hl, hc⟩ := hv
  refine ⟨A, c, rfl, hl, fun i hi => ?_⟩
  obtain ⟨b', off, rv, hA, hx, hr⟩ := hc i hi
  exact ⟨b', off, rv, hA, h.cells hg hx, h.ints hg hr⟩
theorem MapAt.ownsRow (h : MapAt P K w b s F) (hg : w.grownBy w' (some b)) {B n z : Nat} {e : TypeId} {v : Value} {xs : List Value} (hv : w.ownsRow B e z v n xs) : w'.ownsRow B e z v n xs := by
  obtain ⟨h1, h2⟩ := hv
  refine ⟨h1, ?_⟩
  rcases h2 with h2 | ⟨g, cap, cur, hv, hgB, hh, r⟩
  · exact Or.inl h2
  · refine Or.inr ⟨g, cap, cur, hv, hgB, ?_, r⟩
    rw [hg.block g (Array.getElem?_eq_some_iff.1 hh).1]
    · exact hh
    · intro e
      cases e
      obtain ⟨D, ⟨es, clock, h1, _⟩, _⟩ := h
      rw [hh] at h1; cases h1
theorem MapAt.put_spec (h : MapAt P K w b s F) (Kl : Keyed P K) {t e : TypeId} (ht : P.underlying t = some (.map K e)) (hn : s < maxLen) {key val : Value} {kl : Lit} (hkey : keyOf P K key = some kl) :
    ∃ w', (Instr.mapUpdate t (.map (some b)) key val).run P w = .ok () w' ∧ MapAt P K w' b (if (F kl).isSome = true then s else s + 1) (putF F kl val) ∧ w.grownBy w' (some b) := by
  obtain ⟨D, h1, h2, h3, h4⟩ := h
  have hkl := Kl.key hkey
  obtain ⟨w', r1, r2, r3⟩ := h1.update (val := val) (d := .held val) (ps := []) Kl ht hn hkey rfl
  have hsz : Maps.size (D.put kl (.held val)) = if (F kl).isSome = true then s else s + 1 := by
    rw [Maps.size_put h3, (h4 kl hkl).1, h2]
  refine ⟨w', r1, ⟨D.put kl (.held val), ?_, hsz, h3.put hkl _, ?_⟩, r3⟩
  · obtain ⟨es, clock, k1, k2, k3, k4⟩ := r2
    refine ⟨es, clock, k1, k2, ?_, k4⟩
    have : Maps.size (D.put kl (.held val)) = es.size := by rw [k4]; simp [Maps.size, length_sorted]
    omega
  · intro l hl
    unfold putF
    by_cases e : l = kl
    · subst e
      rw [if_pos rfl, Maps.has_put_same h3.isMap hl]
      exact ⟨rfl, fun z => Maps.atKey_put_same h3.isMap hl _ _⟩
    · rw [if_neg e, Maps.has_put_other e]
      exact ⟨(h4 l hl).1, fun z => by rw [Maps.atKey_put_other e]; exact (h4 l hl).2 z⟩
theorem MapAt.look (h : MapAt P K w b s F) (Kl : Keyed P K) {t e : TypeId} (ht : P.underlying t = some (.map K e)) {z : Value} (hz : (zeroValue e).run P w = .ok z w) {key : Value} {kl : Lit} (hkey : keyOf P K key = some kl) :
    (Instr.lookup t (.map (some b)) key false).run P w = .ok ((F kl).getD z) w ∧ (Instr.lookup t (.map (some b)) key true).run P w = .ok (.tuple #[(F kl).getD z, .bool (F kl).isSome]) w := by
  obtain ⟨D, h1, h2, h3, h4⟩ := h
  have hkl := Kl.key hkey
  constructor
  · obtain ⟨v, ps, r1, r2⟩ := h1.lookup (zd := .held z) (zp := []) Kl ht hz rfl hkey
    rw [(h4 kl hkl).2 z] at r2
    cases r2
    exact r1
  · obtain ⟨v, ps, r1, r2⟩ := h1.look_ok (zd := .held z) (zp := []) Kl ht hz rfl hkey
    rw [(h4 kl hkl).2 z] at r2
    cases r2
    rw [(h4 kl hkl).1] at r1
    exact r1
end
section
variable {P : Program} {w : World} {ops : Array Oper} {rest : List Oper} {o : Oper} {a : Act} {Q : Exit → Act → World → Prop} {K : TypeId} {b s : Nat} {F : Lit → Option Value}
/-- 'v, ok := m[k]'. -/
theorem wpList_lookOk (hg : o.guard = none) (m x : Operand) (t : TypeId) (hop : o.op = Op.lookup t m x true) (e : TypeId) (Kl : Keyed P K) (ht : P.underlying t = some (.map K e)) (z : Value) (hz : ∀ w, (zeroValue e).run P w = .ok z w)
    (hm : a.eval m = .map (some b)) (hown : MapAt P K w b s F) (key : Value) (kl : Lit) (hx : a.eval x = key) (hkey : keyOf P K key = some kl)
    (hK : wpList P ops Q rest (a.put o.dst (.tuple #[(F kl).getD z, .bool (F kl).isSome])) w) : wpList P ops Q (o :: rest) a w := by
  refine wpList_plain hg fun K' hK' => ?_
  have hrun := (hown.look Kl ht (hz w) hkey).2
  unfold Oper.wp
  simp [execOp, hop, hm, hx, hrun, Result.andThen]
  exact hK' _ _ hK
/-- 'm[k]'. -/
theorem wpList_look (hg : o.guard = none) (m x : Operand) (t : TypeId) (hop : o.op = Op.lookup t m x false) (e : TypeId) (Kl : Keyed P K) (ht : P.underlying t = some (.map K e)) (z : Value) (hz : ∀ w, (zeroValue e).run P w = .ok z w)
    (hm : a.eval m = .map (some b)) (hown : MapAt P K w b s F) (key : Value) (kl : Lit) (hx : a.eval x = key) (hkey : keyOf P K key = some kl)
    (hK : wpList P ops Q rest (a.put o.dst ((F kl).getD z)) w) : wpList P ops Q (o :: rest) a w := by
  refine wpList_plain hg fun K' hK' => ?_
  have hrun := (hown.look Kl ht (hz w) hkey).1
  unfold Oper.wp
  simp [execOp, hop, hm, hx, hrun, Result.andThen]
  exact hK' _ _ hK
/-- 'm[k] = v'. -/
theorem wpList_store (hg : o.guard = none) (m x v : Operand) (t : TypeId) (hop : o.op = Op.mapUpdate t m x v) (e : TypeId) (Kl : Keyed P K) (ht : P.underlying t = some (.map K e))
    (hm : a.eval m = .map (some b)) (hown : MapAt P K w b s F) (hn : s < maxLen) (key val : Value) (kl : Lit) (hx : a.eval x = key) (hv : a.eval v = val) (hkey : keyOf P K key = some kl)
    (hK : ∀ w', MapAt P K w' b (if (F kl).isSome = true then s else s + 1) (putF F kl val) → w.grownBy w' (some b) → wpList P ops Q rest (a.put o.dst undef) w') : wpList P ops Q (o :: rest) a w := by
  refine wpList_plain hg fun K' hK' => ?_
  obtain ⟨w', hrun, r1, r2⟩ := hown.put_spec (val := val) Kl ht hn hkey
  unfold Oper.wp
  simp [execOp, hop, hm, hx, hv, hrun, Result.andThen]
  exact hK' _ _ (hK w' r1 r2)
/-- 'len(m)'. -/
theorem wpList_lenM (hg : o.guard = none) (m : Operand) (t : TypeId) (hop : o.op = Op.call { callee := Callee.builtin Builtin.len, args := #[m], argTypes := #[t] }) (e : TypeId) (ht : P.underlying t = some (.map K e))
    (hm : a.eval m = .map (some b)) (hown : MapAt P K w b s F) (hK : wpList P ops Q rest (a.put o.dst (.int .i64 s)) w) : wpList P ops Q (o :: rest) a w := by
  obtain ⟨D, h1, h2, _⟩ := hown
  refine wpList_len_own w hg m t hop K e ht rawE b s D hm h1 ?_
  rw [h2]; exact hK
end
section
variable {P : Program} {w : World} {ops : Array Oper} {rest : List Oper} {o : Oper} {a : Act} {Q : Exit → Act → World → Prop} {K : TypeId} {b s : Nat} {F : Lit → Option Value}
/-- An element of a map's literal. -/
theorem wpList_insert (hg : o.guard = none) (m x v : Operand) (t : TypeId) (hop : o.op = Op.insert t m x v) (e : TypeId) (Kl : Keyed P K) (ht : P.underlying t = some (.map K e))
    (hm : a.eval m = .map (some b)) (hown : MapAt P K w b s F) (hn : s < maxLen) (key val : Value) (kl : Lit) (hx : a.eval x = key) (hv : a.eval v = val) (hkey : keyOf P K key = some kl)
    (hK : ∀ w', MapAt P K w' b (if (F kl).isSome = true then s else s + 1) (putF F kl val) → w.grownBy w' (some b) → wpList P ops Q rest (a.put o.dst undef) w') : wpList P ops Q (o :: rest) a w := by
  refine wpList_plain hg fun K' hK' => ?_
  obtain ⟨w', hrun, r1, r2⟩ := hown.put_spec (val := val) Kl ht hn hkey
  unfold Oper.wp
  simp [execOp, hop, hm, hx, hv, hrun, Result.andThen]
  exact hK' _ _ (hK w' r1 r2)
end

end Go.Proofs.Ytcjmcpfdpnakkaa
