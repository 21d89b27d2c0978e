/- Lists of lists of lists under append; lists of lists whose places may be written. -/
import Derived.Test.YtoeckejcmojeaaaCore
import Derived.Test.YtoeckejcmojeaaaMaps
import Derived.Test.YtoeckejcmojeaaaArrs
import Derived.Test.YtoeckejcmojeaaaSOwn
import Derived.Test.YtoeckejcmojeaaaRowsC
import Derived.WalkKit
import Derived.WalkSpells
import Derived.WalkLawsBesides
import Derived.Deep.QuietTactic
import Derived.Deep.OwnRows
import Derived.BigQuiet
import Derived.KernelRfl
namespace Go.Proofs.Ytoeckejcmojeaaa
open Go.RowKit

/-- What a change elsewhere leaves as it is. -/
def Keeps (R : Nat → Nat → World → Value → List (List Int) → Prop) : Prop := ∀ B E B' E' w w' v x, R B E w v x → Within B' E' w w' → (E ≤ B' ∨ E' ≤ B) → R B E w' v x
theorem keeps_own : Keeps OwnRows := fun _ _ _ _ _ _ _ _ h hw hd => h.within hw hd
/-- A list of lists that lie in the blocks from B to E, none longer than its capacity; its own places may be written. -/
def RowF (B E : Nat) (w : World) (v : Value) (xss : List (List Int)) : Prop :=
  ∃ b c, ∃ rv : Nat → Value, v = .slice (some ⟨b, 0, none⟩) xss.length c ∧ (B ≤ b ∧ b < E) ∧ xss.length ≤ 1048576 ∧
    ∀ i, i < xss.length → w.cell? ⟨b, i, none⟩ = some (rv i) ∧ w.frozen? ⟨b, i, none⟩ = false ∧ (rv i).ownBlock ≠ some b ∧ OwnInts B E w (rv i) (nth xss i) ∧ CapAt (rv i)
theorem RowF.at {B E : Nat} {w : World} {v : Value} {xss : List (List Int)} (h : RowF B E w v xss) : RowsAt w v xss := by
  obtain ⟨b, c, rv, rfl, _, hl, hc⟩ := h
  refine ⟨_, c, rfl, by omega, fun i hi => ?_⟩
  obtain ⟨h1, _, _, h4, _⟩ := hc i hi
  exact ⟨b, 0, rv i, rfl, by rw [Nat.zero_add]; exact h1, h4.at⟩
theorem frozen_within {B E : Nat} {w w' : World} (h : Within B E w w') {q : Addr} {v : Value} (hc : w.cell? q = some v) (hq : q.block < B ∨ E ≤ q.block) : w'.frozen? q = w.frozen? q := by
  rw [World.frozen?_of_block (w := w) (h.2.2.2.2 q.block (World.block_lt_of_cell? w q hc) hq)]
theorem keeps_rowF : Keeps RowF := fun B E B' E' w w' v x h hw hd => by
  obtain ⟨b, c, rv, rfl, hb, hl, hc⟩ := h
  refine ⟨b, c, rv, rfl, hb, hl, fun i hi => ?_⟩
  obtain ⟨h1, h2, h3, h4, h5⟩ := hc i hi
  have ho : (⟨b, i, none⟩ : Addr).block < B' ∨ E' ≤ (⟨b, i, none⟩ : Addr).block := by simp only; omega
  exact ⟨hw.cell h1 ho, by rw [frozen_within hw h1 ho]; exact h2, h3, h4.within hw hd, h5⟩
theorem RowF.widen {B E B' E' : Nat} {w : World} {v : Value} {xss : List (List Int)} (h : RowF B E w v xss) (hB : B' ≤ B) (hE : E ≤ E') : RowF B' E' w v xss := by
  obtain ⟨b, c, rv, rfl, hb, hl, hc⟩ := h
  refine ⟨b, c, rv, rfl, by omega, hl, fun i hi => ?_⟩
  obtain ⟨h1, h2, h3, h4, h5⟩ := hc i hi
  exact ⟨h1, h2, h3, h4.widen hB hE, h5⟩
theorem RowF.new {B E : Nat} {w w' : World} {v : Value} {xss : List (List Int)} (h : RowF B E w v xss) (hn : New w w') : RowF B E w' v xss := keeps_rowF _ _ 0 0 _ _ _ _ h (Within.of_new hn 0 0) (Or.inr (Nat.zero_le _))
theorem RowF.len {B E n c : Nat} {A : Option Addr} {w : World} {xss : List (List Int)} (h : RowF B E w (.slice A n c) xss) : n = xss.length := by
  obtain ⟨b, c', rv, e, _⟩ := h
  cases e; rfl
/-- One place, and what becomes of the whole where it is written. -/
theorem RowF.put {B E : Nat} {w : World} {v : Value} {xss : List (List Int)} (h : RowF B E w v xss) (i : Nat) (hi : i < xss.length) :
    ∃ b c r, v = .slice (some ⟨b, 0, none⟩) xss.length c ∧ (B ≤ b ∧ b < E) ∧ w.cell? ⟨b, i, none⟩ = some r ∧ w.frozen? ⟨b, i, none⟩ = false ∧ OwnInts B E w r (nth xss i) ∧ CapAt r ∧
      ∀ r' ys, OwnInts B E w r' ys → (r'.ownBlock = r.ownBlock ∨ r'.ownBlock = none) → CapAt r' → RowF B E (w.setCell ⟨b, i, none⟩ r') v (xss.set i ys) ∧ Within B E w (w.setCell ⟨b, i, none⟩ r') := by
  obtain ⟨b, c, rv, rfl, hb, hl, hc⟩ := h
  obtain ⟨h1, h2, h3, h4, h5⟩ := hc i hi
  refine ⟨b, c, rv i, rfl, hb, h1, h2, h4, h5, fun r' ys ho hbk hcp => ?_⟩
  have hg := grown_setCell w ⟨b, i, none⟩ r'
  have hne : r'.ownBlock ≠ some b := by
    rcases hbk with e | e
    · rw [e]; exact h3
    · rw [e]; simp
  refine ⟨⟨b, c, fun j => if j = i then r' else rv j, by simp, hb, by simpa using hl, fun j hj => ?_⟩, Within.of_grown hg (fun k hk => by cases hk; exact hb)⟩
  rw [List.length_set] at hj
  obtain ⟨q1, q2, q3, q4, q5⟩ := hc j hj
  rw [nth_set _ _ _ _ hi]
  have hfz : (w.setCell ⟨b, i, none⟩ r').frozen? ⟨b, j, none⟩ = false := by simpa using q2
  by_cases e : j = i
  · subst e
    simp only
    exact ⟨World.cell?_setCell_same _ _ _ h1, hfz, hne, ho.grown hg (Or.inl hne), hcp⟩
  · simp only [if_neg e]
    refine ⟨?_, hfz, q3, q4.grown hg (Or.inl q3), q5⟩
    rw [World.cell?_setCell_other]
    · exact q1
    · intro h; injection h with h1 h2; exact e h2.symm
/-- A list under append of such lists, which lie one behind the other. -/
def GrowCube (R : Nat → Nat → World → Value → List (List Int) → Prop) (B : Nat) (e : TypeId) (w : World) (v : Value) (c : List (List (List Int))) : Prop :=
  ∃ (rv : Nat → Value) (L U : Nat → Nat), w.ownsRow B e 1 v c.length ((List.range c.length).map rv) ∧
    (∀ i, i < c.length → (B ≤ L i ∧ L i ≤ U i ∧ U i ≤ w.heap.size) ∧ R (L i) (U i) w (rv i) (nth c i) ∧ ∀ k, v.ownBlock = some k → k < L i ∨ U i ≤ k) ∧
    ∀ i j, i < j → j < c.length → U i ≤ L j
section
variable {R : Nat → Nat → World → Value → List (List Int) → Prop} {B : Nat} {e : TypeId} {w w' : World} {v : Value} {c : List (List (List Int))}
theorem GrowCube.nil : GrowCube R B e w (.slice none 0 0) [] := ⟨fun _ => default, fun _ => 0, fun _ => 0, World.ownsRow_nil _ _ _ _, by simp, by simp⟩
theorem GrowCube.form (h : GrowCube R B e w v c) : ∃ A cap, v = .slice A c.length cap := let ⟨_, _, _, h, _⟩ := h; ownsRow_form h
theorem GrowCube.block (h : GrowCube R B e w v c) : ∀ k, v.ownBlock = some k → B ≤ k ∧ k < w.heap.size := let ⟨_, _, _, h, _⟩ := h; World.ownsRow.lt h
theorem GrowCube.within (hR : Keeps R) {B' E' : Nat} (h : GrowCube R B e w v c) (hw : Within B' E' w w') (hd : E' ≤ B) : GrowCube R B e w' v c := by
  obtain ⟨rv, L, U, h1, h2, h3⟩ := h
  have hs := hw.2.2.2.1
  refine ⟨rv, L, U, ownsRow_within h1 hw hd, fun i hi => ?_, h3⟩
  obtain ⟨q1, q2, q3⟩ := h2 i hi
  exact ⟨by omega, hR _ _ _ _ _ _ _ _ q2 hw (by omega), q3⟩
theorem GrowCube.base {B' : Nat} (h : GrowCube R B e w v c) (hB : B' ≤ B) : GrowCube R B' e w v c := by
  obtain ⟨rv, L, U, h1, h2, h3⟩ := h
  exact ⟨rv, L, U, ownsRow_base h1 hB, fun i hi => by obtain ⟨q1, q2, q3⟩ := h2 i hi; exact ⟨by omega, q2, q3⟩, h3⟩
theorem GrowCube.new (hR : Keeps R) (h : GrowCube R B e w v c) (hn : New w w') : GrowCube R B e w' v c := h.within hR (Within.of_new hn 0 0) (Nat.zero_le _)
theorem GrowCube.at (hRA : ∀ B E w v x, R B E w v x → RowsAt w v x) (h : GrowCube R B e w v c) (hl : c.length ≤ 9223372036854775807) : CubeAt w v c := by
  obtain ⟨rv, L, U, h1, h2, _⟩ := h
  obtain ⟨A, cap, rfl⟩ := ownsRow_form h1
  refine ⟨A, cap, rfl, hl, fun i hi => ?_⟩
  obtain ⟨b, hb, ⟨c', e'⟩, hB, hlt, hc, _⟩ := ownsRow_cells h1 i (by simpa using hi)
  cases e'
  exact ⟨b, 0, rv i, rfl, by rw [Nat.zero_add, hc]; simp, hRA _ _ _ _ _ (h2 i hi).2.1⟩
/-- One element, and what becomes of the whole where it alone is written. -/
theorem GrowCube.row (hR : Keeps R) (h : GrowCube R B e w v c) (i : Nat) (hi : i < c.length) :
    ∃ b cap r L U, v = .slice (some ⟨b, 0, none⟩) c.length cap ∧ w.cell? ⟨b, i, none⟩ = some r ∧ (B ≤ L ∧ U ≤ w.heap.size) ∧ R L U w r (nth c i) ∧
      ∀ w' ys, R L U w' r ys → Within L U w w' → GrowCube R B e w' v (c.set i ys) := by
  obtain ⟨rv, L, U, h1, h2, h3⟩ := h
  obtain ⟨b, hb, ⟨cap, e'⟩, hB, hlt, hc, _⟩ := ownsRow_cells h1 i (by simpa using hi)
  obtain ⟨q1, q2, q3⟩ := h2 i hi
  refine ⟨b, cap, rv i, L i, U i, e', by rw [hc]; simp, ⟨q1.1, q1.2.2⟩, q2, fun w' ys hy hW => ?_⟩
  have hs := hW.2.2.2.1
  have hbk := q3 b (by rw [e']; rfl)
  refine ⟨rv, L, U, ?_, fun j hj => ?_, fun j k hjk hk => h3 j k hjk (by simpa using hk)⟩
  · rw [List.length_set]
    have hbb : But (fun k => L i ≤ k ∧ k < U i) w w' := ⟨hW.1, hW.2.1, hW.2.2.1, hW.2.2.2.1, fun k hk hn => hW.2.2.2.2 k hk (by omega)⟩
    exact hbb.row h1 (fun k hk hn => by rw [e'] at hk; have hk : b = k := Option.some.inj hk; omega)
  · rw [List.length_set] at hj
    obtain ⟨p1, p2, p3⟩ := h2 j hj
    rw [nth_set _ _ _ _ hi]
    by_cases e2 : j = i
    · subst e2; rw [if_pos rfl]; exact ⟨by omega, hy, p3⟩
    · rw [if_neg e2]
      refine ⟨by omega, hR _ _ _ _ _ _ _ _ p2 hW ?_, p3⟩
      rcases Nat.lt_or_gt_of_ne e2 with q | q
      · left; exact h3 j i q hi
      · right; exact h3 i j q hj
/-- One more element, newer than all that was there. -/
theorem GrowCube.app (hR : Keeps R) {r : Value} {ys : List (List Int)} {w1 : World} {B' E' : Nat} (h : GrowCube R B e w v c) (hw : Within B' E' w w1) (hd : E' ≤ B) (hB : B ≤ w.heap.size) (hr : R w.heap.size w1.heap.size w1 r ys) :
    ∃ l, w1.ownsRow B e 1 v c.length l ∧ ∀ g cap w', w'.ownsRow B e 1 (.slice (some ⟨g, 0, none⟩) (c.length + 1) cap) (c.length + 1) (l ++ [r]) → w1.grownBy w' v.ownBlock → (v.ownBlock = some g ∨ w1.heap.size ≤ g) →
      GrowCube R B e w' (.slice (some ⟨g, 0, none⟩) (c.length + 1) cap) (c ++ [ys]) := by
  obtain ⟨rv, L, U, h1, h2, h3⟩ := h
  have hs := hw.2.2.2.1
  have hblk := World.ownsRow.lt h1
  refine ⟨_, ownsRow_within h1 hw hd, fun g cap w' ho hg hloc => ?_⟩
  have hs' := hg.size
  have keep : ∀ B0 E0 v0 x0, R B0 E0 w1 v0 x0 → (∀ k, v.ownBlock = some k → k < B0 ∨ E0 ≤ k) → R B0 E0 w' v0 x0 := fun B0 E0 v0 x0 h0 hk => by
    cases hv : v.ownBlock with
    | none => exact hR _ _ 0 0 _ _ _ _ h0 (Within.of_grown hg (fun k q => by rw [hv] at q; cases q)) (Or.inr (Nat.zero_le _))
    | some k =>
      have := hk k hv
      exact hR _ _ k (k + 1) _ _ _ _ h0 (Within.of_grown hg (fun k' q => by rw [hv] at q; cases q; omega)) (by omega)
  refine ⟨fun i => if i < c.length then rv i else r, fun i => if i < c.length then L i else w.heap.size, fun i => if i < c.length then U i else w1.heap.size, ?_, fun i hi => ?_, fun i j hij hj => ?_⟩
  · rw [List.length_append, List.length_singleton, range_pick]; exact ho
  · rw [List.length_append, List.length_singleton] at hi
    by_cases q : i < c.length
    · simp only [if_pos q]
      rw [nth_append_left _ _ _ q]
      obtain ⟨p1, p2, p3⟩ := h2 i q
      refine ⟨by omega, keep _ _ _ _ (hR _ _ _ _ _ _ _ _ p2 hw (by omega)) p3, fun k hk => ?_⟩
      have hk : g = k := Option.some.inj hk
      rcases hloc with hl | hl
      · exact p3 k (by rw [hl, hk])
      · right; omega
    · have e2 : i = c.length := by omega
      subst e2
      simp only [if_neg (Nat.lt_irrefl _)]
      rw [nth_append_here]
      refine ⟨by omega, keep _ _ _ _ hr (fun k hk => Or.inl (hblk k hk).2), fun k hk => ?_⟩
      have hk : g = k := Option.some.inj hk
      rcases hloc with hl | hl
      · left; have := (hblk g hl).2; omega
      · right; omega
  · rw [List.length_append, List.length_singleton] at hj
    by_cases q : j < c.length
    · simp only [if_pos q, if_pos (show i < c.length by omega)]
      exact h3 i j hij q
    · simp only [if_neg q, if_pos (show i < c.length by omega)]
      exact (h2 i (by omega)).1.2.2
end
section
variable {P : Program}
theorem wpList_appCubeW {R : Nat → Nat → World → Value → List (List Int) → Prop} (hR : Keeps R) {ops : Array Oper} {rest : List Oper} {o : Oper} {a : Act} {Q : Exit → Act → World → Prop} {w0 w1 : World} {T : TypeId} {r : Value} (hg : o.guard = none) (s x : Operand) (t : TypeId)
    (ho : o.op = .call { callee := .builtin .append, args := #[s, x], argTypes := #[t, t] }) {B : Nat} {e : TypeId} (ht : P.underlying t = some (.slice e))
    (hinfo : (P.info? e).map (fun i => (i.zero, i.size, i.bytes)) = some (some (.slice none 0 0), 1, 24)) (v : Value) (c : List (List (List Int))) (ys : List (List Int)) (hs : a.eval s = v) (hown : GrowCube R B e w0 v c) {PB PE : Nat} (hn : Within PB PE w0 w1) (hPE : PE ≤ B)
    (hr : R w0.heap.size w1.heap.size w1 r ys) (hr1 : r.oneCell' = true)
    (hx : a.eval x = .slice (some ⟨w1.heap.size, 0, none⟩) 1 1) (hlen : c.length < 1099511627776) (hB : B ≤ w0.heap.size)
    (h : ∀ g cap w', GrowCube R B e w' (.slice (some ⟨g, 0, none⟩) (c.length + 1) cap) (c ++ [ys]) → w1.grownBy w' v.ownBlock → wpList P ops Q rest (a.put o.dst (.slice (some ⟨g, 0, none⟩) (c.length + 1) cap)) w') :
    wpList P ops Q (o :: rest) a (w1.alloc (.cells #[r] T)) := by
  have hsz := hn.2.2.2.1
  obtain ⟨l, hl, happ⟩ := GrowCube.app hR hown hn hPE hB hr
  refine wpList_appV hg s x t ho ht hinfo (by decide) (by decide) hr1 v c.length l hs hl hx hlen (by omega) ?_
  intro g cap w' ho' hgr hloc
  exact h g cap w' (happ g cap w' ho' hgr (hloc.imp id Nat.le_of_lt)) hgr
theorem step_appCube1 {R : Nat → Nat → World → Value → List (List Int) → Prop} (hR : Keeps R) {ops : Array Oper} {E : Prop} {o : Oper} {a : Act} {w0 w1 : World} {K : Act → World → Prop} {Q : Exit → Act → World → Prop} (hg : o.guard = none) (s x : Operand) (t : TypeId)
    (ho : o.op = .call { callee := .builtin .append, args := #[s, x], argTypes := #[t, t] }) {B : Nat} {e : TypeId} (ht : P.underlying t = some (.slice e))
    (hinfo : (P.info? e).map (fun i => (i.zero, i.size, i.bytes)) = some (some (.slice none 0 0), 1, 24)) (v r : Value) (c : List (List (List Int))) (ys : List (List Int)) (h : Nat) (hs : a.eval s = v) (hown : GrowCube R B e w0 v c) (hn : New w0 w1)
    (hr : R w0.heap.size w1.heap.size w1 r ys) (hr1 : r.oneCell' = true)
    (hx : a.eval x = .slice (some ⟨h, 0, none⟩) 1 1) (hc : w1.cell? ⟨h, 0, none⟩ = some r) (hlen : c.length < 1099511627776) (hB : B ≤ w0.heap.size)
    (hK : ∀ g cap w', GrowCube R B e w' (.slice (some ⟨g, 0, none⟩) (c.length + 1) cap) (c ++ [ys]) → w1.grownBy w' v.ownBlock → K (a.put o.dst (.slice (some ⟨g, 0, none⟩) (c.length + 1) cap)) w') :
    if Region.wanted o (yielded ops a.tmps) = true then Oper.wp P o a w1 K Q else E := by
  have hsz := hn.size
  obtain ⟨l, hl, happ⟩ := GrowCube.app hR hown (Within.of_new hn 0 0) (Nat.zero_le _) hB hr
  exact step_appV1 hg s x t ho ht hinfo (by decide) (by decide) v c.length l r hr1 h hs hl hx hc hlen (by omega) fun g cap w' ho' hgr hloc => hK g cap w' (happ g cap w' ho' hgr hloc) hgr
/-- 'append(out, row)', the row being newer than all that was there. -/
theorem wpList_appRowsCN {ops : Array Oper} {rest : List Oper} {o : Oper} {a : Act} {Q : Exit → Act → World → Prop} {w0 w1 : World} {T : TypeId} {r : Value} (hg : o.guard = none) (s x : Operand) (t : TypeId)
    (ho : o.op = .call { callee := .builtin .append, args := #[s, x], argTypes := #[t, t] }) {B : Nat} {e : TypeId} (ht : P.underlying t = some (.slice e))
    (hinfo : (P.info? e).map (fun i => (i.zero, i.size, i.bytes)) = some (some (.slice none 0 0), 1, 24)) (v : Value) (xss : List (List Int)) (ys : List Int) (hs : a.eval s = v) (hown : GrowRowsC B e w0 v xss) (hn : New w0 w1)
    (hr : OwnInts w0.heap.size w1.heap.size w1 r ys) (hcp : CapAt r)
    (hx : a.eval x = .slice (some ⟨w1.heap.size, 0, none⟩) 1 1) (hlen : xss.length < 1099511627776) (hB : B ≤ w0.heap.size)
    (h : ∀ g cap w', GrowRowsC B e w' (.slice (some ⟨g, 0, none⟩) (xss.length + 1) cap) (xss ++ [ys]) → w1.grownBy w' v.ownBlock → wpList P ops Q rest (a.put o.dst (.slice (some ⟨g, 0, none⟩) (xss.length + 1) cap)) w') :
    wpList P ops Q (o :: rest) a (w1.alloc (.cells #[r] T)) := by
  obtain ⟨rv, h1, h2, h3, h4⟩ := hown
  have hv : ∀ k, v.ownBlock = some k → B ≤ k ∧ k < w0.heap.size := World.ownsRow.lt h1
  have hsz := hn.size
  refine wpList_appV hg s x t ho ht hinfo (by decide) (by decide) (by obtain ⟨A, c, rfl⟩ := hr.form; rfl) v xss.length _ hs (ownsRow_new h1 hn) hx hlen (by omega) ?_
  intro g cap w' ho' hgr hloc
  have hsz' := hgr.size
  have hrb := hr.block
  have hrne : r.ownBlock ≠ v.ownBlock ∨ r.ownBlock = none := by
    cases e1 : r.ownBlock with
    | none => exact Or.inr rfl
    | some k =>
      left
      intro e2
      have := hrb k e1
      have := hv k e2.symm
      omega
  refine h g cap w' ⟨fun i => if i < xss.length then rv i else r, ?_, ?_, ?_, ?_⟩ hgr
  · have e1 : (List.range (xss ++ [ys]).length).map (fun i => if i < xss.length then rv i else r) = (List.range xss.length).map rv ++ [r] := by
      rw [List.length_append, List.length_singleton, list_range_snoc]
      congr 1
      · apply List.map_congr_left
        intro i hi
        rw [if_pos (List.mem_range.1 hi)]
      · rw [if_neg (Nat.lt_irrefl _)]
    rw [e1, List.length_append, List.length_singleton]
    exact ho'
  · intro i hi
    rw [List.length_append, List.length_singleton] at hi
    by_cases hlt : i < xss.length
    · simp only [if_pos hlt]
      obtain ⟨k1, k2⟩ := h2 i hlt
      have k1' := k1.new hn
      have hb1 := k1.block
      rw [nth_append_left _ _ _ hlt]
      refine ⟨(k1'.grown hgr k2).widen (Nat.le_refl _) (by omega), ?_⟩
      cases e1 : (rv i).ownBlock with
      | none => exact Or.inr rfl
      | some k =>
        left
        have := hb1 k e1
        rcases hloc with hl | hl
        · rcases k2 with k2 | k2
          · rw [e1, hl] at k2; simpa [Value.ownBlock] using k2
          · rw [e1] at k2; cases k2
        · simp [Value.ownBlock]; omega
    · have hi' : i = xss.length := by omega
      subst hi'
      simp only [if_neg (Nat.lt_irrefl _)]
      rw [nth_append_here]
      refine ⟨(hr.grown hgr hrne).widen (by omega) (by omega), ?_⟩
      cases e1 : r.ownBlock with
      | none => exact Or.inr rfl
      | some k =>
        left
        have := hrb k e1
        rcases hloc with hl | hl
        · have := hv g hl; simp [Value.ownBlock]; omega
        · simp [Value.ownBlock]; omega
  · intro i j hij hj
    rw [List.length_append, List.length_singleton] at hj
    by_cases hlt : j < xss.length
    · simp only [if_pos hlt, if_pos (show i < xss.length by omega)]
      exact h3 i j hij hlt
    · have hj' : j = xss.length := by omega
      subst hj'
      simp only [if_neg (Nat.lt_irrefl _), if_pos hij]
      cases e1 : (rv i).ownBlock with
      | none => exact Or.inr rfl
      | some k =>
        left
        have := (h2 i hij).1.block k e1
        intro e2
        have := hrb k e2.symm
        omega
  · intro i hi
    rw [List.length_append, List.length_singleton] at hi
    by_cases hlt : i < xss.length
    · simp only [if_pos hlt]; exact h4 i hlt
    · simp only [if_neg hlt]; exact hcp
theorem GrowRowsC.empty (B : Nat) (e : TypeId) (w : World) (h : B ≤ w.heap.size) : GrowRowsC B e (w.alloc (.cells #[] e)) (.slice (some ⟨w.heap.size, 0, none⟩) 0 0) [] := by
  obtain ⟨rv, h1, h2, h3⟩ := GrowRows.empty B e w h
  exact ⟨rv, h1, h2, h3, fun i hi => by simp at hi⟩
theorem GrowRowsC.new {B : Nat} {e : TypeId} {w w' : World} {v : Value} {xss : List (List Int)} (h : GrowRowsC B e w v xss) (hn : New w w') : GrowRowsC B e w' v xss := h.within (Within.of_new hn 0 0) (Nat.zero_le _)
theorem GrowRowsC.rowF {B g n c : Nat} {e : TypeId} {w : World} {xss : List (List Int)} (h : GrowRowsC B e w (.slice (some ⟨g, 0, none⟩) n c) xss) (hl : xss.length ≤ 1048576) : RowF B w.heap.size w (.slice (some ⟨g, 0, none⟩) n c) xss := by
  have hb := h.block g rfl
  obtain ⟨rv, h1, h2, _, h4⟩ := h
  obtain ⟨A, c', e'⟩ := ownsRow_form h1
  cases e'
  refine ⟨g, c, rv, rfl, hb, hl, fun i hi => ?_⟩
  obtain ⟨b, hb', ⟨c'', e''⟩, hB, hlt, hc, hfz⟩ := ownsRow_cells h1 i (by simpa using hi)
  cases e''
  obtain ⟨q1, q2⟩ := h2 i hi
  refine ⟨by rw [hc]; simp, hfz, ?_, q1, h4 i hi⟩
  rcases q2 with q | q
  · exact q
  · rw [q]; simp
end

end Go.Proofs.Ytoeckejcmojeaaa
