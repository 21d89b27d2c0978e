/- A list of lists and a list of numbers in two boxes, both under append. -/
import Derived.Test.YtiflokfinkachaaCore
import Derived.Test.YtiflokfinkachaaMaps
import Derived.Test.YtiflokfinkachaaCho
import Derived.Test.YtiflokfinkachaaSolid
import Derived.WalkKit
import Derived.WalkSpells
import Derived.WalkLawsBesides
import Derived.Deep.QuietTactic
import Derived.Deep.OwnRows
import Derived.BigQuiet
import Derived.KernelRfl
import Derived.WalkSmall
namespace Go.Proofs.Ytiflokfinkachaa
open Go.RowKit

/-- A box of one cell, which may be written. -/
def Box1 (w : World) (b : Nat) (v : Value) : Prop := w.cell? ⟨b, 0, none⟩ = some v ∧ w.frozen? ⟨b, 0, none⟩ = false
section
variable {S S' : Nat → Prop} {w w' : World} {b : Nat} {v : Value}
theorem Box1.lt (h : Box1 w b v) : b < w.heap.size := World.block_lt_of_cell? w _ h.1
theorem Box1.but (h : Box1 w b v) (hb : But S w w') (hS : ¬ S b) : Box1 w' b v := ⟨hb.cell h.1 hS, by rw [hb.frozen h.1 hS]; exact h.2⟩
theorem Box1.new (h : Box1 w b v) (hn : New w w') : Box1 w' b v := h.but (S := fun _ => False) (But.of_new hn) id
theorem Box1.set (h : Box1 w b v) (x : Value) : Box1 (w.setCell ⟨b, 0, none⟩ x) b x := ⟨World.cell?_setCell_same _ _ _ h.1, by simpa using h.2⟩
theorem Grow.but {B : Nat} {e : TypeId} {xs : List Int} (h : Grow B e w v xs) (hb : But S w w') (hS : ∀ k, v.ownBlock = some k → ¬ S k) : Grow B e w' v xs := hb.row h hS
end
theorem ownsRow_cap {w : World} {B m c n : Nat} {e : TypeId} {A : Option Addr} {xs : List Value} (h : w.ownsRow B e 1 (.slice A m c) n xs) : m ≤ c := by
  obtain ⟨_, ⟨h0, _⟩ | ⟨_, _, _, hv, _, _, hcp, _⟩⟩ := h
  · injection h0 with _ h1 h2; omega
  · injection hv with _ h1 h2; omega
/-- The blocks that the two lists may change. -/
def ArrS (b3 b4 : Nat) (vo vn : Value) (k : Nat) : Prop := k = b3 ∨ k = b4 ∨ vo.ownBlock = some k ∨ vn.ownBlock = some k
/-- The same, and all that is old. -/
def ArrT (B b3 b4 : Nat) (vo vn : Value) (k : Nat) : Prop := k < B ∨ ArrS b3 b4 vo vn k
structure ArrSt (B : Nat) (eR eI : TypeId) (b3 b4 : Nat) (w : World) (vo vn : Value) (XS : List (List Int)) (N : List Int) : Prop where
  c3 : Box1 w b3 vo
  c4 : Box1 w b4 vn
  out : GrowS IntsAt (ArrT B b3 b4 vo vn) B eR w vo XS
  now : Grow B eI w vn N
  hb : b3 ≠ b4
  o3 : vo.ownBlock ≠ some b3
  o4 : vo.ownBlock ≠ some b4
  n3 : vn.ownBlock ≠ some b3
  n4 : vn.ownBlock ≠ some b4
  av : ApartV vo vn
section
variable {B : Nat} {eR eI : TypeId} {b3 b4 : Nat} {w w' : World} {vo vn : Value} {XS : List (List Int)} {N : List Int}
theorem ApartV.no {a b : Value} (h : ApartV a b) {k : Nat} (ha : a.ownBlock = some k) (hb : b.ownBlock = some k) : False := by
  rcases h with q | q
  · exact q (ha.trans hb.symm)
  · rw [q] at ha; cases ha
theorem ArrSt.lt (h : ArrSt B eR eI b3 b4 w vo vn XS N) (k : Nat) (hk : ArrS b3 b4 vo vn k) : k < w.heap.size := by
  rcases hk with rfl | rfl | q | q
  · exact h.c3.lt
  · exact h.c4.lt
  · exact (h.out.block k q).2
  · exact (h.now.block k q).2
theorem ArrSt.new (h : ArrSt B eR eI b3 b4 w vo vn XS N) (hn : New w w') : ArrSt B eR eI b3 b4 w' vo vn XS N :=
  ⟨h.c3.new hn, h.c4.new hn, h.out.new hn, h.now.new hn, h.hb, h.o3, h.o4, h.n3, h.n4, h.av⟩
/-- One more list, which is the numbers at hand. -/
theorem ArrSt.push (h : ArrSt B eR eI b3 b4 w vo vn XS N) : ∃ l, w.ownsRow B eR 1 vo XS.length l ∧ ∀ (W1 wd : World) (g cap : Nat) (r : Value), New w W1 → Solid (ArrT B b3 b4 vo vn) W1 (fun w => IntsAt w r N) →
    wd.ownsRow B eR 1 (.slice (some ⟨g, 0, none⟩) (XS.length + 1) cap) (XS.length + 1) (l ++ [r]) → W1.grownBy wd vo.ownBlock → (vo.ownBlock = some g ∨ W1.heap.size ≤ g) →
    (wd.cell? ⟨b3, 0, none⟩ = some vo ∧ wd.frozen? ⟨b3, 0, none⟩ = false) ∧ But (ArrS b3 b4 vo vn) w (wd.setCell ⟨b3, 0, none⟩ (.slice (some ⟨g, 0, none⟩) (XS.length + 1) cap)) ∧
      ArrSt B eR eI b3 b4 (wd.setCell ⟨b3, 0, none⟩ (.slice (some ⟨g, 0, none⟩) (XS.length + 1) cap)) (.slice (some ⟨g, 0, none⟩) (XS.length + 1) cap) vn (XS ++ [N]) N ∧
      ∀ k, ArrS b3 b4 (.slice (some ⟨g, 0, none⟩) (XS.length + 1) cap) vn k → ArrS b3 b4 vo vn k ∨ w.heap.size ≤ k := by
  obtain ⟨rr, hr1, hr2⟩ := id h.out
  refine ⟨_, hr1, fun W1 wd g cap r hn hr ho hg hloc => ?_⟩
  have hs := hn.size
  have hlt := h.lt
  have hS : ∀ k, ArrS b3 b4 (.slice (some ⟨g, 0, none⟩) (XS.length + 1) cap) vn k → ArrS b3 b4 vo vn k ∨ W1.heap.size ≤ k := by
    intro k hk
    rcases hk with q | q | q | q
    · exact Or.inl (Or.inl q)
    · exact Or.inl (Or.inr (Or.inl q))
    · simp [Value.ownBlock] at q
      subst q
      rcases hloc with q | q
      · exact Or.inl (Or.inr (Or.inr (Or.inl q)))
      · exact Or.inr q
    · exact Or.inl (Or.inr (Or.inr (Or.inr q)))
  have hb2 : But (fun k => vo.ownBlock = some k) W1 wd := But.of_grown hg (fun k hk => hk)
  have e3 := (h.c3.new hn).but hb2 h.o3
  have hT : ∀ k, ArrT B b3 b4 (.slice (some ⟨g, 0, none⟩) (XS.length + 1) cap) vn k → ArrT B b3 b4 vo vn k ∨ W1.heap.size ≤ k := by
    intro k hk
    rcases hk with q | q
    · exact Or.inl (Or.inl q)
    · exact (hS k q).imp Or.inr id
  have hout : GrowS IntsAt (ArrT B b3 b4 (.slice (some ⟨g, 0, none⟩) (XS.length + 1) cap) vn) B eR wd (.slice (some ⟨g, 0, none⟩) (XS.length + 1) cap) (XS ++ [N]) := by
    refine ⟨fun i => if i < XS.length then rr i else r, by rw [List.length_append, List.length_singleton, range_pick]; exact ho, fun i hi => ?_⟩
    rw [List.length_append, List.length_singleton] at hi
    have hb3 : But (ArrT B b3 b4 vo vn) W1 wd := But.of_grown hg (fun k hk => Or.inr (Or.inr (Or.inr (Or.inl hk))))
    by_cases e : i < XS.length
    · simp only [if_pos e]
      rw [nth_append_left _ _ _ e]
      exact ((hr2 i e).new hn).step hb3 hT
    · have e' : i = XS.length := by omega
      subst e'
      simp only [if_neg (Nat.lt_irrefl _)]
      rw [nth_append_here]
      exact hr.step hb3 hT
  have g3 : g ≠ b3 := by
    rintro rfl
    rcases hloc with q | q
    · exact h.o3 q
    · have := h.c3.lt; omega
  have g4 : g ≠ b4 := by
    rintro rfl
    rcases hloc with q | q
    · exact h.o4 q
    · have := h.c4.lt; omega
  have hb4 : But (fun k => k = b3) wd (wd.setCell ⟨b3, 0, none⟩ (.slice (some ⟨g, 0, none⟩) (XS.length + 1) cap)) := But.setCell _ _ rfl
  refine ⟨e3, ?_, ⟨e3.set _, ((h.c4.new hn).but hb2 h.o4).but hb4 (fun e => h.hb e.symm), ?_, ((h.now.new hn).but hb2 (fun k hk q => h.av.no q hk)).but hb4 (fun k hk q => h.n3 (by rw [hk, q])), h.hb, by simp [Value.ownBlock]; exact g3, by simp [Value.ownBlock]; exact g4, h.n3, h.n4, ?_⟩, fun k hk => (hS k hk).imp id (fun q => by omega)⟩
  · refine ((But.of_new (S := ArrS b3 b4 vo vn) hn).trans hb2 (fun k hk => Or.inl ?_)).trans hb4 (fun k hk => Or.inl ?_)
    · exact Or.inr (Or.inr (Or.inl hk))
    · exact Or.inl hk
  · exact hout.step hb4 (fun k hk => Or.inl (Or.inr (Or.inl hk))) (fun k hk q => by simp [Value.ownBlock] at hk; omega) (fun k hk => Or.inl hk)
  · exact (ApartV.frame h.av.symm (fun k hk => by have := (h.now.block k hk).2; omega) hloc).symm
/-- One more number. -/
theorem ArrSt.more {W1 wd : World} {g cap n : Nat} {x : Int} (h : ArrSt B eR eI b3 b4 w vo vn XS N) (hl : N.length = n) (hn : New w W1) (ho : wd.ownsRow B eI 1 (.slice (some ⟨g, 0, none⟩) (n + 1) cap) (n + 1) (N.map (Value.int .i64) ++ [.int .i64 x]))
    (hg : W1.grownBy wd vn.ownBlock) (hloc : vn.ownBlock = some g ∨ W1.heap.size ≤ g) :
    (wd.cell? ⟨b4, 0, none⟩ = some vn ∧ wd.frozen? ⟨b4, 0, none⟩ = false) ∧ But (ArrS b3 b4 vo vn) w (wd.setCell ⟨b4, 0, none⟩ (.slice (some ⟨g, 0, none⟩) (n + 1) cap)) ∧
      ArrSt B eR eI b3 b4 (wd.setCell ⟨b4, 0, none⟩ (.slice (some ⟨g, 0, none⟩) (n + 1) cap)) vo (.slice (some ⟨g, 0, none⟩) (n + 1) cap) XS (N ++ [x]) ∧
      ∀ k, ArrS b3 b4 vo (.slice (some ⟨g, 0, none⟩) (n + 1) cap) k → ArrS b3 b4 vo vn k ∨ w.heap.size ≤ k := by
  subst hl
  have hs := hn.size
  have hS : ∀ k, ArrS b3 b4 vo (.slice (some ⟨g, 0, none⟩) (N.length + 1) cap) k → ArrS b3 b4 vo vn k ∨ W1.heap.size ≤ k := by
    intro k hk
    rcases hk with q | q | q | q
    · exact Or.inl (Or.inl q)
    · exact Or.inl (Or.inr (Or.inl q))
    · exact Or.inl (Or.inr (Or.inr (Or.inl q)))
    · simp [Value.ownBlock] at q
      subst q
      rcases hloc with q | q
      · exact Or.inl (Or.inr (Or.inr (Or.inr q)))
      · exact Or.inr q
  have hb2 : But (fun k => vn.ownBlock = some k) W1 wd := But.of_grown hg (fun k hk => hk)
  have e4 := (h.c4.new hn).but hb2 h.n4
  have g3 : g ≠ b3 := by
    rintro rfl
    rcases hloc with q | q
    · exact h.n3 q
    · have := h.c3.lt; omega
  have g4 : g ≠ b4 := by
    rintro rfl
    rcases hloc with q | q
    · exact h.n4 q
    · have := h.c4.lt; omega
  have hb4 : But (fun k => k = b4) wd (wd.setCell ⟨b4, 0, none⟩ (.slice (some ⟨g, 0, none⟩) (N.length + 1) cap)) := But.setCell _ _ rfl
  have hnow : Grow B eI wd (.slice (some ⟨g, 0, none⟩) (N.length + 1) cap) (N ++ [x]) := by simpa [Grow] using ho
  refine ⟨e4, ?_, ⟨((h.c3.new hn).but hb2 h.n3).but hb4 h.hb, e4.set _, ?_, hnow.but hb4 (fun k hk q => by simp [Value.ownBlock] at hk; omega), h.hb, h.o3, h.o4, by simp [Value.ownBlock]; exact g3, by simp [Value.ownBlock]; exact g4, ?_⟩, fun k hk => (hS k hk).imp id (fun q => by omega)⟩
  · refine ((But.of_new (S := ArrS b3 b4 vo vn) hn).trans hb2 (fun k hk => Or.inl ?_)).trans hb4 (fun k hk => Or.inl ?_)
    · exact Or.inr (Or.inr (Or.inr hk))
    · exact Or.inr (Or.inl hk)
  · have h1 := (h.out.new hn).step (S' := ArrT B b3 b4 vo (.slice (some ⟨g, 0, none⟩) (N.length + 1) cap)) hb2 (fun k hk => Or.inl (Or.inr (Or.inr (Or.inr (Or.inr hk))))) (fun k hk q => h.av.no hk q) (fun k hk => by
      rcases hk with q | q
      · exact Or.inl (Or.inl q)
      · exact (hS k q).imp Or.inr id)
    exact h1.step hb4 (fun k hk => Or.inl (Or.inr (Or.inr (Or.inl hk)))) (fun k hk q => h.o4 (by rw [hk, q])) (fun k hk => Or.inl hk)
  · exact ApartV.frame h.av (fun k hk => by have := (h.out.block k hk).2; omega) hloc
/-- One number less. -/
theorem ArrSt.pop {g cap n : Nat} {x : Int} (h : ArrSt B eR eI b3 b4 w vo (.slice (some ⟨g, 0, none⟩) (n + 1) cap) XS (N ++ [x])) (hl : N.length = n) :
    But (ArrS b3 b4 vo (.slice (some ⟨g, 0, none⟩) (n + 1) cap)) w (w.setCell ⟨b4, 0, none⟩ (.slice (some ⟨g, 0, none⟩) n cap)) ∧
      ArrSt B eR eI b3 b4 (w.setCell ⟨b4, 0, none⟩ (.slice (some ⟨g, 0, none⟩) n cap)) vo (.slice (some ⟨g, 0, none⟩) n cap) XS N := by
  subst hl
  have hb4 : But (fun k => k = b4) w (w.setCell ⟨b4, 0, none⟩ (.slice (some ⟨g, 0, none⟩) N.length cap)) := But.setCell _ _ rfl
  have hnow : Grow B eI w (.slice (some ⟨g, 0, none⟩) N.length cap) N := by
    refine Go.ownsRow_pop (last := [.int .i64 x]) (by simp) ?_
    have := h.now
    simpa [Grow] using this
  have hg4 : g ≠ b4 := fun e => h.n4 (by simp [Value.ownBlock, e])
  exact ⟨But.setCell _ _ (Or.inr (Or.inl rfl)), h.c3.but hb4 h.hb, h.c4.set _, h.out.step hb4 (fun k hk => Or.inl (Or.inr (Or.inr (Or.inl hk)))) (fun k hk q => h.o4 (by rw [hk, q])) (fun k hk => Or.inl hk), hnow.but hb4 (fun k hk q => by simp [Value.ownBlock] at hk; omega), h.hb, h.o3, h.o4, h.n3, h.n4, h.av⟩
end

end Go.Proofs.Ytiflokfinkachaa
