/- The reference's automata with choices, and where words lead in them. -/
import Derived.Test.YtoeckejcmojeaaaRows
import Derived.Test.YtoeckejcmojeaaaCore
import Derived.Test.YtoeckejcmojeaaaArrs
import Derived.Test.YtoeckejcmojeaaaInfos
import Derived.Test.YtoeckejcmojeaaaPlains
import Derived.Test.YtoeckejcmojeaaaPlainCho
import Derived.Test.YtoeckejcmojeaaaSBase
import Derived.Test.YtoeckejcmojeaaaSWalks
import Derived.Test.YtoeckejcmojeaaaS04a
import Derived.WalkKit
import Derived.WalkSpells
import Derived.WalkLawsBesides
import Derived.Deep.QuietTactic
import Derived.Deep.OwnRows
import Derived.BigQuiet
import Derived.KernelRfl
namespace Go.Proofs.Ytoeckejcmojeaaa
open Go.RowKit

theorem or_i64n (F G : Nat) (hF : F < 1024) (hG : G < 1024) : bits .or .i64 (F : Int) (G : Int) = ((F ||| G : Nat) : Int) := (bits_nat .i64 63 (by decide) wraps_i64 _ _ (by omega) (by omega)).2
theorem and_i64n (F G : Nat) (hF : F < 1024) (hG : G < 1024) : bits .and .i64 (F : Int) (G : Int) = ((F &&& G : Nat) : Int) := (bits_nat .i64 63 (by decide) wraps_i64 _ _ (by omega) (by omega)).1
/-- A pointer to an automaton with choices. -/
def PCho (w : World) (v : Value) (c : Cho) : Prop := ∃ b rv, v = .pointer (some ⟨b, 0, none⟩) ∧ w.cell? ⟨b, 0, none⟩ = some (.int .i64 c.n) ∧ w.cell? ⟨b, 1, none⟩ = some rv ∧ CubeAt w rv c.nx
theorem PCho.new {w w' : World} {v : Value} {c : Cho} (h : PCho w v c) (hw : New w w') : PCho w' v c :=
  let ⟨b, rv, e, h1, h2, h3⟩ := h; ⟨b, rv, e, hw.cell h1, hw.cell h2, h3.new hw⟩
theorem PCho.box {w : World} {A : Option Addr} {cap : Nat} {c : Cho} (h : CubeAt w (.slice A c.nx.length cap) c.nx) (t : TypeId) : PCho (w.alloc (.cells #[.int .i64 c.n, .slice A c.nx.length cap] t)) (.pointer (some ⟨w.heap.size, 0, none⟩)) c :=
  ⟨_, _, rfl, by unfold World.cell?; rw [heap_alloc_new]; rfl, by unfold World.cell?; rw [heap_alloc_new]; rfl, h.new ((New.refl _).alloc _)⟩
theorem CubeAt.len {w : World} {A : Option Addr} {n cap : Nat} {c : List (List (List Int))} (h : CubeAt w (.slice A n cap) c) : n ≤ 9223372036854775807 := by
  obtain ⟨_, _, e, hl, _⟩ := h; cases e; exact hl
def ints (xs : List Nat) : List Int := xs.map fun (x : Nat) => (x : Int)
theorem ints_len (xs : List Nat) : (ints xs).length = xs.length := by simp [ints]
theorem nats_at (xs : List Nat) (i : Nat) (h : i < xs.length) : nth (ints xs) i = ((nth xs i : Nat) : Int) := nth_map _ _ _ h
theorem meet_take (xs : List Nat) (k : Nat) (h : k < xs.length) (a : Nat) : (xs.take (k + 1)).foldl (fun a x => a &&& x) a = (xs.take k).foldl (fun a x => a &&& x) a &&& nth xs k := by
  rw [take_succ_nth xs k h, List.foldl_append]; rfl
theorem meet_lt (xs : List Nat) (a : Nat) (ha : a < 1024) : xs.foldl (fun a x => a &&& x) a < 1024 := by
  induction xs generalizing a with
  | nil => exact ha
  | cons x r ih => exact ih _ (Nat.lt_of_le_of_lt Nat.and_le_left ha)
theorem meet_one (xs : List Nat) (h : 0 < xs.length) : (xs.take 1).foldl (fun a x => a &&& x) (nth xs 0) = nth xs 0 := by
  rw [take_succ_nth xs 0 h]; simp
theorem same_one (xs : List Nat) (h : 0 < xs.length) : (xs.take 1).all (fun x => x == nth xs 0) = true := by
  rw [take_succ_nth xs 0 h]; simp
theorem same_take (xs : List Nat) (k : Nat) (h : k < xs.length) : (xs.take (k + 1)).all (fun x => x == nth xs 0) = ((xs.take k).all (fun x => x == nth xs 0) && (nth xs k == nth xs 0)) := by
  rw [take_succ_nth xs k h, List.all_append]; simp
theorem natBeq (a b : Nat) : ((a : Int) == (b : Int)) = (a == b) := by rw [Bool.eq_iff_iff, beq_iff_eq, beq_iff_eq]; omega
theorem natBeq0 (a : Nat) : ((a : Int) == 0) = (a == 0) := natBeq a 0
theorem natBne0 (a : Nat) : ((a : Int) != 0) = !(a == 0) := by rw [bne, natBeq0]

end Go.Proofs.Ytoeckejcmojeaaa
