/- The reference's answer to whether a word directs. -/
import Derived.Test.YtoeckejcmojeaaaRows
import Derived.Test.YtoeckejcmojeaaaCore
import Derived.Test.YtoeckejcmojeaaaArrs
import Derived.Test.YtoeckejcmojeaaaInfos
import Derived.Test.YtoeckejcmojeaaaPlains
import Derived.Test.YtoeckejcmojeaaaPlainCho
import Derived.Test.YtoeckejcmojeaaaSBase
import Derived.Test.YtoeckejcmojeaaaSWalks
import Derived.Test.YtoeckejcmojeaaaS04a
import Derived.Test.YtoeckejcmojeaaaSCho
import Derived.WalkKit
import Derived.WalkSpells
import Derived.WalkLawsBesides
import Derived.Deep.QuietTactic
import Derived.Deep.OwnRows
import Derived.BigQuiet
import Derived.KernelRfl
namespace Go.Proofs.Ytoeckejcmojeaaa
open Go.RowKit

theorem reachList_len (c : Cho) (ws : List Int) : (reachList c ws).length = c.n.toNat := by simp [reachList]
theorem reachList_succ (c : Cho) (ws : List Int) (k : Nat) (h : k < c.n.toNat) : (reachList c ws).take (k + 1) = (reachList c ws).take k ++ [choRun c.nx (2 ^ k) ws] := by
  rw [take_succ_nth _ k (by rw [reachList_len]; exact h)]
  congr 2
  rw [nth_eq _ _ (by rw [reachList_len]; exact h)]
  simp [reachList]
theorem reachList_lt {c : Cho} (ha : choOk c = true) (ws : List Int) (hw : ∀ i, i < ws.length → 0 ≤ nth ws i ∧ nth ws i < c.nx.length) : ∀ x, x ∈ reachList c ws → x < 1024 := by
  intro x hx
  unfold reachList at hx
  obtain ⟨s, hs, rfl⟩ := List.mem_map.1 hx
  have h1 := (choOk_parts ha).1
  have hs' : s < c.n.toNat := by simpa using hs
  have := choRun_lt ha ws hw (2 ^ s) (Nat.pow_lt_pow_right (by decide) hs') ws.length (Nat.le_refl _)
  rw [List.take_length] at this
  exact lt_10 this (by omega)
theorem w64_pow (k : Nat) (h : k < 10) : Go.RowKit.wrap64 ((2 : Int) ^ k) = ((2 ^ k : Nat) : Int) := by
  have := pow10 k h
  rw [cast_pow, wrap64_wrap, wrap_i64_nat _ (by omega)]
theorem wu64_pow (k : Nat) (h : k < 10) : IntKind.u64.wrap ((2 : Int) ^ k) = ((2 ^ k : Nat) : Int) := by
  have := pow10 k h
  rw [cast_pow, wrap_u64_nat _ (by omega)]
theorem wi64_pow (k : Nat) (h : k < 10) : IntKind.i64.wrap ((2 : Int) ^ k) = ((2 ^ k : Nat) : Int) := by
  have := pow10 k h
  rw [cast_pow, wrap_i64_nat _ (by omega)]
theorem ints_snoc (xs : List Nat) (x : Nat) : ints (xs ++ [x]) = ints xs ++ [(x : Int)] := by simp [ints]

end Go.Proofs.Ytoeckejcmojeaaa
