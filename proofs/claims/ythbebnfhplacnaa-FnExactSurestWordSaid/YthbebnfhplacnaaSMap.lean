/- Lists of small numbers that are known by their texts, in a map from texts to true. -/
import Derived.Test.YthbebnfhplacnaaCore
import Derived.Test.YthbebnfhplacnaaMaps
import Derived.Test.YthbebnfhplacnaaPlains
import Derived.WalkKit
import Derived.WalkSpells
import Derived.WalkLawsBesides
import Derived.Deep.QuietTactic
import Derived.Deep.OwnRows
import Derived.BigQuiet
import Derived.KernelRfl
namespace Go.Proofs.Ythbebnfhplacnaa
open Go.RowKit

/-- The bytes of a list of small numbers. -/
def bytesOf (xs : List Int) : List UInt8 := xs.map fun n => UInt8.ofNat n.toNat
def strOf (xs : List Int) : Value := .string ⟨(bytesOf xs).toArray⟩
def keyL (xs : List Int) : Lit := .string (bytesOf xs)
def smallL (xs : List Int) : Prop := ∀ i, i < xs.length → 0 ≤ nth xs i ∧ nth xs i < 256
theorem bytesOf_len (xs : List Int) : (bytesOf xs).length = xs.length := by simp [bytesOf]
theorem byte_toNat (n : Int) (h0 : 0 ≤ n) (h1 : n < 256) : ((UInt8.ofNat n.toNat).toNat : Int) = n := by
  rw [UInt8.toNat_ofNat']
  have : n.toNat % 2 ^ 8 = n.toNat := Nat.mod_eq_of_lt (by omega)
  rw [this]; omega
theorem bytesOf_inj (xs ys : List Int) (hx : smallL xs) (hy : smallL ys) (h : bytesOf xs = bytesOf ys) : xs = ys := by
  have hl : xs.length = ys.length := by rw [← bytesOf_len xs, h, bytesOf_len]
  apply ext_nth _ _ hl
  intro i hi
  have h1 : (bytesOf xs)[i]? = (bytesOf ys)[i]? := by rw [h]
  simp only [bytesOf, List.getElem?_map] at h1
  rw [List.getElem?_eq_getElem hi, List.getElem?_eq_getElem (by omega)] at h1
  simp only [Option.map_some, Option.some.injEq] at h1
  have a := hx i hi
  have b := hy i (by omega)
  rw [nth_eq _ _ hi] at a ⊢
  rw [nth_eq _ _ (by omega)] at b ⊢
  rw [← byte_toNat _ a.1 a.2, ← byte_toNat _ b.1 b.2, h1]
theorem keyOf_str {P : Program} {K : TypeId} (hk : P.underlying K = some .string) (xs : List Int) (hl : xs.length ≤ 1048576) : keyOf P K (strOf xs) = some (keyL xs) := by
  refine keyOf_of_mapKey ?_
  unfold mapKey strOf
  rw [hk]
  simp only
  rw [if_pos]
  · rfl
  · show (bytesOf xs).toArray.size ≤ maxLen
    rw [List.size_toArray, bytesOf_len]
    unfold maxLen; omega
/-- The lists that are known; ok bounds those that are asked for. -/
def SMap (P : Program) (K : TypeId) (ok : List Int → Prop) (w : World) (mb : Nat) (xss : List (List Int)) : Prop :=
  ∃ F, MapAt P K w mb xss.length F ∧ (∀ x, x ∈ xss → F (keyL x) = some (.bool true)) ∧ ∀ x, ok x → x ∉ xss → F (keyL x) = none
section
variable {P : Program} {K : TypeId} {ok : List Int → Prop} {w w' : World} {mb : Nat} {xss : List (List Int)}
theorem SMap.map (h : SMap P K ok w mb xss) : ∃ F, MapAt P K w mb xss.length F := let ⟨F, h1, _⟩ := h; ⟨F, h1⟩
theorem SMap.new (h : SMap P K ok w mb xss) (hn : New w w') : SMap P K ok w' mb xss := let ⟨F, h1, h2, h3⟩ := h; ⟨F, h1.new hn, h2, h3⟩
theorem SMap.kept {row : Option Nat} (h : SMap P K ok w mb xss) (hg : w.grownBy w' row) (hne : some mb ≠ row) : SMap P K ok w' mb xss := let ⟨F, h1, h2, h3⟩ := h; ⟨F, h1.kept hg hne, h2, h3⟩
theorem SMap.lt (h : SMap P K ok w mb xss) : mb < w.heap.size := let ⟨_, h1, _⟩ := h; h1.lt
theorem SMap.empty (P : Program) (K : TypeId) (ok : List Int → Prop) (w : World) : SMap P K ok (w.alloc (.map #[] 0)) w.heap.size [] := ⟨_, MapAt.made P K w, fun x hx => by simp at hx, fun _ _ _ => rfl⟩
theorem SMap.look (h : SMap P K ok w mb xss) (hk : P.underlying K = some .string) {T E : TypeId} (ht : P.underlying T = some (.map K E)) (hz : ∀ w, (zeroValue E).run P w = .ok (.bool false) w) (x : List Int) (hx : ok x) (hl : x.length ≤ 1048576) :
    (x ∈ xss → (Instr.lookup T (.map (some mb)) (strOf x) false).run P w = .ok (.bool true) w) ∧ (x ∉ xss → (Instr.lookup T (.map (some mb)) (strOf x) false).run P w = .ok (.bool false) w) := by
  obtain ⟨F, h1, h2, h3⟩ := h
  have := (h1.look (Go.Maps.string_keyed hk) ht (hz w) (keyOf_str hk x hl)).1
  constructor
  · intro hm; rw [h2 x hm] at this; exact this
  · intro hm; rw [h3 x hx hm] at this; exact this
theorem SMap.put (h : SMap P K ok w mb xss) (hk : P.underlying K = some .string) {T E : TypeId} (ht : P.underlying T = some (.map K E)) (hinj : ∀ x y, ok x → ok y → bytesOf x = bytesOf y → x = y) (_hall : ∀ x, x ∈ xss → ok x) (x : List Int) (hx : ok x) (hl : x.length ≤ 1048576) (hm : x ∉ xss) (hn : xss.length < 1099511627776) :
    ∃ w3, (Instr.mapUpdate T (.map (some mb)) (strOf x) (.bool true)).run P w = .ok () w3 ∧ w.grownBy w3 (some mb) ∧ SMap P K ok w3 mb (xss ++ [x]) := by
  obtain ⟨F, h1, h2, h3⟩ := h
  obtain ⟨w3, r1, r2, r3⟩ := h1.put_spec (val := .bool true) (Go.Maps.string_keyed hk) ht (by unfold maxLen; omega) (keyOf_str hk x hl)
  rw [h3 x hx hm] at r2
  simp only [Option.isSome_none, Bool.false_eq_true, if_false] at r2
  refine ⟨w3, r1, r3, putF F (keyL x) (.bool true), by simpa using r2, fun y hy => ?_, fun y hoy hy => ?_⟩
  · unfold putF
    by_cases e : keyL y = keyL x
    · rw [if_pos e]
    · rw [if_neg e]
      rcases List.mem_append.1 hy with h | h
      · exact h2 y h
      · simp at h; subst h; exact absurd rfl e
  · unfold putF
    rw [if_neg]
    · exact h3 y hoy (fun h => hy (List.mem_append.2 (Or.inl h)))
    · intro e
      injection e with e
      have := hinj _ _ hoy hx e
      subst this
      exact hy (by simp)
end

end Go.Proofs.Ythbebnfhplacnaa
