/- Parts of the proof that lean on no program: SMap, IKey. -/
import Derived.Test.YthbebnfhplacnaaGreatRows
import Derived.Test.YthbebnfhplacnaaGreatCore
import Derived.Test.YthbebnfhplacnaaGreatMaps
import Derived.Test.YthbebnfhplacnaaGreatPlains
import Derived.Test.YthbebnfhplacnaaGreatInfos
import Derived.WalkKit
import Derived.WalkSpells
import Derived.WalkLawsBesides
import Derived.Deep.QuietTactic
import Derived.Deep.OwnRows
import Derived.BigQuiet
import Derived.KernelRfl
import Derived.Laws.IdiomStrings
namespace Go.Proofs.YthbebnfhplacnaaGreat
open Go.RowKit

section
/-- The bytes of a list of small numbers. -/
def bytesOf (xs : List Int) : List UInt8 := xs.map fun n => UInt8.ofNat n.toNat
def strOf (xs : List Int) : Value := .string ⟨(bytesOf xs).toArray⟩
def keyL (xs : List Int) : Lit := .string (bytesOf xs)
def smallL (xs : List Int) : Prop := ∀ i, i < xs.length → 0 ≤ nth xs i ∧ nth xs i < 256
theorem bytesOf_len (xs : List Int) : (bytesOf xs).length = xs.length := by simp [bytesOf]
theorem byte_toNat (n : Int) (h0 : 0 ≤ n) (h1 : n < 256) : ((UInt8.ofNat n.toNat).toNat : Int) = n := by
  rw [UInt8.toNat_ofNat']
  have : n.toNat % 2 ^ 8 = n.toNat := Nat.mod_eq_of_lt (by omega)
  rw [this]; omega
theorem bytesOf_inj (xs ys : List Int) (hx : smallL xs) (hy : smallL ys) (h : bytesOf xs = bytesOf ys) : xs = ys := by
  have hl : xs.length = ys.length := by rw [← bytesOf_len xs, h, bytesOf_len]
  apply ext_nth _ _ hl
  intro i hi
  have h1 : (bytesOf xs)[i]? = (bytesOf ys)[i]? := by rw [h]
  simp only [bytesOf, List.getElem?_map] at h1
  rw [List.getElem?_eq_getElem hi, List.getElem?_eq_getElem (by omega)] at h1
  simp only [Option.map_some, Option.some.injEq] at h1
  have a := hx i hi
  have b := hy i (by omega)
  rw [nth_eq _ _ hi] at a ⊢
  rw [nth_eq _ _ (by omega)] at b ⊢
  rw [← byte_toNat _ a.1 a.2, ← byte_toNat _ b.1 b.2, h1]
theorem keyOf_str {P : Program} {K : TypeId} (hk : P.underlying K = some .string) (xs : List Int) (hl : xs.length ≤ 1048576) : keyOf P K (strOf xs) = some (keyL xs) := by
  refine keyOf_of_mapKey ?_
  unfold mapKey strOf
  rw [hk]
  simp only
  rw [if_pos]
  · rfl
  · show (bytesOf xs).toArray.size ≤ maxLen
    rw [List.size_toArray, bytesOf_len]
    unfold maxLen; omega
/-- The lists that are known; ok bounds those that are asked for. -/
def SMap (P : Program) (K : TypeId) (ok : List Int → Prop) (w : World) (mb : Nat) (xss : List (List Int)) : Prop :=
  ∃ F, MapAt P K w mb xss.length F ∧ (∀ x, x ∈ xss → F (keyL x) = some (.bool true)) ∧ ∀ x, ok x → x ∉ xss → F (keyL x) = none
section
variable {P : Program} {K : TypeId} {ok : List Int → Prop} {w w' : World} {mb : Nat} {xss : List (List Int)}
theorem SMap.map (h : SMap P K ok w mb xss) : ∃ F, MapAt P K w mb xss.length F := let ⟨F, h1, _⟩ := h; ⟨F, h1⟩
theorem SMap.new (h : SMap P K ok w mb xss) (hn : New w w') : SMap P K ok w' mb xss := let ⟨F, h1, h2, h3⟩ := h; ⟨F, h1.new hn, h2, h3⟩
theorem SMap.kept {row : Option Nat} (h : SMap P K ok w mb xss) (hg : w.grownBy w' row) (hne : some mb ≠ row) : SMap P K ok w' mb xss := let ⟨F, h1, h2, h3⟩ := h; ⟨F, h1.kept hg hne, h2, h3⟩
theorem SMap.lt (h : SMap P K ok w mb xss) : mb < w.heap.size := let ⟨_, h1, _⟩ := h; h1.lt
theorem SMap.empty (P : Program) (K : TypeId) (ok : List Int → Prop) (w : World) : SMap P K ok (w.alloc (.map #[] 0)) w.heap.size [] := ⟨_, MapAt.made P K w, fun x hx => by simp at hx, fun _ _ _ => rfl⟩
theorem SMap.look (h : SMap P K ok w mb xss) (hk : P.underlying K = some .string) {T E : TypeId} (ht : P.underlying T = some (.map K E)) (hz : ∀ w, (zeroValue E).run P w = .ok (.bool false) w) (x : List Int) (hx : ok x) (hl : x.length ≤ 1048576) :
    (x ∈ xss → (Instr.lookup T (.map (some mb)) (strOf x) false).run P w = .ok (.bool true) w) ∧ (x ∉ xss → (Instr.lookup T (.map (some mb)) (strOf x) false).run P w = .ok (.bool false) w) := by
  obtain ⟨F, h1, h2, h3⟩ := h
  have := (h1.look (Go.Maps.string_keyed hk) ht (hz w) (keyOf_str hk x hl)).1
  constructor
  · intro hm; rw [h2 x hm] at this; exact this
  · intro hm; rw [h3 x hx hm] at this; exact this
theorem SMap.put (h : SMap P K ok w mb xss) (hk : P.underlying K = some .string) {T E : TypeId} (ht : P.underlying T = some (.map K E)) (hinj : ∀ x y, ok x → ok y → bytesOf x = bytesOf y → x = y) (_hall : ∀ x, x ∈ xss → ok x) (x : List Int) (hx : ok x) (hl : x.length ≤ 1048576) (hm : x ∉ xss) (hn : xss.length < 1099511627776) :
    ∃ w3, (Instr.mapUpdate T (.map (some mb)) (strOf x) (.bool true)).run P w = .ok () w3 ∧ w.grownBy w3 (some mb) ∧ SMap P K ok w3 mb (xss ++ [x]) := by
  obtain ⟨F, h1, h2, h3⟩ := h
  obtain ⟨w3, r1, r2, r3⟩ := h1.put_spec (val := .bool true) (Go.Maps.string_keyed hk) ht (by unfold maxLen; omega) (keyOf_str hk x hl)
  rw [h3 x hx hm] at r2
  simp only [Option.isSome_none, Bool.false_eq_true, if_false] at r2
  refine ⟨w3, r1, r3, putF F (keyL x) (.bool true), by simpa using r2, fun y hy => ?_, fun y hoy hy => ?_⟩
  · unfold putF
    by_cases e : keyL y = keyL x
    · rw [if_pos e]
    · rw [if_neg e]
      rcases List.mem_append.1 hy with h | h
      · exact h2 y h
      · simp at h; subst h; exact absurd rfl e
  · unfold putF
    rw [if_neg]
    · exact h3 y hoy (fun h => hy (List.mem_append.2 (Or.inl h)))
    · intro e
      injection e with e
      have := hinj _ _ hoy hx e
      subst this
      exact hy (by simp)
end
end
section
theorem info_u8 : (Tryz.prog.info? 5).map (fun i => (i.zero, i.size, i.bytes)) = some (some (.int .u8 0), 1, 1) := by kernel_rfl
set_option maxHeartbeats 800000 in
theorem keyOf_any (v : Value) (xs : List Int) (w : World) (h : IntsAt w v xs) (hs : smallL xs) (h0 : 0 < xs.length) (hl : xs.length ≤ 1048576) :
    Calls Tryz.prog 29 #[v] w fun e w' => e = .returned (strOf xs) ∧ New w w' := by
  obtain ⟨A, c, rfl, hl', hc⟩ := h
  have HC := hid hc
  have HS := hid hs
  clear hc hs
  have ho0 : (w.alloc (.cells #[] 5)).ownsRow w.heap.size 5 1 (.slice (some ⟨w.heap.size, 0, none⟩) 0 0) 0 ((xs.take 0).map fun n => .int .u8 n) :=
    World.ownsRow_made (w := w) (base := w.heap.size) (e := 5) (size := 1) #[] 0 (Nat.le_refl _) (by simp) (by simp)
  go_enter Tryz.func29, Tryz.ntmps29
  go_wp2
  go_loopw [3, 9] (fun o i wr => ∃ k : Nat, i = .int .i64 k ∧ k ≤ xs.length ∧ New w wr ∧ wr.ownsRow w.heap.size 5 1 o k ((xs.take k).map fun n => .int .u8 n)) (fun _ i _ => xs.length - (intOf i).toNat)
  case atStart => exact ⟨0, rfl, Nat.zero_le _, (by repeat (first | with_reducible exact New.refl _ | with_reducible assumption | with_reducible refine New.alloc ?_ _ | with_reducible refine New.drew ?_ | with_reducible refine New.drewN ?_ _ | with_reducible refine New.setCell ?_ (by simp <;> omega) _)), ho0⟩
  case round =>
    obtain ⟨k, rfl, hk, hn, ho⟩ := hrel
    have hz := hn.size
    by_cases hlt : k < xs.length
    · obtain ⟨b, off, rfl, hx⟩ := HC.out k hlt
      have b1 : (k : Int) < (xs.length : Int) := by omega
      replace hx := hn.cell hx
      obtain ⟨x0, x1⟩ := HS.out k hlt
      have hw : IntKind.u8.wrap (nth xs k) = nth xs k := IntWalk.u8_in _ (by omega)
      obtain ⟨A', c', rfl⟩ := ownsRow_form ho
      clear ho0
      go_wp2_with (at_builtin; refine wpList_appV rfl _ _ _ rfl (B := w.heap.size) Tryz.underlying22 info_u8 rfl (by decide) rfl _ k _ rfl ho rfl (by omega) hz ?_; intro g1 cap1 w2 ho2 hg2 hloc2)
      go_roundw
      case rel => exact ⟨k + 1, by go_num, by omega, New.grown hn hg2 (fun q hq => (World.ownsRow.lt ho q hq).1), by rw [take_succ_nth xs k hlt, List.map_append]; exact ho2⟩
      case measure => simp [intOf]; omega
    · have e : k = xs.length := by omega
      subst e
      rw [List.take_length] at ho
      obtain ⟨b, _, ⟨c', rfl⟩, _, _, _, _⟩ := ownsRow_cells ho 0 (by simpa using h0)
      have hcv : (convert 22 9 (.slice (some ⟨b, 0, none⟩) xs.length c')).run Tryz.prog wr = .ok (strOf xs) wr := by
        have := run_convert_bytes_back (P := Tryz.prog) wr 22 9 5 ⟨b, 0, none⟩ c' (bytesOf xs) Tryz.underlying22 Tryz.underlying5 Tryz.underlying9 (fun j hj => by
          have hj' : j < xs.length := by rwa [bytesOf_len] at hj
          obtain ⟨b', hb', ⟨c'', e⟩, _, _, hc, _⟩ := ownsRow_cells ho j (by simpa using hj')
          cases e
          have e2 : (⟨b, 0, none⟩ : Addr).add j = ⟨b, j, none⟩ := by
            unfold Addr.add
            split
            · rename_i h; subst h; rfl
            · simp
          rw [e2, hc]
          have := HS.out j hj'
          rw [nth_eq xs j hj'] at this
          simp only [bytesOf, List.getElem_map]
          rw [byte_toNat _ this.1 this.2])
        rw [bytesOf_len] at this
        exact this
      go_wp2
      go_ret
      exact ⟨rfl, hn⟩
end

end Go.Proofs.YthbebnfhplacnaaGreat
