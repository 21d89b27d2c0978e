/- The law of GreedyReset answers true. -/
import Derived.Test.YtnhjoiafadapaaaRows
import Derived.Test.YtnhjoiafadapaaaCore
import Derived.Test.YtnhjoiafadapaaaPlains
import Derived.Test.YtnhjoiafadapaaaPlainMerges
import Derived.Test.YtnhjoiafadapaaaPlainStab
import Derived.Test.YtnhjoiafadapaaaPlainGreeds
import Derived.Test.YtnhjoiafadapaaaSGreeds
import Derived.Test.YtnhjoiafadapaaaIGreedy
import Derived.Test.YtnhjoiafadapaaaWGreedyReset
import Derived.WalkKit
import Derived.WalkSpells
import Derived.WalkLawsBesides
import Derived.Deep.QuietTactic
import Derived.Deep.OwnRows
import Derived.BigQuiet
import Derived.KernelRfl
namespace Go.Proofs.Ytnhjoiafadapaaa
open Go.RowKit

theorem greedy_len {a : Aut} (ha : autOk a = true) : ∀ (f : Nat) (out xs : List Int), SetIn a xs → (greedy a.nx f out xs).1.length ≤ out.length + 1024 * xs.length
  | 0, out, xs, _ => Nat.le_add_right _ _
  | f + 1, out, xs, hs => by
    by_cases hl : xs.length ≤ 1
    · rw [greedy_end hl]; exact Nat.le_add_right _ _
    have hN := nAll_ok (nx := a.nx) (xs := xs) xs.length (Nat.le_refl _)
    obtain ⟨S, hS⟩ : ∃ S, S = nAll a.nx xs xs.length := ⟨_, rfl⟩
    rw [greedy_step hS hl]
    rw [← hS] at hN
    clear hS
    split
    · simp
    · rename_i hq
      rcases hN with q | ⟨i, k, hik, hk, e1, e2, e3⟩
      · exact absurd q hq
      · rw [e1, e2]
        have hm : (mw a.nx (nth xs i).toNat (nth xs k).toNat).2 = true := by
          cases hc : (mw a.nx (nth xs i).toNat (nth xs k).toNat).2 with
          | true => rfl
          | false => rw [e3] at hq; unfold mwLen at hq; rw [if_neg (by rw [hc]; simp)] at hq; omega
        obtain ⟨m1, m2⟩ := hs.merges ha hik hk hm
        have hsh := img_shrinks a.nx xs _ i k hik hk m2
        have hwl := mw_len ha (s := (nth xs i).toNat) (t := (nth xs k).toNat) (by have := hs.inn i (by omega); omega) (by have := hs.inn k hk; omega)
        have := greedy_len ha f (out ++ (mw a.nx (nth xs i).toNat (nth xs k).toNat).1) _ (hs.img ha m1)
        rw [List.length_append] at this
        omega
theorem FnExactGreedyReset_any (v0 : Value) (a0 : Aut) (w : World) (h0 : AutAt w v0 a0) :
    Calls Try.prog 3 #[v0] w fun e w' => e = .returned (.bool true) ∧ New w w' :=
  FnExactGreedyReset_walk v0 a0 (GreedyReset a0).1 (GreedyReset a0).2 w h0 (fun w u0 k0 => specGreedyReset_any u0 a0 w k0) (fun w u0 k0 => implGreedyReset_any u0 a0 w k0) (by
    unfold GreedyReset
    split
    · rename_i ha
      have hn := autOk_n ha
      have := greedy_len ha a0.n.toNat [] (iota 0 a0.n.toNat) (SetIn.all ha)
      rw [iota_length] at this
      unfold told
      split
      · simp at this ⊢; omega
      · simp
    · simp)

end Go.Proofs.Ytnhjoiafadapaaa
