/- The reference's least congruence. -/
import Derived.Test.YtieonifckmokkaaRows
import Derived.Test.YtieonifckmokkaaCore
import Derived.Test.YtieonifckmokkaaS01g
import Derived.Test.YtieonifckmokkaaInfos
import Derived.Test.YtieonifckmokkaaPlains
import Derived.Test.YtieonifckmokkaaPers
import Derived.Test.YtieonifckmokkaaPlainCong
import Derived.Test.YtieonifckmokkaaSBase
import Derived.Test.YtieonifckmokkaaS01b
import Derived.Test.YtieonifckmokkaaSTidy
import Derived.WalkKit
import Derived.WalkSpells
import Derived.WalkLawsBesides
import Derived.Deep.QuietTactic
import Derived.Deep.OwnRows
import Derived.BigQuiet
import Derived.KernelRfl
namespace Go.Proofs.Ytieonifckmokkaa
open Go.RowKit

set_option maxHeartbeats 400000 in
theorem l01Merge_any {B E : Nat} (b off n c : Nat) (m : List Int) (p q : Int) (w : World) (h : OwnInts B E w (.slice (some ⟨b, off, none⟩) n c) m) (hml : m.length ≤ 1000) :
    Calls Try.prog 202 #[.slice (some ⟨b, off, none⟩) n c, .int .i64 p, .int .i64 q] w fun e w' => e = .returned (.tuple #[]) ∧ OwnInts B E w' (.slice (some ⟨b, off, none⟩) n c) (mergeC m p q) ∧ w.grownBy w' (some b) := by
  obtain ⟨hl, _⟩ := h.cells
  have HN := hid (show n = m.length from hl)
  have hn1000 : n ≤ 1000 := by have := HN.out; omega
  have HH := hid h
  clear h hl
  go_enter Try.func202, Try.ntmps202
  go_wp2
  go_loopw [6] (fun i wr => ∃ k : Nat, k ≤ n ∧ i = .int .i64 k ∧ Hid (OwnInts B E wr (.slice (some ⟨b, off, none⟩) n c) (mixC m p q k)) ∧ Hid (w.grownBy wr (some b))) (fun i _ => n - (intOf i).toNat)
  case atStart => exact ⟨0, Nat.zero_le _, rfl, hid (by rw [mixC_zero]; exact HH.out), hid (grown_refl _ _)⟩
  case round =>
    obtain ⟨k, hk, rfl, ho, hg⟩ := hrel
    by_cases hlt : k < n
    · have b1 : (k : Int) < (n : Int) := by omega
      obtain ⟨_, _, _, hc⟩ := ho.out.cells
      obtain ⟨hx, hf⟩ := hc k (by rw [mixC_len]; have := HN.out; omega)
      rw [mixC_here m p q k (by have := HN.out; omega)] at hx
      clear hc
      by_cases hq : nth m k = p
      · have hq' : (nth m k == p) = true := by simp [hq]
        have HQ := hid hq
        clear hq
        go_wp2
        go_roundw
        case rel => exact ⟨k + 1, by omega, by go_num, hid (by rw [← mixC_hit m p q k (by have := HN.out; omega) HQ.out]; exact ho.out.set k (by rw [mixC_len]; have := HN.out; omega) q), hid (grown_trans hg.out (grown_setCell _ ⟨b, off + k, none⟩ _))⟩
        case measure => simp [intOf]; omega
      · have hq' : (nth m k == p) = false := by simp [hq]
        have HQ := hid hq
        clear hq
        go_wp2
        go_roundw
        case rel => exact ⟨k + 1, by omega, by go_num, hid (by rw [mixC_miss m p q k (by have := HN.out; omega) HQ.out]; exact ho.out), hg⟩
        case measure => simp [intOf]; omega
    · have e : k = n := by omega
      have HO := hid ho.out
      rw [e, HN.out, mixC_all] at HO
      rw [← HN.out] at HO
      clear ho e
      have hkn : ¬ (k : Int) < (n : Int) := by omega
      have hkn' : decide ((k : Int) < (n : Int)) = false := by simpa using hkn
      go_wp2
      go_end0
      exact ⟨rfl, HO.out, hg.out⟩

theorem New.wr {a w w' : World} {b : Nat} (h : New a w) (hg : w.grownBy w' (some b)) (hb : a.heap.size ≤ b) : New a w' := h.grown hg (fun k hk => by cases hk; exact hb)
/-- What is known of the marks in the midst of a pass. -/
def Pass (a : Aut) (m0 m : List Int) (g : Bool) (done : Nat → Nat → Nat → Prop) : Prop :=
  (g = true ∧ nval a.n.toNat m < nval a.n.toNat m0) ∨ (g = false ∧ m = m0 ∧ ∀ u v l, u < a.n.toNat → v < u → l < a.nx.length → done u v l → ker m u v → ker m (nxt a l u) (nxt a l v))
theorem Pass.more {a : Aut} {m0 m : List Int} {g : Bool} {d d' : Nat → Nat → Nat → Prop} (h : Pass a m0 m g d) (hd : ∀ u v l, u < a.n.toNat → v < u → l < a.nx.length → d' u v l → d u v l ∨ ¬ ker m u v ∨ ker m (nxt a l u) (nxt a l v)) : Pass a m0 m g d' := by
  rcases h with h | ⟨h1, h2, h3⟩
  · exact Or.inl h
  · refine Or.inr ⟨h1, h2, fun u v l hu hv hl hd' hk => ?_⟩
    rcases hd u v l hu hv hl hd' with h | h | h
    · exact h3 u v l hu hv hl h hk
    · exact absurd hk h
    · exact h

end Go.Proofs.Ytieonifckmokkaa
