/- The program's texts of lists of small numbers. -/
import Derived.Test.YthbebnfhplacnaaRows
import Derived.Test.YthbebnfhplacnaaCore
import Derived.Test.YthbebnfhplacnaaInfos
import Derived.Test.YthbebnfhplacnaaMaps
import Derived.Test.YthbebnfhplacnaaSMap
import Derived.Test.YthbebnfhplacnaaPlains
import Derived.WalkKit
import Derived.WalkSpells
import Derived.WalkLawsBesides
import Derived.Deep.QuietTactic
import Derived.Deep.OwnRows
import Derived.BigQuiet
import Derived.KernelRfl
import Derived.Laws.IdiomStrings
namespace Go.Proofs.Ythbebnfhplacnaa
open Go.RowKit

theorem info_u8 : (Try.prog.info? 5).map (fun i => (i.zero, i.size, i.bytes)) = some (some (.int .u8 0), 1, 1) := by kernel_rfl
set_option maxHeartbeats 800000 in
theorem keyOf_any (v : Value) (xs : List Int) (w : World) (h : IntsAt w v xs) (hs : smallL xs) (h0 : 0 < xs.length) (hl : xs.length ≤ 1048576) :
    Calls Try.prog 25 #[v] w fun e w' => e = .returned (strOf xs) ∧ New w w' := by
  obtain ⟨A, c, rfl, hl', hc⟩ := h
  have HC := hid hc
  have HS := hid hs
  clear hc hs
  have ho0 : (w.alloc (.cells #[] 5)).ownsRow w.heap.size 5 1 (.slice (some ⟨w.heap.size, 0, none⟩) 0 0) 0 ((xs.take 0).map fun n => .int .u8 n) :=
    World.ownsRow_made (w := w) (base := w.heap.size) (e := 5) (size := 1) #[] 0 (Nat.le_refl _) (by simp) (by simp)
  go_enter Try.func25, Try.ntmps25
  go_wp2
  go_loopw [3, 9] (fun o i wr => ∃ k : Nat, i = .int .i64 k ∧ k ≤ xs.length ∧ New w wr ∧ wr.ownsRow w.heap.size 5 1 o k ((xs.take k).map fun n => .int .u8 n)) (fun _ i _ => xs.length - (intOf i).toNat)
  case atStart => exact ⟨0, rfl, Nat.zero_le _, (by repeat (first | with_reducible exact New.refl _ | with_reducible assumption | with_reducible refine New.alloc ?_ _ | with_reducible refine New.drew ?_ | with_reducible refine New.drewN ?_ _ | with_reducible refine New.setCell ?_ (by simp <;> omega) _)), ho0⟩
  case round =>
    obtain ⟨k, rfl, hk, hn, ho⟩ := hrel
    have hz := hn.size
    by_cases hlt : k < xs.length
    · obtain ⟨b, off, rfl, hx⟩ := HC.out k hlt
      have b1 : (k : Int) < (xs.length : Int) := by omega
      replace hx := hn.cell hx
      obtain ⟨x0, x1⟩ := HS.out k hlt
      have hw : IntKind.u8.wrap (nth xs k) = nth xs k := IntWalk.u8_in _ (by omega)
      obtain ⟨A', c', rfl⟩ := ownsRow_form ho
      clear ho0
      go_wp2_with (at_builtin; refine wpList_appV rfl _ _ _ rfl (B := w.heap.size) Try.underlying87 info_u8 rfl (by decide) rfl _ k _ rfl ho rfl (by omega) hz ?_; intro g1 cap1 w2 ho2 hg2 hloc2)
      go_roundw
      case rel => exact ⟨k + 1, by go_num, by omega, New.grown hn hg2 (fun q hq => (World.ownsRow.lt ho q hq).1), by rw [take_succ_nth xs k hlt, List.map_append]; exact ho2⟩
      case measure => simp [intOf]; omega
    · have e : k = xs.length := by omega
      subst e
      rw [List.take_length] at ho
      obtain ⟨b, _, ⟨c', rfl⟩, _, _, _, _⟩ := ownsRow_cells ho 0 (by simpa using h0)
      have hcv : (convert 87 9 (.slice (some ⟨b, 0, none⟩) xs.length c')).run Try.prog wr = .ok (strOf xs) wr := by
        have := run_convert_bytes_back (P := Try.prog) wr 87 9 5 ⟨b, 0, none⟩ c' (bytesOf xs) Try.underlying87 Try.underlying5 Try.underlying9 (fun j hj => by
          have hj' : j < xs.length := by rwa [bytesOf_len] at hj
          obtain ⟨b', hb', ⟨c'', e⟩, _, _, hc, _⟩ := ownsRow_cells ho j (by simpa using hj')
          cases e
          have e2 : (⟨b, 0, none⟩ : Addr).add j = ⟨b, j, none⟩ := by
            unfold Addr.add
            split
            · rename_i h; subst h; rfl
            · simp
          rw [e2, hc]
          have := HS.out j hj'
          rw [nth_eq xs j hj'] at this
          simp only [bytesOf, List.getElem_map]
          rw [byte_toNat _ this.1 this.2])
        rw [bytesOf_len] at this
        exact this
      go_wp2
      go_ret
      exact ⟨rfl, hn⟩

end Go.Proofs.Ythbebnfhplacnaa
