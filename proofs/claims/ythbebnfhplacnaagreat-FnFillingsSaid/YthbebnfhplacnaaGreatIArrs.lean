/- Parts of the proof that lean on no program: IDel, IArr, IArr2, IPaint. -/
import Derived.Test.YthbebnfhplacnaaGreatRows
import Derived.Test.YthbebnfhplacnaaGreatCore
import Derived.Test.YthbebnfhplacnaaGreatInfos
import Derived.Test.YthbebnfhplacnaaGreatPlains
import Derived.Test.YthbebnfhplacnaaGreatMaps
import Derived.Test.YthbebnfhplacnaaGreatArrs
import Derived.Test.YthbebnfhplacnaaGreatJoins
import Derived.Test.YthbebnfhplacnaaGreatITours
import Derived.WalkKit
import Derived.WalkSpells
import Derived.WalkLawsBesides
import Derived.Deep.QuietTactic
import Derived.Deep.OwnRows
import Derived.BigQuiet
import Derived.KernelRfl
import Derived.Shelf.SlicesE.Delete
import Derived.Sort.OwnSortedInts
import Derived.WalkSmall
import Derived.Carry
import Derived.Deep.RegionLaw
import Derived.Laws.EntriesVeiled
namespace Go.Proofs.YthbebnfhplacnaaGreat
open Go.RowKit

section
end
section
theorem IntsAt.get {w : World} {A : Option Addr} {m c : Nat} {xs : List Int} (h : IntsAt w (.slice A m c) xs) (i : Nat) (hi : i < xs.length) : ∃ b off, A = some ⟨b, off, none⟩ ∧ w.cell? ⟨b, off + i, none⟩ = some (.int .i64 (nth xs i)) := by
  obtain ⟨A', c', e, _, hc⟩ := h
  cases e
  exact hc i hi
end
section
theorem IntsAt.solid_old {S : Nat → Prop} {w w' : World} {v : Value} {xs : List Int} (h : IntsAt w v xs) (hn : New w w') (hS : ∀ k, S k → w.heap.size ≤ k) : Solid S w' (fun w => IntsAt w v xs) := fun _ hb => h.new (But.new hn hb hS)
theorem arrB_le : ∀ n, n ≤ 3 → arrB n ≤ 6 := by decide
end
section
theorem info_rows : (Tryz.prog.info? 24).map (fun i => (i.zero, i.size, i.bytes)) = some (some (.slice none 0 0), 1, 24) := by kernel_rfl
end

end Go.Proofs.YthbebnfhplacnaaGreat
