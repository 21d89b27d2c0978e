/- slices.Delete at lists of numbers. -/
import Derived.Test.YtiflokfinkachaaRows
import Derived.Test.YtiflokfinkachaaCore
import Derived.Test.YtiflokfinkachaaInfos
import Derived.WalkKit
import Derived.WalkSpells
import Derived.WalkLawsBesides
import Derived.Deep.QuietTactic
import Derived.Deep.OwnRows
import Derived.BigQuiet
import Derived.KernelRfl
import Derived.Shelf.SlicesE.Delete
import Derived.Sort.OwnSortedInts
import Derived.WalkSmall
namespace Go.Proofs.Ytiflokfinkachaa
open Go.RowKit

def delRen : Go.Shelf.Ren := ⟨fun | 45 => 252 | _ => 0, fun | 0 => 0 | 3 => 3 | 4 => 4 | 22 => 26 | 23 => 2 | _ => 0, fun _ => 0⟩
theorem delLay : Go.Proofs.SlLaysE.n45 Try.prog delRen := {
  mixed := by kernel_rfl
  f45 := ⟨Try.f252.name, by decide, Try.func252.trans (congrArg some (by kernel_rfl))⟩
  t0 := Try.underlying0
  a0 := Try.isAgg0
  z0 := Try.sizeOf0
  v0 := Try.zeroValue0
  t3 := Try.underlying3
  a3 := Try.isAgg3
  z3 := Try.sizeOf3
  v3 := Try.zeroValue3
  t4 := Try.underlying4
  a4 := Try.isAgg4
  z4 := Try.sizeOf4
  v4 := Try.zeroValue4
  t22 := Try.underlying26
  a22 := Try.isAgg26
  z22 := Try.sizeOf26
  v22 := Try.zeroValue26
  a23 := Try.isAgg2
  z23 := Try.sizeOf2 }
/-- slices.Delete takes one number out of a list of the call's own. -/
theorem Delete64_any {B g c : Nat} (xs : List Int) (i : Nat) (w : World) (h : Grow B 2 w (.slice (some ⟨g, 0, none⟩) xs.length c) xs) (hi : i < xs.length) :
    Calls Try.prog 252 #[.slice (some ⟨g, 0, none⟩) xs.length c, .int .i64 i, .int .i64 ((i : Int) + 1)] w fun e w' => e = .returned (.slice (some ⟨g, 0, none⟩) (xs.length - 1) c) ∧ w.grownBy w' (some g) ∧ Grow B 2 w' (.slice (some ⟨g, 0, none⟩) (xs.length - 1) c) (xs.eraseIdx i) := by
  rw [show (i : Int) + 1 = ((i + 1 : Nat) : Int) by omega]
  obtain ⟨i0, hi0, hz0, hz1, hz2⟩ := info_parts (P := Try.prog) info_i64
  obtain ⟨hl, ⟨h0, _⟩ | ⟨g', cap', cur, hv, hb, hg, hn, hcap, hsz, htake⟩⟩ := id h
  · cases h0
  cases hv
  have hH := Go.holds_of_blockI hg (by rw [Nat.mul_one] at htake; exact htake)
  have hmax : c ≤ 9223372036854775807 := by unfold maxLen at hcap; omega
  refine (Go.Proofs.AnyE.slices_Delete delLay (Value.int .i64) (fun _ => rfl) 0 Try.zeroValue2 i0 hi0 hz1 g 0 c i (i + 1) xs.toArray w hH (by simpa using hn) hmax (Nat.le_succ i) (by rw [List.size_toArray]; exact hi)).mono ?_
  rintro e w' ⟨he, q, hw⟩
  obtain ⟨ts, hts⟩ : ∃ ts, ts = xs.take i ++ xs.drop (i + 1) ++ [(0 : Int)] := ⟨_, rfl⟩
  have e1 : (xs.toArray.toList.take i ++ xs.toArray.toList.drop (i + 1) ++ List.replicate (i + 1 - i) (0 : Int)).toArray = ts.toArray := by
    rw [hts, show i + 1 - i = 1 by omega]; rfl
  rw [e1] at hw
  have hlt : ts.length = xs.length := by rw [hts]; simp; omega
  have hw2 : w' = Go.Sort.grow (Go.Sort.putRow (Value.int .i64) (Go.Sort.ahead w q) g 0 ts.toArray) #[] := by rw [hw, Go.Sort.grow_empty]
  have hr := Go.ownsRow_sortedI (n := q) (os := #[]) hlt hb hg hn hcap hsz
  rw [← hw2] at hr
  have hgr : w.grownBy w' (some g) := by rw [hw2]; exact Go.grownBy_sortedI _
  have hle : (xs.eraseIdx i).length = xs.length - 1 := by rw [List.length_eraseIdx, if_pos hi]
  refine ⟨by rw [he]; simp, hgr, ?_⟩
  unfold Grow
  rw [hle]
  refine Go.ownsRow_pop (last := [.int .i64 0]) (by simp [hle]) ?_
  have e2 : ts.map (Value.int .i64) = (xs.eraseIdx i).map (Value.int .i64) ++ [.int .i64 0] := by
    rw [hts, List.map_append, List.eraseIdx_eq_take_drop_succ]; rfl
  rw [← e2, show xs.length - 1 + 1 = xs.length by omega]
  exact hr

end Go.Proofs.Ytiflokfinkachaa
