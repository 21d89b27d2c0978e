/- The reference's kernels of a letter and a word; how many classes. -/
import Derived.Test.YtoeckejcmojeaaaRows
import Derived.Test.YtoeckejcmojeaaaCore
import Derived.Test.YtoeckejcmojeaaaInfos
import Derived.Test.YtoeckejcmojeaaaPlains
import Derived.Test.YtoeckejcmojeaaaPers
import Derived.Test.YtoeckejcmojeaaaPQuos
import Derived.Test.YtoeckejcmojeaaaPOrds
import Derived.Test.YtoeckejcmojeaaaPMerg
import Derived.Test.YtoeckejcmojeaaaPKerns
import Derived.Test.YtoeckejcmojeaaaMaps
import Derived.Test.YtoeckejcmojeaaaSBase
import Derived.Test.YtoeckejcmojeaaaS01b
import Derived.Test.YtoeckejcmojeaaaSTidy
import Derived.Test.YtoeckejcmojeaaaSQuo
import Derived.WalkKit
import Derived.WalkSpells
import Derived.WalkLawsBesides
import Derived.Deep.QuietTactic
import Derived.Deep.OwnRows
import Derived.BigQuiet
import Derived.KernelRfl
namespace Go.Proofs.Ytoeckejcmojeaaa
open Go.RowKit

set_option maxRecDepth 20000 in
set_option maxHeartbeats 1000000 in
theorem l03Kernel_any (v1 v2 : Value) (row x : List Int) (w : World) (h1 : IntsAt w v1 row) (h2 : IntsAt w v2 x) (hl : row.length ≤ 1000) (hb : ∀ i, i < row.length → 0 ≤ nth row i ∧ nth row i < (x.length : Int)) :
    Calls Try.prog 39 #[v1, v2] w fun e w' => ∃ r, e = .returned r ∧ New w w' ∧ OwnInts w.heap.size w'.heap.size w' r (kerS row x) := by
  obtain ⟨A1, c1, rfl, _, hc1⟩ := h1
  obtain ⟨A2, c2, rfl, _, hc2⟩ := h2
  have HB := hid hb
  clear hb
  have hGr := Grow.empty w.heap.size 2 w (Nat.le_refl _)
  have hna : New w (w.alloc (.cells #[] 2)) := (by repeat (first | with_reducible exact New.refl _ | with_reducible assumption | with_reducible refine New.alloc ?_ _ | with_reducible refine New.drew ?_ | with_reducible refine New.drewN ?_ _ | with_reducible refine New.setCell ?_ (by simp <;> omega) _))
  go_enter Try.func39, Try.ntmps39
  go_wp2
  go_loopw [5, 6] (fun ov jv wr => ∃ j : Nat, jv = .int .i64 j ∧ j ≤ row.length ∧ New w wr ∧ Grow w.heap.size 2 wr ov ((row.take j).map fun t => nth x t.toNat)) (fun _ jv _ => row.length - (intOf jv).toNat)
  case atStart => exact ⟨0, rfl, Nat.zero_le _, hna, by simpa using hGr⟩
  case round =>
    obtain ⟨j, rfl, hj, hnj, hgo⟩ := hrel
    clear hGr hna
    obtain ⟨wj, rfl⟩ : ∃ wj : World, wj = wr := ⟨_, rfl⟩
    have hcl : ((row.take j).map fun t => nth x t.toNat).length = j := by rw [List.length_map, List.length_take]; omega
    by_cases hltj : j < row.length
    · have b3 : (j : Int) < (row.length : Int) := by omega
      obtain ⟨b6, o6, hA6, hx6⟩ := hc1 j hltj
      subst hA6
      have hb6 := HB.out j hltj
      obtain ⟨Y, hY⟩ : ∃ Y, Y = nth row j := ⟨_, rfl⟩
      rw [← hY] at hx6 hb6
      have HY := hid hY
      obtain ⟨b7, o7, hA7, hx7⟩ := hc2 Y.toNat (by omega)
      subst hA7
      replace hx6 := hnj.cell hx6
      replace hx7 := hnj.cell hx7
      obtain ⟨Y0, Y1⟩ := hb6
      have hzj := hnj.size
      have hlj : ((row.take j).map fun t => nth x t.toNat).length < 1099511627776 := by rw [hcl]; omega
      obtain ⟨CL, hCL⟩ : ∃ CL, CL = (row.take j).map fun t => nth x t.toNat := ⟨_, rfl⟩
      rw [← hCL] at hgo hlj hcl
      have HCL := hid hCL
      have HCLL := hid hcl
      obtain ⟨Z, hZ⟩ : ∃ Z, Z = nth x Y.toNat := ⟨_, rfl⟩
      rw [← hZ] at hx7
      have HZ := hid hZ
      clear hY hCL hcl hZ
      go_wp2_with (at_builtin; refine wpList_app rfl _ _ _ rfl Try.underlying42 info_i64 _ _ rfl hgo rfl hlj hzj ?_; intro g8 cap8 w8 ho8 hg8)
      go_roundw
      case rel =>
        refine ⟨j + 1, by go_num, by omega, New.app (a := w) hnj hg8 hgo (Nat.le_refl _), ?_⟩
        rw [take_succ_nth row j hltj, List.map_append, ← HCL.out, ← HY.out]
        simp only [List.map_cons, List.map_nil]
        rw [← HZ.out]
        exact ho8
      case measure => simp [intOf]; omega
    · have ej : j = row.length := by omega
      have b3 : ¬ (j : Int) < (row.length : Int) := by omega
      have hgo2 := hgo
      rw [ej, List.take_length] at hgo2
      obtain ⟨V, hV⟩ : ∃ V, V = row.map fun t => nth x t.toNat := ⟨_, rfl⟩
      have hVl : V.length = row.length := by rw [hV, List.length_map]
      rw [← hV] at hgo2
      have C := l01Tidied_any _ V wj ((hgo2.own (by omega)).at) (by omega)
      have HV := hid hV
      obtain ⟨Ao, co, hov⟩ := hgo.form
      subst hov
      rw [hcl] at C ⊢
      clear hV hVl ej hcl hgo hgo2
      go_wp2_with (go_at_call 37; refine C.mono ?_; rintro e w2 ⟨r, he, hn2, ho2⟩; subst he)
      go_ret
      have hzj := hnj.size
      refine ⟨_, rfl, hnj.trans hn2, ?_⟩
      unfold kerS
      rw [← HV.out]
      exact ho2.widen hzj (Nat.le_refl _)
set_option maxRecDepth 20000 in
set_option maxHeartbeats 1000000 in
theorem l03Count_any (v : Value) (xs : List Int) (w : World) (h : IntsAt w v xs) (hx : ∀ i, i < xs.length → 0 ≤ nth xs i ∧ nth xs i < 1000) :
    Calls Try.prog 40 #[v] w fun e w' => e = .returned (.int .i64 (clsN xs)) ∧ New w w' := by
  obtain ⟨A, c, rfl, _, hc⟩ := h
  have HX := hid hx
  clear hx
  go_enter Try.func40, Try.ntmps40
  go_wp2
  go_loopw [3, 4] (fun m i wr => ∃ k : Nat, i = .int .i64 k ∧ k ≤ xs.length ∧ m = .int .i64 (clsTo xs k) ∧ New w wr) (fun _ i _ => xs.length - (intOf i).toNat)
  case atStart => exact ⟨0, rfl, Nat.zero_le _, rfl, New.refl _⟩
  case round =>
    obtain ⟨k, rfl, hk, rfl, hn⟩ := hrel
    by_cases hlt : k < xs.length
    · have b1 : (k : Int) < (xs.length : Int) := by omega
      obtain ⟨b, o, rfl, hx⟩ := hc k hlt
      replace hx := hn.cell hx
      obtain ⟨x0, x1⟩ := HX.out k hlt
      have hS := clsTo_succ xs k hlt
      obtain ⟨Y, hY⟩ : ∃ Y, Y = nth xs k := ⟨_, rfl⟩
      obtain ⟨M, hM⟩ : ∃ M, M = clsTo xs k := ⟨_, rfl⟩
      rw [← hY] at hx x0 x1
      rw [← hM]
      rw [← hY, ← hM] at hS
      obtain ⟨M2, hM2⟩ : ∃ M2, M2 = clsTo xs (k + 1) := ⟨_, rfl⟩
      rw [← hM2] at hS
      have HC := hid (fun w1 => show Calls Try.prog 91 #[.int .i64 M, .int .i64 (Y + 1)] w1 fun e w' => e = .returned (.int .i64 M2) ∧ w' = w1 by
        rw [hS]; exact l00Max_any _ _ w1)
      have HM2 := hid hM2
      clear hS hY hM hM2
      go_wp2_with (go_at_call 91; refine (HC.out _).mono ?_; rintro e w' ⟨rfl, rfl⟩)
      go_roundw
      case rel => exact ⟨k + 1, by go_num, by omega, by rw [HM2.out], (by repeat (first | with_reducible exact New.refl _ | with_reducible assumption | with_reducible refine New.alloc ?_ _ | with_reducible refine New.drewN ?_ _ | with_reducible refine New.drew ?_ | with_reducible refine New.trans ?_ (by with_reducible assumption)))⟩
      case measure => simp [intOf]; omega
    · have e : k = xs.length := by omega
      subst e
      go_wp2
      go_ret
      exact ⟨rfl, hn⟩

end Go.Proofs.Ytoeckejcmojeaaa
