/- The program's images of the least rank. -/
import Derived.Test.YtoeckejcmojeaaaRows
import Derived.Test.YtoeckejcmojeaaaCore
import Derived.Test.YtoeckejcmojeaaaInfos
import Derived.Test.YtoeckejcmojeaaaPlains
import Derived.Test.YtoeckejcmojeaaaPOrds
import Derived.Test.YtoeckejcmojeaaaMaps
import Derived.Test.YtoeckejcmojeaaaRowsSwap
import Derived.Test.YtoeckejcmojeaaaSortRows
import Derived.Test.YtoeckejcmojeaaaICmp
import Derived.Test.YtoeckejcmojeaaaIBase
import Derived.Test.YtoeckejcmojeaaaI01c
import Derived.Test.YtoeckejcmojeaaaIIdx
import Derived.Test.YtoeckejcmojeaaaIRen
import Derived.Test.YtoeckejcmojeaaaIFlk
import Derived.Test.YtoeckejcmojeaaaITour
import Derived.Test.YtoeckejcmojeaaaIFirsts
import Derived.Test.YtoeckejcmojeaaaILeast
import Derived.WalkKit
import Derived.WalkSpells
import Derived.WalkLawsBesides
import Derived.Deep.QuietTactic
import Derived.Deep.OwnRows
import Derived.BigQuiet
import Derived.KernelRfl
import Derived.Deep.RegionHeld3
import Derived.Shelf.SlSortCmp.Whole1
namespace Go.Proofs.Ytoeckejcmojeaaa
open Go.RowKit

set_option maxRecDepth 20000 in
set_option maxHeartbeats 1000000 in
theorem rank_any (v1 : Value) (a : Aut) (w : World) (h1 : AutAt w v1 a) (ha : autOk a = true) :
    Calls Try.prog 48 #[v1] w fun e w' => e = .returned (.int .i64 (leastOf a.nx (full a.n) : Nat)) ∧ New w w' := by
  obtain ⟨rv, rfl, hr⟩ := h1
  obtain ⟨A, c, rfl⟩ := hr.form
  have h1 : AutAt w (.agg #[.int .i64 a.n, .slice A a.nx.length c]) a := ⟨_, rfl, hr⟩
  have han := autOk_n ha
  obtain ⟨wb, hwb⟩ : ∃ wb, wb = w.alloc (.cells #[.int .i64 a.n, .slice A a.nx.length c] 28) := ⟨_, rfl⟩
  have hnb : New w wb := by rw [hwb]; exact (by repeat (first | with_reducible exact New.refl _ | with_reducible assumption | with_reducible refine New.alloc ?_ _ | with_reducible refine New.drew ?_ | with_reducible refine New.drewN ?_ _ | with_reducible refine New.setCell ?_ (by simp <;> omega) _))
  have hb0 : wb.cell? ⟨w.heap.size, 0, none⟩ = some (.int .i64 a.n) := by rw [hwb]; go_simp
  have hb1 : wb.cell? ⟨w.heap.size, 1, none⟩ = some (.slice A a.nx.length c) := by rw [hwb]; go_simp
  have HC1 := hid (fun w1 (hm : New w w1) => all_any _ a w1 (h1.new hm) ha)
  have HC2 := hid (fun v w1 (h : IntsAt w1 v (iota 0 a.n.toNat)) => flockOf_any v _ w1 h (sIota a ha))
  rw [full_iota a.n (by omega)] at HC2
  have HC3 := hid (fun w1 (hm : New w w1) => least_any _ a (full a.n) w1 (h1.new hm) ha (full_lt a.n))
  clear ha
  go_enter Try.func48, Try.ntmps48
  go_wp2_with fail
  rw [← hwb]
  clear hwb
  go_region_held3 (fun w' => w'.cell? ⟨w.heap.size, 0, none⟩ = some (.int .i64 a.n) ∧ w'.cell? ⟨w.heap.size, 1, none⟩ = some (.slice A a.nx.length c))
    (first | go_keep | exact ⟨hq2.cell hb0, hq2.cell hb1⟩ | exact ⟨hq3.cell hb0, hq3.cell hb1⟩)
    (first
      | (go_at_call 46; refine (HC1.out _ (hnb.trans (New.refl _).drew)).mono ?_; rintro e w3 ⟨r2, he, hr2, ho2⟩; obtain ⟨A2, c2, rfl⟩ := ho2.form; subst he; have hq2 : New wb w3 := New.trans (New.refl _).drew hr2)
      | (go_at_call 61; refine (HC2.out _ _ ho2.at).mono ?_; rintro e w' ⟨rfl, rfl⟩)
      | (go_at_call 102; refine (HC3.out _ (hnb.trans hq2)).mono ?_; rintro e w4 ⟨rfl, hr3⟩; have hq3 : New wb w4 := hq2.trans hr3))
  go_wp2
  go_ret
  exact ⟨rfl, hnb.trans hq3⟩

end Go.Proofs.Ytoeckejcmojeaaa
