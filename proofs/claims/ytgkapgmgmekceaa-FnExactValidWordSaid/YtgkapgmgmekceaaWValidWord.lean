/- The law of ValidWord answers true. -/
import Derived.Test.YtgkapgmgmekceaaRows
import Derived.Test.YtgkapgmgmekceaaBase
import Derived.Test.YtgkapgmgmekceaaAut
import Derived.Test.YtgkapgmgmekceaaPlain1
import Derived.Test.YtgkapgmgmekceaaLInts
import Derived.Test.YtgkapgmgmekceaaLAut
import Derived.Test.YtgkapgmgmekceaaS01a
import Derived.Test.YtgkapgmgmekceaaI01b
import Derived.WalkKit
import Derived.WalkSpells
import Derived.WalkLawsBesides
import Derived.Deep.QuietTactic
import Derived.Deep.OwnRows
import Derived.BigQuiet
import Derived.KernelRfl
import Derived.Deep.RegionHeld3
namespace Go.Proofs.Ytgkapgmgmekceaa
open Go.RowKit

set_option maxHeartbeats 1000000 in
theorem FnExactValidWord_any (v1 v2 : Value) (a : Aut) (ws : List Int) (w : World) (h1 : AutAt w v1 a) (h2 : IntsAt w v2 ws) :
    Calls Try.prog 3 #[v1, v2] w fun e w' => e = .returned (.bool true) ∧ New w w' := by
  obtain ⟨rv, rfl, hr⟩ := h1
  obtain ⟨A, c, rfl⟩ := hr.form
  obtain ⟨A2, c2, rfl⟩ := h2.form
  have hl2 := h2.len
  by_cases hs2 : 1048576 < ws.length
  · go_enter Try.func3, Try.ntmps3
    go_wp2_with fail
    go_ret
    exact ⟨rfl, (by repeat (first | exact New.refl _ | assumption | refine New.alloc ?_ _ | refine New.drew ?_ | refine New.drewN ?_ _ | refine New.setCell ?_ (by simp <;> omega) _))⟩
  by_cases hs1 : szBB a.nx 1048576 < 0
  · go_enter Try.func3, Try.ntmps3
    go_wp2_with fail
    refine (szAutomaton_any _ a _ _ ⟨_, rfl, hr.new (by repeat (first | exact New.refl _ | assumption | refine New.alloc ?_ _ | refine New.drew ?_ | refine New.drewN ?_ _ | refine New.setCell ?_ (by simp <;> omega) _))⟩ (by omega) (by omega)).mono ?_
    rintro e w1 ⟨rfl, hn⟩
    have hn1 : New w w1 := New.trans (by repeat (first | exact New.refl _ | assumption | refine New.alloc ?_ _ | refine New.drew ?_ | refine New.drewN ?_ _ | refine New.setCell ?_ (by simp <;> omega) _)) hn
    go_wp2_with fail
    go_ret
    exact ⟨rfl, hn1⟩
  have hsz := szBB_len a.nx 1048576 (by omega) (by omega)
  have hb1 : a.nx.length ≤ 1048576 := by omega
  have hb2 : ∀ i, i < a.nx.length → (nth a.nx i).length ≤ 1048576 := fun i hi => by have := length_le_total a.nx i hi; omega
  have HB2 := hid hb2
  clear hb2 hsz
  have h1 : AutAt w (.agg #[.int .i64 a.n, .slice A a.nx.length c]) a := ⟨_, rfl, hr⟩
  go_enter Try.func3, Try.ntmps3
  go_wp2_with fail
  refine (szAutomaton_any _ a _ _ (h1.new (by repeat (first | exact New.refl _ | assumption | refine New.alloc ?_ _ | refine New.drew ?_ | refine New.drewN ?_ _ | refine New.setCell ?_ (by simp <;> omega) _))) (by omega) (by omega)).mono ?_
  rintro e w1 ⟨rfl, hn⟩
  have hN : New w w1 := New.trans (by repeat (first | exact New.refl _ | assumption | refine New.alloc ?_ _ | refine New.drew ?_ | refine New.drewN ?_ _ | refine New.setCell ?_ (by simp <;> omega) _)) hn
  have cb0 : w1.cell? ⟨w.heap.size, 0, none⟩ = some (.int .i64 a.n) := hn.cell (by go_simp)
  have cb1 : w1.cell? ⟨w.heap.size, 1, none⟩ = some (.slice A a.nx.length c) := hn.cell (by go_simp)
  clear hn
  go_wp2_with fail
  refine (toAutomaton_any _ a _ (h1.new hN) hb1 HB2.out).mono ?_
  rintro e w2 ⟨r1, rfl, hn, ho1⟩
  replace cb0 := hn.cell cb0
  replace cb1 := hn.cell cb1
  replace hN := hN.trans hn
  go_wp2_with fail
  refine (toInt64S_any _ _ _ (h2.new hN) (by omega)).mono ?_
  rintro e w3 ⟨r2, rfl, hn, ho2⟩
  replace cb0 := hn.cell cb0
  replace cb1 := hn.cell cb1
  replace hN := hN.trans hn
  replace ho1 := ho1.new hn
  go_wp2_with fail
  refine (specValidWord_any _ _ _ _ _ ho1.at ho2.at).mono ?_
  rintro e w4 ⟨rfl, hn⟩
  replace cb0 := hn.cell cb0
  replace cb1 := hn.cell cb1
  replace hN := hN.trans hn
  clear ho1 ho2
  go_wp2_with fail
  refine (toAutomaton_any _ a _ (h1.new hN) hb1 HB2.out).mono ?_
  rintro e w5 ⟨x0, rfl, hn, ho1⟩
  obtain ⟨xr, rfl, hxr⟩ := id ho1; obtain ⟨A3, c3, rfl⟩ := hxr.form; clear hxr
  replace cb0 := hn.cell cb0
  replace cb1 := hn.cell cb1
  replace hN := hN.trans hn
  go_wp2_with fail
  refine (toInt64S_any _ _ _ (h2.new (by repeat (first | exact New.refl _ | assumption | refine New.alloc ?_ _ | refine New.drew ?_ | refine New.drewN ?_ _ | refine New.setCell ?_ (by simp <;> omega) _))) (by omega)).mono ?_
  rintro e w6 ⟨x1, rfl, hn, ho2⟩
  have cx0 : w6.cell? ⟨w5.heap.size, 0, none⟩ = some (.int .i64 a.n) := hn.cell (by go_simp)
  have cx1 : w6.cell? ⟨w5.heap.size, 1, none⟩ = some (.slice A3 a.nx.length c3) := hn.cell (by go_simp)
  replace hn : New w5 w6 := New.trans (by repeat (first | exact New.refl _ | assumption | refine New.alloc ?_ _ | refine New.drew ?_ | refine New.drewN ?_ _ | refine New.setCell ?_ (by simp <;> omega) _)) hn
  replace cb0 := hn.cell cb0
  replace cb1 := hn.cell cb1
  replace hN := hN.trans hn
  replace ho1 := ho1.new hn
  obtain ⟨A4, c4, rfl⟩ := ho2.form
  go_wp2_with fail
  refine (implValidWord_any _ _ _ _ _ ho1.at ho2.at).mono ?_
  rintro e w7 ⟨rfl, hn⟩
  replace cb0 := hn.cell cb0
  replace cb1 := hn.cell cb1
  replace cx0 := hn.cell cx0
  replace cx1 := hn.cell cx1
  replace hN := hN.trans hn
  replace ho1 := ho1.new hn
  replace ho2 := ho2.new hn
  clear hn
  go_wp2_with fail
  go_region_held3 (fun w' => w'.cell? ⟨w.heap.size, 0, none⟩ = some (.int .i64 a.n) ∧ w'.cell? ⟨w.heap.size, 1, none⟩ = some (.slice A a.nx.length c) ∧ w'.cell? ⟨w5.heap.size, 0, none⟩ = some (.int .i64 a.n) ∧ w'.cell? ⟨w5.heap.size, 1, none⟩ = some (.slice A3 a.nx.length c3))
    (first | go_keep | exact ⟨New.cell hn cb0, New.cell hn cb1, New.cell hn cx0, New.cell hn cx1⟩ | exact ⟨New.cell hn' cb0, New.cell hn' cb1, New.cell hn' cx0, New.cell hn' cx1⟩)
    (first
      | (go_at_call 10; refine (toAutomaton_any _ a _ (h1.new (hN.trans (New.refl _).drew)) hb1 HB2.out).mono ?_; rintro e w8 ⟨r3, rfl, hn, ho3⟩; replace hn : New w7 w8 := New.trans (New.refl _).drew hn; obtain ⟨r4, rfl, -⟩ := id ho3)
      | (go_at_call 13; refine (eqAutomaton_any _ _ _ _ _ (ho1.new hn).at ho3.at).mono ?_; rintro e w9 ⟨rfl, hn'⟩; replace hn' : New w7 w9 := New.trans hn hn'))
  replace hN : New w w9 := hN.trans hn'
  replace ho2 := ho2.new hn'
  go_wp2_with fail
  refine (toInt64S_any _ _ _ (h2.new hN) (by omega)).mono ?_
  rintro e w10 ⟨r5, rfl, hn, ho4⟩
  replace hN := hN.trans hn
  replace ho2 := ho2.new hn
  go_wp2_with fail
  refine (eqInt64S_any _ _ _ _ _ ho2.at ho4.at).mono ?_
  rintro e w11 ⟨rfl, hn⟩
  replace hN := hN.trans hn
  go_wp2_with fail
  go_ret
  exact ⟨rfl, hN⟩

end Go.Proofs.Ytgkapgmgmekceaa
