/- The reference's shortest word that resets. -/
import Derived.Test.YthbebnfhplacnaaGreatRows
import Derived.Test.YthbebnfhplacnaaGreatCore
import Derived.Test.YthbebnfhplacnaaGreatInfos
import Derived.Test.YthbebnfhplacnaaGreatPlains
import Derived.Test.YthbebnfhplacnaaGreatMaps
import Derived.Test.YthbebnfhplacnaaGreatSWalks
import Derived.Test.YthbebnfhplacnaaGreatSBase
import Derived.WalkKit
import Derived.WalkSpells
import Derived.WalkLawsBesides
import Derived.Deep.QuietTactic
import Derived.Deep.OwnRows
import Derived.BigQuiet
import Derived.KernelRfl
namespace Go.Proofs.YthbebnfhplacnaaGreat
open Go.RowKit

set_option maxRecDepth 20000 in
set_option maxHeartbeats 400000 in
theorem specShortestReset_any (v1 : Value) (a : Aut) (w : World) (h1 : AutAt w v1 a) (ha : autOk a = true) :
    Calls Tryz.prog 27 #[v1] w fun e w' => ∃ r, e = .returned (.tuple #[r, .int .i64 (told (firstWord smallB (tourOf a.nx (full a.n)))).2]) ∧ New w w' ∧ OwnInts w.heap.size w'.heap.size w' r (told (firstWord smallB (tourOf a.nx (full a.n)))).1 := by
  obtain ⟨rv, rfl, hr⟩ := h1
  obtain ⟨A, c, rfl⟩ := hr.form
  obtain ⟨wb, hwb⟩ : ∃ wb, wb = w.alloc (.cells #[.int .i64 a.n, .slice A a.nx.length c] 31) := ⟨_, rfl⟩
  have hp : PAut wb (.pointer (some ⟨w.heap.size, 0, none⟩)) a := by rw [hwb]; exact PAut.box hr _
  have hnb : New w wb := by rw [hwb]; exact (by repeat (first | with_reducible exact New.refl _ | with_reducible assumption | with_reducible refine New.alloc ?_ _ | with_reducible refine New.drew ?_ | with_reducible refine New.drewN ?_ _ | with_reducible refine New.setCell ?_ (by simp <;> omega) _))
  have hzb : wb.heap.size = w.heap.size + 1 := by rw [hwb]; simp only [size_alloc]
  have hb0 : wb.cell? ⟨w.heap.size, 0, none⟩ = some (.int .i64 a.n) := by rw [hwb]; go_simp
  have C1 := l01Ok_any _ a _ hp
  rw [ha] at C1
  have han := autOk_n ha
  have hpn := fun w1 (hn : New wb w1) => PAut.new hp hn
  have HC2 := hid (fun w1 (hn : New wb w1) => l02Full_any _ a w1 (hpn w1 hn) (by omega) han.2)
  have HC3 := hid (fun w1 (hn : New wb w1) => l02Shrink_any _ a (full a.n) w1 (hpn w1 hn) ha (full_lt _))
  obtain ⟨P, hP⟩ : ∃ P, P = firstWord smallB (tourOf a.nx (full a.n)) := ⟨_, rfl⟩
  rw [← hP] at HC3 ⊢
  have HZ := hid hzb
  clear ha hP hzb
  go_enter Tryz.func27, Tryz.ntmps27
  go_wp2_with fail
  rw [← hwb]
  clear hwb
  refine C1.mono ?_
  rintro e w1 ⟨rfl, hn1⟩
  go_wp2_with fail
  refine (HC2.out _ hn1).mono ?_
  rintro e w' ⟨rfl, hww⟩
  rw [hww]
  clear hww w'
  go_wp2_with fail
  refine (HC3.out _ hn1).mono ?_
  rintro e w2 ⟨r, rfl, hn2, ho⟩
  have hz2 := hn2.size
  go_wp2_with fail
  refine (l02Told_any _ P _ _ _ ho (Nat.le_refl _)).mono ?_
  rintro e w3 ⟨r3, rfl, hn3, ho3⟩
  have hz3 := hn3.size
  have hz1 := hn1.size
  go_wp2
  go_ret2
  exact ⟨_, rfl, ((hnb.trans hn1).trans hn2).trans hn3, ho3.widen (by have := HZ.out; omega) (Nat.le_refl _)⟩

end Go.Proofs.YthbebnfhplacnaaGreat
