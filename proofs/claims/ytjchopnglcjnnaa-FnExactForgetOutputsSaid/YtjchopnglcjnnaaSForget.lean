/- The reference's automaton of a machine. -/
import Derived.Test.YtjchopnglcjnnaaRows
import Derived.Test.YtjchopnglcjnnaaBase
import Derived.Test.YtjchopnglcjnnaaAut
import Derived.Test.YtjchopnglcjnnaaMach
import Derived.Test.YtjchopnglcjnnaaApp
import Derived.Test.YtjchopnglcjnnaaAppRows
import Derived.Test.YtjchopnglcjnnaaInfo
import Derived.Test.YtjchopnglcjnnaaPlain1
import Derived.Test.YtjchopnglcjnnaaPlainRun
import Derived.Test.YtjchopnglcjnnaaPMach
import Derived.Test.YtjchopnglcjnnaaPlainOut
import Derived.Test.YtjchopnglcjnnaaS06b
import Derived.Test.YtjchopnglcjnnaaSOwn
import Derived.WalkKit
import Derived.WalkSpells
import Derived.WalkLawsBesides
import Derived.Deep.QuietTactic
import Derived.Deep.OwnRows
import Derived.BigQuiet
import Derived.KernelRfl
import Derived.Deep.RegionHeld3
namespace Go.Proofs.Ytjchopnglcjnnaa
open Go.RowKit

def ForgetOutputs (m : Mach) : Aut × Int := if machOk m = true then (m.aut, 0) else (⟨0, []⟩, 1)
theorem machOk_small {m : Mach} (h : machOk m = true) : m.nx.length ≤ 3 ∧ ∀ i, i < m.nx.length → (nth m.nx i).length ≤ 10 := by
  have ha := (machOk_parts h).1
  have h1 := autOk_l ha
  have h2 := autOk_n ha
  refine ⟨h1.2, fun i hi => ?_⟩
  have h3 := (autOk_row ha i hi).1
  have e : m.aut.n = m.n := rfl
  have e2 : m.aut.nx = m.nx := rfl
  rw [e2] at h3; omega
set_option maxHeartbeats 1000000 in
theorem specForgetOutputs_any (v1 : Value) (m : Mach) (w : World) (h1 : MachAt w v1 m) :
    Calls Try.prog 61 #[v1] w fun e w' => ∃ r, e = .returned (.tuple #[r, .int .i64 (ForgetOutputs m).2]) ∧ New w w' ∧ OwnAut w.heap.size w'.heap.size w' r (ForgetOutputs m).1 := by
  obtain ⟨r1, r2, rfl, hr1, hr2⟩ := h1
  obtain ⟨A1, c1, rfl⟩ := hr1.form
  obtain ⟨A2, c2, rfl⟩ := hr2.form
  obtain ⟨wb, hwb⟩ : ∃ wb, wb = (w.alloc (.cells #[.int .i64 m.n, .int .i64 m.o, .slice A1 m.nx.length c1, .slice A2 m.out.length c2] 58)).alloc (.cells #[.int .i64 0, .slice none 0 0] 37) := ⟨_, rfl⟩
  have hp : PMach wb (.pointer (some ⟨w.heap.size, 0, none⟩)) m := by rw [hwb]; exact (PMach.box hr1 hr2 _).new ((New.refl _).alloc _)
  have hnb : New w wb := by rw [hwb]; exact (by repeat (first | with_reducible exact New.refl _ | with_reducible assumption | with_reducible refine New.alloc ?_ _ | with_reducible refine New.drew ?_ | with_reducible refine New.drewN ?_ _ | with_reducible refine New.setCell ?_ (by simp <;> omega) _))
  have hzb : w.heap.size + 2 = wb.heap.size := by rw [hwb]; simp only [size_alloc]
  have hb0 : wb.cell? ⟨w.heap.size, 0, none⟩ = some (.int .i64 m.n) := by rw [hwb]; go_simp
  have hb2 : wb.cell? ⟨w.heap.size, 2, none⟩ = some (.slice A1 m.nx.length c1) := by rw [hwb]; go_simp
  have hr : Box2 wb (w.heap.size + 1) (.int .i64 0) (.slice none 0 0) := by rw [hwb]; exact ⟨by go_simp, by go_simp, by go_simp, by go_simp⟩
  obtain ⟨R, hR⟩ : ∃ R, R = ForgetOutputs m := ⟨_, rfl⟩
  rw [← hR]
  unfold ForgetOutputs at hR
  have HR := hid hR
  clear hR
  have C1 := l06Ok_any _ m _ hp
  cases hm : machOk m with
  | false =>
    rw [hm] at C1
    go_enter Try.func61, Try.ntmps61
    go_wp2_with fail
    rw [← hwb]
    refine C1.mono ?_
    rintro e w1 ⟨rfl, hn1⟩
    obtain ⟨x0, x1, x2, x3⟩ := hr.new hn1
    go_wp2_with fail
    obtain ⟨g0, g1, _, _⟩ := (hr.new hn1).fill (.int .i64 0) (.slice none 0 0)
    refine bodyPost_ret (v := .tuple #[.agg #[.int .i64 0, .slice none 0 0], .int .i64 1]) (by simp [results, Try.results61, go_sem, g0, g1]) rfl ?_
    have e : R = (⟨0, []⟩, 1) := by rw [HR.out, hm]; rfl
    rw [e]
    exact ⟨_, rfl, New.fill (by repeat (first | with_reducible exact New.refl _ | with_reducible assumption | with_reducible refine New.alloc ?_ _ | with_reducible refine New.drewN ?_ _ | with_reducible refine New.drew ?_ | with_reducible refine New.trans ?_ (by with_reducible assumption))) (by omega) _ _, _, rfl, none, 0, fun _ => default, rfl, by simp, by simp, by simp, by simp⟩
  | true =>
    rw [hm] at C1
    obtain ⟨l1, l2⟩ := machOk_small hm
    have HC := hid (fun w1 (hn : New w w1) => l06OwnRows_any _ m.nx w1 (hr1.new hn) (by omega) (fun i hi => by have := l2 i hi; omega))
    clear l2
    go_enter Try.func61, Try.ntmps61
    go_wp2_with fail
    rw [← hwb]
    refine C1.mono ?_
    rintro e w1 ⟨rfl, hn1⟩
    replace hb0 := hn1.cell hb0
    replace hb2 := hn1.cell hb2
    have hr' := hr.new hn1
    obtain ⟨x0, x1, x2, x3⟩ := id hr'
    go_wp2_with fail
    go_region_held3 (fun w' => w'.cell? ⟨w.heap.size, 0, none⟩ = some (.int .i64 m.n) ∧ w'.cell? ⟨w.heap.size, 2, none⟩ = some (.slice A1 m.nx.length c1) ∧ w1.heap.size ≤ w'.heap.size)
      (first | (refine ⟨?_, ?_, ?_⟩ <;> first | go_keep | simp) | exact ⟨hn2.cell hb0, hn2.cell hb2, hn2.size⟩)
      (first
        | (go_at_call 145; refine (HC.out _ (by repeat (first | with_reducible exact New.refl _ | with_reducible assumption | with_reducible refine New.alloc ?_ _ | with_reducible refine New.drewN ?_ _ | with_reducible refine New.drew ?_ | with_reducible refine New.trans ?_ (by with_reducible assumption)))).mono ?_; rintro e w2 ⟨r, he, hq2, ho⟩; obtain ⟨Ar, cr, rfl⟩ := ho.form; subst he; have hn2 : New w1 w2 := New.trans (New.refl _).drew hq2; obtain ⟨y0, y1, y2, y3⟩ := hr'.new hn2))
    obtain ⟨g0, g1, _, _⟩ := (hr'.new hn2).fill (.int .i64 m.n) (.slice Ar m.nx.length cr)
    go_wp2
    refine bodyPost_ret (v := .tuple #[.agg #[.int .i64 m.n, .slice Ar m.nx.length cr], .int .i64 0]) (by simp [results, Try.results61, go_sem, g0, g1]) rfl ?_
    have e : R = (m.aut, 0) := by rw [HR.out, hm]; rfl
    rw [e]
    have hz1 := hn1.size
    have hW := Within.fill w2 (w.heap.size + 1) (.int .i64 m.n) (.slice Ar m.nx.length cr)
    have ho2 := ho.within hW (Or.inr (by show w.heap.size + 1 + 1 ≤ w1.heap.size; omega))
    exact ⟨_, rfl, New.fill (by repeat (first | with_reducible exact New.refl _ | with_reducible assumption | with_reducible refine New.alloc ?_ _ | with_reducible refine New.drewN ?_ _ | with_reducible refine New.drew ?_ | with_reducible refine New.trans ?_ (by with_reducible assumption))) (by omega) _ _, _, rfl, ho2.widen (by show w.heap.size ≤ w1.heap.size; omega) hW.2.2.2.1⟩

end Go.Proofs.Ytjchopnglcjnnaa
