/- The program's automaton of a machine. -/
import Derived.Test.YtjchopnglcjnnaaRows
import Derived.Test.YtjchopnglcjnnaaBase
import Derived.Test.YtjchopnglcjnnaaAut
import Derived.Test.YtjchopnglcjnnaaMach
import Derived.Test.YtjchopnglcjnnaaApp
import Derived.Test.YtjchopnglcjnnaaAppRows
import Derived.Test.YtjchopnglcjnnaaInfo
import Derived.Test.YtjchopnglcjnnaaPlain1
import Derived.Test.YtjchopnglcjnnaaPlainRun
import Derived.Test.YtjchopnglcjnnaaPMach
import Derived.Test.YtjchopnglcjnnaaPlainOut
import Derived.Test.YtjchopnglcjnnaaPlainRen
import Derived.Test.YtjchopnglcjnnaaI06a
import Derived.Test.YtjchopnglcjnnaaIRen
import Derived.Test.YtjchopnglcjnnaaSForget
import Derived.WalkKit
import Derived.WalkSpells
import Derived.WalkLawsBesides
import Derived.Deep.QuietTactic
import Derived.Deep.OwnRows
import Derived.BigQuiet
import Derived.KernelRfl
import Derived.Deep.RegionHeld3
namespace Go.Proofs.Ytjchopnglcjnnaa
open Go.RowKit

set_option maxHeartbeats 1000000 in
theorem implForgetOutputs_any (v1 : Value) (m : Mach) (w : World) (h1 : MachAt w v1 m) :
    Calls Try.prog 62 #[v1] w fun e w' => ∃ r, e = .returned (.tuple #[r, .int .i64 (ForgetOutputs m).2]) ∧ New w w' ∧ OwnAut w.heap.size w'.heap.size w' r (ForgetOutputs m).1 := by
  obtain ⟨r1, r2, rfl, hr1, hr2⟩ := h1
  obtain ⟨A1, c1, rfl⟩ := hr1.form
  obtain ⟨A2, c2, rfl⟩ := hr2.form
  have h1 : MachAt w (.agg #[.int .i64 m.n, .int .i64 m.o, .slice A1 m.nx.length c1, .slice A2 m.out.length c2]) m := ⟨_, _, rfl, hr1, hr2⟩
  obtain ⟨wb, hwb⟩ : ∃ wb, wb = (w.alloc (.cells #[.int .i64 m.n, .int .i64 m.o, .slice A1 m.nx.length c1, .slice A2 m.out.length c2] 58)).alloc (.cells #[.int .i64 0, .slice none 0 0] 37) := ⟨_, rfl⟩
  have hnb : New w wb := by rw [hwb]; exact (by repeat (first | with_reducible exact New.refl _ | with_reducible assumption | with_reducible refine New.alloc ?_ _ | with_reducible refine New.drew ?_ | with_reducible refine New.drewN ?_ _ | with_reducible refine New.setCell ?_ (by simp <;> omega) _))
  have hzb : w.heap.size + 2 = wb.heap.size := by rw [hwb]; simp only [size_alloc]
  have hb0 : wb.cell? ⟨w.heap.size, 0, none⟩ = some (.int .i64 m.n) := by rw [hwb]; go_simp
  have hb1 : wb.cell? ⟨w.heap.size, 1, none⟩ = some (.int .i64 m.o) := by rw [hwb]; go_simp
  have hb2 : wb.cell? ⟨w.heap.size, 2, none⟩ = some (.slice A1 m.nx.length c1) := by rw [hwb]; go_simp
  have hb3 : wb.cell? ⟨w.heap.size, 3, none⟩ = some (.slice A2 m.out.length c2) := by rw [hwb]; go_simp
  have hr : Box2 wb (w.heap.size + 1) (.int .i64 0) (.slice none 0 0) := by rw [hwb]; exact ⟨by go_simp, by go_simp, by go_simp, by go_simp⟩
  obtain ⟨R, hR⟩ : ∃ R, R = ForgetOutputs m := ⟨_, rfl⟩
  rw [← hR]
  unfold ForgetOutputs at hR
  have HR := hid hR
  clear hR
  have C1 := implValidMachine_any _ m _ (h1.new hnb)
  cases hm : machOk m with
  | false =>
    rw [hm] at C1
    go_enter Try.func62, Try.ntmps62
    go_wp2_with fail
    rw [← hwb]
    refine C1.mono ?_
    rintro e w1 ⟨rfl, hn1⟩
    obtain ⟨x0, x1, x2, x3⟩ := hr.new hn1
    go_wp2_with fail
    obtain ⟨g0, g1, _, _⟩ := (hr.new hn1).fill (.int .i64 0) (.slice none 0 0)
    refine bodyPost_ret (v := .tuple #[.agg #[.int .i64 0, .slice none 0 0], .int .i64 1]) (by simp [results, Try.results62, go_sem, g0, g1]) rfl ?_
    have e : R = (⟨0, []⟩, 1) := by rw [HR.out, hm]; rfl
    rw [e]
    exact ⟨_, rfl, New.fill (by repeat (first | with_reducible exact New.refl _ | with_reducible assumption | with_reducible refine New.alloc ?_ _ | with_reducible refine New.drewN ?_ _ | with_reducible refine New.drew ?_ | with_reducible refine New.trans ?_ (by with_reducible assumption))) (by omega) _ _, _, rfl, none, 0, fun _ => default, rfl, by simp, by simp, by simp, by simp⟩
  | true =>
    rw [hm] at C1
    have ha := (machOk_parts hm).1
    have HC3 := hid (fun w1 rv (h : RowsAt w1 rv m.nx) => all_any (.agg #[.int .i64 m.n, rv]) m.aut w1 ⟨rv, rfl, h⟩ ha)
    have HC4 := hid (fun w1 rv v2 (h : RowsAt w1 rv m.nx) (h2 : IntsAt w1 v2 (iota 0 m.n.toNat)) => renumbered_any (.agg #[.int .i64 m.n, rv]) v2 m.aut _ w1 ⟨rv, rfl, h⟩ h2 ha (statesIn_all m.aut) (by rw [iota_length]; have := autOk_n ha; have e : m.aut.n = m.n := rfl; omega))
    have HREN := hid (renOf_all ha)
    clear ha
    go_enter Try.func62, Try.ntmps62
    go_wp2_with fail
    rw [← hwb]
    refine C1.mono ?_
    rintro e w1 ⟨rfl, hn1⟩
    replace hb0 := hn1.cell hb0
    replace hb1 := hn1.cell hb1
    replace hb2 := hn1.cell hb2
    replace hb3 := hn1.cell hb3
    go_wp2_with fail
    refine (forget_any _ m _ (h1.new (by repeat (first | with_reducible exact New.refl _ | with_reducible assumption | with_reducible refine New.alloc ?_ _ | with_reducible refine New.drewN ?_ _ | with_reducible refine New.drew ?_ | with_reducible refine New.trans ?_ (by with_reducible assumption))))).mono ?_
    rintro e w2 ⟨rv, he, hn2, hrv⟩
    obtain ⟨A3, c3, rfl⟩ := hrv.form
    subst he
    have hr2' : New wb w2 := (by repeat (first | with_reducible exact New.refl _ | with_reducible assumption | with_reducible refine New.alloc ?_ _ | with_reducible refine New.drewN ?_ _ | with_reducible refine New.drew ?_ | with_reducible refine New.trans ?_ (by with_reducible assumption)))
    have hz2 := hr2'.size
    have hb : Box2 (w2.alloc (.cells #[.int .i64 m.n, .slice A3 m.nx.length c3] 37)) w2.heap.size (.int .i64 m.n) (.slice A3 m.nx.length c3) := ⟨by go_simp, by go_simp, by go_simp, by go_simp⟩
    have hrv' : RowsAt (w2.alloc (.cells #[.int .i64 m.n, .slice A3 m.nx.length c3] 37)) (.slice A3 m.nx.length c3) m.nx := hrv.new (by repeat (first | with_reducible exact New.refl _ | with_reducible assumption | with_reducible refine New.alloc ?_ _ | with_reducible refine New.drewN ?_ _ | with_reducible refine New.drew ?_ | with_reducible refine New.trans ?_ (by with_reducible assumption)))
    have hr' := hr.new (hr2'.alloc (.cells #[.int .i64 m.n, .slice A3 m.nx.length c3] 37))
    obtain ⟨x0, x1, x2, x3⟩ := id hr'
    have hq2 : New w2 (w2.alloc (.cells #[.int .i64 m.n, .slice A3 m.nx.length c3] 37)) := (by repeat (first | with_reducible exact New.refl _ | with_reducible assumption | with_reducible refine New.alloc ?_ _ | with_reducible refine New.drew ?_ | with_reducible refine New.drewN ?_ _ | with_reducible refine New.setCell ?_ (by simp <;> omega) _))
    go_wp2_with fail
    have hz3 : w2.heap.size + 1 = (w2.alloc (.cells #[.int .i64 m.n, .slice A3 m.nx.length c3] 37)).heap.size := by simp only [size_alloc]
    generalize (w2.alloc (.cells #[.int .i64 m.n, .slice A3 m.nx.length c3] 37)) = w3 at hb hrv' hr' x0 x1 x2 x3 hq2 hz3 ⊢
    obtain ⟨y0, y1, _, _⟩ := id hb
    have hne : w.heap.size + 1 ≠ w2.heap.size := by omega
    go_region_held3 (fun w' => w'.cell? ⟨w2.heap.size, 0, none⟩ = some (.int .i64 m.n) ∧ w'.cell? ⟨w2.heap.size, 1, none⟩ = some (.slice A3 m.nx.length c3))
      (first | go_keep | exact ⟨hn4.cell y0, hn4.cell y1⟩ | exact ⟨hn5.cell y0, hn5.cell y1⟩ | exact (((hb.new hn5).other _ (by simpa using hne) _).other _ (by simpa using hne) _).imp id And.left)
      (first
        | (go_at_call 86; refine (HC3.out _ _ (hrv'.new (by repeat (first | with_reducible exact New.refl _ | with_reducible assumption | with_reducible refine New.alloc ?_ _ | with_reducible refine New.drewN ?_ _ | with_reducible refine New.drew ?_ | with_reducible refine New.trans ?_ (by with_reducible assumption))))).mono ?_; rintro e w4 ⟨r, he, hq4, ho4⟩; obtain ⟨Ar, cr, rfl⟩ := ho4.form; subst he; have hn4 : New w3 w4 := New.trans (New.refl _).drew hq4)
        | (go_at_call 85; refine (HC4.out _ _ _ (hrv'.new hn4) ho4.at).mono ?_; rintro e w5 ⟨r, he, hq5, ho5⟩; obtain ⟨rr, rfl, ho6⟩ := ho5; obtain ⟨Aq, cq, rfl⟩ := ho6.form; subst he; have hn5 : New w3 w5 := New.trans hn4 hq5; obtain ⟨q0, q1, q2, q3⟩ := hr'.new hn5))
    obtain ⟨g0, g1, _, _⟩ := (hr'.new hn5).fill (.int .i64 (renOf m.aut (iota 0 m.n.toNat)).n) (.slice Aq (renOf m.aut (iota 0 m.n.toNat)).nx.length cq)
    go_wp2
    refine bodyPost_ret (v := .tuple #[.agg #[.int .i64 (renOf m.aut (iota 0 m.n.toNat)).n, .slice Aq (renOf m.aut (iota 0 m.n.toNat)).nx.length cq], .int .i64 0]) (by simp [results, Try.results62, go_sem, g0, g1]) rfl ?_
    have e : R = (m.aut, 0) := by rw [HR.out, hm]; rfl
    rw [e]
    have e2 : renOf m.aut (iota 0 m.n.toNat) = m.aut := HREN.out
    rw [e2] at ho6 ⊢
    have hs4 := hn4.size
    have hW := Within.fill w5 (w.heap.size + 1) (.int .i64 m.aut.n) (.slice Aq m.aut.nx.length cq)
    have ho7 := ho6.within hW (Or.inr (by omega))
    exact ⟨_, rfl, New.fill (hnb.trans (hr2'.trans (hq2.trans hn5))) (by omega) _ _, _, rfl, ho7.widen (by omega) hW.2.2.2.1⟩

end Go.Proofs.Ytjchopnglcjnnaa
