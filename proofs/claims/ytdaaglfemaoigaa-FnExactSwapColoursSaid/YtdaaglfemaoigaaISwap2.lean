/- The program's swap of two letters. -/
import Derived.Test.YtdaaglfemaoigaaRows
import Derived.Test.YtdaaglfemaoigaaBase
import Derived.Test.YtdaaglfemaoigaaAut
import Derived.Test.YtdaaglfemaoigaaApp
import Derived.Test.YtdaaglfemaoigaaAppRows
import Derived.Test.YtdaaglfemaoigaaAppStep
import Derived.Test.YtdaaglfemaoigaaInfo
import Derived.Test.YtdaaglfemaoigaaPlain1
import Derived.Test.YtdaaglfemaoigaaPlainRun
import Derived.Test.YtdaaglfemaoigaaPlainSet
import Derived.Test.YtdaaglfemaoigaaPlainRen
import Derived.Test.YtdaaglfemaoigaaPlainSwap
import Derived.Test.YtdaaglfemaoigaaOwnC
import Derived.Test.YtdaaglfemaoigaaI01a
import Derived.Test.YtdaaglfemaoigaaI01b
import Derived.Test.YtdaaglfemaoigaaI01c
import Derived.Test.YtdaaglfemaoigaaIMerge
import Derived.Test.YtdaaglfemaoigaaIRen
import Derived.Test.YtdaaglfemaoigaaISwap
import Derived.WalkKit
import Derived.WalkSpells
import Derived.WalkLawsBesides
import Derived.Deep.QuietTactic
import Derived.Deep.OwnRows
import Derived.BigQuiet
import Derived.KernelRfl
import Derived.Deep.RegionLaw
import Derived.BigRegion
import Derived.Deep.Cut
import Derived.StillTailTactics
namespace Go.Proofs.Ytdaaglfemaoigaa
open Go.RowKit

theorem setNorm : (∀ (a : Act) (d : Nat) (v : Value), a.put (some d) v = { a with tmps := a.tmps.setIfInBounds d v }) ∧ (∀ (l : List Value) (i : Nat) (a : Value), l.toArray.setIfInBounds i a = (l.set i a).toArray) ∧ (∀ (a b : Value) (r : List Value), (a :: r).set 0 b = b :: r) ∧ (∀ (a b : Value) (r : List Value) (n : Nat), (a :: r).set (n + 1) b = a :: r.set n b) ∧
    (∀ (l : List Bool) (i : Nat) (a : Bool), l.toArray.setIfInBounds i a = (l.set i a).toArray) ∧ (∀ (a b : Bool) (r : List Bool), (a :: r).set 0 b = b :: r) ∧ (∀ (a b : Bool) (r : List Bool) (n : Nat), (a :: r).set (n + 1) b = a :: r.set n b) ∧ ∀ (a : Act) (v : Value), a.put none v = a :=
  ⟨fun _ _ _ => rfl, fun _ _ _ => by simp, fun _ _ _ => rfl, fun _ _ _ _ => rfl, fun _ _ _ => by simp, fun _ _ _ => rfl, fun _ _ _ _ => rfl, fun _ _ => rfl⟩
theorem cell_put_ne {w : World} {p q : Addr} {u v : Value} (hc : w.cell? q = some v) (hne : p.block ≠ q.block) : (w.setCell p u).cell? q = some v := by
  rw [World.cell?_setCell_other]
  · exact hc
  · intro e; exact hne (by rw [e])
theorem Box2.made1 {w w' : World} {u v : Value} {t : TypeId} (h : New (w.alloc (.cells #[u, v] t)) w') : Box2 w' w.heap.size u v :=
  Box2.new ⟨by unfold World.cell?; rw [heap_alloc_new]; rfl, by unfold World.cell?; rw [heap_alloc_new]; rfl, by unfold World.frozen?; rw [heap_alloc_new]; rfl, by unfold World.frozen?; rw [heap_alloc_new]; rfl⟩ h
theorem Box2.made2 {w w' : World} {u v : Value} {t : TypeId} (h : New (w.alloc (.cells #[u, v] t)).drew w') : Box2 w' w.heap.size u v :=
  Box2.made1 ((New.refl _).drew.trans h)
set_option maxRecDepth 20000 in
set_option maxHeartbeats 4000000 in
theorem implSwapColours_any (v1 : Value) (a : Aut) (s x y : Int) (w : World) (h1 : AutAt w v1 a) :
    Calls Try.prog 18 #[v1, .int .i64 s, .int .i64 x, .int .i64 y] w fun e w' => ∃ r, e = .returned (.tuple #[r, .int .i64 (SwapColours a s x y).2]) ∧ New w w' ∧ OwnAut w.heap.size w'.heap.size w' r (SwapColours a s x y).1 := by
  obtain ⟨rv, rfl, hr⟩ := h1
  obtain ⟨A, c, rfl⟩ := hr.form
  have h1 : AutAt w (.agg #[.int .i64 a.n, .slice A a.nx.length c]) a := ⟨_, rfl, hr⟩
  obtain ⟨wb, hwb⟩ : ∃ wb, wb = ((((w.alloc (.cells #[.int .i64 a.n, .slice A a.nx.length c] 26)).alloc (.cells #[.int .i64 s] 2)).alloc (.cells #[.int .i64 x] 2)).alloc (.cells #[.int .i64 y] 2)).alloc (.cells #[.int .i64 0, .slice none 0 0] 26) := ⟨_, rfl⟩
  have hnb : New w wb := by rw [hwb]; exact (by repeat (first | with_reducible exact New.refl _ | with_reducible assumption | with_reducible refine New.alloc ?_ _ | with_reducible refine New.drew ?_ | with_reducible refine New.drewN ?_ _ | with_reducible refine New.setCell ?_ (by simp <;> omega) _))
  have hzb : wb.heap.size = w.heap.size + 1 + 1 + 1 + 1 + 1 := by rw [hwb]; simp only [size_alloc]
  have z0 : wb.cell? ⟨w.heap.size, 0, none⟩ = some (.int .i64 a.n) := by rw [hwb]; go_simp
  have z1 : wb.cell? ⟨w.heap.size, 1, none⟩ = some (.slice A a.nx.length c) := by rw [hwb]; go_simp
  have z2 : wb.cell? ⟨w.heap.size + 1, 0, none⟩ = some (.int .i64 s) := by rw [hwb]; go_simp
  have z3 : wb.cell? ⟨w.heap.size + 1 + 1, 0, none⟩ = some (.int .i64 x) := by rw [hwb]; go_simp
  have z4 : wb.cell? ⟨w.heap.size + 1 + 1 + 1, 0, none⟩ = some (.int .i64 y) := by rw [hwb]; go_simp
  have hr0 : Box2 wb (w.heap.size + 1 + 1 + 1 + 1) (.int .i64 0) (.slice none 0 0) := by rw [hwb]; exact ⟨by go_simp, by go_simp, by go_simp, by go_simp⟩
  have HC := hid (show Calls Try.prog 70 #[.agg #[.int .i64 a.n, .slice A a.nx.length c], .func (.func 71) #[] #[.pointer (some ⟨w.heap.size, 0, none⟩), .pointer (some ⟨w.heap.size + 1, 0, none⟩), .pointer (some ⟨w.heap.size + 1 + 1, 0, none⟩), .pointer (some ⟨w.heap.size + 1 + 1 + 1, 0, none⟩)]] wb
        fun e w' => e = .returned (.int .i64 (SwapColours a s x y).2) ∧ New wb w' by
    rw [← SwapColours_code]
    refine code_any _ a _ _ (swapIn a s x y) _ (h1.new hnb) (enters Try.func71 (by decide) (by simp [Try.f71])) fun ha w' hw => ?_
    exact SwapColours1_any _ _ _ _ _ a s x y _ (hw.cell z0) (hw.cell z1) (hr.new (hnb.trans hw)) (hw.cell z2) (hw.cell z3) (hw.cell z4) ha)
  have key : ∀ (code : Int) (w1 : World), New wb w1 → SwapColours a s x y = (⟨0, []⟩, code) → ∃ r, (Ending.returned (.tuple #[.agg #[.int .i64 0, .slice none 0 0], .int .i64 code]) = .returned (.tuple #[r, .int .i64 code])) ∧ New w ((w1.setCell ⟨w.heap.size + 1 + 1 + 1 + 1, 0, none⟩ (.int .i64 0)).setCell ⟨w.heap.size + 1 + 1 + 1 + 1, 1, none⟩ (.slice none 0 0)) ∧ OwnAut w.heap.size ((w1.setCell ⟨w.heap.size + 1 + 1 + 1 + 1, 0, none⟩ (.int .i64 0)).setCell ⟨w.heap.size + 1 + 1 + 1 + 1, 1, none⟩ (.slice none 0 0)).heap.size ((w1.setCell ⟨w.heap.size + 1 + 1 + 1 + 1, 0, none⟩ (.int .i64 0)).setCell ⟨w.heap.size + 1 + 1 + 1 + 1, 1, none⟩ (.slice none 0 0)) r (⟨0, []⟩ : Aut) := fun code w1 hn1 e =>
    ⟨_, rfl, New.fill (hnb.trans hn1) (by omega) _ _, _, rfl, none, 0, fun _ => default, rfl, by simp, by simp, by simp, by simp⟩
  cases ha : autOk a with
  | false =>
    have e : SwapColours a s x y = (⟨0, []⟩, 1) := by unfold SwapColours; rw [ha]; rfl
    have KEY := hid (fun w1 hn1 => key 1 w1 hn1 e)
    rw [e] at HC ⊢
    clear key e
    go_enter Try.func18, Try.ntmps18
    go_wp2_with fail
    rw [← hwb]
    clear hwb
    refine HC.out.mono ?_
    rintro e w1 ⟨rfl, hn1⟩
    obtain ⟨x0, x1, x2, x3⟩ := hr0.new hn1
    go_wp2_with fail
    obtain ⟨g0, g1, _, _⟩ := (hr0.new hn1).fill (.int .i64 0) (.slice none 0 0)
    exact bodyPost_ret (v := .tuple #[.agg #[.int .i64 0, .slice none 0 0], .int .i64 1]) (by simp [results, Try.results18, go_sem, g0, g1]) rfl (KEY.out _ hn1)
  | true =>
    cases hsw : swapIn a s x y with
    | false =>
      have e : SwapColours a s x y = (⟨0, []⟩, 2) := by unfold SwapColours; rw [ha, hsw]; rfl
      have KEY := hid (fun w1 hn1 => key 2 w1 hn1 e)
      rw [e] at HC ⊢
      clear key e
      go_enter Try.func18, Try.ntmps18
      go_wp2_with fail
      rw [← hwb]
      clear hwb
      refine HC.out.mono ?_
      rintro e w1 ⟨rfl, hn1⟩
      obtain ⟨x0, x1, x2, x3⟩ := hr0.new hn1
      go_wp2_with fail
      obtain ⟨g0, g1, _, _⟩ := (hr0.new hn1).fill (.int .i64 0) (.slice none 0 0)
      exact bodyPost_ret (v := .tuple #[.agg #[.int .i64 0, .slice none 0 0], .int .i64 2]) (by simp [results, Try.results18, go_sem, g0, g1]) rfl (KEY.out _ hn1)
    | true =>
      have e : SwapColours a s x y = (swapOf a s x y, 0) := by unfold SwapColours; rw [ha, hsw]; rfl
      have hsw' := hsw
      unfold swapIn at hsw'
      rw [Bool.and_eq_true, Bool.and_eq_true, inB_iff, inB_iff, inB_iff] at hsw'
      obtain ⟨⟨s0, s1⟩, ⟨X0, X1⟩, Y0, Y1⟩ := hsw'
      have han := autOk_n ha
      have hal := autOk_l ha
      have HROW := hid (fun i (hi : i < a.nx.length) => (autOk_row ha i hi).1)
      have HC3 := hid (fun w1 (hn : New w w1) => all_any (.agg #[.int .i64 a.n, .slice A a.nx.length c]) a w1 (h1.new hn) ha)
      have HC4 := hid (fun w1 v2 (hn : New w w1) (h2 : IntsAt w1 v2 (iota 0 a.n.toNat)) => by
        have := renumbered_any (.agg #[.int .i64 a.n, .slice A a.nx.length c]) v2 a _ w1 (h1.new hn) h2 ha (statesIn_all a) (by rw [iota_length]; omega)
        rw [renOf_all ha] at this
        exact this)
      rw [e] at HC ⊢
      clear key e hsw ha
      go_enter Try.func18, Try.ntmps18
      go_wp2_with fail
      rw [← hwb]
      clear hwb
      refine HC.out.mono ?_
      rintro e w1 ⟨rfl, hn1⟩
      replace z0 := hn1.cell z0
      replace z1 := hn1.cell z1
      replace z2 := hn1.cell z2
      replace z3 := hn1.cell z3
      replace z4 := hn1.cell z4
      replace hr0 := hr0.new hn1
      have hnw := hnb.trans hn1
      have hz1 := hn1.size
      clear HC hn1
      go_wp2_with fail
      go_cut [11] from 12 (fun o wr => ∃ tb A3 c3 lo hi, o = .pointer (some ⟨tb, 0, none⟩) ∧ w1.heap.size ≤ tb ∧ New w1 wr ∧ Box2 wr tb (.int .i64 a.n) (.slice A3 a.nx.length c3) ∧ w1.heap.size ≤ lo ∧ hi ≤ wr.heap.size ∧ (tb < lo ∨ hi ≤ tb) ∧ OwnRows lo hi wr (.slice A3 a.nx.length c3) a.nx)
      case first =>
        have lz : w.heap.size < w1.heap.size := by omega
        go_region_law (first
          | (go_simp; go_at_call 76; refine (HC3.out _ (hnw.trans (by repeat (first | with_reducible exact New.refl _ | with_reducible assumption | with_reducible refine New.alloc ?_ _ | with_reducible refine New.drew ?_ | with_reducible refine New.drewN ?_ _ | with_reducible refine New.setCell ?_ (by simp <;> omega) _)))).mono ?_; rintro e w2 ⟨r, he, hn2, ho2⟩; obtain ⟨A2, c2, rfl⟩ := ho2.form; subst he; have hm2 : New w1 w2 := New.trans (by repeat (first | with_reducible exact New.refl _ | with_reducible assumption | with_reducible refine New.alloc ?_ _ | with_reducible refine New.drew ?_ | with_reducible refine New.drewN ?_ _ | with_reducible refine New.setCell ?_ (by simp <;> omega) _)) hn2; have p0 := hm2.cell z0; have p1 := hm2.cell z1; have hs2 := hn2.size; (try simp only [sizes] at hs2); have lz2 : w.heap.size < w2.heap.size := (by omega); (first | have B2 := Box2.made1 hn2 | have B2 := Box2.made2 hn2 | skip))
          | (go_simp; go_at_call 75; refine (HC4.out _ _ ((hnw.trans hm2).trans (by repeat (first | with_reducible exact New.refl _ | with_reducible assumption | with_reducible refine New.alloc ?_ _ | with_reducible refine New.drew ?_ | with_reducible refine New.drewN ?_ _ | with_reducible refine New.setCell ?_ (by simp <;> omega) _))) (ho2.at.new (by repeat (first | with_reducible exact New.refl _ | with_reducible assumption | with_reducible refine New.alloc ?_ _ | with_reducible refine New.drew ?_ | with_reducible refine New.drewN ?_ _ | with_reducible refine New.setCell ?_ (by simp <;> omega) _)))).mono ?_; rintro e w3 ⟨r, he, hn3, ho3⟩; obtain ⟨r3, rfl, ho4⟩ := ho3; obtain ⟨A3, c3, rfl⟩ := ho4.form; subst he; have hm3 : New w1 w3 := New.trans (hm2.trans (by repeat (first | with_reducible exact New.refl _ | with_reducible assumption | with_reducible refine New.alloc ?_ _ | with_reducible refine New.drew ?_ | with_reducible refine New.drewN ?_ _ | with_reducible refine New.setCell ?_ (by simp <;> omega) _))) hn3; have hs3 := hn3.size; (try simp only [sizes] at hs3); have hq3 : New w2 w3 := New.trans (by repeat (first | with_reducible exact New.refl _ | with_reducible assumption | with_reducible refine New.alloc ?_ _ | with_reducible refine New.drew ?_ | with_reducible refine New.drewN ?_ _ | with_reducible refine New.setCell ?_ (by simp <;> omega) _)) hn3; (first | have B3 := B2.new hq3 | have B3 := Box2.made1 hn3 | have B3 := Box2.made2 hn3 | skip); (try obtain ⟨x0, x1, x2, x3⟩ := id B3)))
        all_goals go_wp2_with fail
        all_goals go_meet
        all_goals first
          | refine ⟨w3.heap.size, A3, c3, w2.heap.size, w3.heap.size, by with_reducible rfl, ?_⟩; exact ⟨by omega, hm3.alloc _, Box2.made1 (New.refl _), by omega, (by (try simp only [sizes]) <;> omega), Or.inr (Nat.le_refl _), (ho4.new ((New.refl _).alloc _)).widen (by (try simp only [sizes]) <;> omega) (Nat.le_refl _)⟩
          | refine ⟨w2.heap.size, A3, c3, w2.heap.size + 1, w3.heap.size, by with_reducible rfl, ?_⟩; exact ⟨by omega, New.fill hm3 (by omega) _ _, B3.fill _ _, by omega, (by (try simp only [sizes]) <;> omega), Or.inl (Nat.lt_succ_self _), (ho4.widen (B' := w2.heap.size + 1) (by (try simp only [sizes]) <;> omega) (Nat.le_refl _)).within (Within.fill w3 w2.heap.size _ _) (Or.inr (Nat.le_refl _))⟩
          | refine ⟨w1.heap.size, A3, c3, w1.heap.size + 1, w3.heap.size, by with_reducible rfl, ?_⟩; exact ⟨by omega, New.fill hm3 (by omega) _ _, B3.fill _ _, by omega, (by (try simp only [sizes]) <;> omega), Or.inl (Nat.lt_succ_self _), (ho4.widen (B' := w1.heap.size + 1) (by (try simp only [sizes]) <;> omega) (Nat.le_refl _)).within (Within.fill w3 w1.heap.size _ _) (Or.inr (Nat.le_refl _))⟩
      case rest =>
        obtain ⟨tb, A3, c3, lo, hi, rfl, htb, hn3, hbo, hlo, hhi, hsep, hO⟩ := hcut
        have rx := HROW.out x.toNat (by omega)
        have ry := HROW.out y.toNat (by omega)
        obtain ⟨bo, oo, bx, ox, cx, hAv, ux, uxs, uxf, ux1, ux2, hput⟩ := hO.put x.toNat s.toNat (by omega) (by omega)
        cases hAv
        obtain ⟨_, _, bk, ok, ck, e2, vy, vys, vyf, vy1, vy2, _⟩ := hO.put y.toNat s.toNat (by omega) (by omega)
        cases e2
        have hbx := hO.row_ne x.toNat (by omega) ux
        obtain ⟨hO3, hW3⟩ := hput (nth (nth a.nx y.toNat) s.toNat)
        have hbk := hO.row_ne y.toNat (by omega) vy
        have vy3 := (World.cell?_setCell_other (w := wc) (a := ⟨bx, ox + s.toNat, none⟩) (v := .int .i64 (nth (nth a.nx y.toNat) s.toNat)) (b := ⟨bo, oo + y.toNat, none⟩) (fun e => hbx (by injection e))).trans vy
        obtain ⟨_, _, bk2, ok2, ck2, e2, vy', vys', vyf', _, _, hput2⟩ := hO3.put y.toNat s.toNat (by rw [putAt_len]; omega) (by rw [putAt_rowlen _ _ _ _ _ (by omega)]; omega)
        cases e2
        rw [vy3] at vy'
        injection vy' with vy'
        injection vy' with q1 q2 q3
        clear q2 q3
        injection q1 with q1
        injection q1 with q1 q4 q5
        subst q1
        subst q4
        obtain ⟨hO4, hW4⟩ := hput2 (nth (nth a.nx x.toNat) s.toNat)
        have kx : x < (a.nx.length : Int) := by omega
        have ky : y < (a.nx.length : Int) := by omega
        have sx : s < ((nth a.nx x.toNat).length : Int) := by omega
        have sy : s < ((nth a.nx y.toNat).length : Int) := by omega
        obtain ⟨p0, p1, _, _⟩ := id hbo
        have z2' := hn3.cell z2
        have z3' := hn3.cell z3
        have z4' := hn3.cell z4
        have hnS : swapOf a s x y = ⟨a.n, putAt (putAt a.nx x.toNat s.toNat (nth (nth a.nx y.toNat) s.toNat)) y.toNat s.toNat (nth (nth a.nx x.toNat) s.toNat)⟩ := rfl
        obtain ⟨zA, hzA⟩ : ∃ z, z = nth (nth a.nx y.toNat) s.toNat := ⟨_, rfl⟩
        obtain ⟨zB, hzB⟩ : ∃ z, z = nth (nth a.nx x.toNat) s.toNat := ⟨_, rfl⟩
        rw [← hzA] at vys vy3 hO3 hW3 hO4 hW4 vys' vyf' hnS
        rw [← hzB] at uxs hO4 hW4 hnS
        have HNS := hid hnS
        have HS1 := hid (show (wc.setCell ⟨bx, ox + s.toNat, none⟩ (.int .i64 zA)).cell? ⟨tb, 1, none⟩ = some (.slice (some ⟨bo, oo, none⟩) a.nx.length c3) ∧ (wc.setCell ⟨bx, ox + s.toNat, none⟩ (.int .i64 zA)).cell? ⟨w.heap.size + 1, 0, none⟩ = some (.int .i64 s) ∧ (wc.setCell ⟨bx, ox + s.toNat, none⟩ (.int .i64 zA)).cell? ⟨w.heap.size + 1 + 1, 0, none⟩ = some (.int .i64 x) ∧ (wc.setCell ⟨bx, ox + s.toNat, none⟩ (.int .i64 zA)).cell? ⟨w.heap.size + 1 + 1 + 1, 0, none⟩ = some (.int .i64 y) ∧
            (wc.setCell ⟨bx, ox + s.toNat, none⟩ (.int .i64 zA)).cell? ⟨bo, oo + x.toNat, none⟩ = some (.slice (some ⟨bx, ox, none⟩) (nth a.nx x.toNat).length cx) ∧ (wc.setCell ⟨bx, ox + s.toNat, none⟩ (.int .i64 zA)).cell? ⟨bo, oo + y.toNat, none⟩ = some (.slice (some ⟨bk, ok, none⟩) (nth a.nx y.toNat).length ck) from
          ⟨hW3.cell p1 (by show tb < lo ∨ _; omega), hW3.cell z2' (Or.inl (by show w.heap.size + 1 < lo; omega)), hW3.cell z3' (Or.inl (by show w.heap.size + 1 + 1 < lo; omega)), hW3.cell z4' (Or.inl (by show w.heap.size + 1 + 1 + 1 < lo; omega)), cell_put_ne ux hbx, vy3⟩)
        have HS2 := hid (show ((wc.setCell ⟨bx, ox + s.toNat, none⟩ (.int .i64 zA)).setCell ⟨bk, ok + s.toNat, none⟩ (.int .i64 zB)).cell? ⟨tb, 1, none⟩ = some (.slice (some ⟨bo, oo, none⟩) a.nx.length c3) ∧ ((wc.setCell ⟨bx, ox + s.toNat, none⟩ (.int .i64 zA)).setCell ⟨bk, ok + s.toNat, none⟩ (.int .i64 zB)).cell? ⟨w.heap.size + 1, 0, none⟩ = some (.int .i64 s) ∧ ((wc.setCell ⟨bx, ox + s.toNat, none⟩ (.int .i64 zA)).setCell ⟨bk, ok + s.toNat, none⟩ (.int .i64 zB)).cell? ⟨w.heap.size + 1 + 1, 0, none⟩ = some (.int .i64 x) ∧ ((wc.setCell ⟨bx, ox + s.toNat, none⟩ (.int .i64 zA)).setCell ⟨bk, ok + s.toNat, none⟩ (.int .i64 zB)).cell? ⟨w.heap.size + 1 + 1 + 1, 0, none⟩ = some (.int .i64 y) ∧
            ((wc.setCell ⟨bx, ox + s.toNat, none⟩ (.int .i64 zA)).setCell ⟨bk, ok + s.toNat, none⟩ (.int .i64 zB)).cell? ⟨bo, oo + x.toNat, none⟩ = some (.slice (some ⟨bx, ox, none⟩) (nth a.nx x.toNat).length cx) ∧ ((wc.setCell ⟨bx, ox + s.toNat, none⟩ (.int .i64 zA)).setCell ⟨bk, ok + s.toNat, none⟩ (.int .i64 zB)).cell? ⟨bo, oo + y.toNat, none⟩ = some (.slice (some ⟨bk, ok, none⟩) (nth a.nx y.toNat).length ck) from
          ⟨hW4.cell HS1.out.1 (by show tb < lo ∨ _; omega), hW4.cell HS1.out.2.1 (Or.inl (by show w.heap.size + 1 < lo; omega)), hW4.cell HS1.out.2.2.1 (Or.inl (by show w.heap.size + 1 + 1 < lo; omega)), hW4.cell HS1.out.2.2.2.1 (Or.inl (by show w.heap.size + 1 + 1 + 1 < lo; omega)), cell_put_ne HS1.out.2.2.2.2.1 hbk, cell_put_ne HS1.out.2.2.2.2.2 hbk⟩)
        have HB4 := hid ((hbo.within hW3 (by omega)).within hW4 (by omega))
        have hr3 := hr0.new hn3
        have HR4 := hid ((hr3.within hW3 (Or.inl (by omega))).within hW4 (Or.inl (by omega)))
        have HO4 := hid hO4
        have HN4 := hid (((hnw.trans hn3).within hW3 (by omega)).within hW4 (by omega))
        clear hput hput2 hO hO3 hO4 hW3 hW4 rx ry hzA hzB hnS hr0 hbo z0 z1 z2 z3 z4 HC3 HC4 vy3
        go_wp2_with fail
        refine wp_region_held_drew (S := fun w' => w'.cell? ⟨tb, 1, none⟩ = some (.slice (some ⟨bo, oo, none⟩) a.nx.length c3) ∧ w'.cell? ⟨w.heap.size + 1, 0, none⟩ = some (.int .i64 s) ∧ w'.cell? ⟨w.heap.size + 1 + 1, 0, none⟩ = some (.int .i64 x) ∧ w'.cell? ⟨w.heap.size + 1 + 1 + 1, 0, none⟩ = some (.int .i64 y) ∧ w'.cell? ⟨bo, oo + x.toNat, none⟩ = some (.slice (some ⟨bx, ox, none⟩) (nth a.nx x.toNat).length cx) ∧ w'.cell? ⟨bo, oo + y.toNat, none⟩ = some (.slice (some ⟨bk, ok, none⟩) (nth a.nx y.toNat).length ck)) (by kernel_rfl) ⟨p1, z2', z3', z4', ux, vy⟩ ?_
        intro hHeld
        refine wpAnyH_take (i := 0) (v := ?v0) rfl (by kernel_rfl) (by kernel_rfl) (by kernel_rfl) (fun _ _ _ h => h) (Or.inl ⟨by rfl, ?hy0⟩) (by assumption) ?rest0
        case hy0 => (intro w hSw; (try dsimp only at hSw); go_simp; try with_reducible rfl)
        try simp only [setNorm]
        refine wpAnyH_take (i := 1) (v := ?v1) rfl (by kernel_rfl) (by kernel_rfl) (by kernel_rfl) (fun _ _ _ h => h) (Or.inl ⟨by rfl, ?hy1⟩) (by assumption) ?rest1
        case hy1 => (intro w hSw; (try dsimp only at hSw); go_simp; try with_reducible rfl)
        try simp only [setNorm]
        refine wpAnyH_take (i := 2) (v := ?v2) rfl (by kernel_rfl) (by kernel_rfl) (by kernel_rfl) (fun _ _ _ h => h) (Or.inl ⟨by rfl, ?hy2⟩) (by assumption) ?rest2
        case hy2 => (intro w hSw; (try dsimp only at hSw); go_simp; try with_reducible rfl)
        try simp only [setNorm]
        refine wpAnyH_take (i := 3) (v := ?v3) rfl (by kernel_rfl) (by kernel_rfl) (by kernel_rfl) (fun _ _ _ h => h) (Or.inl ⟨by rfl, ?hy3⟩) (by assumption) ?rest3
        case hy3 => (intro w hSw; (try dsimp only at hSw); go_simp; try with_reducible rfl)
        try simp only [setNorm]
        refine wpAnyH_take (i := 4) (v := ?v4) rfl (by kernel_rfl) (by kernel_rfl) (by kernel_rfl) (fun _ _ _ h => h) (Or.inl ⟨by rfl, ?hy4⟩) (by assumption) ?rest4
        case hy4 => (intro w hSw; (try dsimp only at hSw); go_simp; try with_reducible rfl)
        try simp only [setNorm]
        refine wpAnyH_take (i := 5) (v := ?v5) rfl (by kernel_rfl) (by kernel_rfl) (by kernel_rfl) (fun _ _ _ h => h) (Or.inl ⟨by rfl, ?hy5⟩) (by assumption) ?rest5
        case hy5 => (intro w hSw; (try dsimp only at hSw); go_simp; try with_reducible rfl)
        try simp only [setNorm]
        refine wpAnyH_take (i := 6) (v := ?v6) rfl (by kernel_rfl) (by kernel_rfl) (by kernel_rfl) (fun _ _ _ h => h) (Or.inl ⟨by rfl, ?hy6⟩) (by assumption) ?rest6
        case hy6 => (intro w hSw; (try dsimp only at hSw); go_simp; try with_reducible rfl)
        try simp only [setNorm]
        refine wpAnyH_take (i := 7) (v := ?v7) rfl (by kernel_rfl) (by kernel_rfl) (by kernel_rfl) (fun _ _ _ h => h) (Or.inl ⟨by rfl, ?hy7⟩) (by assumption) ?rest7
        case hy7 => (intro w hSw; (try dsimp only at hSw); go_simp; try with_reducible rfl)
        try simp only [setNorm]
        refine wpAnyH_take (i := 8) (v := ?v8) rfl (by kernel_rfl) (by kernel_rfl) (by kernel_rfl) (fun _ _ _ h => h) (Or.inl ⟨by rfl, ?hy8⟩) (by assumption) ?rest8
        case hy8 => (intro w hSw; (try dsimp only at hSw); go_simp; try with_reducible rfl)
        try simp only [setNorm]
        refine wpAnyH_take (i := 9) (v := ?v9) rfl (by kernel_rfl) (by kernel_rfl) (by kernel_rfl) (fun _ _ _ h => h) (Or.inl ⟨by rfl, ?hy9⟩) (by assumption) ?rest9
        case hy9 => (intro w hSw; (try dsimp only at hSw); go_simp; try with_reducible rfl)
        try simp only [setNorm]
        refine wpAnyH_take (i := 10) (v := ?v10) rfl (by kernel_rfl) (by kernel_rfl) (by kernel_rfl) (fun _ _ _ h => h) (Or.inl ⟨by rfl, ?hy10⟩) (by assumption) ?rest10
        case hy10 => (intro w hSw; (try dsimp only at hSw); go_simp; try with_reducible rfl)
        try simp only [setNorm]
        refine wpAnyH_take (i := 11) (v := ?v11) rfl (by kernel_rfl) (by kernel_rfl) (by kernel_rfl) (fun _ _ _ h => h) (Or.inl ⟨by rfl, ?hy11⟩) (by assumption) ?rest11
        case hy11 => (intro w hSw; (try dsimp only at hSw); go_simp; try with_reducible rfl)
        try simp only [setNorm]
        refine wpAnyH_take (i := 12) (v := ?v12) rfl (by kernel_rfl) (by kernel_rfl) (by kernel_rfl) (fun _ _ _ h => h) (Or.inl ⟨by rfl, ?hy12⟩) (by assumption) ?rest12
        case hy12 => (intro w hSw; (try dsimp only at hSw); go_simp; try with_reducible rfl)
        try simp only [setNorm]
        refine wpAnyH_take (i := 13) (v := ?v13) rfl (by kernel_rfl) (by kernel_rfl) (by kernel_rfl) (fun _ _ _ h => h) (Or.inl ⟨by rfl, ?hy13⟩) (by assumption) ?rest13
        case hy13 => (intro w hSw; (try dsimp only at hSw); go_simp; try with_reducible rfl)
        try simp only [setNorm]
        refine wpAnyH_take (i := 14) (v := ?v14) rfl (by kernel_rfl) (by kernel_rfl) (by kernel_rfl) (fun _ _ _ h => h) (Or.inl ⟨by rfl, ?hy14⟩) (by assumption) ?rest14
        case hy14 => (intro w hSw; (try dsimp only at hSw); go_simp; try with_reducible rfl)
        try simp only [setNorm]
        refine wpAnyH_take (i := 15) (v := ?v15) rfl (by kernel_rfl) (by kernel_rfl) (by kernel_rfl) (fun _ _ _ h => h) (Or.inl ⟨by rfl, ?hy15⟩) (by assumption) ?rest15
        case hy15 => (intro w hSw; (try dsimp only at hSw); go_simp; try with_reducible rfl)
        try simp only [setNorm]
        refine wpAnyH_take (i := 16) (v := ?v16) rfl (by kernel_rfl) (by kernel_rfl) (by kernel_rfl) (fun _ _ _ h => h) (Or.inl ⟨by rfl, ?hy16⟩) (by assumption) ?rest16
        case hy16 => (intro w hSw; (try dsimp only at hSw); go_simp; try with_reducible rfl)
        try simp only [setNorm]
        refine wpAnyH_take (i := 17) (v := ?v17) rfl (by kernel_rfl) (by kernel_rfl) (by kernel_rfl) (fun _ _ _ h => h) (Or.inl ⟨by rfl, ?hy17⟩) (by assumption) ?rest17
        case hy17 => (intro w hSw; (try dsimp only at hSw); go_simp; try with_reducible rfl)
        try simp only [setNorm]
        refine wpAnyH_take (i := 18) (v := ?v18) rfl (by kernel_rfl) (by kernel_rfl) (by kernel_rfl) (fun _ _ _ h => h) (Or.inl ⟨by rfl, ?hy18⟩) (by assumption) ?rest18
        case hy18 => (intro w hSw; (try dsimp only at hSw); go_simp; try with_reducible rfl)
        try simp only [setNorm]
        refine wpAnyH_take (i := 20) (v := ?v20) rfl (by kernel_rfl) (by kernel_rfl) (by kernel_rfl) (fun _ _ _ h => h) (Or.inl ⟨by rfl, ?hy20⟩) (by assumption) ?rest20
        case hy20 => (intro w hSw; (try dsimp only at hSw); go_simp; try with_reducible rfl)
        try simp only [setNorm]
        refine wpAnyH_take (i := 21) (v := ?v21) rfl (by kernel_rfl) (by kernel_rfl) (by kernel_rfl) (fun _ _ _ h => h) (Or.inl ⟨by rfl, ?hy21⟩) (by assumption) ?rest21
        case hy21 => (intro w hSw; (try dsimp only at hSw); go_simp; try with_reducible rfl)
        try simp only [setNorm]
        refine wpAnyH_take (i := 22) (v := ?v22) rfl (by kernel_rfl) (by kernel_rfl) (by kernel_rfl) (fun _ _ _ h => h) (Or.inl ⟨by rfl, ?hy22⟩) (by assumption) ?rest22
        case hy22 => (intro w hSw; (try dsimp only at hSw); go_simp; try with_reducible rfl)
        try simp only [setNorm]
        refine wpAnyH_take (i := 23) (v := ?v23) rfl (by kernel_rfl) (by kernel_rfl) (by kernel_rfl) (fun _ _ _ h => h) (Or.inl ⟨by rfl, ?hy23⟩) (by assumption) ?rest23
        case hy23 => (intro w hSw; (try dsimp only at hSw); go_simp; try with_reducible rfl)
        try simp only [setNorm]
        refine wpAnyH_take (i := 24) (v := ?v24) rfl (by kernel_rfl) (by kernel_rfl) (by kernel_rfl) (fun _ _ _ h => h) (Or.inl ⟨by rfl, ?hy24⟩) (by assumption) ?rest24
        case hy24 => (intro w hSw; (try dsimp only at hSw); go_simp; try with_reducible rfl)
        try simp only [setNorm]
        refine wpAnyH_take (i := 25) (v := ?v25) rfl (by kernel_rfl) (by kernel_rfl) (by kernel_rfl) (fun _ _ _ h => h) (Or.inl ⟨by rfl, ?hy25⟩) (by assumption) ?rest25
        case hy25 => (intro w hSw; (try dsimp only at hSw); go_simp; try with_reducible rfl)
        try simp only [setNorm]
        refine wpAnyH_take (i := 26) (v := ?v26) rfl (by kernel_rfl) (by kernel_rfl) (by kernel_rfl) (fun _ _ _ h => h) (Or.inl ⟨by rfl, ?hy26⟩) (by assumption) ?rest26
        case hy26 => (intro w hSw; (try dsimp only at hSw); go_simp; try with_reducible rfl)
        try simp only [setNorm]
        refine wpAnyH_ready (rs := [19, 27]) (by kernel_rfl) (by simp) ?_
        refine AllReadyH.cons rfl (fun K1 hK1 => ?_) (AllReadyH.cons rfl (fun K1 hK1 => ?_) AllReadyH.nil)
        all_goals go_simp
        all_goals refine Shut.out hK1 _ _ hHeld (fun _ => ?_)
        all_goals clear hK1 K1
        all_goals try simp only [setNorm]
        case' refine_1 =>
          refine wpAnyH_ready (rs := [27]) (by kernel_rfl) (by simp) ?_
          refine AllReadyH.cons rfl (fun K27 hK27 => ?_) AllReadyH.nil
          go_simp
          refine Shut.out hK27 _ _ (hHeld) (fun _ => ?_)
          clear hK27 K27
          try simp only [setNorm]
          refine wpAnyH_take (i := 28) (v := ?v28a) rfl (by kernel_rfl) (by kernel_rfl) (by kernel_rfl) (fun _ _ _ h => h) (Or.inl ⟨by rfl, ?hy28a⟩) (by assumption) ?rest28a
          case hy28a => (intro w hSw; (try dsimp only at hSw); go_simp; try with_reducible rfl)
          try simp only [setNorm]
          refine wpAnyH_ready (rs := [29]) (by kernel_rfl) (by simp) ?_
          refine AllReadyH.cons rfl (fun K29 hK29 => ?_) AllReadyH.nil
          go_simp
          refine Shut.out hK29 _ _ (HS1.out) (fun _ => ?_)
          clear hK29 K29
          try simp only [setNorm]
          refine wpAnyH_take (i := 30) (v := ?v30a) rfl (by kernel_rfl) (by kernel_rfl) (by kernel_rfl) (fun _ _ _ h => h) (Or.inl ⟨by rfl, ?hy30a⟩) (by assumption) ?rest30a
          case hy30a => (intro w hSw; (try dsimp only at hSw); go_simp; try with_reducible rfl)
          try simp only [setNorm]
          refine wpAnyH_ready (rs := [31]) (by kernel_rfl) (by simp) ?_
          refine AllReadyH.cons rfl (fun K31 hK31 => ?_) AllReadyH.nil
          go_simp
          refine Shut.out hK31 _ _ (HS2.out) (fun _ => ?_)
          clear hK31 K31
          try simp only [setNorm]
          refine wpAnyH_done (by kernel_rfl) ?_ _
        case' refine_2 =>
          refine wpAnyH_ready (rs := [19]) (by kernel_rfl) (by simp) ?_
          refine AllReadyH.cons rfl (fun K19 hK19 => ?_) AllReadyH.nil
          go_simp
          refine Shut.out hK19 _ _ (hHeld) (fun _ => ?_)
          clear hK19 K19
          try simp only [setNorm]
          refine wpAnyH_take (i := 28) (v := ?v28b) rfl (by kernel_rfl) (by kernel_rfl) (by kernel_rfl) (fun _ _ _ h => h) (Or.inl ⟨by rfl, ?hy28b⟩) (by assumption) ?rest28b
          case hy28b => (intro w hSw; (try dsimp only at hSw); go_simp; try with_reducible rfl)
          try simp only [setNorm]
          refine wpAnyH_ready (rs := [29]) (by kernel_rfl) (by simp) ?_
          refine AllReadyH.cons rfl (fun K29 hK29 => ?_) AllReadyH.nil
          go_simp
          refine Shut.out hK29 _ _ (HS1.out) (fun _ => ?_)
          clear hK29 K29
          try simp only [setNorm]
          refine wpAnyH_take (i := 30) (v := ?v30b) rfl (by kernel_rfl) (by kernel_rfl) (by kernel_rfl) (fun _ _ _ h => h) (Or.inl ⟨by rfl, ?hy30b⟩) (by assumption) ?rest30b
          case hy30b => (intro w hSw; (try dsimp only at hSw); go_simp; try with_reducible rfl)
          try simp only [setNorm]
          refine wpAnyH_ready (rs := [31]) (by kernel_rfl) (by simp) ?_
          refine AllReadyH.cons rfl (fun K31 hK31 => ?_) AllReadyH.nil
          go_simp
          refine Shut.out hK31 _ _ (HS2.out) (fun _ => ?_)
          clear hK31 K31
          try simp only [setNorm]
          refine wpAnyH_done (by kernel_rfl) ?_ _
        all_goals
          have hB5 := HB4.out.new ((New.refl _).drew)
          have hr5 := HR4.out.new ((New.refl _).drew)
          have HN5 := HN4.out.drew
          have HO5 := HO4.out.new ((New.refl _).drew)
          have HSZ := hid (show ((wc.setCell ⟨bx, ox + s.toNat, none⟩ (.int .i64 zA)).setCell ⟨bk, ok + s.toNat, none⟩ (.int .i64 zB)).drew.heap.size = wc.heap.size by rw [size_drew, size_setCell, size_setCell])
          clear HB4 HR4 HN4 HO4 HS1 HS2 vy vys vyf ux uxs uxf vys' vyf' p0 p1
          generalize ((wc.setCell ⟨bx, ox + s.toNat, none⟩ (.int .i64 zA)).setCell ⟨bk, ok + s.toNat, none⟩ (.int .i64 zB)).drew = wl at *
          obtain ⟨p0', p1', _, _⟩ := id hB5
          obtain ⟨r0, r1, rf0, rf1⟩ := id hr5
          go_wp2_with fail
          obtain ⟨g0, g1, _, _⟩ := hr5.fill (.int .i64 a.n) (.slice (some ⟨bo, oo, none⟩) a.nx.length c3)
          refine bodyPost_ret (v := .tuple #[.agg #[.int .i64 a.n, .slice (some ⟨bo, oo, none⟩) a.nx.length c3], .int .i64 0]) (by simp [results, Try.results18, go_sem, g0, g1]) rfl ?_
          have hfin := HO5.within (Within.fill wl (w.heap.size + 1 + 1 + 1 + 1) (.int .i64 a.n) (.slice (some ⟨bo, oo, none⟩) a.nx.length c3)) (Or.inr (by omega))
          rw [HNS.out]
          exact ⟨_, rfl, New.fill HN5 (by omega) _ _, _, rfl, hfin.widen (by omega) (by simp only [size_setCell]; have := HSZ.out; omega)⟩

end Go.Proofs.Ytdaaglfemaoigaa
