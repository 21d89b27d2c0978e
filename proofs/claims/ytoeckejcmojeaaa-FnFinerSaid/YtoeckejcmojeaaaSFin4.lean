/- An automaton with choices is copied, and some of its choices are left out. -/
import Derived.Test.YtoeckejcmojeaaaRows
import Derived.Test.YtoeckejcmojeaaaCore
import Derived.Test.YtoeckejcmojeaaaInfos
import Derived.Test.YtoeckejcmojeaaaPlains
import Derived.Test.YtoeckejcmojeaaaPlainCho
import Derived.Test.YtoeckejcmojeaaaArrs
import Derived.Test.YtoeckejcmojeaaaSDraw
import Derived.Test.YtoeckejcmojeaaaDrawT
import Derived.Test.YtoeckejcmojeaaaRowsC
import Derived.Test.YtoeckejcmojeaaaSOwn
import Derived.Test.YtoeckejcmojeaaaSCho
import Derived.Test.YtoeckejcmojeaaaCubeG
import Derived.Test.YtoeckejcmojeaaaSFin1
import Derived.Test.YtoeckejcmojeaaaSFin3
import Derived.WalkKit
import Derived.WalkSpells
import Derived.WalkLawsBesides
import Derived.Deep.QuietTactic
import Derived.Deep.OwnRows
import Derived.BigQuiet
import Derived.KernelRfl
import Derived.Carry
import Derived.Deep.RegionHeld3
import Derived.Deep.RegionLaw
namespace Go.Proofs.Ytoeckejcmojeaaa
open Go.RowKit

set_option maxRecDepth 20000 in
set_option maxHeartbeats 2000000 in
theorem l06OwnRowsF_any (v : Value) (xss : List (List Int)) (w : World) (h : RowsAt w v xss) (hl : xss.length ≤ 100000) (hll : ∀ i, i < xss.length → (nth xss i).length ≤ 1048576) :
    Calls Try.prog 108 #[v] w fun e w' => ∃ r, e = .returned r ∧ New w w' ∧ RowF w.heap.size w'.heap.size w' r xss := by
  obtain ⟨A, c, rfl, _, hc⟩ := h
  have HC := hid hc
  have HLL := hid hll
  clear hc hll
  have hG0 := GrowRowsC.empty w.heap.size 42 w (Nat.le_refl _)
  have hn0 : New w (w.alloc (.cells #[] 42)) := (by repeat (first | with_reducible exact New.refl _ | with_reducible assumption | with_reducible refine New.alloc ?_ _ | with_reducible refine New.drewN ?_ _ | with_reducible refine New.drew ?_ | with_reducible refine New.trans ?_ (by with_reducible assumption)))
  go_enter Try.func108, Try.ntmps108
  go_wp2_with fail
  go_loopw [3, 4] (fun ov i wr => ∃ (k g cap : Nat), i = .int .i64 k ∧ ov = .slice (some ⟨g, 0, none⟩) k cap ∧ k ≤ xss.length ∧ New w wr ∧ GrowRowsC w.heap.size 42 wr (.slice (some ⟨g, 0, none⟩) k cap) (xss.take k)) (fun _ i _ => xss.length - (intOf i).toNat)
  case atStart => exact ⟨0, _, _, rfl, rfl, Nat.zero_le _, hn0, by simpa using hG0⟩
  case round =>
    obtain ⟨k, g, cap, rfl, rfl, hk, hn, hG⟩ := hrel
    clear hG0 hn0
    obtain ⟨wo, rfl⟩ : ∃ wo : World, wo = wr := ⟨_, rfl⟩
    have hz := hn.size
    by_cases hlt : k < xss.length
    · have b1 : (k : Int) < (xss.length : Int) := by omega
      obtain ⟨b, off, r1, rfl, hx, hr1⟩ := HC.out k hlt
      replace hx := hn.cell hx
      have HO := hid (l00OwnC_any _ _ wo (hr1.new hn) (HLL.out k hlt))
      obtain ⟨A1, c1, rfl⟩ := hr1.form
      have HTK := hid (take_succ_nth xss k hlt)
      have HTL := hid (show (xss.take k).length = k by rw [List.length_take]; omega)
      have hTl : (xss.take k).length < 1099511627776 := by rw [HTL.out]; omega
      obtain ⟨TK, hTK⟩ : ∃ TK, TK = xss.take k := ⟨_, rfl⟩
      rw [← hTK] at hG HTK HTL hTl
      clear hTK hr1
      go_wp2_with (first
        | (go_at_call 122; refine HO.out.mono ?_; rintro e w1 ⟨r, he, hn1, ho1, hcp⟩; obtain ⟨A2, c2, hf⟩ := ho1.form; subst hf; subst he)
        | (at_builtin; refine wpList_appRowsCN (w0 := wo) (w1 := w1) rfl _ _ _ rfl Try.underlying22 info_ints (.slice (some ⟨g, 0, none⟩) k cap) TK (nth xss k) rfl hG hn1 ho1 hcp rfl hTl hz ?_; intro g9 cap9 w9 ho9 hg9))
      go_roundw
      case rel =>
        rw [HTL.out] at ho9
        refine ⟨k + 1, g9, cap9, by go_num, ?_, by omega, New.grown (hn.trans hn1) hg9 (fun q hq => (hG.block q hq).1), by rw [HTK.out]; exact ho9⟩
        rw [HTL.out]
      case measure => simp [intOf]; omega
    · have e : k = xss.length := by omega
      subst e
      have b1 : ¬ (xss.length : Int) < (xss.length : Int) := by omega
      rw [List.take_length] at hG
      go_wp2_with fail
      go_ret
      exact ⟨_, rfl, hn, hG.rowF (by omega)⟩
set_option maxRecDepth 20000 in
set_option maxHeartbeats 2000000 in
theorem l04OwnChoice_any (p : Value) (c : Cho) (w : World) (hp : PCho w p c) (hc : choOk c = true) :
    Calls Try.prog 56 #[p] w fun e w' => ∃ rv, e = .returned (.agg #[.int .i64 c.n, rv]) ∧ New w w' ∧ GrowCube RowF w.heap.size 22 w' rv c.nx := by
  obtain ⟨pb, rv, rfl, p0, p1, hcu⟩ := hp
  obtain ⟨A, cA, rfl, _, hcc⟩ := hcu
  obtain ⟨hcn, hcl, hcr⟩ := choOk_parts hc
  have hpb : pb < w.heap.size := World.block_lt_of_cell? w _ p0
  obtain ⟨wb, hwb⟩ : ∃ wb, wb = (w.alloc (.cells #[.int .i64 0, .slice none 0 0] 39)).alloc (.cells #[.int .i64 c.n, .slice none 0 0] 39) := ⟨_, rfl⟩
  have hnb : New w wb := by rw [hwb]; exact (by repeat (first | with_reducible exact New.refl _ | with_reducible assumption | with_reducible refine New.alloc ?_ _ | with_reducible refine New.drewN ?_ _ | with_reducible refine New.drew ?_ | with_reducible refine New.trans ?_ (by with_reducible assumption)))
  have hzb : wb.heap.size = w.heap.size + 2 := by rw [hwb]; simp only [size_alloc]
  have hR : Box2 wb w.heap.size (.int .i64 0) (.slice none 0 0) := by rw [hwb]; exact ⟨by go_simp, by go_simp, by go_simp, by go_simp⟩
  have hO : Box2 wb (w.heap.size + 1) (.int .i64 c.n) (.slice none 0 0) := by rw [hwb]; exact ⟨by go_simp, by go_simp, by go_simp, by go_simp⟩
  have HCC := hid hcc
  have HCR := hid hcr
  have HRL := hid (show ∀ i, i < c.nx.length → ∀ j, j < (nth c.nx i).length → (nth (nth c.nx i) j).length ≤ 1048576 from fun i hi j hj => by
    have := setB_len ((hcr i hi).2 j hj) (by omega); omega)
  have HZB := hid hzb
  clear hcc hcr hc hzb
  go_enter Try.func56, Try.ntmps56
  go_wp2_with fail
  rw [← hwb]
  clear hwb
  go_wp2_with fail
  go_loopw [4] (fun i wr => ∃ (k : Nat) (v : Value), k ≤ c.nx.length ∧ i = .int .i64 k ∧ New w wr ∧ Box2 wr w.heap.size (.int .i64 0) (.slice none 0 0) ∧ Box2 wr (w.heap.size + 1) (.int .i64 c.n) v ∧ w.heap.size + 2 ≤ wr.heap.size ∧ GrowCube RowF (w.heap.size + 2) 22 wr v (c.nx.take k)) (fun i _ => c.nx.length - (intOf i).toNat)
  case atStart => exact ⟨0, _, Nat.zero_le _, rfl, hnb, hR, hO, by have := HZB.out; omega, by simpa using GrowCube.nil⟩
  case round =>
    obtain ⟨k, v, hk, rfl, hn, hbr, hbo, hsz, hg⟩ := hrel
    clear hR hO hnb
    obtain ⟨wo, rfl⟩ : ∃ wo : World, wo = wr := ⟨_, rfl⟩
    have y0 := hn.cell p0
    have y1 := hn.cell p1
    obtain ⟨z0, z1, zf0, zf1⟩ := id hbo
    have hkl : (c.nx.take k).length = k := by simp; omega
    have HKL := hid hkl
    obtain ⟨Av, cv, rfl⟩ := hg.form
    rw [hkl] at hg z1 hbo
    clear hkl
    by_cases hlt : k < c.nx.length
    · have b1 : (k : Int) < (c.nx.length : Int) := by omega
      obtain ⟨b, off, rvk, rfl, hxk, hrk⟩ := HCC.out k hlt
      replace hxk := hn.cell hxk
      replace hrk := hrk.new hn
      have hrl := (HCR.out k hlt).1
      have HOW := hid (fun w1 (hm : New wo w1) => l06OwnRowsF_any rvk (nth c.nx k) w1 (hrk.new hm) (by omega) (HRL.out k hlt))
      obtain ⟨Ak, ck, rfl⟩ := hrk.form
      have HG := hid hg
      have hpbs : pb < wo.heap.size := Nat.lt_of_lt_of_le hpb hn.size
      clear hg hrk hrl
      go_wp2_with fail
      go_region_law (first
          | (go_simp; go_at_call 108; refine (HOW.out _ (by repeat (first | with_reducible exact New.refl _ | with_reducible assumption | with_reducible refine New.alloc ?_ _ | with_reducible refine New.drew ?_ | with_reducible refine New.drewN ?_ _ | with_reducible refine New.setCell ?_ (by simp <;> omega) _))).mono ?_; rintro e w3 ⟨r3, he, hr3, ho3⟩; obtain ⟨A3, c3, rfl⟩ := ho3.at.form; subst he; have hq3 : New wo w3 := New.trans (New.refl _).drew hr3; have y3 := hq3.cell z1; have s3 : w.heap.size + 1 < w3.heap.size := (by have := hq3.size; omega); have hs3 := hr3.size)
          | (refine step_appCube1 keeps_rowF (w0 := wo) rfl _ _ _ rfl Try.underlying37 info_rows22 (.slice Av k cv) _ (c.nx.take k) (nth c.nx k) _ rfl HG.out (hq3.trans (by repeat (first | with_reducible exact New.refl _ | with_reducible assumption | with_reducible refine New.alloc ?_ _ | with_reducible refine New.drew ?_ | with_reducible refine New.drewN ?_ _ | with_reducible refine New.setCell ?_ (by simp <;> omega) _))) ((ho3.new (by repeat (first | with_reducible exact New.refl _ | with_reducible assumption | with_reducible refine New.alloc ?_ _ | with_reducible refine New.drew ?_ | with_reducible refine New.drewN ?_ _ | with_reducible refine New.setCell ?_ (by simp <;> omega) _))).widen (by (try simp only [sizes] at *) <;> omega) (by (try simp only [sizes]) <;> omega)) rfl rfl (cell_box1 _ _ _) (by have := HKL.out; omega) (by omega) ?_; intro g cap w5 ho5 hg5; have hbo5 := ((hbo.new hq3).new ((New.refl _).alloc _)).grown hg5 (fun q hq => by have := HG.out.block q hq; omega); obtain ⟨x0', x1', xf0', xf1'⟩ := id hbo5))
      all_goals go_wp2
      all_goals go_roundw
      all_goals first
        | (simp [intOf]; omega)
        | (have hn5 : New w w5 := New.grown (hn.trans (hq3.trans (by repeat (first | with_reducible exact New.refl _ | with_reducible assumption | with_reducible refine New.alloc ?_ _ | with_reducible refine New.drew ?_ | with_reducible refine New.drewN ?_ _ | with_reducible refine New.setCell ?_ (by simp <;> omega) _)))) hg5 (fun q hq => by have := HG.out.block q hq; omega)
           have hs5 := hg5.size
           simp only [size_alloc] at hs5
           rw [HKL.out] at ho5
           have hW := within_setCell w5 ⟨w.heap.size + 1, 1, none⟩ (.slice (some ⟨g, 0, none⟩) (k + 1) cap)
           refine ⟨k + 1, _, by omega, by go_num, hn5.setCell (by show w.heap.size ≤ w.heap.size + 1; omega) _, ?_, hbo5.set1 _, (by (try simp only [sizes]) <;> omega), ?_⟩
           · exact (((hbr.new hq3).new ((New.refl _).alloc _)).grown hg5 (fun q hq => by have := HG.out.block q hq; omega)).other _ (by simp) _
           · rw [take_succ_nth _ k hlt]
             exact ho5.within keeps_rowF hW (by simp))
    · have e : k = c.nx.length := by omega
      subst e
      have b1 : ¬ (c.nx.length : Int) < (c.nx.length : Int) := by omega
      rw [List.take_length] at hg
      obtain ⟨q0, q1, qf0, qf1⟩ := id hbr
      obtain ⟨g0, g1, _⟩ := hbr.fill (.int .i64 c.n) (.slice Av c.nx.length cv)
      have HW := hid (Within.fill wo w.heap.size (.int .i64 c.n) (.slice Av c.nx.length cv))
      go_wp2_with fail
      refine bodyPost_ret (v := .agg #[.int .i64 c.n, .slice Av c.nx.length cv]) (by simp [results, Try.results56, go_sem, g0, g1]) rfl ?_
      exact ⟨_, rfl, hn.within HW.out (Nat.le_refl _), (hg.within keeps_rowF HW.out (by omega)).base (by omega)⟩

end Go.Proofs.Ytoeckejcmojeaaa
