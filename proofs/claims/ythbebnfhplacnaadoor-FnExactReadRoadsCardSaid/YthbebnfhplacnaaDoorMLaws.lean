/- Parts of the proof that lean on no program: MInts, MRows, MRoads. -/
import Derived.Test.YthbebnfhplacnaaDoorRows
import Derived.Test.YthbebnfhplacnaaDoorCore
import Derived.Test.YthbebnfhplacnaaDoorLLaws
import Derived.WalkKit
import Derived.WalkSpells
import Derived.WalkLawsBesides
import Derived.Deep.QuietTactic
import Derived.Deep.OwnRows
import Derived.BigQuiet
import Derived.KernelRfl
namespace Go.Proofs.YthbebnfhplacnaaDoor
open Go.RowKit

section
set_option maxHeartbeats 400000 in
theorem markInt64S_any {B E : Nat} (v : Value) (xs : List Int) (k : Int) (w : World) (h : OwnInts B E w v xs) (hk0 : 0 ≤ k) (hk1 : k ≤ 1099511627776) :
    Calls Tryd.prog 32 #[v, .int .i64 k] w fun e w' => e = .returned (.int .i64 (k + xs.length)) ∧ OwnInts B E w' v (iota k xs.length) ∧ w.grownBy w' v.ownBlock := by
  obtain ⟨A, c, rfl⟩ := h.form
  have hl : xs.length ≤ 1099511627776 := let ⟨_, _, _, h, _⟩ := h; h
  have HH := hid h
  clear h
  go_enter Tryd.func32, Tryd.ntmps32
  go_wp2
  go_loopw [1, 5] (fun q i wr => ∃ j : Nat, j ≤ xs.length ∧ i = .int .i64 j ∧ q = .int .i64 (k + j) ∧ Hid (OwnInts B E wr (.slice A xs.length c) (iota k j ++ xs.drop j)) ∧ Hid (w.grownBy wr (Value.slice A xs.length c).ownBlock)) (fun _ i _ => xs.length - (intOf i).toNat)
  case atStart => exact ⟨0, Nat.zero_le _, rfl, by simp, by simpa [iota] using HH, grown_refl _ _⟩
  case round =>
    obtain ⟨j, hj, rfl, rfl, ho, hg⟩ := hrel
    by_cases hlt : j < xs.length
    · have hlen : (iota k j ++ xs.drop j).length = xs.length := by simp [iota]; omega
      obtain ⟨A', c', e, -, -, hc⟩ := ho.out
      rw [hlen] at e hc
      obtain ⟨b, off, hA, hx, hf⟩ := hc j hlt
      subst hA
      cases e
      have b1 : (j : Int) < (xs.length : Int) := by omega
      have HLEN := hid hlen
      clear hlen hc
      go_wp2
      go_roundw
      case rel =>
        refine ⟨j + 1, by omega, by go_num, ?_, ?_, ?_⟩
        · congr 1; omega
        · have := ho.out.set j (by rw [HLEN.out]; omega) (k + j)
          rw [iota_step k xs j hlt] at this
          exact this
        · exact grown_trans hg.out (grown_setCell _ _ _)
      case measure => simp [intOf]; omega
    · have e : j = xs.length := by omega
      subst e
      go_wp2
      go_ret
      refine ⟨rfl, ?_, hg.out⟩
      have := ho.out
      simpa using this

set_option maxHeartbeats 400000 in
theorem heldInt64S_any (v : Value) (n : Nat) (k : Int) (w : World) (h : IntsAt w v (iota k n)) (hk0 : 0 ≤ k) (hk1 : k ≤ 1099511627776) (hn : n ≤ 1099511627776) :
    Calls Tryd.prog 33 #[v, .int .i64 k] w fun e w' => e = .returned (.int .i64 (k + n)) ∧ w' = w := by
  obtain ⟨A, c, rfl, hl, hc⟩ := h
  rw [iota_length] at hl hc ⊢
  go_enter Tryd.func33, Tryd.ntmps33
  go_wp2
  go_loop [1, 5] (fun q i => ∃ j : Nat, j ≤ n ∧ i = .int .i64 j ∧ q = .int .i64 (k + j)) (fun _ i => n - (intOf i).toNat)
  case atStart => exact ⟨0, Nat.zero_le _, rfl, by simp⟩
  case round =>
    obtain ⟨j, hj, rfl, rfl⟩ := hrel
    by_cases hlt : j < n
    · obtain ⟨b, off, rfl, hx⟩ := hc j hlt
      rw [nth_iota k n j hlt] at hx
      have b1 : (j : Int) < (n : Int) := by omega
      have b3 : ((k + j : Int) != k + j) = false := by simp
      clear hc
      go_wp2
      go_round
      case rel => exact ⟨j + 1, by omega, by go_num, by congr 1; omega⟩
      case measure => simp [intOf]; omega
    · have e : j = n := by omega
      subst e
      go_wp2
      go_ret
      exact ⟨rfl, rfl⟩
end
section
theorem markInt64SSF_any {B E : Nat} (v : Value) (xss : List (List Int)) (k : Int) (w : World) (h : OwnRows B E w v xss) (hk0 : 0 ≤ k) (hk1 : k + total xss ≤ 1099511627776) :
    Calls Tryd.prog 18 #[v, .int .i64 k] w fun e w' => e = .returned (.int .i64 (k + total xss)) ∧ OwnRows B E w' v (iotaRows k xss) ∧ Within B E w w' ∧ ∀ q, q < w.heap.size → ¬ RowFoot w v q → w'.heap[q]? = w.heap[q]? := by
  obtain ⟨A, c, rfl⟩ := h.form
  have hl : xss.length ≤ 1099511627776 := let ⟨_, _, _, _, h, _⟩ := h; h
  have HH := hid h
  have HF := hid (fun (wr : World) (j : Nat) (b off : Nat) (rv : Value) (hA : A = some ⟨b, off, none⟩) (hj : j < xss.length) (hq : ∀ q, q < w.heap.size → ¬ RowFoot w (.slice A xss.length c) q → wr.heap[q]? = w.heap[q]?) (hx : wr.cell? ⟨b, off + j, none⟩ = some rv) (z : Nat) (hz : rv.ownBlock = some z) => (show RowFoot w (.slice A xss.length c) z by
    obtain ⟨A', c', rv', e, _, _, hc, _⟩ := h
    cases e
    obtain ⟨⟨b', off', e, hx', hb'⟩, _⟩ := hc j hj
    cases e
    cases hA
    have nf : ¬ RowFoot w (.slice (some ⟨b, off, none⟩) xss.length c) b := by
      rintro ⟨b2, off2, n2, c2, i2, r2, e2, hi2, hx2, hb2⟩
      cases e2
      obtain ⟨⟨b3, off3, e3, hx3, hb3⟩, _⟩ := hc i2 hi2
      cases e3
      rw [hx2] at hx3
      cases hx3
      exact hb3 hb2
    rw [World.cell?_of_block (w := w) (hq b (World.block_lt_of_cell? w _ hx') nf)] at hx
    exact ⟨b, off, xss.length, c, j, rv, rfl, hj, hx, hz⟩))
  clear h
  go_enter Tryd.func18, Tryd.ntmps18
  go_wp2
  go_loopw [1, 5] (fun q i wr => ∃ (j : Nat) (kk : Int), j ≤ xss.length ∧ i = .int .i64 j ∧ q = .int .i64 kk ∧ Hid (kk = k + total (xss.take j)) ∧ Hid (OwnRows B E wr (.slice A xss.length c) (iotaRows k (xss.take j) ++ xss.drop j)) ∧ Hid (Within B E w wr ∧ ∀ q, q < w.heap.size → ¬ RowFoot w (.slice A xss.length c) q → wr.heap[q]? = w.heap[q]?)) (fun _ i _ => xss.length - (intOf i).toNat)
  case atStart => exact ⟨0, _, Nat.zero_le _, rfl, rfl, by show _ = _; simp [total], by simpa [iotaRows] using HH, ⟨Within.of_new (New.refl _) _ _, fun _ _ _ => rfl⟩⟩
  case round =>
    obtain ⟨j, kk, hj, rfl, rfl, hkk, ho, hg⟩ := hrel
    by_cases hlt : j < xss.length
    · have hlen : (iotaRows k (xss.take j)).length = j := by simp [iotaRows_length]; omega
      have hnth : nth (iotaRows k (xss.take j) ++ xss.drop j) j = nth xss j := by
        simp [nth, List.getElem?_append, hlen]
      obtain ⟨-, b, off, rv, rfl, hx, hr, hstep⟩ := ho.out.row j (by simp [hlen]; omega)
      rw [hnth] at hr
      have b1 : (j : Int) < (xss.length : Int) := by omega
      have hk2 : 0 ≤ kk := by rw [hkk.out]; omega
      have hk3 : kk ≤ 1099511627776 := by rw [hkk.out]; have := total_take_le xss j; omega
      have HSTEP := hid hstep
      clear hlen hnth hstep
      go_wp2_with (go_at_call 32; refine (markInt64S_any _ _ _ _ hr hk2 hk3).mono ?_; rintro e w1 ⟨rfl, hr1, hg1⟩)
      go_roundw
      case rel =>
        obtain ⟨h1, h2⟩ := HSTEP.out w1 _ hr1 hg1
        refine ⟨j + 1, _, by omega, by go_num, rfl, ?_, ?_, hg.out.1.trans h2, fun q hq hnf => ?_⟩
        · show _ = _
          rw [hkk.out, total_take_succ xss j hlt]; omega
        · rw [hkk.out, iotaRows_step k xss j hlt] at h1
          exact h1
        · rw [hg1.block q (Nat.lt_of_lt_of_le hq hg.out.1.2.2.2.1) (fun e => hnf (HF.out wr j b off rv rfl hlt hg.out.2 hx q e.symm))]
          exact hg.out.2 q hq hnf
      case measure => simp [intOf]; omega
    · have e : j = xss.length := by omega
      subst e
      go_wp2
      go_ret
      refine ⟨ret_int (by rw [hkk.out, List.take_length]), ?_, hg.out.1, hg.out.2⟩
      have := ho.out
      simpa using this

theorem markInt64SS_any {B E : Nat} (v : Value) (xss : List (List Int)) (k : Int) (w : World) (h : OwnRows B E w v xss) (hk0 : 0 ≤ k) (hk1 : k + total xss ≤ 1099511627776) :
    Calls Tryd.prog 18 #[v, .int .i64 k] w fun e w' => e = .returned (.int .i64 (k + total xss)) ∧ OwnRows B E w' v (iotaRows k xss) ∧ Within B E w w' :=
  (markInt64SSF_any v xss k w h hk0 hk1).mono fun _ _ ⟨a, b, c, _⟩ => ⟨a, b, c⟩

set_option maxHeartbeats 400000 in
theorem heldInt64SS_any (v : Value) (xss : List (List Int)) (k : Int) (w : World) (h : RowsAt w v (iotaRows k xss)) (hk0 : 0 ≤ k) (hk1 : k + total xss ≤ 1099511627776) :
    Calls Tryd.prog 19 #[v, .int .i64 k] w fun e w' => e = .returned (.int .i64 (k + total xss)) ∧ w' = w := by
  obtain ⟨A, c, rfl, hl, hc⟩ := h
  rw [iotaRows_length] at hl hc ⊢
  go_enter Tryd.func19, Tryd.ntmps19
  go_wp2
  go_loop [1, 5] (fun q i => ∃ (j : Nat) (kk : Int), j ≤ xss.length ∧ i = .int .i64 j ∧ q = .int .i64 kk ∧ Hid (kk = k + total (xss.take j))) (fun _ i => xss.length - (intOf i).toNat)
  case atStart => exact ⟨0, _, Nat.zero_le _, rfl, rfl, by show _ = _; simp [total]⟩
  case round =>
    obtain ⟨j, kk, hj, rfl, rfl, hkk⟩ := hrel
    by_cases hlt : j < xss.length
    · obtain ⟨b, off, rv, rfl, hx, hr⟩ := hc j hlt
      rw [nth_iotaRows k xss j hlt, ← hkk.out] at hr
      have b1 : (j : Int) < (xss.length : Int) := by omega
      have hk2 : 0 ≤ kk := by rw [hkk.out]; omega
      have hk3 : kk ≤ 1099511627776 := by rw [hkk.out]; have := total_take_le xss j; omega
      have hk5 : (nth xss j).length ≤ 1099511627776 := by have := total_take_le xss (j + 1); have := total_take_succ xss j hlt; omega
      clear hc
      go_wp2_with (go_at_call 33; refine (heldInt64S_any _ _ _ _ hr hk2 hk3 hk5).mono ?_; rintro e w1 ⟨rfl, rfl⟩)
      go_round
      case rel => exact ⟨j + 1, _, by omega, by go_num, rfl, by show _ = _; rw [hkk.out, total_take_succ xss j hlt]; omega⟩
      case measure => simp [intOf]; omega
    · have e : j = xss.length := by omega
      subst e
      go_wp2
      go_ret
      exact ⟨ret_int (by rw [hkk.out, List.take_length]), rfl⟩
end
section
set_option maxHeartbeats 400000 in
theorem markRoads_any {B E : Nat} (v : Value) (a : Aut) (k : Int) (w : World) (h : OwnAut B E w v a) (hk0 : 0 ≤ k) (hk1 : k + total a.nx ≤ 1099511627776) :
    Calls Tryd.prog 7 #[v, .int .i64 k] w fun e w' => e = .returned (.int .i64 (k + total a.nx)) ∧ OwnAut B E w' v ⟨a.n, iotaRows k a.nx⟩ ∧ Within B E w w' := by
  obtain ⟨rv, rfl, hr⟩ := h
  obtain ⟨A1, c1, rfl⟩ := hr.form
  go_enter Tryd.func7, Tryd.ntmps7
  go_wp2_with fail
  refine (markInt64SS_any _ a.nx _ _ (hr.new (by repeat (first | with_reducible exact New.refl _ | with_reducible assumption | with_reducible refine New.alloc ?_ _ | with_reducible refine New.drew ?_ | with_reducible refine New.drewN ?_ _ | with_reducible refine New.setCell ?_ (by simp <;> omega) _))) hk0 hk1).mono ?_
  rintro e w1 ⟨rfl, ho, hW⟩
  go_wp2_with fail
  go_ret
  exact ⟨rfl, ⟨_, rfl, ho⟩, Within.trans (Within.of_new (by repeat (first | with_reducible exact New.refl _ | with_reducible assumption | with_reducible refine New.alloc ?_ _ | with_reducible refine New.drew ?_ | with_reducible refine New.drewN ?_ _ | with_reducible refine New.setCell ?_ (by simp <;> omega) _)) _ _) hW⟩
set_option maxHeartbeats 400000 in
theorem heldRoads_any (v : Value) (a : Aut) (k : Int) (w : World) (h : AutAt w v ⟨a.n, iotaRows k a.nx⟩) (hk0 : 0 ≤ k) (hk1 : k + total a.nx ≤ 1099511627776) :
    Calls Tryd.prog 8 #[v, .int .i64 k] w fun e w' => e = .returned (.int .i64 (k + total a.nx)) ∧ New w w' := by
  obtain ⟨rv, rfl, hr⟩ := h
  obtain ⟨A1, c1, rfl⟩ := hr.form
  have b1 : ¬ k + total a.nx < 0 := by omega
  go_enter Tryd.func8, Tryd.ntmps8
  go_wp2_with fail
  refine (heldInt64SS_any _ a.nx _ _ (hr.new (by repeat (first | with_reducible exact New.refl _ | with_reducible assumption | with_reducible refine New.alloc ?_ _ | with_reducible refine New.drew ?_ | with_reducible refine New.drewN ?_ _ | with_reducible refine New.setCell ?_ (by simp <;> omega) _))) hk0 hk1).mono ?_
  rintro e w1 ⟨rfl, rfl⟩
  go_wp2_with fail
  go_ret
  exact ⟨rfl, (by repeat (first | with_reducible exact New.refl _ | with_reducible assumption | with_reducible refine New.alloc ?_ _ | with_reducible refine New.drew ?_ | with_reducible refine New.drewN ?_ _ | with_reducible refine New.setCell ?_ (by simp <;> omega) _))⟩
end

end Go.Proofs.YthbebnfhplacnaaDoor
