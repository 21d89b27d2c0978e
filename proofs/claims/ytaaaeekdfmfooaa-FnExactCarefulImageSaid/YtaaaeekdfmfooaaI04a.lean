/- The program's partial automata, and where words lead in them. -/
import Derived.Test.YtaaaeekdfmfooaaRows
import Derived.Test.YtaaaeekdfmfooaaBase
import Derived.Test.YtaaaeekdfmfooaaAut
import Derived.Test.YtaaaeekdfmfooaaApp
import Derived.Test.YtaaaeekdfmfooaaInfo
import Derived.Test.YtaaaeekdfmfooaaPlain1
import Derived.Test.YtaaaeekdfmfooaaPlainRun
import Derived.Test.YtaaaeekdfmfooaaPlainSet
import Derived.Test.YtaaaeekdfmfooaaPlainBits
import Derived.Test.YtaaaeekdfmfooaaPlainPart
import Derived.Test.YtaaaeekdfmfooaaI01a
import Derived.Test.YtaaaeekdfmfooaaI01b
import Derived.Test.YtaaaeekdfmfooaaIFlk
import Derived.WalkKit
import Derived.WalkSpells
import Derived.WalkLawsBesides
import Derived.Deep.QuietTactic
import Derived.Deep.OwnRows
import Derived.BigQuiet
import Derived.KernelRfl
import Derived.Deep.RegionHeld3
namespace Go.Proofs.Ytaaaeekdfmfooaa
open Go.RowKit

set_option maxHeartbeats 400000 in
theorem ValidPartial1_any (v : Value) (xs : List Int) (p : Value) (a : Aut) (w : World) (h : IntsAt w v xs) (hp : PAut w p a) (h0 : 0 ≤ a.n) (h1 : a.n ≤ 1048576) :
    Calls Try.prog 158 #[v, p] w fun e w' => e = .returned (.bool (!partRow xs a.n)) ∧ New w w' := by
  obtain ⟨pb, rv, rfl, hp0, hp1, hpr⟩ := hp
  obtain ⟨A, c, rfl⟩ := h.form
  by_cases hlen : (xs.length : Int) = a.n
  · have hb : ((xs.length : Int) != a.n) = false := by simp [hlen]
    have HL := hid hlen
    have hx0 := ext_cell hp0
    have hl := h.len
    clear hlen
    go_enter Try.func158, Try.ntmps158
    go_wp2_with fail
    refine wp_region_quiet_new (by kernel_rfl) (by kernel_rfl) ?_; (repeat (go_big_quiet_step ((first | (go_at_call 126; exact quiet_same (size64_any _ _ _ _ hl)) | (go_at_call 127; exact quiet_new (areWithin_any _ _ _ _ _ (h.new (ext_new _ _)))))))); refine wpQuiet_nil ?_; intro wq hq; have hnq := new_of_ext hq; clear hq
    go_wp2
    go_ret
    refine ⟨ret_bool ?_, hnq⟩
    simp [partRow, HL.out]
  · have hb : ((xs.length : Int) != a.n) = true := by simp [hlen]
    have hx0 := ext_cell hp0
    have hl := h.len
    go_enter Try.func158, Try.ntmps158
    go_wp2_with fail
    refine wp_region_quiet_new (by kernel_rfl) (by kernel_rfl) ?_; (repeat (go_big_quiet_step ((first | (go_at_call 126; exact quiet_same (size64_any _ _ _ _ hl)) | (go_at_call 127; exact quiet_new (areWithin_any _ _ _ _ _ (h.new (ext_new _ _)))))))); refine wpQuiet_nil ?_; intro wq hq; have hnq := new_of_ext hq; clear hq
    go_wp2
    go_ret
    refine ⟨ret_bool ?_, hnq⟩
    simp [partRow, hlen]
set_option maxHeartbeats 400000 in
theorem Pletters_any (v : Value) (a : Aut) (w : World) (h : AutAt w v a) :
    Calls Try.prog 156 #[v] w fun e w' => e = .returned (.int .i64 a.nx.length) ∧ New w w' := by
  obtain ⟨rv, rfl, hr⟩ := h
  obtain ⟨A, c, rfl⟩ := hr.form
  have hl := hr.len
  go_enter Try.func156, Try.ntmps156
  go_wp2_with (go_at_call 182; refine (sizeRows_any _ _ _ _ hl).mono ?_; rintro e w' ⟨rfl, rfl⟩)
  go_ret
  exact ⟨rfl, (by repeat (first | with_reducible exact New.refl _ | with_reducible assumption | with_reducible refine New.alloc ?_ _ | with_reducible refine New.drew ?_ | with_reducible refine New.drewN ?_ _ | with_reducible refine New.setCell ?_ (by simp <;> omega) _))⟩
set_option maxHeartbeats 400000 in
theorem ValidPartial_any (v : Value) (a : Aut) (w : World) (h : AutAt w v a) :
    Calls Try.prog 80 #[v] w fun e w' => e = .returned (.bool (partOk a)) ∧ New w w' := by
  obtain ⟨rv, rfl, hr⟩ := h
  obtain ⟨A, c, rfl⟩ := hr.form
  have hl := hr.len
  have hn0 : New w (w.alloc (.cells #[.int .i64 a.n, .slice A a.nx.length c] 41)) := (by repeat (first | with_reducible exact New.refl _ | with_reducible assumption | with_reducible refine New.alloc ?_ _ | with_reducible refine New.drew ?_ | with_reducible refine New.drewN ?_ _ | with_reducible refine New.setCell ?_ (by simp <;> omega) _))
  have hp := PAut.box hr 41
  by_cases h1 : inB a.n 1 10 = true
  · have h1' := (inB_iff _ _ _).1 h1
    have h3 : 0 ≤ a.n := by omega
    have h4 : a.n ≤ 1048576 := by omega
    clear h1'
    by_cases h2 : inB (a.nx.length : Int) 1 3 = true
    · go_enter Try.func80, Try.ntmps80
      go_wp2_with fail
      refine (within_any _ _ _ _).mono ?_
      rintro e w' ⟨rfl, rfl⟩
      go_wp2_with fail
      refine (Pletters_any _ a _ ⟨_, rfl, hr.new hn0⟩).mono ?_
      rintro e w1 ⟨rfl, hn1⟩
      obtain ⟨hc_hn1, hf_hn1⟩ := New.both hn1; have hz_hn1 := New.size hn1; try simp only [size_alloc, size_drew, size_drewN, size_setCell] at hz_hn1
      go_wp2_with fail
      refine (within_any _ _ _ _).mono ?_
      rintro e w' ⟨rfl, rfl⟩
      go_wp2_with fail
      refine (ContainsFuncRows_any _ a.nx 158 #[.pointer (some ⟨w.heap.size, 0, none⟩)] (fun xs => !partRow xs a.n) _ (hr.new (hn0.trans hn1))
        (enters Try.func158 (by decide) (by simp [Try.f158])) fun w' hw i hi rv hrv => ValidPartial1_any _ _ _ a _ hrv (hp.new (hn1.trans hw)) h3 h4).mono ?_
      rintro e w2 ⟨rfl, hn2⟩
      go_wp2_with fail
      go_ret
      refine ⟨ret_bool ?_, (hn0.trans hn1).trans hn2⟩
      unfold partOk partRows; rw [h1, h2, List.not_any_eq_all_not]; simp
    · have h2' : inB (a.nx.length : Int) 1 3 = false := by simpa using h2
      clear h2
      go_enter Try.func80, Try.ntmps80
      go_wp2_with fail
      refine (within_any _ _ _ _).mono ?_
      rintro e w' ⟨rfl, rfl⟩
      go_wp2_with fail
      refine (Pletters_any _ a _ ⟨_, rfl, hr.new hn0⟩).mono ?_
      rintro e w1 ⟨rfl, hn1⟩
      obtain ⟨hc_hn1, hf_hn1⟩ := New.both hn1; have hz_hn1 := New.size hn1; try simp only [size_alloc, size_drew, size_drewN, size_setCell] at hz_hn1
      go_wp2_with fail
      refine (within_any _ _ _ _).mono ?_
      rintro e w' ⟨rfl, rfl⟩
      go_wp2_with fail
      go_ret
      exact ⟨ret_bool (by unfold partOk; rw [h1, h2']; rfl), hn0.trans hn1⟩
  · have h1' : inB a.n 1 10 = false := by simpa using h1
    clear h1
    go_enter Try.func80, Try.ntmps80
    go_wp2_with (go_at_call 95; refine (within_any _ _ _ _).mono ?_; rintro e w' ⟨rfl, rfl⟩)
    go_ret
    exact ⟨ret_bool (by unfold partOk; rw [h1']; rfl), hn0⟩
set_option maxHeartbeats 400000 in
theorem PisWord_any (v1 v2 : Value) (a : Aut) (ws : List Int) (w : World) (h1 : AutAt w v1 a) (h2 : IntsAt w v2 ws) :
    Calls Try.prog 81 #[v1, v2] w fun e w' => e = .returned (.bool (wordOk a ws)) ∧ New w w' := by
  obtain ⟨rv, rfl, hr⟩ := h1
  obtain ⟨A, c, rfl⟩ := hr.form
  obtain ⟨A2, c2, rfl⟩ := h2.form
  have hl := hr.len
  have hl2 := h2.len
  have hn0 : New w (w.alloc (.cells #[.int .i64 a.n, .slice A a.nx.length c] 41)) := (by repeat (first | with_reducible exact New.refl _ | with_reducible assumption | with_reducible refine New.alloc ?_ _ | with_reducible refine New.drew ?_ | with_reducible refine New.drewN ?_ _ | with_reducible refine New.setCell ?_ (by simp <;> omega) _))
  by_cases h : ws.length ≤ 400
  · go_enter Try.func81, Try.ntmps81
    go_wp2_with fail
    refine (Pletters_any _ a _ ⟨_, rfl, hr.new hn0⟩).mono ?_
    rintro e w1 ⟨rfl, hn1⟩
    go_wp2_with fail
    refine (areWithin_any _ _ _ _ _ (h2.new (hn0.trans hn1))).mono ?_
    rintro e w2 ⟨rfl, hn2⟩
    go_wp2_with fail
    go_ret
    exact ⟨ret_bool (by simp [wordOk, h]), (hn0.trans hn1).trans hn2⟩
  · have h' : decide (ws.length ≤ 400) = false := by simpa using h
    go_enter Try.func81, Try.ntmps81
    go_wp2_with fail
    go_ret
    exact ⟨ret_bool (by simp [wordOk, h]), hn0⟩
set_option maxHeartbeats 1000000 in
theorem Pstep_any (v1 : Value) (a : Aut) (F : Nat) (l : Int) (w : World) (h1 : AutAt w v1 a) (ha : partOk a = true) (hl : 0 ≤ l ∧ l < a.nx.length) (hF : F < 2 ^ a.n.toNat) :
    Calls Try.prog 159 #[v1, .int .u64 F, .int .i64 l] w fun e w' => e = .returned (.tuple #[.int .u64 ((pstep (nth a.nx l.toNat) F).getD 0 : Nat), .bool (pstep (nth a.nx l.toNat) F).isSome]) ∧ New w w' := by
  obtain ⟨rv, rfl, hr⟩ := h1
  obtain ⟨A2, c2, rfl, hl2, hc2⟩ := hr
  obtain ⟨b2, off2, rv, rfl, hx2, hr2⟩ := hc2 l.toNat (by omega)
  obtain ⟨A3, c3, rfl, hl3, hc3⟩ := hr2
  obtain ⟨⟨n1, n2⟩, _, hrows⟩ := partOk_parts ha
  obtain ⟨h1, h2⟩ := hrows l.toNat (by omega)
  have hF10 : F < 1024 := lt_10 hF (by omega)
  obtain ⟨l0, l1⟩ := hl
  have hmem : ∀ i, i < (setOf F).length → 0 ≤ nth (setOf F) i ∧ nth (setOf F) i < a.n := fun i hi => by
    have := (mem_bitsTo F a.n.toNat (nth (setOf F) i)).1 (by rw [← setOf_eq hF (by omega)]; exact nth_mem (setOf F) i hi)
    omega
  have hrow : ∀ i, i < (setOf F).length → nth (nth a.nx l.toNat) (nth (setOf F) i).toNat < 10 := fun i hi => by
    have := hmem i hi
    have := h2 (nth (setOf F) i).toNat (by omega)
    omega
  have hlen := bitsTo_len F 10
  obtain ⟨R, hRR⟩ : ∃ R, R = pstep (nth a.nx l.toNat) F := ⟨_, rfl⟩
  rw [← hRR]
  have HRR := hid (show R = if ((setOf F).any fun s => decide (nth (nth a.nx l.toNat) s.toNat < 0)) = true then none else some (orB ((setOf F).map fun s => nth (nth a.nx l.toNat) s.toNat)) by rw [hRR, pstep, badB_list, moved, moveB_list]; rfl)
  have HM := hid hmem
  have HR := hid hrow
  have HL := hid (show (setOf F).length ≤ 10 from hlen)
  clear hc2 h2 hmem hrow hlen hF hrows hRR
  go_enter Try.func159, Try.ntmps159
  go_wp2_with fail
  refine (set_any F _ hF10).mono ?_
  rintro e w1 ⟨r, he, hn1, ho⟩
  obtain ⟨A, c, rfl, hl, _, hc⟩ := ho
  subst he
  have hn : New w w1 := (by repeat (first | with_reducible exact New.refl _ | with_reducible assumption | with_reducible refine New.alloc ?_ _ | with_reducible refine New.drewN ?_ _ | with_reducible refine New.drew ?_ | with_reducible refine New.trans ?_ (by with_reducible assumption)))
  have hp1 : w1.cell? ⟨w.heap.size, 1, none⟩ = some (.slice (some ⟨b2, off2, none⟩) a.nx.length c2) := hn1.cell (by go_simp)
  replace hx2 := hn.cell hx2
  go_wp2
  go_loop [8, 14] (fun q i => ∃ k : Nat, k ≤ (setOf F).length ∧ i = .int .i64 k ∧ q = .int .u64 (orB (((setOf F).map fun s => nth (nth a.nx l.toNat) s.toNat).take k)) ∧ Hid (∀ j, j < k → 0 ≤ nth (nth a.nx l.toNat) (nth (setOf F) j).toNat)) (fun _ i => (setOf F).length - (intOf i).toNat)
  case atStart => exact ⟨0, Nat.zero_le _, rfl, rfl, fun j hj => absurd hj (by omega)⟩
  case round =>
    obtain ⟨k, hk, rfl, rfl, he⟩ := hrel
    by_cases hlt : k < (setOf F).length
    · obtain ⟨b, off, rfl, hx, _⟩ := hc k hlt
      have b1 : (k : Int) < ((setOf F).length : Int) := by omega
      obtain ⟨m0, m1⟩ := HM.out k hlt
      have x1 := HR.out k hlt
      obtain ⟨b3, off3, rfl, hx3⟩ := hc3 (nth (setOf F) k).toNat (by omega)
      replace hx3 := hn.cell hx3
      have k3 : nth (setOf F) k < ((nth a.nx l.toNat).length : Int) := by omega
      have hL := HL.out
      clear hc hc3
      by_cases hneg : nth (nth a.nx l.toNat) (nth (setOf F) k).toNat < 0
      · have HN := hid hneg
        go_wp2
        go_ret2
        have e : R = none := by
          rw [HRR.out, if_pos]
          rw [List.any_eq_true]
          exact ⟨_, nth_mem _ k hlt, by simpa using HN.out⟩
        exact ⟨by rw [e]; rfl, hn⟩
      · have x0 : 0 ≤ nth (nth a.nx l.toNat) (nth (setOf F) k).toNat := by omega
        have hd : decide (nth (nth a.nx l.toNat) (nth (setOf F) k).toNat < 0) = false := by simpa using hneg
        go_wp2
        go_round
        case rel =>
          refine ⟨k + 1, by omega, by go_num, ?_, fun j hj => ?_⟩
          · have e1 : nth ((setOf F).map fun s => nth (nth a.nx l.toNat) s.toNat) k = nth (nth a.nx l.toNat) (nth (setOf F) k).toNat := nth_map _ _ _ hlt
            rw [orB_take _ k (by simpa using hlt), e1, or_u64 _ _ (orB_take_lt _ 10 k (fun x hx => by
              obtain ⟨s, hs, rfl⟩ := List.mem_map.1 hx
              obtain ⟨i, hi, rfl⟩ := mem_nth _ s hs
              have := HR.out i hi
              omega)) (by omega)]
          · rcases Nat.lt_succ_iff_lt_or_eq.1 hj with h | h
            · exact he.out j h
            · subst h; exact x0
        case measure => simp [intOf]; omega
    · have e : k = (setOf F).length := by omega
      subst e
      go_wp2
      go_ret2
      have e2 : ((setOf F).map fun s => nth (nth a.nx l.toNat) s.toNat).take (setOf F).length = (setOf F).map fun s => nth (nth a.nx l.toNat) s.toNat := by
        rw [List.take_of_length_le (by simp)]
      have e : R = some (orB ((setOf F).map fun s => nth (nth a.nx l.toNat) s.toNat)) := by
        rw [HRR.out, if_neg]
        intro h
        rw [List.any_eq_true] at h
        obtain ⟨x, hx, hx2⟩ := h
        obtain ⟨i, hi, rfl⟩ := mem_nth _ x hx
        have := he.out i hi
        simp at hx2; omega
      exact ⟨by rw [e, e2]; rfl, hn⟩
set_option maxHeartbeats 1000000 in
theorem Pimage_any (v1 v : Value) (a : Aut) (F : Nat) (ws : List Int) (w : World) (h1 : AutAt w v1 a) (h : IntsAt w v ws) (ha : partOk a = true) (hw : letters a ws) (hF : F < 2 ^ a.n.toNat) :
    Calls Try.prog 82 #[v1, .int .u64 F, v] w fun e w' => e = .returned (.tuple #[.int .u64 ((prun a.nx F ws).getD 0 : Nat), .bool (prun a.nx F ws).isSome]) ∧ New w w' := by
  obtain ⟨rv, rfl, hr⟩ := h1
  obtain ⟨A2, c2, rfl⟩ := hr.form
  obtain ⟨A, c, rfl, hl, hc⟩ := h
  have h1 : AutAt w (.agg #[.int .i64 a.n, .slice A2 a.nx.length c2]) a := ⟨_, rfl, hr⟩
  have HA := hid ha
  have HW := hid hw
  have HF := hid hF
  clear ha hw hF
  obtain ⟨wb, hwb⟩ : ∃ wb, wb = w.alloc (.cells #[.int .i64 a.n, .slice A2 a.nx.length c2] 41) := ⟨_, rfl⟩
  have hnb : New w wb := by rw [hwb]; exact (by repeat (first | with_reducible exact New.refl _ | with_reducible assumption | with_reducible refine New.alloc ?_ _ | with_reducible refine New.drew ?_ | with_reducible refine New.drewN ?_ _ | with_reducible refine New.setCell ?_ (by simp <;> omega) _))
  have hb0 : wb.cell? ⟨w.heap.size, 0, none⟩ = some (.int .i64 a.n) := by rw [hwb]; go_simp
  have hb1 : wb.cell? ⟨w.heap.size, 1, none⟩ = some (.slice A2 a.nx.length c2) := by rw [hwb]; go_simp
  go_enter Try.func82, Try.ntmps82
  go_wp2
  rw [← hwb]
  go_loopw [1, 14] (fun q i wr => ∃ k g : Nat, k ≤ ws.length ∧ i = .int .i64 k ∧ q = .int .u64 g ∧ Hid (prun a.nx F (ws.take k) = some g) ∧ New wb wr) (fun _ i _ => ws.length - (intOf i).toNat)
  case atStart => exact ⟨0, F, Nat.zero_le _, rfl, rfl, rfl, New.refl _⟩
  case round =>
    obtain ⟨k, g, hk, rfl, rfl, he, hn⟩ := hrel
    clear hwb
    by_cases hlt : k < ws.length
    · obtain ⟨b, off, rfl, hx⟩ := hc k hlt
      have b1 : (k : Int) < (ws.length : Int) := by omega
      have HL := hid (HW.out k hlt)
      replace hx := (hnb.trans hn).cell hx
      replace hb0 := hn.cell hb0
      replace hb1 := hn.cell hb1
      clear hc
      have HT := hid (prun_take a.nx F ws k hlt)
      rw [he.out] at HT
      have hg := prun_lt HA.out ws HW.out F HF.out k hk g he.out
      have C := Pstep_any _ a g (nth ws k) wr (h1.new (hnb.trans hn)) HA.out HL.out hg
      have HT2 := hid (show prun a.nx F (ws.take (k + 1)) = pstep (nth a.nx (nth ws k).toNat) g from HT.out)
      clear HT
      cases hq : pstep (nth a.nx (nth ws k).toNat) g with
      | none =>
        rw [hq] at C HT2
        have HQ := hid (prun_none _ _ _ (k + 1) hlt HT2.out)
        clear hq
        go_wp2_with fail
        refine C.mono ?_
        rintro e w1 ⟨rfl, hn1⟩
        go_wp2
        go_ret2
        exact ⟨by rw [HQ.out]; rfl, (by repeat (first | with_reducible exact New.refl _ | with_reducible assumption | with_reducible refine New.alloc ?_ _ | with_reducible refine New.drewN ?_ _ | with_reducible refine New.drew ?_ | with_reducible refine New.trans ?_ (by with_reducible assumption)))⟩
      | some g2 =>
        rw [hq] at C HT2
        clear hq
        go_wp2_with fail
        refine C.mono ?_
        rintro e w1 ⟨rfl, hn1⟩
        go_wp2
        go_roundw
        case rel => exact ⟨k + 1, g2, by omega, by go_num, rfl, HT2.out, (by repeat (first | with_reducible exact New.refl _ | with_reducible assumption | with_reducible refine New.alloc ?_ _ | with_reducible refine New.drewN ?_ _ | with_reducible refine New.drew ?_ | with_reducible refine New.trans ?_ (by with_reducible assumption)))⟩
        case measure => simp [intOf]; omega
    · have e : k = ws.length := by omega
      subst e
      have e2 := he.out
      rw [List.take_length] at e2
      have HE := hid e2
      clear e2
      go_wp2
      go_ret2
      exact ⟨by rw [HE.out]; rfl, (by repeat (first | with_reducible exact New.refl _ | with_reducible assumption | with_reducible refine New.alloc ?_ _ | with_reducible refine New.drewN ?_ _ | with_reducible refine New.drew ?_ | with_reducible refine New.trans ?_ (by with_reducible assumption)))⟩

end Go.Proofs.Ytaaaeekdfmfooaa
