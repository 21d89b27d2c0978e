/- The program's automata with choices, and where words lead in them. -/
import Derived.Test.YtoeckejcmojeaaaRows
import Derived.Test.YtoeckejcmojeaaaCore
import Derived.Test.YtoeckejcmojeaaaArrs
import Derived.Test.YtoeckejcmojeaaaMaps
import Derived.Test.YtoeckejcmojeaaaPlains
import Derived.Test.YtoeckejcmojeaaaInfos
import Derived.Test.YtoeckejcmojeaaaPlainCho
import Derived.Test.YtoeckejcmojeaaaIBase
import Derived.Test.YtoeckejcmojeaaaI04a
import Derived.Test.YtoeckejcmojeaaaITours
import Derived.Test.YtoeckejcmojeaaaSCho
import Derived.WalkKit
import Derived.WalkSpells
import Derived.WalkLawsBesides
import Derived.Deep.QuietTactic
import Derived.Deep.OwnRows
import Derived.BigQuiet
import Derived.KernelRfl
import Derived.Carry
import Derived.Deep.RegionHeld3
import Derived.Deep.RegionLaw
namespace Go.Proofs.Ytoeckejcmojeaaa
open Go.RowKit

set_option maxHeartbeats 400000 in
theorem IndexFuncCube_any (v : Value) (xss : List (List (List Int))) (k : Nat) (cap : Array Value) (p : List (List Int) → Bool) (w : World) (h : CubeAt w v xss)
    (hent : ∀ args w, Sem.run Try.prog (callFunc k args) w = .ok (.enter k args) w)
    (hf : ∀ w', New w w' → ∀ i, i < xss.length → ∀ rv, RowsAt w' rv (nth xss i) → Calls Try.prog k (#[rv] ++ cap) w' fun e w'' => e = .returned (.bool (p (nth xss i))) ∧ New w' w'') :
    Calls Try.prog 147 #[v, .func (.func k) #[] cap] w fun e w' => e = .returned (.int .i64 (idxOf p xss)) ∧ New w w' := by
  obtain ⟨A, c, rfl, hl, hc⟩ := h
  have HF := hid hf
  clear hf
  go_enter Try.func147, Try.ntmps147
  go_wp2
  go_loopw [8] (fun i wr => ∃ j : Nat, j ≤ xss.length ∧ i = .int .i64 j ∧ Hid (∀ i, i < j → p (nth xss i) = false) ∧ New w wr) (fun i _ => xss.length - (intOf i).toNat)
  case atStart => exact ⟨0, Nat.zero_le _, rfl, fun j hj => absurd hj (by omega), New.refl _⟩
  case round =>
    obtain ⟨j, hj, rfl, he, hw⟩ := hrel
    by_cases hlt : j < xss.length
    · obtain ⟨b, off, rv, rfl, hx, hr⟩ := hc j hlt
      have b1 : (j : Int) < (xss.length : Int) := by omega
      replace hx := hw.cell hx
      replace hr := hr.new hw
      clear hc
      by_cases hq : p (nth xss j) = true
      · go_wp2_with (refine (HF.out _ hw j hlt _ hr).mono ?_; rintro e w1 ⟨rfl, hn1⟩)
        go_ret
        exact ⟨ret_int (idxOf_hit p xss j hlt hq he.out).symm, hw.trans hn1⟩
      · have hq' : p (nth xss j) = false := by simpa using hq
        clear hq
        go_wp2_with (refine (HF.out _ hw j hlt _ hr).mono ?_; rintro e w1 ⟨rfl, hn1⟩)
        go_roundw
        case rel => exact ⟨j + 1, by omega, by go_num, fun i hi => by
            rcases Nat.lt_succ_iff_lt_or_eq.1 hi with h | h
            · exact he.out i h
            · subst h; exact hq', hw.trans hn1⟩
        case measure => simp [intOf]; omega
    · have e : j = xss.length := by omega
      subst e
      go_wp2
      go_ret
      exact ⟨ret_int (idxOf_none p xss he.out).symm, hw⟩
set_option maxHeartbeats 400000 in
theorem ContainsFuncCube_any (v : Value) (xss : List (List (List Int))) (k : Nat) (cap : Array Value) (p : List (List Int) → Bool) (w : World) (h : CubeAt w v xss)
    (hent : ∀ args w, Sem.run Try.prog (callFunc k args) w = .ok (.enter k args) w)
    (hf : ∀ w', New w w' → ∀ i, i < xss.length → ∀ rv, RowsAt w' rv (nth xss i) → Calls Try.prog k (#[rv] ++ cap) w' fun e w'' => e = .returned (.bool (p (nth xss i))) ∧ New w' w'') :
    Calls Try.prog 110 #[v, .func (.func k) #[] cap] w fun e w' => e = .returned (.bool (xss.any p)) ∧ New w w' := by
  have HF := hid hf
  clear hf
  go_enter Try.func110, Try.ntmps110
  go_wp2_with (go_at_call 147; refine (IndexFuncCube_any v xss k cap p w h hent HF.out).mono ?_; rintro e w1 ⟨rfl, hn1⟩)
  go_ret
  exact ⟨ret_bool (idxOf_any p xss), hn1⟩

set_option maxHeartbeats 400000 in
theorem sizeCube_any (A : Option Addr) (n c : Nat) (w : World) (_h : n ≤ 9223372036854775807) :
    Calls Try.prog 114 #[.slice A n c] w fun e w' => e = .returned (.int .i64 n) ∧ w' = w := by
  go_enter Try.func114, Try.ntmps114
  go_wp2
  go_ret
  exact ⟨rfl, rfl⟩
set_option maxHeartbeats 400000 in
theorem Cletters_any (v : Value) (a : Cho) (w : World) (h : ChoAt w v a) :
    Calls Try.prog 60 #[v] w fun e w' => e = .returned (.int .i64 a.nx.length) ∧ New w w' := by
  obtain ⟨rv, rfl, hr⟩ := h
  obtain ⟨A, c, rfl⟩ := hr.form
  have hl := hr.len
  go_enter Try.func60, Try.ntmps60
  go_wp2_with (go_at_call 114; refine (sizeCube_any _ _ _ _ hl).mono ?_; rintro e w' ⟨rfl, rfl⟩)
  go_ret
  exact ⟨rfl, (by repeat (first | with_reducible exact New.refl _ | with_reducible assumption | with_reducible refine New.alloc ?_ _ | with_reducible refine New.drew ?_ | with_reducible refine New.drewN ?_ _ | with_reducible refine New.setCell ?_ (by simp <;> omega) _))⟩
set_option maxHeartbeats 400000 in
theorem ValidChoice11_any (v : Value) (xs : List Int) (p : Value) (a : Cho) (w : World) (h : IntsAt w v xs) (hp : PCho w p a) (h0 : 0 ≤ a.n) (h1 : a.n ≤ 1048576) :
    Calls Try.prog 113 #[v, p] w fun e w' => e = .returned (.bool (!setB xs a.n)) ∧ New w w' := by
  obtain ⟨pb, rv, rfl, hp0, hp1, hpr⟩ := hp
  obtain ⟨A, c, rfl⟩ := h.form
  go_enter Try.func113, Try.ntmps113
  go_wp2_with (go_at_call 62; refine (isSet_any _ xs a.n _ h h0 h1).mono ?_; rintro e w' ⟨rfl, rfl⟩)
  go_ret
  exact ⟨rfl, (by repeat (first | with_reducible exact New.refl _ | with_reducible assumption | with_reducible refine New.alloc ?_ _ | with_reducible refine New.drew ?_ | with_reducible refine New.drewN ?_ _ | with_reducible refine New.setCell ?_ (by simp <;> omega) _))⟩
set_option maxHeartbeats 400000 in
theorem ValidChoice1_any (v : Value) (xs : List (List Int)) (p : Value) (a : Cho) (w : World) (h : RowsAt w v xs) (hp : PCho w p a) (h0 : 0 ≤ a.n) (h1 : a.n ≤ 1048576) :
    Calls Try.prog 111 #[v, p] w fun e w' => e = .returned (.bool (!choRow xs a.n)) ∧ New w w' := by
  have hp' := hp
  obtain ⟨pb, rv, rfl, hp0, hp1, hpr⟩ := hp
  obtain ⟨A, c, rfl⟩ := h.form
  have hl := h.len
  have hx0 := ext_cell hp0
  have C := fun e => ContainsFuncRows_any _ xs 113 #[.pointer (some ⟨pb, 0, none⟩)] (fun x => !setB x a.n) (ext w e) (h.new (ext_new _ _))
        (enters Try.func113 (by decide) (by simp [Try.f113])) fun w' hw i hi rv hrv => ValidChoice11_any _ _ _ a _ hrv (hp'.new ((ext_new _ _).trans hw)) h0 h1
  by_cases hlen : (xs.length : Int) = a.n
  · have hb : ((xs.length : Int) != a.n) = false := by simp [hlen]
    have HL := hid hlen
    clear hlen
    go_enter Try.func111, Try.ntmps111
    go_wp2_with fail
    refine wp_region_quiet_new (by kernel_rfl) (by kernel_rfl) ?_; (repeat (go_big_quiet_step ((first | (go_at_call 112; exact quiet_same (sizeRows_any _ _ _ _ hl)) | (go_at_call 97; exact quiet_new (C _)))))); refine wpQuiet_nil ?_; intro wq hq; have hnq := new_of_ext hq; clear hq
    go_wp2
    go_ret
    refine ⟨ret_bool ?_, hnq⟩
    unfold choRow setsOk
    rw [decide_eq_true HL.out, Bool.true_and, List.not_all_eq_any_not]
  · have hb : ((xs.length : Int) != a.n) = true := by simp [hlen]
    go_enter Try.func111, Try.ntmps111
    go_wp2_with fail
    refine wp_region_quiet_new (by kernel_rfl) (by kernel_rfl) ?_; (repeat (go_big_quiet_step ((first | (go_at_call 112; exact quiet_same (sizeRows_any _ _ _ _ hl)) | (go_at_call 97; exact quiet_new (C _)))))); refine wpQuiet_nil ?_; intro wq hq; have hnq := new_of_ext hq; clear hq
    go_wp2
    go_ret
    refine ⟨ret_bool ?_, hnq⟩
    simp [choRow, hlen]
set_option maxHeartbeats 400000 in
theorem ValidChoice_any (v : Value) (a : Cho) (w : World) (h : ChoAt w v a) :
    Calls Try.prog 59 #[v] w fun e w' => e = .returned (.bool (choOk a)) ∧ New w w' := by
  obtain ⟨rv, rfl, hr⟩ := h
  obtain ⟨A, c, rfl⟩ := hr.form
  have hl := hr.len
  have hn0 : New w (w.alloc (.cells #[.int .i64 a.n, .slice A a.nx.length c] 39)) := (by repeat (first | with_reducible exact New.refl _ | with_reducible assumption | with_reducible refine New.alloc ?_ _ | with_reducible refine New.drew ?_ | with_reducible refine New.drewN ?_ _ | with_reducible refine New.setCell ?_ (by simp <;> omega) _))
  have hp := PCho.box hr 39
  by_cases h1 : inB a.n 1 10 = true
  · have h1' := (inB_iff _ _ _).1 h1
    have h3 : 0 ≤ a.n := by omega
    have h4 : a.n ≤ 1048576 := by omega
    clear h1'
    by_cases h2 : inB (a.nx.length : Int) 1 3 = true
    · go_enter Try.func59, Try.ntmps59
      go_wp2_with fail
      refine (within_any _ _ _ _).mono ?_
      rintro e w' ⟨rfl, rfl⟩
      go_wp2_with fail
      refine (Cletters_any _ a _ ⟨_, rfl, hr.new hn0⟩).mono ?_
      rintro e w1 ⟨rfl, hn1⟩
      obtain ⟨hc_hn1, hf_hn1⟩ := New.both hn1; have hz_hn1 := New.size hn1; try simp only [sizes] at hz_hn1
      go_wp2_with fail
      refine (within_any _ _ _ _).mono ?_
      rintro e w' ⟨rfl, rfl⟩
      go_wp2_with fail
      refine (ContainsFuncCube_any _ a.nx 111 #[.pointer (some ⟨w.heap.size, 0, none⟩)] (fun xs => !choRow xs a.n) _ (hr.new (hn0.trans hn1))
        (enters Try.func111 (by decide) (by simp [Try.f111])) fun w' hw i hi rv hrv => ValidChoice1_any _ _ _ a _ hrv (hp.new (hn1.trans hw)) h3 h4).mono ?_
      rintro e w2 ⟨rfl, hn2⟩
      go_wp2_with fail
      go_ret
      refine ⟨ret_bool ?_, (hn0.trans hn1).trans hn2⟩
      unfold choOk choRows; rw [h1, h2, List.not_any_eq_all_not]; simp
    · have h2' : inB (a.nx.length : Int) 1 3 = false := by simpa using h2
      clear h2
      go_enter Try.func59, Try.ntmps59
      go_wp2_with fail
      refine (within_any _ _ _ _).mono ?_
      rintro e w' ⟨rfl, rfl⟩
      go_wp2_with fail
      refine (Cletters_any _ a _ ⟨_, rfl, hr.new hn0⟩).mono ?_
      rintro e w1 ⟨rfl, hn1⟩
      obtain ⟨hc_hn1, hf_hn1⟩ := New.both hn1; have hz_hn1 := New.size hn1; try simp only [sizes] at hz_hn1
      go_wp2_with fail
      refine (within_any _ _ _ _).mono ?_
      rintro e w' ⟨rfl, rfl⟩
      go_wp2_with fail
      go_ret
      exact ⟨ret_bool (by unfold choOk; rw [h1, h2']; rfl), hn0.trans hn1⟩
  · have h1' : inB a.n 1 10 = false := by simpa using h1
    clear h1
    go_enter Try.func59, Try.ntmps59
    go_wp2_with (go_at_call 95; refine (within_any _ _ _ _).mono ?_; rintro e w' ⟨rfl, rfl⟩)
    go_ret
    exact ⟨ret_bool (by unfold choOk; rw [h1']; rfl), hn0⟩
set_option maxHeartbeats 400000 in
theorem CisWord_any (v1 v2 : Value) (a : Cho) (ws : List Int) (w : World) (h1 : ChoAt w v1 a) (h2 : IntsAt w v2 ws) :
    Calls Try.prog 63 #[v1, v2] w fun e w' => e = .returned (.bool (wordOk a.shape ws)) ∧ New w w' := by
  obtain ⟨rv, rfl, hr⟩ := h1
  obtain ⟨A, c, rfl⟩ := hr.form
  obtain ⟨A2, c2, rfl⟩ := h2.form
  have hl := hr.len
  have hl2 := h2.len
  have hn0 : New w (w.alloc (.cells #[.int .i64 a.n, .slice A a.nx.length c] 39)) := (by repeat (first | with_reducible exact New.refl _ | with_reducible assumption | with_reducible refine New.alloc ?_ _ | with_reducible refine New.drew ?_ | with_reducible refine New.drewN ?_ _ | with_reducible refine New.setCell ?_ (by simp <;> omega) _))
  by_cases h : ws.length ≤ 400
  · go_enter Try.func63, Try.ntmps63
    go_wp2_with fail
    refine (Cletters_any _ a _ ⟨_, rfl, hr.new hn0⟩).mono ?_
    rintro e w1 ⟨rfl, hn1⟩
    go_wp2_with fail
    refine (areWithin_any _ _ _ _ _ (h2.new (hn0.trans hn1))).mono ?_
    rintro e w2 ⟨rfl, hn2⟩
    go_wp2_with fail
    go_ret
    exact ⟨ret_bool (by simp [wordOk, h, Cho.shape]), (hn0.trans hn1).trans hn2⟩
  · have h' : decide (ws.length ≤ 400) = false := by simpa using h
    go_enter Try.func63, Try.ntmps63
    go_wp2_with fail
    go_ret
    exact ⟨ret_bool (by simp [wordOk, h, Cho.shape]), hn0⟩
set_option maxHeartbeats 1000000 in
theorem Cstep_any (v1 : Value) (a : Cho) (F : Nat) (l : Int) (w : World) (h1 : ChoAt w v1 a) (ha : choOk a = true) (hl : 0 ≤ l ∧ l < a.nx.length) (hF : F < 2 ^ a.n.toNat) :
    Calls Try.prog 115 #[v1, .int .u64 F, .int .i64 l] w fun e w' => e = .returned (.int .u64 (choMove (nth a.nx l.toNat) F : Nat)) ∧ New w w' := by
  obtain ⟨rv, rfl, hr⟩ := h1
  obtain ⟨A2, c2, rfl, hl2, hc2⟩ := hr
  obtain ⟨b2, off2, rv, rfl, hx2, hr2⟩ := hc2 l.toNat (by omega)
  obtain ⟨A3, c3, rfl, hl3, hc3⟩ := hr2
  obtain ⟨⟨n1, n2⟩, _, hrows⟩ := choOk_parts ha
  obtain ⟨h1, h2⟩ := hrows l.toNat (by omega)
  have hF10 : F < 1024 := lt_10 hF (by omega)
  have HB := hid (fun s (hs : s < a.n.toNat) => cho_orB ha l.toNat s (by omega) hs)
  obtain ⟨l0, l1⟩ := hl
  have hmem : ∀ i, i < (setOf F).length → 0 ≤ nth (setOf F) i ∧ nth (setOf F) i < a.n := fun i hi => by
    have := (mem_bitsTo F a.n.toNat (nth (setOf F) i)).1 (by rw [← setOf_eq hF (by omega)]; exact nth_mem (setOf F) i hi)
    omega
  have hn10 : a.n.toNat ≤ 10 := by omega
  have hrow : ∀ i, i < (setOf F).length → orB (nth (nth a.nx l.toNat) (nth (setOf F) i).toNat) < 1024 := fun i hi => by
    have := hmem i hi
    exact Nat.lt_of_lt_of_le (HB.out (nth (setOf F) i).toNat (by omega)) (pow10' _ hn10)
  have hlen := bitsTo_len F 10
  have HM := hid hmem
  have HR := hid hrow
  have HS := hid h2
  have HL := hid (show (setOf F).length ≤ 10 from hlen)
  have HOUT := hid (show choMove (nth a.nx l.toNat) F = orsB ((setOf F).map fun s => orB (nth (nth a.nx l.toNat) s.toNat)) from choB_list _ _ _)
  clear hc2 h2 hmem hrow hlen hF hrows
  go_enter Try.func115, Try.ntmps115
  go_wp2_with fail
  refine (set_any F _ hF10).mono ?_
  rintro e w1 ⟨r, he, hn1, ho⟩
  obtain ⟨A, c, rfl, hl, _, hc⟩ := ho
  subst he
  have hn : New w w1 := (by repeat (first | with_reducible exact New.refl _ | with_reducible assumption | with_reducible refine New.alloc ?_ _ | with_reducible refine New.drewN ?_ _ | with_reducible refine New.drew ?_ | with_reducible refine New.trans ?_ (by with_reducible assumption)))
  have hp1 : w1.cell? ⟨w.heap.size, 1, none⟩ = some (.slice (some ⟨b2, off2, none⟩) a.nx.length c2) := hn1.cell (by go_simp)
  replace hx2 := hn.cell hx2
  have HC3 := hid hc3
  clear hc3
  go_wp2
  go_loop [7, 13] (fun q i => ∃ k : Nat, k ≤ (setOf F).length ∧ i = .int .i64 k ∧ q = .int .u64 (orsB (((setOf F).map fun s => orB (nth (nth a.nx l.toNat) s.toNat)).take k))) (fun _ i => (setOf F).length - (intOf i).toNat)
  case atStart => exact ⟨0, Nat.zero_le _, rfl, rfl⟩
  case round =>
    obtain ⟨k, hk, rfl, rfl⟩ := hrel
    by_cases hlt : k < (setOf F).length
    · obtain ⟨b, off, rfl, hx, _⟩ := hc k hlt
      have b1 : (k : Int) < ((setOf F).length : Int) := by omega
      obtain ⟨m0, m1⟩ := HM.out k hlt
      have x1 := HR.out k hlt
      obtain ⟨b3, off3, rv3, rfl, hx3, hr3⟩ := HC3.out (nth (setOf F) k).toNat (by omega)
      obtain ⟨A4, c4, rfl⟩ := hr3.form
      replace hx3 := hn.cell hx3
      replace hr3 := hr3.new hn
      have k3 : nth (setOf F) k < ((nth a.nx l.toNat).length : Int) := by omega
      have hL := HL.out
      have C := flockOf_any _ (nth (nth a.nx l.toNat) (nth (setOf F) k).toNat) w1 hr3 (fun i hi => by have := setB_in (HS.out (nth (setOf F) k).toNat (by omega)) i hi; omega)
      have X1 := hid x1
      clear hc x1
      go_wp2_with (go_at_call 61; refine C.mono ?_; rintro e w' ⟨rfl, rfl⟩)
      go_round
      case rel => exact ⟨k + 1, by omega, by go_num, by
          have e1 : nth ((setOf F).map fun s => orB (nth (nth a.nx l.toNat) s.toNat)) k = orB (nth (nth a.nx l.toNat) (nth (setOf F) k).toNat) := nth_map _ _ _ hlt
          have hlt2 : orsB (((setOf F).map fun s => orB (nth (nth a.nx l.toNat) s.toNat)).take k) < 1024 := orsB_lt _ 10 fun x hx => by
            obtain ⟨s, hs, rfl⟩ := List.mem_map.1 (List.mem_of_mem_take hx)
            obtain ⟨i, hi, rfl⟩ := mem_nth _ s hs
            exact HR.out i hi
          rw [orsB_take _ k (by simpa using hlt), e1, u64_or_nat _ _ (by omega) (by have := X1.out; omega)]⟩
      case measure => simp [intOf]; omega
    · have e : k = (setOf F).length := by omega
      subst e
      go_wp2
      go_ret
      have e2 : ((setOf F).map fun s => orB (nth (nth a.nx l.toNat) s.toNat)).take (setOf F).length = (setOf F).map fun s => orB (nth (nth a.nx l.toNat) s.toNat) := by
        rw [List.take_of_length_le (by simp)]
      exact ⟨by rw [e2, HOUT.out]; rfl, hn⟩
set_option maxHeartbeats 1000000 in
theorem Creach_any (v1 v : Value) (a : Cho) (F : Nat) (ws : List Int) (w : World) (h1 : ChoAt w v1 a) (h : IntsAt w v ws) (ha : choOk a = true) (hw : ∀ i, i < ws.length → 0 ≤ nth ws i ∧ nth ws i < a.nx.length) (hF : F < 2 ^ a.n.toNat) :
    Calls Try.prog 64 #[v1, .int .u64 F, v] w fun e w' => e = .returned (.int .u64 (choRun a.nx F ws : Nat)) ∧ New w w' := by
  obtain ⟨rv, rfl, hr⟩ := h1
  obtain ⟨A2, c2, rfl⟩ := hr.form
  obtain ⟨A, c, rfl, hl, hc⟩ := h
  have h1 : ChoAt w (.agg #[.int .i64 a.n, .slice A2 a.nx.length c2]) a := ⟨_, rfl, hr⟩
  have HA := hid ha
  have HW := hid hw
  have HF := hid hF
  clear ha hw hF
  obtain ⟨wb, hwb⟩ : ∃ wb, wb = w.alloc (.cells #[.int .i64 a.n, .slice A2 a.nx.length c2] 39) := ⟨_, rfl⟩
  have hnb : New w wb := by rw [hwb]; exact (by repeat (first | with_reducible exact New.refl _ | with_reducible assumption | with_reducible refine New.alloc ?_ _ | with_reducible refine New.drew ?_ | with_reducible refine New.drewN ?_ _ | with_reducible refine New.setCell ?_ (by simp <;> omega) _))
  have hb0 : wb.cell? ⟨w.heap.size, 0, none⟩ = some (.int .i64 a.n) := by rw [hwb]; go_simp
  have hb1 : wb.cell? ⟨w.heap.size, 1, none⟩ = some (.slice A2 a.nx.length c2) := by rw [hwb]; go_simp
  go_enter Try.func64, Try.ntmps64
  go_wp2
  rw [← hwb]
  go_loopw [1, 11] (fun q i wr => ∃ k : Nat, k ≤ ws.length ∧ i = .int .i64 k ∧ q = .int .u64 (choRun a.nx F (ws.take k) : Nat) ∧ New wb wr) (fun _ i _ => ws.length - (intOf i).toNat)
  case atStart => exact ⟨0, Nat.zero_le _, rfl, rfl, New.refl _⟩
  case round =>
    obtain ⟨k, hk, rfl, rfl, hn⟩ := hrel
    clear hwb
    by_cases hlt : k < ws.length
    · obtain ⟨b, off, rfl, hx⟩ := hc k hlt
      have b1 : (k : Int) < (ws.length : Int) := by omega
      have HLt := hid (HW.out k hlt)
      replace hx := (hnb.trans hn).cell hx
      replace hb0 := hn.cell hb0
      replace hb1 := hn.cell hb1
      clear hc
      have HT := hid (choRun_take a.nx F ws k hlt)
      have hg := choRun_lt HA.out ws HW.out F HF.out k hk
      have C := Cstep_any _ a _ (nth ws k) wr (h1.new (hnb.trans hn)) HA.out HLt.out hg
      clear hg
      go_wp2_with fail
      refine C.mono ?_
      rintro e w1 ⟨rfl, hn1⟩
      go_wp2
      go_roundw
      case rel => exact ⟨k + 1, by omega, by go_num, by rw [HT.out], (by repeat (first | with_reducible exact New.refl _ | with_reducible assumption | with_reducible refine New.alloc ?_ _ | with_reducible refine New.drewN ?_ _ | with_reducible refine New.drew ?_ | with_reducible refine New.trans ?_ (by with_reducible assumption)))⟩
      case measure => simp [intOf]; omega
    · have e : k = ws.length := by omega
      subst e
      go_wp2
      go_ret
      exact ⟨by simp, (by repeat (first | with_reducible exact New.refl _ | with_reducible assumption | with_reducible refine New.alloc ?_ _ | with_reducible refine New.drewN ?_ _ | with_reducible refine New.drew ?_ | with_reducible refine New.trans ?_ (by with_reducible assumption)))⟩
set_option maxHeartbeats 1000000 in
theorem implReachBy_any (v1 v2 v3 : Value) (a : Cho) (set ws : List Int) (w : World) (h1 : ChoAt w v1 a) (h2 : IntsAt w v2 set) (h3 : IntsAt w v3 ws) :
    Calls Try.prog 21 #[v1, v2, v3] w fun e w' => ∃ r, e = .returned (.tuple #[r, .int .i64 (ReachBy a set ws).2]) ∧ New w w' ∧ OwnInts w.heap.size w'.heap.size w' r (ReachBy a set ws).1 := by
  obtain ⟨rv, rfl, hr⟩ := h1
  obtain ⟨A, c, rfl⟩ := hr.form
  have h1 : ChoAt w (.agg #[.int .i64 a.n, .slice A a.nx.length c]) a := ⟨_, rfl, hr⟩
  obtain ⟨wb, hwb⟩ : ∃ wb, wb = w.alloc (.cells #[.int .i64 a.n, .slice A a.nx.length c] 39) := ⟨_, rfl⟩
  have hnb : New w wb := by rw [hwb]; exact (by repeat (first | with_reducible exact New.refl _ | with_reducible assumption | with_reducible refine New.alloc ?_ _ | with_reducible refine New.drew ?_ | with_reducible refine New.drewN ?_ _ | with_reducible refine New.setCell ?_ (by simp <;> omega) _))
  have hzb : wb.heap.size = w.heap.size + 1 := by rw [hwb]; simp only [size_alloc]
  have hb0 : wb.cell? ⟨w.heap.size, 0, none⟩ = some (.int .i64 a.n) := by rw [hwb]; go_simp
  have hb1 : wb.cell? ⟨w.heap.size, 1, none⟩ = some (.slice A a.nx.length c) := by rw [hwb]; go_simp
  obtain ⟨R, hR⟩ : ∃ R, R = ReachBy a set ws := ⟨_, rfl⟩
  rw [← hR]
  unfold ReachBy at hR
  have HR := hid hR
  clear hR
  have C1 := ValidChoice_any _ a _ (h1.new hnb)
  have C2 := fun w1 (hm : New w w1) => CisWord_any _ _ a ws w1 (h1.new hm) (h3.new hm)
  cases ha : choOk a with
  | false =>
    rw [ha] at C1
    have e : R = ([], 1) := by rw [HR.out, ha]; rfl
    go_enter Try.func21, Try.ntmps21
    go_wp2_with fail
    rw [← hwb]
    refine C1.mono ?_
    rintro e w1 ⟨rfl, hn1⟩
    have hz1 := hn1.size
    go_wp2
    go_ret2
    rw [e]
    exact ⟨_, rfl, (by repeat (first | with_reducible exact New.refl _ | with_reducible assumption | with_reducible refine New.alloc ?_ _ | with_reducible refine New.drewN ?_ _ | with_reducible refine New.drew ?_ | with_reducible refine New.trans ?_ (by with_reducible assumption))), OwnInts.nil _ _ _⟩
  | true =>
    rw [ha] at C1
    obtain ⟨⟨n1, n2⟩, _, _⟩ := choOk_parts ha
    have C3 := fun w1 (hm : New w w1) => isSet_any _ set a.n w1 (h2.new hm) (by omega) (by omega)
    have HA := hid ha
    clear ha
    go_enter Try.func21, Try.ntmps21
    go_wp2_with fail
    rw [← hwb]
    refine C1.mono ?_
    rintro e w1 ⟨rfl, hn1⟩
    have hz1 := hn1.size
    replace hb0 := hn1.cell hb0
    replace hb1 := hn1.cell hb1
    cases hs : setB set a.n with
    | false =>
      simp only [hs] at C3
      have e : R = ([], 2) := by rw [HR.out, HA.out, hs]; rfl
      go_wp2_with fail
      refine (C3 _ (by repeat (first | with_reducible exact New.refl _ | with_reducible assumption | with_reducible refine New.alloc ?_ _ | with_reducible refine New.drewN ?_ _ | with_reducible refine New.drew ?_ | with_reducible refine New.trans ?_ (by with_reducible assumption)))).mono ?_
      rintro e w' ⟨rfl, rfl⟩
      go_wp2_with fail
      go_ret2
      rw [e]
      exact ⟨_, rfl, (by repeat (first | with_reducible exact New.refl _ | with_reducible assumption | with_reducible refine New.alloc ?_ _ | with_reducible refine New.drewN ?_ _ | with_reducible refine New.drew ?_ | with_reducible refine New.trans ?_ (by with_reducible assumption))), OwnInts.nil _ _ _⟩
    | true =>
      simp only [hs] at C3
      cases hw : wordOk a.shape ws with
      | false =>
        simp only [hw] at C2
        have e : R = ([], 2) := by rw [HR.out, HA.out, hs, hw]; rfl
        go_wp2_with fail
        refine (C3 _ (by repeat (first | with_reducible exact New.refl _ | with_reducible assumption | with_reducible refine New.alloc ?_ _ | with_reducible refine New.drewN ?_ _ | with_reducible refine New.drew ?_ | with_reducible refine New.trans ?_ (by with_reducible assumption)))).mono ?_
        rintro e w' ⟨rfl, rfl⟩
        go_wp2_with fail
        refine (C2 _ (by repeat (first | with_reducible exact New.refl _ | with_reducible assumption | with_reducible refine New.alloc ?_ _ | with_reducible refine New.drewN ?_ _ | with_reducible refine New.drew ?_ | with_reducible refine New.trans ?_ (by with_reducible assumption)))).mono ?_
        rintro e w4 ⟨rfl, hn4⟩
        have hz4 := hn4.size
        go_wp2_with fail
        go_ret2
        rw [e]
        exact ⟨_, rfl, (by repeat (first | with_reducible exact New.refl _ | with_reducible assumption | with_reducible refine New.alloc ?_ _ | with_reducible refine New.drewN ?_ _ | with_reducible refine New.drew ?_ | with_reducible refine New.trans ?_ (by with_reducible assumption))), OwnInts.nil _ _ _⟩
      | true =>
        simp only [hw] at C2
        have hs10 : ∀ i, i < set.length → 0 ≤ nth set i ∧ nth set i < 10 := fun i hi => by have := setB_in hs i hi; omega
        have hfl : orB set < 2 ^ a.n.toNat := orB_lt _ _ fun x hx => by
          obtain ⟨i, hi, rfl⟩ := mem_nth _ x hx
          have := setB_in hs i hi; omega
        have hlet : ∀ i, i < ws.length → 0 ≤ nth ws i ∧ nth ws i < a.nx.length := fun i hi => by
          have := ((wordOk_iff _ _).1 hw).2 i hi
          simpa [Cho.shape] using this
        have hg : choRun a.nx (orB set) ws < 1024 := by
          have := choRun_lt HA.out ws hlet _ hfl ws.length (Nat.le_refl _)
          rw [List.take_length] at this
          exact lt_10 this (by omega)
        have HG := hid hg
        have HC4 := hid (fun w1 (hm : New w w1) => flockOf_any _ set w1 (h2.new hm) hs10)
        have HC5 := hid (fun w1 (hm : New w w1) => Creach_any _ _ a (orB set) ws w1 (h1.new hm) (h3.new hm) HA.out hlet hfl)
        have HE := hid (show R = (setOf (choRun a.nx (orB set) ws), 0) by rw [HR.out, HA.out, hs, hw]; rfl)
        clear hg hfl hs10 hlet
        go_wp2_with fail
        refine (C3 _ (by repeat (first | with_reducible exact New.refl _ | with_reducible assumption | with_reducible refine New.alloc ?_ _ | with_reducible refine New.drewN ?_ _ | with_reducible refine New.drew ?_ | with_reducible refine New.trans ?_ (by with_reducible assumption)))).mono ?_
        rintro e w' ⟨rfl, rfl⟩
        go_wp2_with fail
        refine (C2 _ (by repeat (first | with_reducible exact New.refl _ | with_reducible assumption | with_reducible refine New.alloc ?_ _ | with_reducible refine New.drewN ?_ _ | with_reducible refine New.drew ?_ | with_reducible refine New.trans ?_ (by with_reducible assumption)))).mono ?_
        rintro e w2 ⟨rfl, hn2⟩
        have hz2 := hn2.size
        replace hb0 := hn2.cell hb0
        replace hb1 := hn2.cell hb1
        go_wp2_with fail
        go_region_held3 (fun w' => w'.cell? ⟨w.heap.size, 0, none⟩ = some (.int .i64 a.n) ∧ w'.cell? ⟨w.heap.size, 1, none⟩ = some (.slice A a.nx.length c))
            (first | go_keep | exact ⟨hn4.cell hb0, hn4.cell hb1⟩ | exact ⟨hn5.cell (hn4.cell hb0), hn5.cell (hn4.cell hb1)⟩)
            (first
              | (go_at_call 61; refine (HC4.out _ (by repeat (first | with_reducible exact New.refl _ | with_reducible assumption | with_reducible refine New.alloc ?_ _ | with_reducible refine New.drewN ?_ _ | with_reducible refine New.drew ?_ | with_reducible refine New.trans ?_ (by with_reducible assumption)))).mono ?_; rintro e w3 ⟨rfl, rfl⟩)
              | (go_at_call 64; refine (HC5.out _ (by repeat (first | with_reducible exact New.refl _ | with_reducible assumption | with_reducible refine New.alloc ?_ _ | with_reducible refine New.drewN ?_ _ | with_reducible refine New.drew ?_ | with_reducible refine New.trans ?_ (by with_reducible assumption)))).mono ?_; rintro e w4 ⟨rfl, hq4⟩; have hn4 : New w2 w4 := New.trans (New.refl _).drew hq4)
              | (go_at_call 65; refine (set_any _ _ HG.out).mono ?_; rintro e w5 ⟨r, rfl, hn5, ho⟩))
        have hz4 := hn4.size
        have hz5 := hn5.size
        go_wp2
        go_ret2
        rw [HE.out]
        exact ⟨_, rfl, (by repeat (first | with_reducible exact New.refl _ | with_reducible assumption | with_reducible refine New.alloc ?_ _ | with_reducible refine New.drewN ?_ _ | with_reducible refine New.drew ?_ | with_reducible refine New.trans ?_ (by with_reducible assumption))), ho.widen (by (try simp only [sizes] at *) <;> omega) (Nat.le_refl _)⟩
set_option maxHeartbeats 400000 in
theorem isKind_any (n : Int) (w : World) :
    Calls Try.prog 66 #[.int .i64 n] w fun e w' => e = .returned (.bool (inB n 1 3)) ∧ w' = w := by
  go_enter Try.func66, Try.ntmps66
  go_wp2_with (go_at_call 95; refine (within_any _ _ _ _).mono ?_; rintro e w' ⟨rfl, rfl⟩)
  go_ret
  exact ⟨rfl, rfl⟩
theorem same_zero (xs : List Nat) : (xs.take 0).all (fun x => x == nth xs 0) = true := rfl
set_option maxRecDepth 20000 in
set_option maxHeartbeats 2000000 in
theorem directs_any (v : Value) (xs : List Nat) (kind : Int) (w : World) (h : NatsAt .u64 w v xs) (h0 : 0 < xs.length) (hlt : ∀ x, x ∈ xs → x < 1024) :
    Calls Try.prog 67 #[v, .int .i64 kind] w fun e w' => e = .returned (.bool (directB xs kind)) ∧ New w w' := by
  obtain ⟨A, c, rfl, hl, hc⟩ := h
  obtain ⟨b, off, rfl, hx0⟩ := hc 0 h0
  rw [Nat.add_zero] at hx0
  have hb0 : (0 : Int) < (xs.length : Int) := by omega
  have HC := hid (fun i (hi : i < xs.length) => show w.cell? ⟨b, off + i, none⟩ = some (.int .u64 (nth xs i : Nat)) by
    obtain ⟨b', off', e, hx⟩ := hc i hi
    cases e
    exact hx)
  have HL := hid (fun i (hi : i < xs.length) => hlt _ (nth_mem xs i hi))
  clear hc hlt
  go_enter Try.func67, Try.ntmps67
  go_wp2_with fail
  go_quiet (fail)
  have hn0 : New w (w.drewN nq) := (New.refl w).drewN nq
  replace hx0 := hn0.cell hx0
  have HC2 := hid (fun i (hi : i < xs.length) => hn0.cell (HC.out i hi))
  clear HC
  generalize w.drewN nq = ws at hn0 hx0 HC2 ⊢
  go_wp2
  go_loopw [5, 6, 14] (fun q m i wr => ∃ k : Nat, k ≤ xs.length ∧ i = .int .i64 k ∧ m = .int .u64 ((xs.take k).foldl (fun a x => a &&& x) (nth xs 0) : Nat) ∧ q = .bool ((xs.take k).all (fun x => x == nth xs 0)) ∧ New ws wr) (fun _ _ i _ => xs.length - (intOf i).toNat)
  case atStart => exact ⟨0, Nat.zero_le _, rfl, rfl, rfl, (by repeat (first | with_reducible exact New.refl _ | with_reducible assumption | with_reducible refine New.alloc ?_ _ | with_reducible refine New.drew ?_ | with_reducible refine New.drewN ?_ _ | with_reducible refine New.setCell ?_ (by simp <;> omega) _))⟩
  case round =>
    obtain ⟨k, hk, rfl, rfl, rfl, hn⟩ := hrel
    replace hx0 := hn.cell hx0
    by_cases hlt : k < xs.length
    · have b1 : (k : Int) < (xs.length : Int) := by omega
      have hx := hn.cell (HC2.out k hlt)
      have hM := meet_lt (xs.take k) (nth xs 0) (HL.out 0 h0)
      have hX := HL.out k hlt
      have HM := hid hM
      have HX := hid hX
      have HT := hid (same_take xs k hlt)
      clear hM hX
      cases hq : (xs.take k).all (fun x => x == nth xs 0) with
      | true =>
        have HQ := hid hq
        clear hq
        go_wp2
        go_roundw
        case rel => exact ⟨k + 1, by omega, by go_num, by rw [meet_take xs k hlt, u64_and_nat _ _ (by have := HM.out; omega) (by have := HX.out; omega)], by rw [HT.out, HQ.out, natBeq]; rfl, hn⟩
        case measure => simp [intOf]; omega
      | false =>
        have HQ := hid hq
        clear hq
        go_wp2
        go_roundw
        case rel => exact ⟨k + 1, by omega, by go_num, by rw [meet_take xs k hlt, u64_and_nat _ _ (by have := HM.out; omega) (by have := HX.out; omega)], by rw [HT.out, HQ.out]; rfl, hn⟩
        case measure => simp [intOf]; omega
    · have e : k = xs.length := by omega
      subst e
      rw [List.take_length]
      by_cases k1 : kind = 1
      · subst k1
        have e1 : directB xs 1 = ((xs.all fun x => x == nth xs 0) && (!(nth xs 0 == 0) && smallB (nth xs 0))) := by unfold directB; rfl
        have E1 := hid e1
        clear e1
        have C := fun w => isSmall_any (nth xs 0) w (HL.out 0 h0)
        cases hq : xs.all (fun x => x == nth xs 0) with
        | false =>
          have HQ := hid hq
          clear hq
          go_wp2
          go_ret
          exact ⟨ret_bool (by rw [E1.out, HQ.out]; rfl), hn0.trans hn⟩
        | true =>
          have hb := natBne0 (nth xs 0)
          have HQ := hid hq
          clear hq
          cases hz : (nth xs 0 == 0) with
          | true =>
            rw [hz] at hb
            have HZ := hid hz
            clear hz
            go_wp2
            go_ret
            exact ⟨ret_bool (by rw [E1.out, HQ.out, HZ.out]; rfl), hn0.trans hn⟩
          | false =>
            rw [hz] at hb
            have HZ := hid hz
            clear hz
            go_wp2_with (go_at_call 81; refine (C _).mono ?_; rintro e w' ⟨rfl, rfl⟩)
            go_ret
            exact ⟨ret_bool (by rw [E1.out, HQ.out, HZ.out]; rfl), hn0.trans hn⟩
      · by_cases k2 : kind = 2
        · subst k2
          have e1 : directB xs 2 = xs.all (fun x => x == nth xs 0) := by unfold directB; rfl
          have E1 := hid e1
          clear e1
          go_wp2
          go_ret
          exact ⟨ret_bool (by rw [E1.out]), hn0.trans hn⟩
        · have e1 : directB xs kind = !(xs.foldl (fun a x => a &&& x) (nth xs 0) == 0) := by unfold directB; rw [if_neg k1, if_neg k2]
          have b1 : (kind == 1) = false := by simp [k1]
          have b2 : (kind == 2) = false := by simp [k2]
          have hb := natBne0 (xs.foldl (fun a x => a &&& x) (nth xs 0))
          have E1 := hid e1
          have HB := hid hb
          clear e1 hb
          go_wp2
          go_ret
          exact ⟨ret_bool (by rw [E1.out, ← HB.out]), hn0.trans hn⟩

end Go.Proofs.Ytoeckejcmojeaaa
