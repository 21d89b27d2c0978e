/- The program's least congruence. -/
import Derived.Test.YtjchopnglcjnnaaRows
import Derived.Test.YtjchopnglcjnnaaBase
import Derived.Test.YtjchopnglcjnnaaAut
import Derived.Test.YtjchopnglcjnnaaApp
import Derived.Test.YtjchopnglcjnnaaAppRows
import Derived.Test.YtjchopnglcjnnaaInfo
import Derived.Test.YtjchopnglcjnnaaMapV
import Derived.Test.YtjchopnglcjnnaaPlain1
import Derived.Test.YtjchopnglcjnnaaPlainRun
import Derived.Test.YtjchopnglcjnnaaPlainSet
import Derived.Test.YtjchopnglcjnnaaPlainRen
import Derived.Test.YtjchopnglcjnnaaPlainTidy
import Derived.Test.YtjchopnglcjnnaaPlainCong
import Derived.Test.YtjchopnglcjnnaaOwnC
import Derived.Test.YtjchopnglcjnnaaI01a
import Derived.Test.YtjchopnglcjnnaaI01b
import Derived.Test.YtjchopnglcjnnaaI01c
import Derived.Test.YtjchopnglcjnnaaIRen
import Derived.Test.YtjchopnglcjnnaaINum
import Derived.WalkKit
import Derived.WalkSpells
import Derived.WalkLawsBesides
import Derived.Deep.QuietTactic
import Derived.Deep.OwnRows
import Derived.BigQuiet
import Derived.KernelRfl
import Derived.Carry
import Derived.Deep.RegionHeld3
import Derived.Laws.EntriesVeiled
namespace Go.Proofs.Ytjchopnglcjnnaa
open Go.RowKit

theorem New.wrI {a w w' : World} {b : Nat} (h : New a w) (hg : w.grownBy w' (some b)) (hb : a.heap.size ≤ b) : New a w' := h.grown hg (fun k hk => by cases hk; exact hb)
set_option maxHeartbeats 400000 in
theorem isStateL_any (v : Value) (a : Aut) (s : Int) (w : World) (h : AutAt w v a) (h0 : 0 ≤ a.n) (h1 : a.n ≤ 1048576) :
    Calls Try.prog 82 #[v, .int .i64 s] w fun e w' => e = .returned (.bool (inB s 0 (a.n - 1))) ∧ New w w' := by
  obtain ⟨rv, rfl, hr⟩ := h
  obtain ⟨A, c, rfl⟩ := hr.form
  go_enter Try.func82, Try.ntmps82
  go_wp2_with (go_at_call 103; refine (within_any _ _ _ _).mono ?_; rintro e w' ⟨rfl, rfl⟩)
  go_ret
  exact ⟨rfl, (by repeat (first | with_reducible exact New.refl _ | with_reducible assumption | with_reducible refine New.alloc ?_ _ | with_reducible refine New.drewN ?_ _ | with_reducible refine New.drew ?_ | with_reducible refine New.trans ?_ (by with_reducible assumption)))⟩
set_option maxRecDepth 20000 in
set_option maxHeartbeats 1000000 in
theorem join_any {E : Nat} (a : Aut) (wO : World) (A2 : Option Addr) (c2 b off n cap ab cb jb : Nat) (ha : autOk a = true) (hrows : RowsAt wO (.slice A2 a.nx.length c2) a.nx) (hOb : wO.heap.size ≤ b) (hnb : n = a.n.toNat)
    (d1 : ab ≠ b) (d2 : cb ≠ b) (d3 : jb ≠ b) : ∀ (k : Nat) (m : List Int) (s t : Nat) (w : World), nval a.n.toNat m ≤ k → s < a.n.toNat → t < a.n.toNat → marksIn a m → New wO w → OwnInts wO.heap.size E w (.slice (some ⟨b, off, none⟩) n cap) m →
    w.cell? ⟨ab, 1, none⟩ = some (.slice A2 a.nx.length c2) → w.cell? ⟨cb, 0, none⟩ = some (.slice (some ⟨b, off, none⟩) n cap) → w.cell? ⟨jb, 0, none⟩ = some (.func (.func 119) #[] #[.pointer (some ⟨cb, 0, none⟩), .pointer (some ⟨ab, 0, none⟩), .pointer (some ⟨jb, 0, none⟩)]) →
    Calls Try.prog 119 #[.int .i64 s, .int .i64 t, .pointer (some ⟨cb, 0, none⟩), .pointer (some ⟨ab, 0, none⟩), .pointer (some ⟨jb, 0, none⟩)] w
      fun e w' => e = .returned (.tuple #[]) ∧ w.grownBy w' (some b) ∧ ∃ m', JoinOk a m m' s t ∧ OwnInts wO.heap.size E w' (.slice (some ⟨b, off, none⟩) n cap) m' := by
  intro k
  have hent := fun args w => enters (P := Try.prog) Try.func119 (by decide) (by simp [Try.f119]) args w
  induction k with
  | zero =>
    intro m s t w hk hs ht hm _ _ _ _ _
    exfalso
    have h1 := hm.2 s (by have := hm.1; omega)
    have : 0 < nval a.n.toNat m := by
      unfold nval
      rw [List.countP_pos_iff]
      exact ⟨(nth m s).toNat, List.mem_range.2 (by omega), (hasB_iff _ _).2 (by rw [show (((nth m s).toNat : Nat) : Int) = nth m s by omega]; exact nth_mem _ _ (by have := hm.1; omega))⟩
    omega
  | succ k ih =>
    intro m s t w hk hs ht hm hn ho h1 h2 h3
    have han := autOk_n ha
    have HA := hid ha
    have HN := hid hnb
    have HM := hid hm
    have HK := hid hk
    have IH := hid ih
    have HO := hid ho
    have hml := hm.1
    obtain ⟨A2', c2', e2, _, hc2⟩ := id hrows
    cases e2
    have HC2 := hid hc2
    obtain ⟨hnm0, hB, hbE, hc⟩ := ho.cells
    clear hnm0
    obtain ⟨xs, fs⟩ := hc s (by omega)
    obtain ⟨xt, ft⟩ := hc t (by omega)
    have ks : (s : Int) < (n : Int) := by omega
    have kt : (t : Int) < (n : Int) := by omega
    have hn10 : n ≤ 10 := by omega
    clear hnb hm hk ih ho hc hc2 fs ft hml ha
    by_cases hq : nth m s = nth m t
    · have hqb : (nth m s == nth m t) = true := by simp [hq]
      have HQ := hid hq
      clear hq
      go_enter Try.func119, Try.ntmps119
      go_wp2_with fail
      go_quiet (fail)
      go_wp2
      refine bodyPost_ret (results_none rfl _ _ _) rfl ?_
      exact ⟨rfl, grown_trans (grown_refl _ _) ⟨rfl, rfl, rfl, Nat.le_refl _, fun _ _ _ => rfl⟩, m, JoinOk.same HM.out HQ.out, HO.out.new ((New.refl _).drewN _)⟩
    · have hqb : (nth m s == nth m t) = false := by simp [hq]
      have HQ := hid hq
      have HJ0 := hid (JoinTo.start HM.out hs ht hq)
      clear hq
      go_enter Try.func119, Try.ntmps119
      go_wp2_with fail
      go_quiet (fail)
      go_wp2
      obtain ⟨wq, hwq⟩ : ∃ wq, wq = w.drewN nq := ⟨_, rfl⟩
      have hgq : w.grownBy wq (some b) := by rw [hwq]; exact ⟨rfl, rfl, rfl, Nat.le_refl _, fun _ _ _ => rfl⟩
      rw [← hwq]
      have hoq := HO.out.new (w' := wq) (by rw [hwq]; exact (New.refl _).drewN _)
      replace h1 := hgq.cell h1 (by simpa using d1)
      replace h2 := hgq.cell h2 (by simpa using d2)
      replace h3 := hgq.cell h3 (by simpa using d3)
      clear hwq xs xt
      go_loopw [26] (fun i wr => ∃ j : Nat, j ≤ n ∧ i = .int .i64 j ∧ Hid (OwnInts wO.heap.size E wr (.slice (some ⟨b, off, none⟩) n cap) (mixC m (nth m s) (nth m t) j)) ∧ Hid (wq.grownBy wr (some b))) (fun i _ => n - (intOf i).toNat)
      case atStart => exact ⟨0, Nat.zero_le _, rfl, hid (by rw [mixC_zero]; exact hoq), hid (grown_refl _ _)⟩
      case round =>
        obtain ⟨j, hj, rfl, hoj, hgj⟩ := hrel
        have hml := HM.out.1
        have hNN := HN.out
        by_cases hlt : j < n
        · have b1 : (j : Int) < (n : Int) := by omega
          obtain ⟨hnm1, _, _, hc⟩ := hoj.out.cells
          clear hnm1
          obtain ⟨hx, hf⟩ := hc j (by rw [mixC_len]; omega)
          rw [mixC_here m _ _ j (by omega)] at hx
          have y2 := hgj.out.cell h2 (by simpa using d2)
          clear hc hml hNN
          by_cases hq : nth m j = nth m s
          · have hq' : (nth m j == nth m s) = true := by simp [hq]
            have HQ2 := hid hq
            clear hq
            go_wp2
            go_roundw
            case rel => exact ⟨j + 1, by omega, by go_num, hid (by rw [← mixC_hit m (nth m s) (nth m t) j (by have := HN.out; have := HM.out.1; omega) HQ2.out]; exact hoj.out.set j (by rw [mixC_len]; have := HN.out; have := HM.out.1; omega) _), hid (grown_trans hgj.out (grown_setCell _ ⟨b, off + j, none⟩ _))⟩
            case measure => simp [intOf]; omega
          · have hq' : (nth m j == nth m s) = false := by simp [hq]
            have HQ2 := hid hq
            clear hq
            go_wp2
            go_roundw
            case rel => exact ⟨j + 1, by omega, by go_num, hid (by rw [mixC_miss m (nth m s) (nth m t) j (by have := HN.out; have := HM.out.1; omega) HQ2.out]; exact hoj.out), hgj⟩
            case measure => simp [intOf]; omega
        · have e : j = n := by omega
          have hml2 : n = m.length := by omega
          have HO2 := hid hoj.out
          rw [e, hml2, mixC_all, ← hml2] at HO2
          have hg0 := grown_trans hgq hgj.out
          have HG0 := hid hg0
          have y1 := hgj.out.cell h1 (by simpa using d1)
          have y3 := hgj.out.cell h3 (by simpa using d3)
          have y2 := hgj.out.cell h2 (by simpa using d2)
          clear hml hml2 hNN hoj hg0
          subst e
          obtain ⟨wo, rfl⟩ : ∃ wo : World, wo = wr := ⟨_, rfl⟩
          go_wp2
          go_loopw [42] (fun i wr => ∃ (l : Nat) (m1 : List Int), l ≤ a.nx.length ∧ i = .int .i64 l ∧ Hid (JoinTo a m m1 s t l) ∧ Hid (OwnInts wO.heap.size E wr (.slice (some ⟨b, off, none⟩) j cap) m1) ∧ Hid (wo.grownBy wr (some b))) (fun i _ => a.nx.length - (intOf i).toNat)
          case atStart => exact ⟨0, _, Nat.zero_le _, rfl, HJ0, HO2, hid (grown_refl _ _)⟩
          case round =>
            obtain ⟨l, m1, hl, rfl, hJ, ho1, hg1⟩ := hrel
            by_cases hltl : l < a.nx.length
            · have bl : (l : Int) < (a.nx.length : Int) := by omega
              obtain ⟨b2, off2, rv, rfl, hx2, hr⟩ := HC2.out l hltl
              obtain ⟨r1, r2⟩ := autOk_row HA.out l hltl
              obtain ⟨A3, c3, rfl, _, hc3⟩ := hr
              obtain ⟨b3, off3, rfl, hx3⟩ := hc3 s (by omega)
              obtain ⟨b3', off3', e', hx4⟩ := hc3 t (by omega)
              cases e'
              have q1 := r2 s (by omega)
              have q2 := r2 t (by omega)
              have hrl : (s : Int) < ((nth a.nx l).length : Int) := by omega
              have hrl2 : (t : Int) < ((nth a.nx l).length : Int) := by omega
              have hnn : New wO wr := (hn.wrI HG0.out hOb).wrI hg1.out hOb
              replace hx2 := hnn.cell hx2
              have hx3o := hx3
              replace hx3 := hnn.cell hx3
              replace hx4 := hnn.cell hx4
              have z1 := hg1.out.cell y1 (by simpa using d1)
              have z2 := hg1.out.cell y2 (by simpa using d2)
              have z3 := hg1.out.cell y3 (by simpa using d3)
              have e1 : nth (nth a.nx l) s = ((nxt a l s : Nat) : Int) := by unfold nxt; omega
              have e2 : nth (nth a.nx l) t = ((nxt a l t : Nat) : Int) := by unfold nxt; omega
              rw [e1] at hx3
              rw [e2] at hx4
              have hb3 : b3 ≠ b := by have := World.block_lt_of_cell? wO _ hx3o; simp at this; omega
              have C := hid (fun w' (hd : New wr w') => IH.out m1 (nxt a l s) (nxt a l t) w' (by have := hJ.out.nval; have := HK.out; omega) (nxt_lt HA.out l s hltl hs) (nxt_lt HA.out l t hltl ht) hJ.out.marks (hnn.trans hd) (ho1.out.new hd) (hd.cell z1) (hd.cell z2) (hd.cell z3))
              clear r1 r2 hc3 q1 q2 e1 e2 hx3o
              go_wp2_with fail
              go_region_held3 (fun w' => w'.cell? ⟨jb, 0, none⟩ = some (.func (.func 119) #[] #[.pointer (some ⟨cb, 0, none⟩), .pointer (some ⟨ab, 0, none⟩), .pointer (some ⟨jb, 0, none⟩)]) ∧ w'.cell? ⟨b3, off3 + s, none⟩ = some (.int .i64 (nxt a l s : Nat)) ∧ w'.cell? ⟨b3, off3 + t, none⟩ = some (.int .i64 (nxt a l t : Nat)))
                (first | go_keep | exact ⟨hg2.cell ((New.refl wr).drew.cell z3) (by simpa using d3), hg2.cell ((New.refl wr).drew.cell hx3) (by simpa using hb3), hg2.cell ((New.refl wr).drew.cell hx4) (by simpa using hb3)⟩)
                (first
                  | (go_at_call 119; refine (C.out _ (New.refl _).drew).mono ?_; rintro e w2 ⟨rfl, hg2, m2, hJ2, ho2⟩; have HJ2 := hid hJ2))
              all_goals go_wp2
              all_goals go_roundw
              all_goals first
                | (simp [intOf]; omega)
                | exact ⟨l + 1, m2, by omega, by go_num, hid (hJ.out.step HA.out hs ht hltl HJ2.out), hid ho2, hid (grown_trans hg1.out (grown_trans (w1 := wr.drew) ⟨rfl, rfl, rfl, Nat.le_refl _, fun _ _ _ => rfl⟩ hg2))⟩
            · have e : l = a.nx.length := by omega
              subst e
              have HJE := hid (hJ.out.ok HA.out hs ht)
              go_wp2
              go_end0
              exact ⟨rfl, grown_trans HG0.out hg1.out, m1, HJE.out, ho1.out⟩
set_option maxHeartbeats 400000 in
theorem LeastCongruence1_any (b1 b2 b3 : Nat) (rv : Value) (a : Aut) (s t : Int) (w : World) (h0 : w.cell? ⟨b1, 0, none⟩ = some (.int .i64 a.n)) (h1 : w.cell? ⟨b1, 1, none⟩ = some rv) (hr : RowsAt w rv a.nx)
    (h2 : w.cell? ⟨b2, 0, none⟩ = some (.int .i64 s)) (h3 : w.cell? ⟨b3, 0, none⟩ = some (.int .i64 t)) (n0 : 0 ≤ a.n) (n1 : a.n ≤ 1048576) :
    Calls Try.prog 117 #[.pointer (some ⟨b1, 0, none⟩), .pointer (some ⟨b2, 0, none⟩), .pointer (some ⟨b3, 0, none⟩)] w fun e w' => e = .returned (.bool (inB s 0 (a.n - 1) && inB t 0 (a.n - 1))) ∧ New w w' := by
  have hM : AutAt w (.agg #[.int .i64 a.n, rv]) a := ⟨_, rfl, hr⟩
  have C1 := hid (fun w1 (hm : New w w1) => isStateL_any _ a s w1 (hM.new hm) n0 n1)
  have C2 := hid (fun w1 (hm : New w w1) => isStateL_any _ a t w1 (hM.new hm) n0 n1)
  clear hM
  cases hs : inB s 0 (a.n - 1) with
  | false =>
    rw [hs] at C1
    go_enter Try.func117, Try.ntmps117
    go_wp2_with fail
    refine (C1.out _ (New.refl _)).mono ?_
    rintro e w1 ⟨rfl, hn1⟩
    go_wp2
    go_ret
    exact ⟨rfl, hn1⟩
  | true =>
    rw [hs] at C1
    go_enter Try.func117, Try.ntmps117
    go_wp2_with fail
    refine (C1.out _ (New.refl _)).mono ?_
    rintro e w1 ⟨rfl, hn1⟩
    replace h0 := hn1.cell h0
    replace h1 := hn1.cell h1
    replace h3 := hn1.cell h3
    go_wp2_with fail
    refine (C2.out _ hn1).mono ?_
    rintro e w2 ⟨rfl, hn2⟩
    go_wp2
    go_ret
    exact ⟨rfl, hn1.trans hn2⟩
set_option maxRecDepth 20000 in
set_option maxHeartbeats 800000 in
theorem implLeastCongruence_any (v1 : Value) (a : Aut) (s t : Int) (w : World) (h1 : AutAt w v1 a) :
    Calls Try.prog 44 #[v1, .int .i64 s, .int .i64 t] w fun e w' => ∃ r, e = .returned (.tuple #[r, .int .i64 (LeastCongruence a s t).2]) ∧ New w w' ∧ OwnInts w.heap.size w'.heap.size w' r (LeastCongruence a s t).1 := by
  obtain ⟨rv, rfl, hr⟩ := h1
  obtain ⟨A, c, rfl⟩ := hr.form
  have h1 : AutAt w (.agg #[.int .i64 a.n, .slice A a.nx.length c]) a := ⟨_, rfl, hr⟩
  obtain ⟨wb, hwb⟩ : ∃ wb, wb = ((w.alloc (.cells #[.int .i64 a.n, .slice A a.nx.length c] 37)).alloc (.cells #[.int .i64 s] 2)).alloc (.cells #[.int .i64 t] 2) := ⟨_, rfl⟩
  have hnb : New w wb := by rw [hwb]; exact (by repeat (first | with_reducible exact New.refl _ | with_reducible assumption | with_reducible refine New.alloc ?_ _ | with_reducible refine New.drew ?_ | with_reducible refine New.drewN ?_ _ | with_reducible refine New.setCell ?_ (by simp <;> omega) _))
  have hzb : wb.heap.size = w.heap.size + 3 := by rw [hwb]; simp only [size_alloc]
  have hb0 : wb.cell? ⟨w.heap.size, 0, none⟩ = some (.int .i64 a.n) := by rw [hwb]; go_simp
  have hb1 : wb.cell? ⟨w.heap.size, 1, none⟩ = some (.slice A a.nx.length c) := by rw [hwb]; go_simp
  have hb2 : wb.cell? ⟨w.heap.size + 1, 0, none⟩ = some (.int .i64 s) := by rw [hwb]; go_simp
  have hb3 : wb.cell? ⟨w.heap.size + 1 + 1, 0, none⟩ = some (.int .i64 t) := by rw [hwb]; go_simp
  have HC : Calls Try.prog 80 #[.agg #[.int .i64 a.n, .slice A a.nx.length c], .func (.func 117) #[] #[.pointer (some ⟨w.heap.size, 0, none⟩), .pointer (some ⟨w.heap.size + 1, 0, none⟩), .pointer (some ⟨w.heap.size + 1 + 1, 0, none⟩)]] wb
      fun e w' => e = .returned (.int .i64 (codeOf (autOk a) (inB s 0 (a.n - 1) && inB t 0 (a.n - 1)))) ∧ New wb w' := by
    refine code_any _ a _ _ _ _ (h1.new hnb) (enters Try.func117 (by decide) (by simp [Try.f117])) fun ha w' hw => ?_
    have han := autOk_n ha
    exact LeastCongruence1_any _ _ _ _ a s t _ (hw.cell hb0) (hw.cell hb1) (hr.new (hnb.trans hw)) (hw.cell hb2) (hw.cell hb3) (by omega) (by omega)
  obtain ⟨R, hR⟩ : ∃ R, R = LeastCongruence a s t := ⟨_, rfl⟩
  rw [← hR]
  unfold LeastCongruence LeastCongruenceR at hR
  have HR := hid hR
  clear hR
  cases ha : autOk a with
  | false =>
    rw [ha] at HC
    have e : codeOf false (inB s 0 (a.n - 1) && inB t 0 (a.n - 1)) = 1 := rfl
    rw [e] at HC
    go_enter Try.func44, Try.ntmps44
    go_wp2_with fail
    rw [← hwb]
    refine HC.mono ?_
    rintro e w1 ⟨rfl, hn1⟩
    go_wp2
    go_ret2
    have e : R = ([], 1) := by rw [HR.out, ha]; rfl
    rw [e]
    exact ⟨_, rfl, (by repeat (first | with_reducible exact New.refl _ | with_reducible assumption | with_reducible refine New.alloc ?_ _ | with_reducible refine New.drewN ?_ _ | with_reducible refine New.drew ?_ | with_reducible refine New.trans ?_ (by with_reducible assumption))), OwnInts.nil _ _ _⟩
  | true =>
    rw [ha] at HC
    have HA := hid ha
    cases hs : (inB s 0 (a.n - 1) && inB t 0 (a.n - 1)) with
    | false =>
      rw [hs] at HC
      have e : codeOf true false = 2 := rfl
      rw [e] at HC
      go_enter Try.func44, Try.ntmps44
      go_wp2_with fail
      rw [← hwb]
      refine HC.mono ?_
      rintro e w1 ⟨rfl, hn1⟩
      go_wp2
      go_ret2
      have e : R = ([], 2) := by rw [HR.out, HA.out, hs]; rfl
      rw [e]
      exact ⟨_, rfl, (by repeat (first | with_reducible exact New.refl _ | with_reducible assumption | with_reducible refine New.alloc ?_ _ | with_reducible refine New.drewN ?_ _ | with_reducible refine New.drew ?_ | with_reducible refine New.trans ?_ (by with_reducible assumption))), OwnInts.nil _ _ _⟩
    | true =>
      rw [hs] at HC
      have e : codeOf true true = 0 := rfl
      rw [e] at HC
      have hs' := hs
      rw [Bool.and_eq_true, inB_iff, inB_iff] at hs'
      have e : R = (lcOf a s.toNat t.toNat, 0) := by rw [HR.out, if_pos HA.out, if_pos hs]
      have HE := hid e
      have han := autOk_n ha
      obtain ⟨n1, n2⟩ := han
      have HI := hid (fun w1 (hm : New w w1) => action_any _ (.slice none 0 0) a [] w1 (h1.new hm) ⟨none, 0, rfl, by simp, by simp⟩ HA.out (fun i hi => by simp at hi))
      rw [actOf_nil] at HI
      have HMK := hid (marksIn_iota HA.out)
      have hil := iota_length 0 a.n.toNat
      obtain ⟨S, hS⟩ : ∃ S : Nat, s = (S : Int) := ⟨s.toNat, by omega⟩
      obtain ⟨T, hT⟩ : ∃ T : Nat, t = (T : Int) := ⟨t.toNat, by omega⟩
      subst hS hT
      have HS := hid (show S < a.n.toNat ∧ T < a.n.toNat by omega)
      have hL : 0 < (iota 0 a.n.toNat).length := by omega
      have HL := hid (show (iota 0 a.n.toNat).length = a.n.toNat from hil)
      rw [Int.toNat_natCast, Int.toNat_natCast] at HE
      clear e hs hs' hil
      have hent := fun args w => enters (P := Try.prog) Try.func119 (by decide) (by simp [Try.f119]) args w
      go_enter Try.func44, Try.ntmps44
      go_wp2_with fail
      rw [← hwb]
      refine HC.mono ?_
      rintro e w1 ⟨rfl, hn1⟩
      replace hb0 := hn1.cell hb0
      replace hb1 := hn1.cell hb1
      replace hb2 := hn1.cell hb2
      replace hb3 := hn1.cell hb3
      have hs1 := hn1.size
      have hnn := hnb.trans hn1
      go_wp2_with fail
      refine (HI.out _ hnn).mono ?_
      rintro e w2 ⟨r, he, hn2, ho⟩
      obtain ⟨b, off, cap, rfl⟩ := ho.addr hL
      rw [HL.out] at he ho
      subst he
      have hs2 := hn2.size
      replace hb1 := hn2.cell hb1
      replace hb2 := hn2.cell hb2
      replace hb3 := hn2.cell hb3
      obtain ⟨hnn0, hB, hE, hcc0⟩ := ho.cells
      clear hnn0 hcc0
      have J := hid (fun w3 (hm : New w2 w3) (x2 : w3.cell? ⟨w2.heap.size, 0, none⟩ = some (.slice (some ⟨b, off, none⟩) a.n.toNat cap))
          (x3 : w3.cell? ⟨w2.heap.size + 1, 0, none⟩ = some (.func (.func 119) #[] #[.pointer (some ⟨w2.heap.size, 0, none⟩), .pointer (some ⟨w.heap.size, 0, none⟩), .pointer (some ⟨w2.heap.size + 1, 0, none⟩)])) =>
        (join_any (E := w2.heap.size) a w1 A c b off a.n.toNat cap w.heap.size w2.heap.size (w2.heap.size + 1) HA.out (hr.new hnn) hB rfl (by omega) (by omega) (by omega) a.n.toNat (iota 0 a.n.toNat) S T w3 (nval_le _ _) HS.out.1 HS.out.2 HMK.out (hn2.trans hm) (ho.new hm) (hm.cell hb1) x2 x3).mono
          (R' := fun e w' => e = .returned (.tuple #[]) ∧ New w1 w' ∧ w'.cell? ⟨w2.heap.size, 0, none⟩ = some (.slice (some ⟨b, off, none⟩) a.n.toNat cap) ∧ ∃ m', Final a S T m' ∧ marksIn a m' ∧ OwnInts w1.heap.size w2.heap.size w' (.slice (some ⟨b, off, none⟩) a.n.toNat cap) m')
          fun e w' ⟨h1, h2, m', h3, h4⟩ => ⟨h1, (hn2.trans hm).wrI h2 hB, h2.cell x2 (by simp; omega), m', h3.final, h3.marks, h4⟩)
      clear ho
      have zb0 : w.heap.size < w2.heap.size := by omega
      have zb1 : w.heap.size + 1 < w2.heap.size := by omega
      have zb2 : w.heap.size + 1 + 1 < w2.heap.size := by omega
      go_wp2_with fail
      refine (J.out _ (by repeat (first | with_reducible exact New.refl _ | with_reducible assumption | with_reducible refine New.alloc ?_ _ | with_reducible refine New.drewN ?_ _ | with_reducible refine New.drew ?_ | with_reducible refine New.trans ?_ (by with_reducible assumption))) (by go_simp) (by go_simp)).mono ?_
      rintro e w4 ⟨rfl, hn4, x4, m', hF, hM, ho4⟩
      have HF := hid hF
      have HMM := hid hM
      clear hF hM
      go_wp2_with fail
      refine (numbered_any _ m' _ ho4.at (by have := HMM.out.1; omega) (fun i hi => by have := HMM.out.2 i hi; omega)).mono ?_
      rintro e w5 ⟨r5, rfl, hn5, ho5⟩
      have hs4 := hn4.size
      go_wp2
      go_ret2
      rw [HE.out, lcOf_eq HF.out]
      exact ⟨_, rfl, (hnn.trans hn4).trans hn5, ho5.widen (by omega) (Nat.le_refl _)⟩

end Go.Proofs.Ytjchopnglcjnnaa
