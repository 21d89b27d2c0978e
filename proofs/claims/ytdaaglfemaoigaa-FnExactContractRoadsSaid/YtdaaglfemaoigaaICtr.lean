/- The program's roads of the classes of a division. -/
import Derived.Test.YtdaaglfemaoigaaRows
import Derived.Test.YtdaaglfemaoigaaBase
import Derived.Test.YtdaaglfemaoigaaAut
import Derived.Test.YtdaaglfemaoigaaApp
import Derived.Test.YtdaaglfemaoigaaAppRows
import Derived.Test.YtdaaglfemaoigaaAppStep
import Derived.Test.YtdaaglfemaoigaaInfo
import Derived.Test.YtdaaglfemaoigaaPlain1
import Derived.Test.YtdaaglfemaoigaaPlainRun
import Derived.Test.YtdaaglfemaoigaaPlainSet
import Derived.Test.YtdaaglfemaoigaaPlainSort
import Derived.Test.YtdaaglfemaoigaaPlainDiv
import Derived.Test.YtdaaglfemaoigaaPlainQuo
import Derived.Test.YtdaaglfemaoigaaPlainRoads
import Derived.Test.YtdaaglfemaoigaaPlainCtr
import Derived.Test.YtdaaglfemaoigaaOwnC
import Derived.Test.YtdaaglfemaoigaaI01a
import Derived.Test.YtdaaglfemaoigaaI01b
import Derived.Test.YtdaaglfemaoigaaI01d
import Derived.Test.YtdaaglfemaoigaaIEq
import Derived.Test.YtdaaglfemaoigaaISort
import Derived.Test.YtdaaglfemaoigaaIRoads
import Derived.Test.YtdaaglfemaoigaaI05a
import Derived.WalkKit
import Derived.WalkSpells
import Derived.WalkLawsBesides
import Derived.Deep.QuietTactic
import Derived.Deep.OwnRows
import Derived.BigQuiet
import Derived.KernelRfl
namespace Go.Proofs.Ytdaaglfemaoigaa
open Go.RowKit

set_option maxHeartbeats 1000000 in
theorem Max64_any (v : Value) (cl : List Int) (w : World) (h : IntsAt w v cl) (h0 : 0 < cl.length) (hb : ∀ i, i < cl.length → 0 ≤ nth cl i ∧ nth cl i < 1048576) :
    Calls Try.prog 132 #[v] w fun e w' => e = .returned (.int .i64 (clsN cl - 1)) ∧ w' = w := by
  obtain ⟨A, c, rfl, hl, hc⟩ := h
  obtain ⟨b, off, rfl, hx0⟩ := hc 0 h0
  rw [Nat.add_zero] at hx0
  have hb0 : (0 : Int) < (cl.length : Int) := by omega
  have hb1 : ¬ (cl.length : Int) < 1 := by omega
  have HB := hid hb
  have HC := hid hc
  clear hb hc
  go_enter Try.func132, Try.ntmps132
  go_wp2
  go_loop [3, 4] (fun m i => ∃ k : Nat, 1 ≤ k ∧ k ≤ cl.length ∧ i = .int .i64 k ∧ m = .int .i64 (clsTo cl k - 1)) (fun _ i => cl.length - (intOf i).toNat)
  case atStart => exact ⟨1, Nat.le_refl _, h0, rfl, by
      rw [clsTo_succ cl 0 h0, clsTo_zero]
      have := HB.out 0 h0
      rw [if_neg (by omega)]
      congr 1
      omega⟩
  case round =>
    obtain ⟨k, hk1, hk, rfl, rfl⟩ := hrel
    by_cases hlt : k < cl.length
    · obtain ⟨b', off', e, hx⟩ := HC.out k hlt
      cases e
      have kb1 : (k : Int) < (cl.length : Int) := by omega
      have HS := hid (clsTo_succ cl k hlt)
      go_wp2
      go_round
      case rel => exact ⟨k + 1, by omega, by omega, by go_num, by
          rw [HS.out]
          congr 1
          split <;> omega⟩
      case measure => simp [intOf]; omega
    · have e : k = cl.length := by omega
      subst e
      go_wp2
      go_ret
      exact ⟨rfl, rfl⟩
theorem eql_nil (w : World) : Sem.run Try.prog (binOp BinOp.eql 36 (.slice none 0 0) (.slice none 0 0)) w = .ok (.bool true) w := by kernel_rfl
theorem eql_some (w : World) (a : Addr) (n c : Nat) : Sem.run Try.prog (binOp BinOp.eql 36 (.slice (some a) n c) (.slice none 0 0)) w = .ok (.bool false) w := by kernel_rfl
/-- A list of so many lists, of which the first ones have been set. -/
def CtrRows (w : World) (fb N : Nat) (acc : List (List Int)) : Prop :=
  acc.length ≤ N ∧ ∃ rv : Nat → Value, (∀ i, i < N → w.cell? ⟨fb, i, none⟩ = some (rv i) ∧ w.frozen? ⟨fb, i, none⟩ = false) ∧
    (∀ i, i < acc.length → OwnInts (fb + 1) w.heap.size w (rv i) (nth acc i)) ∧
    (∀ i j, i < j → j < acc.length → (rv i).ownBlock ≠ (rv j).ownBlock ∨ (rv i).ownBlock = none) ∧ ∀ i, acc.length ≤ i → i < N → rv i = .slice none 0 0
theorem CtrRows.new {w w' : World} {fb N : Nat} {acc : List (List Int)} (h : CtrRows w fb N acc) (hn : New w w') : CtrRows w' fb N acc := by
  obtain ⟨h0, rv, h1, h2, h3, h4⟩ := h
  exact ⟨h0, rv, fun i hi => ⟨hn.cell (h1 i hi).1, by rw [hn.frozen (h1 i hi).1]; exact (h1 i hi).2⟩, fun i hi => ((h2 i hi).new hn).widen (Nat.le_refl _) hn.size, h3, h4⟩
theorem CtrRows.made (w : World) (N : Nat) (e : TypeId) : CtrRows (w.alloc (.cells (madeCells #[.slice none 0 0] N) e)) w.heap.size N [] := by
  have hrow := World.rowIs_made w (.slice none 0 0) N e
  exact ⟨Nat.zero_le _, fun _ => .slice none 0 0, fun i hi => ⟨hrow.cell hi, by simp⟩, fun i hi => by simp at hi, fun i j _ hj => by simp at hj, fun _ _ _ => rfl⟩
theorem CtrRows.put {w w1 : World} {fb N : Nat} {acc : List (List Int)} {r : Value} {ys : List Int} (h : CtrRows w fb N acc) (hn : New w w1) (hr : OwnInts w.heap.size w1.heap.size w1 r ys) (hlt : acc.length < N) :
    CtrRows (w1.setCell ⟨fb, acc.length, none⟩ r) fb N (acc ++ [ys]) := by
  have h' := h.new hn
  obtain ⟨_, rv0, g1, g2, _, _⟩ := id h
  obtain ⟨h0, rv, h1, h2, h3, h4⟩ := h'
  have hfb : fb < w.heap.size := World.block_lt_of_cell? w _ (g1 _ hlt).1
  have hrv : ∀ i, i < N → rv i = rv0 i := fun i hi => by
    have a := (h1 i hi).1
    rw [hn.cell (g1 i hi).1] at a
    exact (Option.some.inj a).symm
  have hW := within_setCell w1 ⟨fb, acc.length, none⟩ r
  have hs := hn.size
  refine ⟨by simp; omega, fun i => if i = acc.length then r else rv i, fun i hi => ?_, fun i hi => ?_, fun i j hij hj => ?_, fun i hi hN => ?_⟩
  · by_cases e : i = acc.length
    · subst e
      simp only
      exact ⟨World.cell?_setCell_same _ _ _ (h1 _ hi).1, by simpa using (h1 _ hi).2⟩
    · simp only [if_neg e]
      refine ⟨?_, by simpa using (h1 _ hi).2⟩
      rw [World.cell?_setCell_other]
      · exact (h1 i hi).1
      · intro h; injection h with _ h _; omega
  · simp at hi
    by_cases e : i < acc.length
    · simp only [if_neg (show ¬ i = acc.length by omega)]
      rw [nth_append_left _ _ _ e]
      exact ((h2 i e).within hW (Or.inr (Nat.le_refl _))).widen (Nat.le_refl _) (by simp)
    · have e' : i = acc.length := by omega
      subst e'
      simp only
      rw [nth_append_here]
      exact (hr.within hW (Or.inr (by show fb + 1 ≤ _; omega))).widen (by omega) (by simp)
  · simp at hj
    by_cases e : j < acc.length
    · simp only [if_neg (show ¬ i = acc.length by omega), if_neg (show ¬ j = acc.length by omega)]
      exact h3 i j hij e
    · have e' : j = acc.length := by omega
      subst e'
      simp only [if_neg (show ¬ i = acc.length by omega)]
      cases e1 : (rv i).ownBlock with
      | none => exact Or.inr rfl
      | some k =>
        left
        intro e2
        have a1 := hr.block k e2.symm
        rw [hrv i (by omega)] at e1
        have a2 := (g2 i hij).block k e1
        omega
  · simp at hi
    simp only [if_neg (show ¬ i = acc.length by omega)]
    exact h4 i (by omega) hN
theorem CtrRows.own {w : World} {fb N c : Nat} {acc : List (List Int)} (h : CtrRows w fb N acc) (hN : acc.length = N) (hl : N ≤ 1099511627776) (hlt : fb < w.heap.size) : OwnRows fb w.heap.size w (.slice (some ⟨fb, 0, none⟩) N c) acc := by
  obtain ⟨h0, rv, h1, h2, h3, h4⟩ := h
  subst hN
  refine ⟨_, c, rv, rfl, hl, fun a e => by cases e; exact ⟨Nat.le_refl _, hlt⟩, fun i hi => ⟨⟨fb, 0, rfl, by rw [Nat.zero_add]; exact (h1 i hi).1, fun e => by have := (h2 i hi).block fb e; omega⟩, (h2 i hi).widen (by omega) (Nat.le_refl _)⟩, h3⟩
theorem CtrRows.at {w : World} {fb N : Nat} {acc : List (List Int)} (h : CtrRows w fb N acc) (i : Nat) (hi : i < acc.length) (hp : 0 < (nth acc i).length) :
    ∃ b off c, w.cell? ⟨fb, i, none⟩ = some (.slice (some ⟨b, off, none⟩) (nth acc i).length c) ∧ IntsAt w (.slice (some ⟨b, off, none⟩) (nth acc i).length c) (nth acc i) := by
  obtain ⟨h0, rv, h1, h2, h3, h4⟩ := h
  obtain ⟨b, off, c, e⟩ := (h2 i hi).addr hp
  have := (h1 i (by omega)).1
  rw [e] at this
  exact ⟨b, off, c, this, e ▸ (h2 i hi).at⟩
theorem CtrRows.nil {w : World} {fb N : Nat} {acc : List (List Int)} (h : CtrRows w fb N acc) (i : Nat) (hi : acc.length ≤ i) (hN : i < N) : w.cell? ⟨fb, i, none⟩ = some (.slice none 0 0) ∧ w.frozen? ⟨fb, i, none⟩ = false := by
  obtain ⟨h0, rv, h1, h2, h3, h4⟩ := h
  rw [← h4 i hi hN]
  exact h1 i hN
theorem CtrRows.grown {w w' : World} {fb N : Nat} {acc : List (List Int)} (h : CtrRows w fb N acc) (b : Nat) (u v : Value) (_hb : Box2 w b u v) (hg : w.grownBy w' (some b)) (hne : b < fb) : CtrRows w' fb N acc := by
  obtain ⟨h0, rv, h1, h2, h3, h4⟩ := h
  refine ⟨h0, rv, fun i hi => ⟨hg.cell (h1 i hi).1 (by simp; omega), by rw [World.frozen?_of_block (w := w) (hg.block fb (World.block_lt_of_cell? w _ (h1 i hi).1) (by simp; omega))]; exact (h1 i hi).2⟩, fun i hi => ((h2 i hi).grown hg ?_).widen (Nat.le_refl _) hg.size, h3, h4⟩
  cases e : (rv i).ownBlock with
  | none => exact Or.inr rfl
  | some k => left; have := (h2 i hi).block k e; simp; omega
set_option maxRecDepth 20000 in
set_option maxHeartbeats 4000000 in
theorem implContractRoads_any (v1 v2 : Value) (r : Aut) (cl : List Int) (w : World) (h1 : AutAt w v1 r) (h2 : IntsAt w v2 cl) :
    Calls Try.prog 56 #[v1, v2] w fun e w' => ∃ q, e = .returned (.tuple #[q, .int .i64 (ContractRoads r cl).2]) ∧ New w w' ∧ OwnAut w.heap.size w'.heap.size w' q (ContractRoads r cl).1 := by
  obtain ⟨rv, rfl, hr⟩ := h1
  obtain ⟨A1, c1, rfl⟩ := hr.form
  have h1 : AutAt w (.agg #[.int .i64 r.n, .slice A1 r.nx.length c1]) r := ⟨_, rfl, hr⟩
  obtain ⟨wb, hwb⟩ : ∃ wb, wb = (w.alloc (.cells #[.int .i64 r.n, .slice A1 r.nx.length c1] 71)).alloc (.cells #[.int .i64 0, .slice none 0 0] 71) := ⟨_, rfl⟩
  have hnb : New w wb := by rw [hwb]; exact (by repeat (first | with_reducible exact New.refl _ | with_reducible assumption | with_reducible refine New.alloc ?_ _ | with_reducible refine New.drew ?_ | with_reducible refine New.drewN ?_ _ | with_reducible refine New.setCell ?_ (by simp <;> omega) _))
  have hzb : w.heap.size + 2 = wb.heap.size := by rw [hwb]; simp only [size_alloc]
  have hb0 : Box2 wb w.heap.size (.int .i64 r.n) (.slice A1 r.nx.length c1) := by rw [hwb]; exact ⟨by go_simp, by go_simp, by go_simp, by go_simp⟩
  have hr0 : Box2 wb (w.heap.size + 1) (.int .i64 0) (.slice none 0 0) := by rw [hwb]; exact ⟨by go_simp, by go_simp, by go_simp, by go_simp⟩
  obtain ⟨R, hR⟩ : ∃ R, R = ContractRoads r cl := ⟨_, rfl⟩
  rw [← hR]
  unfold ContractRoads at hR
  have HR := hid hR
  clear hR
  have C1 := ValidRoads_any _ r _ (h1.new hnb)
  have key : ∀ (code : Int) (w1 : World), New w w1 → R = (⟨0, []⟩, code) → ∃ q, (Ending.returned (.tuple #[.agg #[.int .i64 0, .slice none 0 0], .int .i64 code]) = .returned (.tuple #[q, .int .i64 R.2])) ∧ New w ((w1.setCell ⟨w.heap.size + 1, 0, none⟩ (.int .i64 0)).setCell ⟨w.heap.size + 1, 1, none⟩ (.slice none 0 0)) ∧ OwnAut w.heap.size ((w1.setCell ⟨w.heap.size + 1, 0, none⟩ (.int .i64 0)).setCell ⟨w.heap.size + 1, 1, none⟩ (.slice none 0 0)).heap.size ((w1.setCell ⟨w.heap.size + 1, 0, none⟩ (.int .i64 0)).setCell ⟨w.heap.size + 1, 1, none⟩ (.slice none 0 0)) q R.1 := fun code w1 hn1 e => by
    rw [e]
    exact ⟨_, rfl, New.fill hn1 (by omega) _ _, _, rfl, none, 0, fun _ => default, rfl, by simp, by simp, by simp, by simp⟩
  cases ha : roadsOk r with
  | false =>
    rw [ha] at C1
    have KEY := hid (fun w1 hn1 => key 1 w1 hn1 (by rw [HR.out, ha]; rfl))
    clear key
    go_enter Try.func56, Try.ntmps56
    go_wp2_with fail
    rw [← hwb]
    refine C1.mono ?_
    rintro e w1 ⟨rfl, hn1⟩
    obtain ⟨x0, x1, x2, x3⟩ := hr0.new hn1
    go_wp2_with fail
    obtain ⟨g0, g1, _, _⟩ := (hr0.new hn1).fill (.int .i64 0) (.slice none 0 0)
    exact bodyPost_ret (v := .tuple #[.agg #[.int .i64 0, .slice none 0 0], .int .i64 1]) (by simp [results, Try.results56, go_sem, g0, g1]) rfl (KEY.out _ (hnb.trans hn1))
  | true =>
    rw [ha] at C1
    have HA := hid ha
    have C2 := fun w1 (hn : New w w1) => isDivision_any v2 cl r.n w1 (h2.new hn)
    cases hd : isDiv cl r.n with
    | false =>
      simp only [hd] at C2
      have KEY := hid (fun w1 hn1 => key 2 w1 hn1 (by rw [HR.out, ha, hd]; rfl))
      clear key ha
      go_enter Try.func56, Try.ntmps56
      go_wp2_with fail
      rw [← hwb]
      refine C1.mono ?_
      rintro e w1 ⟨rfl, hn1⟩
      obtain ⟨y0, y1, _, _⟩ := hb0.new hn1
      go_wp2_with fail
      refine (C2 _ (hnb.trans hn1)).mono ?_
      rintro e w2 ⟨rfl, hq2⟩
      subst hq2
      obtain ⟨x0, x1, x2, x3⟩ := hr0.new hn1
      go_wp2_with fail
      obtain ⟨g0, g1, _, _⟩ := (hr0.new hn1).fill (.int .i64 0) (.slice none 0 0)
      exact bodyPost_ret (v := .tuple #[.agg #[.int .i64 0, .slice none 0 0], .int .i64 2]) (by simp [results, Try.results56, go_sem, g0, g1]) rfl (KEY.out _ (hnb.trans hn1))
    | true =>
      simp only [hd] at C2
      have hE : R = ctrOut r.nx cl := by rw [HR.out, ha, hd]; rfl
      obtain ⟨f1, f2, f3, f4, f5⟩ := ctr_facts ha hd
      obtain ⟨hd1, _⟩ := isDiv_parts hd
      have hnn : ∀ i, i < cl.length → 0 ≤ nth cl i := fun i hi => (div_le cl hd1 i hi).1
      obtain ⟨N, hN⟩ : ∃ N : Nat, clsN cl = (N : Int) := ⟨(clsN cl).toNat, by have := (clsTo_nonneg cl hnn cl.length (Nat.le_refl _)).1; unfold clsN; omega⟩
      have hcN : ∀ i, i < cl.length → nth cl i < (N : Int) := fun i hi => by have := clsTo_ge cl cl.length (Nat.le_refl _) i hi; unfold clsN at hN; omega
      have hN7 : N ≤ 7 := by
        rcases clsTo_hit cl cl.length (Nat.le_refl _) (by omega) with ⟨i, hi, h3⟩ | h3
        · have := (divOk_in cl 0 (Int.le_refl _) hd1 i hi).2
          unfold clsN at hN; omega
        · unfold clsN at hN; omega
      have HD := hid (fun k (hk : k < cl.length) => div_le cl hd1 k hk)
      have HLEN := hid (fun k acc (hk : k ≤ cl.length) h => ctrTo_len (nx := r.nx) hd1 k acc hk h)
      have HLE := hid (fun k acc h => ctrTo_le (nx := r.nx) (cl := cl) k acc h)
      have HCN := hid hcN
      have F4 := hid f4
      have F5 := hid f5
      have HE := hid hE
      have KEY := hid (fun w1 hn1 (hno : ctrTo r.nx cl cl.length = none) => key 4 w1 hn1 (by rw [hE]; unfold ctrOut; rw [hno]))
      have C3 := fun w1 (hn : New w w1) => Max64_any v2 cl w1 (h2.new hn) (by omega) (fun i hi => ⟨hnn i hi, by have := hcN i hi; omega⟩)
      rw [hN] at C3
      have h2' := h2
      obtain ⟨A, c, rfl, hlc, hcc⟩ := h2
      obtain ⟨A1', c1', e1, _, hrc⟩ := hr
      cases e1
      have HRC := hid hrc
      have HCC := hid hcc
      have F1 := hid f1
      have HNN := hid hN
      have hNw : IntKind.i64.wrap ((N : Int) - 1 + 1) = (N : Int) := by rw [show (N : Int) - 1 + 1 = N by omega]; exact IntWalk.i64_in _ (by omega)
      have hmk := fun w => run_make_row' (P := Try.prog) 22 36 (.slice none 0 0) 24 Try.underlying22 info_ints rfl .i64 .i64 N (by omega) (by omega) w
      clear key ha hd f1 f4 f5 hE hcc HR hrc hnn hcN hN
      go_enter Try.func56, Try.ntmps56
      go_wp2_with fail
      rw [← hwb]
      refine C1.mono ?_
      rintro e w1 ⟨rfl, hn1⟩
      obtain ⟨y0, y1, _, _⟩ := hb0.new hn1
      go_wp2_with fail
      refine (C2 _ (hnb.trans hn1)).mono ?_
      rintro e w2 ⟨rfl, hq2⟩
      subst hq2
      clear y0 y1
      have hN3 := hnb.trans hn1
      have hr3 := hr0.new hn1
      have hb3 := hb0.new hn1
      have hz3 := hn1.size
      clear hn1 hr0 hb0 C1 C2
      clear hwb
      obtain ⟨y0, y1, _, _⟩ := id hb3
      go_wp2_with fail
      refine (C3 _ hN3).mono ?_
      rintro e w3 ⟨rfl, hq3⟩
      subst hq3
      have z0 : w.heap.size < w3.heap.size := by omega
      have z1 : w.heap.size + 1 < w3.heap.size := by omega
      obtain ⟨tb, htb⟩ : ∃ tb, tb = w3.heap.size := ⟨_, rfl⟩
      obtain ⟨w6, hw6⟩ : ∃ wm, wm = (w3.alloc (.cells #[.int .i64 N, .slice (some ⟨tb + 1, 0, none⟩) N N] 71)).alloc (.cells (madeCells #[.slice none 0 0] N) 36) := ⟨_, rfl⟩
      have hb6 : Box2 w6 tb (.int .i64 N) (.slice (some ⟨tb + 1, 0, none⟩) N N) := by rw [hw6, htb]; exact Box2.new (w := w3.alloc (.cells #[.int .i64 N, .slice (some ⟨w3.heap.size + 1, 0, none⟩) N N] 71)) ⟨by go_simp, by go_simp, by go_simp, by go_simp⟩ ((New.refl _).alloc _)
      have hc6 : CtrRows w6 (tb + 1) N [] := by
        have := CtrRows.made (w3.alloc (.cells #[.int .i64 N, .slice (some ⟨tb + 1, 0, none⟩) N N] 71)) N 36
        rw [size_alloc, ← htb] at this
        rw [hw6]; exact this
      have hnm : New w3 w6 := by rw [hw6]; exact (by repeat (first | with_reducible exact New.refl _ | with_reducible assumption | with_reducible refine New.alloc ?_ _ | with_reducible refine New.drew ?_ | with_reducible refine New.drewN ?_ _ | with_reducible refine New.setCell ?_ (by simp <;> omega) _))
      have hs6 : w6.heap.size = tb + 2 := by rw [hw6, htb]; simp only [size_alloc]
      have hn6 : New w w6 := hN3.trans hnm
      have hr6 : Box2 w6 (w.heap.size + 1) (.int .i64 0) (.slice none 0 0) := hr3.new hnm
      rw [htb] at hw6
      go_wp2_with fail
      rw [← hw6]
      rw [← htb] at z0 z1 ⊢
      clear hw6 htb hnm hN3 hr3 hb3 hz3 C3 hmk hNw y0 y1
      go_loopw [36] (fun i wr => ∃ (k : Nat) (acc : List (List Int)), k ≤ r.nx.length ∧ i = .int .i64 k ∧ New w wr ∧ Box2 wr (w.heap.size + 1) (.int .i64 0) (.slice none 0 0) ∧ Box2 wr tb (.int .i64 N) (.slice (some ⟨tb + 1, 0, none⟩) N N) ∧
          tb + 2 ≤ wr.heap.size ∧ CtrRows wr (tb + 1) N acc ∧ Hid (ctrTo r.nx cl k = some acc)) (fun i _ => r.nx.length - (intOf i).toNat)
      case atStart => exact ⟨0, [], Nat.zero_le _, rfl, hn6, hr6, hb6, by omega, hc6, rfl⟩
      case round =>
        obtain ⟨k, acc, hk, rfl, hn, hbr, hbo, hsz, hct, hacc⟩ := hrel
        obtain ⟨wo, rfl⟩ : ∃ wo : World, wo = wr := ⟨_, rfl⟩
        clear hb6 hc6 hn6 hr6 hs6
        by_cases hlt : k < r.nx.length
        · have b1 : (k : Int) < (r.nx.length : Int) := by omega
          have hkc : k < cl.length := by have := F1.out; omega
          have hkc1 : (k : Int) < (cl.length : Int) := by omega
          obtain ⟨bq, oq, rvk, rfl, hxk, hrk⟩ := HRC.out k hlt
          obtain ⟨Ak, ck, rfl, hlk, hck⟩ := hrk
          replace hxk := hn.cell hxk
          have HCK := hid hck
          have hq4 := F4.out k hkc
          clear hck
          go_wp2_with fail
          go_loopw [9, 44] (fun o i wr => ∃ q : Nat, q ≤ (nth r.nx k).length ∧ i = .int .i64 q ∧ Grow wo.heap.size 2 wr o (((nth r.nx k).take q).map fun t => nth cl t.toNat) ∧ New wo wr) (fun _ i _ => (nth r.nx k).length - (intOf i).toNat)
          case atStart => exact ⟨0, Nat.zero_le _, rfl, Grow.empty _ _ _ (Nat.le_refl _), (by repeat (first | with_reducible exact New.refl _ | with_reducible assumption | with_reducible refine New.alloc ?_ _ | with_reducible refine New.drew ?_ | with_reducible refine New.drewN ?_ _ | with_reducible refine New.setCell ?_ (by simp <;> omega) _))⟩
          case round =>
            obtain ⟨q, hq, rfl, ho, hnq⟩ := hrel
            have hzr := hnq.size
            by_cases hlq : q < (nth r.nx k).length
            · have b2 : (q : Int) < ((nth r.nx k).length : Int) := by omega
              obtain ⟨b4, off4, rfl, hx4⟩ := HCK.out q hlq
              obtain ⟨n0, n1⟩ := F5.out k hkc q hlq
              obtain ⟨b5, off5, rfl, hx5⟩ := HCC.out (nth (nth r.nx k) q).toNat (by omega)
              replace hx4 := (hn.trans hnq).cell hx4
              replace hx5 := (hn.trans hnq).cell hx5
              have hkl : (((nth r.nx k).take q).map fun t => nth cl t.toNat).length = q := by simp; omega
              have HKL := hid hkl
              clear hkl
              go_wp2_with (at_builtin; refine wpList_app rfl _ _ _ rfl Try.underlying36 info_i64 _ _ rfl ho rfl (by have := HKL.out; omega) (by omega) ?_; intro g cap w2 ho2 hg2)
              go_roundw
              case rel => exact ⟨q + 1, by omega, by go_num, by rw [take_succ_nth _ q hlq, List.map_append]; first | exact ho2 | (rw [HKL.out] at ho2; exact ho2), hnq.app hg2 ho (Nat.le_refl _)⟩
              case measure => simp [intOf]; omega
            · have e : q = (nth r.nx k).length := by omega
              subst e
              rw [List.take_length] at ho
              obtain ⟨xs, hxs⟩ : ∃ xs, xs = (nth r.nx k).map fun t => nth cl t.toNat := ⟨_, rfl⟩
              rw [← hxs] at ho
              have hxl : xs.length = (nth r.nx k).length := by rw [hxs]; simp
              have ho1 := ho.own (by omega)
              obtain ⟨m, hm⟩ : ∃ m, m = xs.length := ⟨_, rfl⟩
              obtain ⟨bb, ob, cb, rfl⟩ := ho1.addr (by omega)
              rw [← hm] at ho1 ⊢
              have HS := hid (Sort64_any xs wr ho1 hm.symm (by omega))
              have HLED := hid (show insAll xs = ledOf r.nx cl k by rw [hxs]; rfl)
              have hbb := ho1.block bb rfl
              have HM := hid hm
              have HXL := hid hxl
              obtain ⟨b5, off5, e5, hx5⟩ := HCC.out k hkc
              subst e5
              replace hx5 := hn.cell hx5
              have hcd := HD.out k hkc
              have hcN := HCN.out k hkc
              have hal := HLEN.out k acc (by omega) hacc.out
              have hal2 := HLE.out k acc hacc.out
              clear hxs hm hxl ho
              go_wp2_with fail
              refine (HS.out).mono ?_
              rintro e w4 ⟨rfl, ho4, hg4⟩
              have hq5 : New wo w4 := New.grown hnq hg4 (fun q hq => by cases hq; omega)
              have hs4 := hg4.size
              rw [HLED.out] at ho4
              have HO4 := hid (ho4.widen (E' := w4.heap.size) (Nat.le_refl _) hs4)
              have hAt := HO4.out.at
              have hx6 := hq5.cell hx5
              have hbo4 := hbo.new hq5
              have hbr4 := hbr.new hq5
              have hct4 := hct.new hq5
              obtain ⟨z0', z1', _, _⟩ := id hbo4
              have HAL := hid hal
              clear ho4 hg4 ho1 hx5 hal
              by_cases hnew : nth cl k = (acc.length : Int)
              · have hlN : acc.length < N := by omega
                obtain ⟨n0, n1⟩ := hct4.nil acc.length (Nat.le_refl _) (by omega)
                have hcI : (acc.length : Int) < (N : Int) := by omega
                rw [hnew] at hx6
                have en := eql_nil w4
                obtain ⟨row, hrow⟩ : ∃ row, row = Value.slice (some ⟨bb, ob, none⟩) m cb := ⟨_, rfl⟩
                have hput := hct.put hq5 HO4.out hlN
                have hW := within_setCell w4 ⟨tb + 1, acc.length, none⟩ (.slice (some ⟨bb, ob, none⟩) m cb)
                have n2 : (w4.setCell ⟨tb + 1, acc.length, none⟩ (.slice (some ⟨bb, ob, none⟩) m cb)).cell? ⟨tb + 1, acc.length, none⟩ = some (.slice (some ⟨bb, ob, none⟩) m cb) := World.cell?_setCell_same _ _ _ n0
                have hbo5 := hbo4.within hW (Or.inl (Nat.lt_succ_self _))
                have hbr5 := hbr4.within hW (Or.inl (by show _ < tb + 1; omega))
                have hAt5 := (HO4.out.within hW (Or.inr (by show tb + 1 + 1 ≤ wo.heap.size; omega))).at
                have hn5 := (hn.trans hq5).within hW (by show w.heap.size ≤ tb + 1; omega)
                have HSTEP := hid (show ctrTo r.nx cl (k + 1) = some (acc ++ [ledOf r.nx cl k]) by rw [ctrTo_succ hacc.out]; unfold ctrStep; rw [if_pos hnew])
                have C := sliceEqual_any _ _ _ _ _ hAt5 hAt5
                rw [decide_eq_true rfl] at C
                obtain ⟨p0, p1, _, _⟩ := id hbo5
                have hsz5 : (w4.setCell ⟨tb + 1, acc.length, none⟩ (.slice (some ⟨bb, ob, none⟩) m cb)).heap.size = w4.heap.size := size_setCell _ _ _
                have HPUT := hid hput
                clear hput hW hAt hAt5 hct4 hbo4 hbr4
                go_wp2_with (go_at_call 97; refine C.mono ?_; rintro e w7 ⟨rfl, hn7⟩)
                go_roundw
                case rel => exact ⟨k + 1, _, by omega, by go_num, hn5.trans hn7, hbr5.new hn7, hbo5.new hn7, by have := hn7.size; have := hq5.size; omega, HPUT.out.new hn7, HSTEP⟩
                case measure => simp [intOf]; omega
              · have hlt2 : (nth cl k).toNat < acc.length := by have := HAL.out; omega
                obtain ⟨ba, oa, ca, n0, hAa⟩ := hct4.at (nth cl k).toNat hlt2 (by
                  obtain ⟨s, hs, he⟩ := hal2.2 _ hlt2
                  rw [he, ledOf_len]
                  exact (F4.out s (by omega)).1)
                have en := eql_some w4 ⟨ba, oa, none⟩ (nth acc (nth cl k).toNat).length ca
                have hcl1 : nth cl k < (N : Int) := hcN
                have C := sliceEqual_any _ _ _ _ _ hAa hAt
                have HNEW := hid hnew
                clear hnew
                cases hq : decide (nth acc (nth cl k).toNat = ledOf r.nx cl k) with
                | true =>
                  rw [hq] at C
                  have HSTEP := hid (show ctrTo r.nx cl (k + 1) = some acc by rw [ctrTo_succ hacc.out]; unfold ctrStep; rw [if_neg HNEW.out, if_pos (of_decide_eq_true hq)])
                  clear hq
                  go_wp2_with (go_at_call 97; refine C.mono ?_; rintro e w7 ⟨rfl, hn7⟩)
                  go_roundw
                  case rel => exact ⟨k + 1, acc, by omega, by go_num, (hn.trans hq5).trans hn7, hbr4.new hn7, hbo4.new hn7, by have := hn7.size; have := hq5.size; omega, hct4.new hn7, HSTEP⟩
                  case measure => simp [intOf]; omega
                | false =>
                  rw [hq] at C
                  have HNONE := hid (show ctrTo r.nx cl cl.length = none from ctrTo_none (k := k + 1) (by rw [ctrTo_succ hacc.out]; unfold ctrStep; rw [if_neg HNEW.out, if_neg (of_decide_eq_false hq)]) _ (by omega))
                  clear hq
                  go_wp2_with (go_at_call 97; refine C.mono ?_; rintro e w7 ⟨rfl, hn7⟩; obtain ⟨x0, x1, x2, x3⟩ := hbr4.new hn7)
                  obtain ⟨g0, g1, _, _⟩ := (hbr4.new hn7).fill (.int .i64 0) (.slice none 0 0)
                  exact bodyPost_ret (v := .tuple #[.agg #[.int .i64 0, .slice none 0 0], .int .i64 4]) (by simp [results, Try.results56, go_sem, g0, g1]) rfl (KEY.out _ ((hn.trans hq5).trans hn7) HNONE.out)
        · have e : k = r.nx.length := by omega
          have hkc : k = cl.length := by have := F1.out; omega
          have hal := HLEN.out k acc (by omega) hacc.out
          have hacN : acc.length = N := by
            have := HNN.out
            unfold clsN at this
            rw [hkc] at hal; omega
          have HEE := hid (show R = (⟨(N : Int), acc⟩, 0) by
            rw [HE.out]; unfold ctrOut; rw [← hkc, hacc.out]; show ((⟨(acc.length : Int), acc⟩ : Aut), (0 : Int)) = _; rw [hacN])
          obtain ⟨z0', z1', _, _⟩ := id hbo
          obtain ⟨x0, x1, x2, x3⟩ := id hbr
          have HOWN := hid (hct.own (c := N) hacN (by omega) (by omega))
          have hlt' : ¬ (k : Int) < (r.nx.length : Int) := by omega
          clear hal hacN hkc e
          go_wp2_with fail
          obtain ⟨g0, g1, _, _⟩ := hbr.fill (.int .i64 N) (.slice (some ⟨tb + 1, 0, none⟩) N N)
          refine bodyPost_ret (v := .tuple #[.agg #[.int .i64 N, .slice (some ⟨tb + 1, 0, none⟩) N N], .int .i64 0]) (by simp [results, Try.results56, go_sem, g0, g1]) rfl ?_
          rw [HEE.out]
          have hfin := HOWN.out.within (Within.fill wo (w.heap.size + 1) (.int .i64 N) (.slice (some ⟨tb + 1, 0, none⟩) N N)) (Or.inr (by omega))
          exact ⟨_, rfl, New.fill hn (by omega) _ _, _, rfl, hfin.widen (by omega) (by simp)⟩

end Go.Proofs.Ytdaaglfemaoigaa
