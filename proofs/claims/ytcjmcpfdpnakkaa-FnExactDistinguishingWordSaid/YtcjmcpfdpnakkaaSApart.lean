/- The reference's first words for which two states have different outputs. -/
import Derived.Test.YtcjmcpfdpnakkaaRows
import Derived.Test.YtcjmcpfdpnakkaaBase
import Derived.Test.YtcjmcpfdpnakkaaAut
import Derived.Test.YtcjmcpfdpnakkaaMach
import Derived.Test.YtcjmcpfdpnakkaaApp
import Derived.Test.YtcjmcpfdpnakkaaAppRows
import Derived.Test.YtcjmcpfdpnakkaaInfo
import Derived.Test.YtcjmcpfdpnakkaaPlain1
import Derived.Test.YtcjmcpfdpnakkaaPlainRun
import Derived.Test.YtcjmcpfdpnakkaaPMach
import Derived.Test.YtcjmcpfdpnakkaaPlainSet
import Derived.Test.YtcjmcpfdpnakkaaPlainBits
import Derived.Test.YtcjmcpfdpnakkaaPlainTour
import Derived.Test.YtcjmcpfdpnakkaaPlainFirst
import Derived.Test.YtcjmcpfdpnakkaaPlainBfs
import Derived.Test.YtcjmcpfdpnakkaaPlainApart
import Derived.Test.YtcjmcpfdpnakkaaPlainFind
import Derived.Test.YtcjmcpfdpnakkaaMapV
import Derived.Test.YtcjmcpfdpnakkaaTourV
import Derived.Test.YtcjmcpfdpnakkaaGrow2
import Derived.Test.YtcjmcpfdpnakkaaXBox
import Derived.Test.YtcjmcpfdpnakkaaOwnC
import Derived.Test.YtcjmcpfdpnakkaaS00a
import Derived.Test.YtcjmcpfdpnakkaaS01a
import Derived.Test.YtcjmcpfdpnakkaaS01f
import Derived.Test.YtcjmcpfdpnakkaaS06b
import Derived.Test.YtcjmcpfdpnakkaaSOwn
import Derived.WalkKit
import Derived.WalkSpells
import Derived.WalkLawsBesides
import Derived.Deep.QuietTactic
import Derived.Deep.OwnRows
import Derived.BigQuiet
import Derived.KernelRfl
import Derived.StillTailTactics
namespace Go.Proofs.Ytcjmcpfdpnakkaa
open Go.RowKit

def apRow (p : Int × Int) : List Int := [p.1, p.2]
theorem apRow_mem (l : List (Int × Int)) (p : Int × Int) : apRow p ∈ l.map apRow ↔ p ∈ l := by
  rw [List.mem_map]
  constructor
  · rintro ⟨q, hq, e⟩
    have : q = p := by
      cases q; cases p
      simpa [apRow] using e
    rwa [← this]
  · intro h; exact ⟨p, h, rfl⟩
set_option maxRecDepth 20000 in
set_option maxHeartbeats 4000000 in
theorem find_any (xb : Nat) (pv1 pv2 : Value) (m1 m2 : Mach) (s t : Int) (w0 w : World) (hn0 : New w0 w) (hxb : w0.heap.size ≤ xb) (hx : XBox w xb pv1 pv2 (.slice none 0 0) (.slice none 0 0))
    (h1 : PMach w0 pv1 m1) (h2 : PMach w0 pv2 m2) (ok1 : machOk m1 = true) (ok2 : machOk m2 = true) (hl : m1.nx.length = m2.nx.length) (hp : apP m1 m2 (s, t)) :
    Calls Try.prog 146 #[.pointer (some ⟨xb, 0, none⟩), .int .i64 s, .int .i64 t] w fun e w' => ∃ r, e = .returned (.tuple #[r, .bool (apartOf m1 m2 s t).2]) ∧ Within xb (xb + 1) w w' ∧ OwnInts w.heap.size w'.heap.size w' r (apartOf m1 m2 s t).1 := by
  have hxl : xb < w.heap.size := hx.lt
  obtain ⟨p1, q1, q2, rfl, _, _, a2, a3, ra, rb⟩ := h1
  obtain ⟨p2, q3, q4, rfl, _, _, c2, c3, rc, rd⟩ := h2
  obtain ⟨A1, k1, rfl, _, hc1⟩ := ra
  obtain ⟨A2, k2, rfl, _, hc2⟩ := rb
  obtain ⟨A3, k3, rfl, _, hc3⟩ := rc
  obtain ⟨A4, k4, rfl, _, hc4⟩ := rd
  obtain ⟨x0, x1, x2, x3, f2, f3⟩ := id hx
  have y3 : (w.setCell ⟨xb, 2, none⟩ (.slice (some ⟨w.heap.size + 1, 0, none⟩) 1 1)).cell? ⟨xb, 3, none⟩ = some (.slice none 0 0) := (hx.set2 _).2.2.2.1
  obtain ⟨wq, hwq⟩ : ∃ wq, wq = (w.setCell ⟨xb, 2, none⟩ (.slice (some ⟨w.heap.size + 1, 0, none⟩) 1 1)).setCell ⟨xb, 3, none⟩ (.slice (some ⟨w.heap.size + 1 + 1 + 1, 0, none⟩) 1 1) := ⟨_, rfl⟩
  have hzq : wq.heap.size = w.heap.size := by rw [hwq, size_setCell, size_setCell]
  have hG := Grow2.start wq w.heap.size hzq s t 2 26
  have hX : XBox wq xb (.pointer (some ⟨p1, 0, none⟩)) (.pointer (some ⟨p2, 0, none⟩)) (.slice (some ⟨w.heap.size + 1, 0, none⟩) 1 1) (.slice (some ⟨w.heap.size + 1 + 1 + 1, 0, none⟩) 1 1) := by rw [hwq]; exact (hx.set2 _).set3 _
  have hW : Within xb (xb + 1) w wq := by rw [hwq]; exact ((Within.refl _ _ _).setCell (p := ⟨xb, 2, none⟩) (Nat.le_refl _) (Nat.lt_succ_self _) _).setCell (p := ⟨xb, 3, none⟩) (Nat.le_refl _) (Nat.lt_succ_self _) _
  have hnq : New wq ((((wq.alloc (.cells #[.int .i64 s, .int .i64 t] 2)).alloc (.cells #[.slice (some ⟨w.heap.size, 0, none⟩) 2 2] 26)).alloc (.cells #[] 2)).alloc (.cells #[.slice (some ⟨w.heap.size + 1 + 1, 0, none⟩) 0 0] 26)) := (by repeat (first | with_reducible exact New.refl _ | with_reducible assumption | with_reducible refine New.alloc ?_ _ | with_reducible refine New.drew ?_ | with_reducible refine New.drewN ?_ _ | with_reducible refine New.setCell ?_ (by simp <;> omega) _))
  replace hX := hX.new hnq
  replace hW := hW.trans (Within.of_new hnq _ _)
  have l1 : xb < w.heap.size + 1 := by omega
  have l2 : xb < w.heap.size + 1 + 1 := by omega
  have l3 : xb < w.heap.size + 1 + 1 + 1 := by omega
  go_enter Try.func146, Try.ntmps146
  go_wp2
  rw [← hwq]
  generalize ((((wq.alloc (.cells #[.int .i64 s, .int .i64 t] 2)).alloc (.cells #[.slice (some ⟨w.heap.size, 0, none⟩) 2 2] 26)).alloc (.cells #[] 2)).alloc (.cells #[.slice (some ⟨w.heap.size + 1 + 1, 0, none⟩) 0 0] 26)) = w1 at hG hX hW ⊢
  have hN1 : New w0 w1 := hn0.within hW hxb
  have hzw : w.heap.size ≤ w1.heap.size := hW.2.2.2.1
  have n1 := mach_n ok1
  have n2 := mach_n ok2
  have l3' := mach_l ok1
  have HC1 := hid hc1
  have HC2 := hid hc2
  have HC3 := hid hc3
  have HC4 := hid hc4
  have HB := hid (fun (t' : Bfs (Int × Int)) (h : BOk (apP m1 m2) m1.nx.length t') => ap_bound ok1 ok2 h)
  have HT := hid (fun k => ap_bok ok1 ok2 hl s t hp k)
  have HR1 := hid (fun l (h : l < m1.nx.length) => mach_row ok1 l h)
  have HR2 := hid (fun l (h : l < m2.nx.length) => mach_row ok2 l h)
  have HO1 := hid (mach_out ok1)
  have HO2 := hid (mach_out ok2)
  have HLL := hid hl
  have HHIT := hid (fun k l h1 h2 h3 h4 h5 => apart_hit ok1 ok2 hl s t hp k l h1 h2 h3 h4 h5)
  have HNONE := hid (fun k h1 h2 => apart_none ok1 ok2 hl s t hp k h1 h2)
  have HROW := hid (fun (t' : Bfs (Int × Int)) (h : BOk (apP m1 m2) m1.nx.length t') k (hk : k < t'.list.length) l (hl' : l ≤ m1.nx.length) => h.row (g := apG m1 m2) (fun l x y hl'' hx hg => apG_ok ok1 ok2 hl l x y hl'' hx hg) k hk l hl')
  clear hc1 hc2 hc3 hc4 hwq hx x0 x1 x2 x3 f2 f3 y3 hzq l1 l2 l3 hnq
  go_loopw [8] (fun i wr => ∃ (k : Nat) (v1 v2 : Value), i = .int .i64 k ∧ k ≤ (apT m1 m2 s t k).list.length ∧ Within xb (xb + 1) w wr ∧ New w0 wr ∧ XBox wr xb (.pointer (some ⟨p1, 0, none⟩)) (.pointer (some ⟨p2, 0, none⟩)) v1 v2 ∧
      Grow2 w.heap.size 26 26 wr v1 v2 ((apT m1 m2 s t k).list.map apRow) (apT m1 m2 s t k).words ∧ Hid (∀ i j, i < k → j < m1.nx.length → apHit m1 m2 j (nth (apT m1 m2 s t k).list i) = false)) (fun i _ => 1025 - (intOf i).toNat)
  case atStart => exact ⟨0, _, _, rfl, Nat.zero_le _, hW, hN1, hX, hG, hid (fun i j hi => absurd hi (by omega))⟩
  case round =>
    obtain ⟨k, v1, v2, rfl, hk, hWr, hNr, hXr, hGr, hno⟩ := hrel
    clear hG hX hW hN1 hzw
    obtain ⟨wo, rfl⟩ : ∃ wo : World, wo = wr := ⟨_, rfl⟩
    obtain ⟨x0, x1, x2, x3, _, _⟩ := id hXr
    have hbok := HT.out k
    have hlen := HB.out _ hbok
    have hlw := hbok.lw
    obtain ⟨⟨B1, cc1, rfl⟩, B2, cc2, rfl⟩ := hGr.form
    rw [List.length_map] at *
    by_cases hlt : k < (apT m1 m2 s t k).list.length
    · have b1 : (k : Int) < ((apT m1 m2 s t k).list.length : Int) := by omega
      obtain ⟨br1, cr1, Ar1, kr1, e1, hr1, ho1⟩ := hGr.row1 k (by rw [List.length_map]; exact hlt)
      obtain ⟨P, hP⟩ : ∃ P, P = nth (apT m1 m2 s t k).list k := ⟨_, rfl⟩
      rw [nth_map _ _ _ hlt, ← hP] at hr1 ho1
      have eP : (apRow P).length = 2 := rfl
      rw [eP] at hr1 ho1
      rw [List.length_map] at e1
      injection e1 with e1 e1' e1''
      subst e1
      clear e1' e1'' eP
      have hPok := hbok.ok P (by rw [hP]; exact nth_mem _ _ hlt)
      obtain ⟨⟨s0, s1⟩, t0, t1⟩ := hPok
      have HPD := hid hP
      clear hP
      go_wp2_with fail
      go_loopw [10] (fun x wr => ∃ (l : Nat) (v1 v2 : Value), x = .int .i64 l ∧ l ≤ m1.nx.length ∧ Within xb (xb + 1) w wr ∧ New w0 wr ∧ XBox wr xb (.pointer (some ⟨p1, 0, none⟩)) (.pointer (some ⟨p2, 0, none⟩)) v1 v2 ∧
          Grow2 w.heap.size 26 26 wr v1 v2 ((bRow (apG m1 m2) k (apT m1 m2 s t k) l).list.map apRow) (bRow (apG m1 m2) k (apT m1 m2 s t k) l).words ∧ RowIn w.heap.size wr v1 v2 (.slice Ar1 2 kr1) (apRow P) ∧ Hid (∀ j, j < l → apHit m1 m2 j P = false)) (fun x _ => m1.nx.length - (intOf x).toNat)
      case atStart => exact ⟨0, _, _, rfl, Nat.zero_le _, hWr, hNr, hXr, hGr, ho1, hid (fun j hj => absurd hj (by omega))⟩
      case round =>
        obtain ⟨l, v1, v2, rfl, hll, hWl, hNl, hXl, hGl, hPl, hno2⟩ := hrel
        clear hGr hXr hWr hNr x0 x1 x2 x3 hr1 ho1
        obtain ⟨wi, rfl⟩ : ∃ wi : World, wi = wr := ⟨_, rfl⟩
        have hbok2 := HROW.out _ hbok k hlt l hll
        have hlen2 := HB.out _ hbok2
        have hlw2 := hbok2.lw
        have y2 := hNl.cell a2
        have y3 := hNl.cell a3
        have z2 := hNl.cell c2
        have z3 := hNl.cell c3
        by_cases hltl : l < m1.nx.length
        · have b2 : (l : Int) < (m1.nx.length : Int) := by omega
          have HPRE := hid (bRow_pre' (g := apG m1 m2) k (apT m1 m2 s t k) l)
          have hk2 : k < (bRow (apG m1 m2) k (apT m1 m2 s t k) l).words.length := by rw [hlw2]; have := HPRE.out.1; omega
          have HWE := hid (show nth (bRow (apG m1 m2) k (apT m1 m2 s t k) l).words k = nth (apT m1 m2 s t k).words k from (HPRE.out.2 k hlt).2 hlw)
          have hwl := hbok2.wl k (by omega)
          have HSUCC := hid (bRow_succ (apG m1 m2) k (apT m1 m2 s t k) l)
          have HNTH := hid (show nth (bRow (apG m1 m2) k (apT m1 m2 s t k) l).list k = P by rw [(HPRE.out.2 k hlt).1, HPD.out])
          obtain ⟨T', hT'⟩ : ∃ T', T' = bRow (apG m1 m2) k (apT m1 m2 s t k) l := ⟨_, rfl⟩
          rw [← hT'] at hGl hk2 hwl hlen2 hlw2 HWE HSUCC HNTH hbok2
          obtain ⟨RS, hRS⟩ : ∃ RS, RS = T'.list.map apRow := ⟨_, rfl⟩
          rw [← hRS] at hGl
          have HRS := hid hRS
          have HRL := hid (show RS.length = T'.list.length by rw [hRS, List.length_map])
          clear hRS
          obtain ⟨⟨B1, cc1, rfl⟩, B2, cc2, rfl⟩ := hGl.form
          obtain ⟨x0, x1, x2, x3, _, _⟩ := id hXl
          have hwi : w.heap.size ≤ wi.heap.size := hWl.2.2.2.1
          have k3' : (k : Int) < (T'.words.length : Int) := by omega
          obtain ⟨bw, cw, Aw, kw, e2, hw2, hoW⟩ := hGl.row2 k hk2
          injection e2 with e2 e2' e2''
          subst e2
          clear e2' e2''
          obtain ⟨Ap, cp, ep, _, hpb, hpc⟩ := id hPl.1
          injection ep with ep1 ep2 ep3
          subst ep1
          clear ep2 ep3
          obtain ⟨pb, po, rfl, hp0, _⟩ := hpc 0 (by show 0 < 2; decide)
          obtain ⟨_, _, e3, hp1, _⟩ := hpc 1 (by show 1 < 2; decide)
          cases e3
          have hp0 : wi.cell? ⟨pb, po + 0, none⟩ = some (.int .i64 P.1) := hp0
          have hp1 : wi.cell? ⟨pb, po + 1, none⟩ = some (.int .i64 P.2) := hp1
          rw [Nat.add_zero] at hp0
          have hr1 := (HR1.out l hltl).1
          have hr2 := (HR2.out l (by have := HLL.out; omega)).1
          have hl2 : l < m2.nx.length := by have := HLL.out; omega
          have hq1 := HO1.out.2 l (by rw [HO1.out.1]; exact hltl)
          have hq2 := HO2.out.2 l (by rw [HO2.out.1]; exact hl2)
          have ho1l := HO1.out.1
          have ho2l := HO2.out.1
          obtain ⟨b4, o4, rv4, rfl, hx4, hr4⟩ := HC1.out l hltl
          obtain ⟨A5, c5, rfl, _, hc5⟩ := hr4
          obtain ⟨b5, o5, rfl, hx5⟩ := hc5 P.1.toNat (by omega)
          obtain ⟨b6, o6, rv6, rfl, hx6, hr6⟩ := HC2.out l (by omega)
          obtain ⟨A7, c7, rfl, _, hc7⟩ := hr6
          obtain ⟨b7, o7, rfl, hx7⟩ := hc7 P.1.toNat (by omega)
          obtain ⟨b8, o8, rv8, rfl, hx8, hr8⟩ := HC3.out l hl2
          obtain ⟨A9, c9, rfl, _, hc9⟩ := hr8
          obtain ⟨b9, o9, rfl, hx9⟩ := hc9 P.2.toNat (by omega)
          obtain ⟨b10, o10, rv10, rfl, hx10, hr10⟩ := HC4.out l (by omega)
          obtain ⟨A11, c11, rfl, _, hc11⟩ := hr10
          obtain ⟨b11, o11, rfl, hx11⟩ := hc11 P.2.toNat (by omega)
          have g1 : P.1 < ((nth m1.nx l).length : Int) := by omega
          have g2 : P.2 < ((nth m2.nx l).length : Int) := by omega
          have g3 : P.1 < ((nth m1.out l).length : Int) := by omega
          have g4 : P.2 < ((nth m2.out l).length : Int) := by omega
          have g5 : (l : Int) < (m1.out.length : Int) := by omega
          have g6 : (l : Int) < (m2.out.length : Int) := by omega
          have g7 : (l : Int) < (m2.nx.length : Int) := by omega
          clear hc5 hc7 hc9 hc11 hpc hq1 hq2 hr1 hr2 ho1l ho2l hT'
          go_wp2_with (first
            | (go_at_call 73; refine (l00OwnG_any _ _ _ hoW.1.at (by omega)).mono ?_; rintro e w7 ⟨r7, he, hn7, ho7⟩; obtain ⟨A77, c77, rfl⟩ := ho7.form; subst he; have hz7 := hn7.size)
            | (at_builtin; refine wpList_app rfl _ _ _ rfl Try.underlying26 info_i64 _ _ rfl ho7 rfl (by omega) (by omega) ?_; intro g8 cap8 w8 ho8 hg8; have hn8 : New wi w8 := New.app (a := wi) hn7 hg8 ho7 (Nat.le_refl _)))
          have hv1 := hGl.blocks.1
          have hv2 := hGl.blocks.2
          have hs8 := hn8.size
          obtain ⟨va, hva⟩ : ∃ z, z = nth (nth m1.out l) P.1.toNat := ⟨_, rfl⟩
          obtain ⟨vb, hvb⟩ : ∃ z, z = nth (nth m2.out l) P.2.toNat := ⟨_, rfl⟩
          obtain ⟨na, hna⟩ : ∃ z, z = nth (nth m1.nx l) P.1.toNat := ⟨_, rfl⟩
          obtain ⟨nb, hnb⟩ : ∃ z, z = nth (nth m2.nx l) P.2.toNat := ⟨_, rfl⟩
          rw [← hva] at hx7
          rw [← hvb] at hx11
          rw [← hna] at hx5
          rw [← hnb] at hx9
          have HHI := hid (show apHit m1 m2 l P = decide (va ≠ vb) by rw [hva, hvb]; rfl)
          have HG := hid (show apG m1 m2 l P = some (na, nb) by rw [hna, hnb]; rfl)
          clear hva hvb hna hnb
          have hX8 := hXl.new hn8
          have hG8 := hGl.new hn8
          have hP8 := hPl.new hn8
          have hN8 := hNl.trans hn8
          have hW8 := hWl.trans (Within.of_new hn8 xb (xb + 1))
          have ho8' := (ho8.own (by simp; omega)).widen (E' := w8.heap.size) (Nat.le_refl _) (Nat.le_refl _)
          have HO8 := hid ho8'
          replace hp0 := hn8.cell hp0
          replace hp1 := hn8.cell hp1
          clear ho8' ho8 ho7 hn7 hg8 hXl hGl hPl hNl hWl hoW hw2 x0 x1 x2 x3 y2 y3 z2 z3 hz7 hn8
          have HR8 := hid (fun w' (hn : New w8 w') => (show RowIn w.heap.size w' (.slice B1 RS.length cc1) (.slice (some ⟨bw, 0, none⟩) T'.words.length cc2) (.slice (some ⟨g8, 0, none⟩) ((nth T'.words k).length + 1) cap8) (nth T'.words k ++ [(l : Int)]) from
            (RowIn.fresh HO8.out hwi (fun k hk => (hv1 k hk).2) (fun k hk => (hv2 k hk).2)).new hn))
          obtain ⟨x0, x1, x2, x3, _, _⟩ := id hX8
          have y2 := hN8.cell a2
          have y3 := hN8.cell a3
          have z2 := hN8.cell c2
          have z3 := hN8.cell c3
          have u4 := hN8.cell hx4
          have u5 := hN8.cell hx5
          have u6 := hN8.cell hx6
          have u7 := hN8.cell hx7
          have u8 := hN8.cell hx8
          have u9 := hN8.cell hx9
          have u10 := hN8.cell hx10
          have u11 := hN8.cell hx11
          by_cases hab : va = vb
          · have hq : (va != vb) = false := by simp [hab]
            have HNO := hid (show apHit m1 m2 l P = false by rw [HHI.out]; simp [hab])
            clear hab
            go_quiet (fail)
            have hnd : New w8 (w8.drewN nq) := (New.refl _).drewN nq
            have hXa := hX8.new hnd
            have hGa := hG8.new hnd
            have hPa := hP8.new hnd
            have hNa := hN8.trans hnd
            have hWa := hW8.trans (Within.of_new hnd xb (xb + 1))
            replace hp0 := hnd.cell hp0
            replace hp1 := hnd.cell hp1
            have HRa := hid (HR8.out _ hnd)
            have hsa := hnd.size
            clear x0 x1 x2 x3 y2 y3 z2 z3 u4 u5 u6 u7 u8 u9 u10 u11 hX8 hG8 hP8 hN8 hW8 HR8 hnd HO8
            generalize w8.drewN nq = wa at hXa hGa hPa hNa hWa hp0 hp1 HRa hsa ⊢
            obtain ⟨x0, x1, x2, x3, _, _⟩ := id hXa
            have y2 := hNa.cell a2
            have y3 := hNa.cell a3
            have z2 := hNa.cell c2
            have z3 := hNa.cell c3
            have u4 := hNa.cell hx4
            have u5 := hNa.cell hx5
            have u8 := hNa.cell hx8
            have u9 := hNa.cell hx9
            have hQok : apP m1 m2 (na, nb) := apG_ok ok1 ok2 HLL.out l P (na, nb) hltl ⟨⟨s0, s1⟩, t0, t1⟩ HG.out
            go_wp2_with fail
            refine wp_region_still_tail 30 (by kernel_rfl) (by kernel_rfl) ?_
            simp only [List.take_succ_cons, List.take_zero, List.drop_succ_cons, List.drop_zero]
            repeat still_step
            refine wpStill_nil ?_
            change wpList _ _ _ _ _ wa.drew
            have hnd : New wa wa.drew := (New.refl _).drew
            have hXd := hXa.new hnd
            have hGd := hGa.new hnd
            have hPd := hPa.new hnd
            have hNd := hNa.trans hnd
            have hWd := hWa.trans (Within.of_new hnd xb (xb + 1))
            have HRd := hid (HRa.out.new hnd)
            have hsd : wi.heap.size ≤ wa.drew.heap.size := by rw [size_drew]; omega
            clear x0 x1 x2 x3 y2 y3 z2 z3 u4 u5 u8 u9 hXa hGa hPa hNa hWa HRa hnd hp0 hp1
            generalize wa.drew = wd at hXd hGd hPd hNd hWd HRd hsd ⊢
            obtain ⟨x0, x1, x2, x3, _, _⟩ := id hXd
            have hxs := hXd.lt
            have hnb : New wd (wd.alloc (.cells #[.int .i64 na, .int .i64 nb] 2)) := (New.refl _).alloc _
            have hob : OwnInts wd.heap.size (wd.alloc (.cells #[.int .i64 na, .int .i64 nb] 2)).heap.size (wd.alloc (.cells #[.int .i64 na, .int .i64 nb] 2)) (.slice (some ⟨wd.heap.size, 0, none⟩) 2 2) (apRow (na, nb)) := OwnInts.pair wd na nb _
            have hzb : (wd.alloc (.cells #[.int .i64 na, .int .i64 nb] 2)).heap.size = wd.heap.size + 1 := size_alloc _ _
            have hXb := hXd.new hnb
            have hGb := hGd.new hnb
            have hPb := hPd.new hnb
            have hNb := hNd.trans hnb
            have hWb := hWd.trans (Within.of_new hnb xb (xb + 1))
            have HRb := hid (HRd.out.new hnb)
            have hRn : RowIn w.heap.size (wd.alloc (.cells #[.int .i64 na, .int .i64 nb] 2)) (.slice B1 RS.length cc1) (.slice (some ⟨bw, 0, none⟩) T'.words.length cc2) (.slice (some ⟨wd.heap.size, 0, none⟩) 2 2) (apRow (na, nb)) :=
              RowIn.fresh hob (by omega) (fun k hk => by have := (hv1 k hk).2; omega) (fun k hk => by have := (hv2 k hk).2; omega)
            have hll1 : RS.length ≤ 1099511627776 := by rw [HRL.out]; omega
            obtain ⟨hrows1, _⟩ := hGb.rows hll1 (by omega)
            have CF := l01Find_any _ _ _ _ _ hrows1 hob.at
            clear hrows1
            by_cases hm : (na, nb) ∈ T'.list
            · obtain ⟨jj, _, hj, _⟩ := findL_mem (show apRow (na, nb) ∈ RS by rw [HRS.out]; exact (apRow_mem T'.list (na, nb)).2 hm)
              rw [hj] at CF
              have HS := hid (show bRow (apG m1 m2) k (apT m1 m2 s t k) (l + 1) = T' by rw [HSUCC.out, bStep_has _ _ _ _ (na, nb) (by rw [HNTH.out]; exact HG.out) hm])
              have hneg : ¬ ((jj : Int) < 0) := by omega
              clear hm hj
              go_wp2_with (go_at_call 82; refine CF.mono ?_; rintro e wc ⟨rfl, hnc⟩)
              go_roundw
              case rel =>
                refine ⟨l + 1, _, _, by go_num, by omega, hWb.trans (Within.of_new hnc _ _), hNb.trans hnc, hXb.new hnc, ?_, hPb.new hnc, hid (fun j hj => ?_)⟩
                · rw [HS.out, ← HRS.out]; exact hGb.new hnc
                · rcases Nat.lt_succ_iff_lt_or_eq.1 hj with h | h
                  · exact hno2.out j h
                  · subst h; exact HNO.out
              case measure => simp [intOf]; omega
            · have hj := findL_not (show apRow (na, nb) ∉ RS from fun h => hm ((apRow_mem T'.list (na, nb)).1 (by rw [← HRS.out]; exact h)))
              rw [hj] at CF
              have HS := hid (show bRow (apG m1 m2) k (apT m1 m2 s t k) (l + 1) = ⟨T'.list ++ [(na, nb)], T'.words ++ [nth T'.words k ++ [(l : Int)]]⟩ by rw [HSUCC.out, bStep_new _ _ _ _ (na, nb) (by rw [HNTH.out]; exact HG.out) hm])
              have hV1 := hid (show ∀ q, (Value.slice B1 RS.length cc1).ownBlock = some q → w.heap.size ≤ q from fun q hq => (hGb.blocks.1 q hq).1)
              have hV2 := hid (show ∀ q, (Value.slice (some ⟨bw, 0, none⟩) T'.words.length cc2).ownBlock = some q → w.heap.size ≤ q from fun q hq => (hGb.blocks.2 q hq).1)
              have hRl : RS.length < 1099511627776 := by rw [HRL.out]; omega
              have hWl1 : T'.words.length < 1099511627776 := by omega
              clear hm hj hlw2
              go_wp2_with (first
                | (go_at_call 82; refine CF.mono ?_; rintro e wc ⟨rfl, hnc⟩; have hXc := hXb.new hnc; have hGc := hGb.new hnc; have hPc := hPb.new hnc; have hRc := HRb.out.new hnc; have hRnc := hRn.new hnc; have hWc := hWb.trans (Within.of_new hnc _ _); have hzc := hnc.size; obtain ⟨q0, q1, q2, q3, _, _⟩ := id hXc; obtain ⟨⟨l1, hl1, _⟩, _⟩ := hGc.spine; have hzw := hWc.2.2.2.1)
                | (at_builtin; refine wpList_appV rfl _ _ _ rfl (B := w.heap.size) Try.underlying22 info_ints rfl (by decide) rfl (.slice B1 RS.length cc1) RS.length l1 rfl hl1 rfl hRl hzw ?_; intro g1 cap1 wd1 hod1 hgd1 hlocd1; have hG1 := hGc.app1 hl1 hRnc.1 hRnc.2.1 hRnc.2.2 hod1 hgd1 (hlocd1.imp id Nat.le_of_lt); have hP1 := hPc.app1 (n := RS.length + 1) (cap := cap1) hgd1 (hlocd1.imp id Nat.le_of_lt); have hR1 := hRc.app1 (n := RS.length + 1) (cap := cap1) hgd1 (hlocd1.imp id Nat.le_of_lt); have hX1 := hXc.grown hgd1 (fun q hq => by have := hV1.out q hq; omega); have hW1 := hWc.app hgd1 hV1.out; obtain ⟨r0, r1, r2, r3, rf2, rf3⟩ := id hX1; have hX2 := hX1.set2 (.slice (some ⟨g1, 0, none⟩) (RS.length + 1) cap1); obtain ⟨s0', s1', s2', s3', sf2, sf3⟩ := id hX2; have hgs := grown_setCell wd1 ⟨xb, 2, none⟩ (.slice (some ⟨g1, 0, none⟩) (RS.length + 1) cap1); have hG2 := hG1.low hgs hxl; have hP2 := hP1.low hgs hxl; have hR2 := hR1.low hgs hxl; obtain ⟨_, l2, hl2, _⟩ := hG2.spine; have hW2 := hW1.trans (within_setCell wd1 ⟨xb, 2, none⟩ (.slice (some ⟨g1, 0, none⟩) (RS.length + 1) cap1)); have hz2 := hW2.2.2.2.1)
                | (at_builtin; refine wpList_appV (w1 := wd1.setCell ⟨xb, 2, none⟩ (.slice (some ⟨g1, 0, none⟩) (RS.length + 1) cap1)) rfl _ _ _ rfl (B := w.heap.size) Try.underlying22 info_ints rfl (by decide) rfl (.slice (some ⟨bw, 0, none⟩) T'.words.length cc2) T'.words.length l2 rfl hl2 (by rw [size_setCell]; rfl) hWl1 hz2 ?_; intro g2 cap2 wd2 hod2 hgd2 hlocd2; have hG3 := hG2.app2 hl2 hR2.1 hR2.2.1 hR2.2.2 hod2 hgd2 (hlocd2.imp id Nat.le_of_lt); have hP3 := hP2.app2 (n := T'.words.length + 1) (cap := cap2) hgd2 (hlocd2.imp id Nat.le_of_lt); have hX3 := hX2.grown hgd2 (fun q hq => by have := hV2.out q hq; omega); have hW3 := hW2.app hgd2 hV2.out; obtain ⟨t0', t1', t2', t3', tf2, tf3⟩ := id hX3))
              go_roundw
              case rel =>
                have hgs3 := grown_setCell wd2 ⟨xb, 3, none⟩ (.slice (some ⟨g2, 0, none⟩) (T'.words.length + 1) cap2)
                have hW4 := hW3.trans (within_setCell wd2 ⟨xb, 3, none⟩ (.slice (some ⟨g2, 0, none⟩) (T'.words.length + 1) cap2))
                refine ⟨l + 1, _, _, by go_num, by omega, hW4, hn0.within hW4 hxb, hX3.set3 _, ?_, hP3.low hgs3 hxl, hid (fun j hj => ?_)⟩
                · rw [HS.out, List.map_append, ← HRS.out]
                  exact hG3.low hgs3 hxl
                · rcases Nat.lt_succ_iff_lt_or_eq.1 hj with h | h
                  · exact hno2.out j h
                  · subst h; exact HNO.out
              case measure => simp [intOf]; omega
          · have hq : (va != vb) = true := by simp [hab]
            have HRES := hid (HHIT.out k l hlt hltl (by rw [← HPD.out, HHI.out]; simp [hab]) (fun j hj => by rw [← HPD.out]; exact hno2.out j hj) hno.out)
            clear hab
            go_quiet (fail)
            go_wp2_with fail
            go_ret2
            rw [HRES.out]
            refine ⟨_, rfl, hW8.trans (Within.of_new (by repeat (first | with_reducible exact New.refl _ | with_reducible assumption | with_reducible refine New.alloc ?_ _ | with_reducible refine New.drew ?_ | with_reducible refine New.drewN ?_ _ | with_reducible refine New.setCell ?_ (by simp <;> omega) _)) _ _), ?_⟩
            have := (HR8.out _ (New.refl _)).1.new ((New.refl _).drewN nq)
            rw [← HWE.out]
            exact this
        · have e : l = m1.nx.length := by omega
          subst e
          have HE := hid (show apT m1 m2 s t (k + 1) = bRow (apG m1 m2) k (apT m1 m2 s t k) m1.nx.length by unfold apT at hlt ⊢; rw [bTo_succ, if_pos hlt])
          have hpre := (bRow_pre' (g := apG m1 m2) k (apT m1 m2 s t k) m1.nx.length)
          have HPRE := hid hpre
          clear hpre
          obtain ⟨x0, x1, x2, x3, _, _⟩ := id hXl
          go_wp2_with fail
          go_roundw
          case rel => exact ⟨k + 1, _, _, by go_num, by rw [HE.out]; have := HPRE.out.1; omega, hWl, hNl, hXl, by rw [HE.out]; exact hGl, hid (fun i j hi hj => by
              rw [HE.out]
              rcases Nat.lt_succ_iff_lt_or_eq.1 hi with h | h
              · rw [(HPRE.out.2 i (by omega)).1]; exact hno.out i j h hj
              · subst h; rw [(HPRE.out.2 i hlt).1, ← HPD.out]; exact hno2.out j hj)⟩
          case measure => simp [intOf]; omega
    · have e : k = (apT m1 m2 s t k).list.length := by omega
      have HE := hid (HNONE.out k e.symm hno.out)
      have b1 : ¬ (k : Int) < ((apT m1 m2 s t k).list.length : Int) := by omega
      clear e
      go_wp2_with fail
      go_ret2
      rw [HE.out]
      exact ⟨_, rfl, hWr.trans (Within.of_new (by repeat (first | with_reducible exact New.refl _ | with_reducible assumption | with_reducible refine New.alloc ?_ _ | with_reducible refine New.drew ?_ | with_reducible refine New.drewN ?_ _ | with_reducible refine New.setCell ?_ (by simp <;> omega) _)) _ _), OwnInts.none' _ hWr.2.2.2.1 (by (try simp only [sizes]) <;> omega)⟩

end Go.Proofs.Ytcjmcpfdpnakkaa
