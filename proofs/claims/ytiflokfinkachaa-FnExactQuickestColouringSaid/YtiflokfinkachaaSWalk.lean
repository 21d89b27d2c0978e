/- The reference's walk through all sets. -/
import Derived.Test.YtiflokfinkachaaRows
import Derived.Test.YtiflokfinkachaaCore
import Derived.Test.YtiflokfinkachaaInfos
import Derived.Test.YtiflokfinkachaaPlains
import Derived.Test.YtiflokfinkachaaMaps
import Derived.Test.YtiflokfinkachaaWalkV
import Derived.Test.YtiflokfinkachaaSBase
import Derived.Test.YtiflokfinkachaaSFlk
import Derived.WalkKit
import Derived.WalkSpells
import Derived.WalkLawsBesides
import Derived.Deep.QuietTactic
import Derived.Deep.OwnRows
import Derived.BigQuiet
import Derived.KernelRfl
namespace Go.Proofs.Ytiflokfinkachaa
open Go.RowKit

theorem SL.congr {e1 e2 e3 : TypeId} {B bx sb N : Nat} {w : World} {v1 v2 v3 : Value} {xs : List Nat} {ys zs : List Int} {seen seen' : Nat → Bool} (h : SL e1 e2 e3 B bx sb N w v1 v2 v3 xs ys zs seen) (e : ∀ j, seen j = seen' j) : SL e1 e2 e3 B bx sb N w v1 v2 v3 xs ys zs seen' := by
  have : seen = seen' := funext e
  rw [← this]; exact h
set_option maxRecDepth 20000 in
set_option maxHeartbeats 2000000 in
theorem l02From_any (p : Value) (a : Aut) (f : Nat) (w : World) (hp : PAut w p a) (ha : autOk a = true) (hf : f < 2 ^ a.n.toNat) :
    Calls Try.prog 197 #[p, .int .i64 f] w fun e w' => ∃ v, e = .returned v ∧ New w w' ∧ PWalk w' v (tourOf a.nx f) := by
  obtain ⟨pb, rv, rfl, hp0, hp1, hpr⟩ := hp
  obtain ⟨A2, c2, rfl, hl2, hc2⟩ := id hpr
  have hal := autOk_l ha
  have han := autOk_n ha
  obtain ⟨m, hm⟩ : ∃ m : Nat, a.n = (m : Int) := ⟨a.n.toNat, by omega⟩
  have hm10 : m ≤ 10 := by omega
  have HF := hid hf
  have HA := hid ha
  have HM := hid hm
  rw [hm] at hp0 hf
  rw [Int.toNat_natCast] at hf
  obtain ⟨N, hN⟩ : ∃ N, N = 2 ^ m := ⟨_, rfl⟩
  have hN10 : N ≤ 1024 := by rw [hN]; exact pow10' m hm10
  have hmk : ∀ w : World, (Instr.makeSlice 95 (.int .i64 (Go.RowKit.wrap64 ((2 : Int) ^ m))) (.int .i64 (Go.RowKit.wrap64 ((2 : Int) ^ m)))).run Try.prog w = .ok (.slice (some ⟨w.heap.size, 0, none⟩) N N) (w.alloc (.cells (madeCells #[.bool false] N) 4)) := fun w => by
    rw [two_pow_wrap m hm10, ← hN]
    exact run_make_row' (P := Try.prog) 95 4 (.bool false) 1 Try.underlying95 info_bool rfl .i64 .i64 N (by omega) (by omega) w
  have hfN : (f : Int) < (N : Int) := by omega
  have HN := hid hN
  clear hm ha hN han
  obtain ⟨wk, hwk⟩ : ∃ wk, wk = ((((w.alloc (.cells #[.int .i64 (f : Nat)] 3)).alloc (.cells #[.int .i64 (-1)] 3)).alloc (.cells #[.int .i64 0] 2)).alloc (.cells #[.slice (some ⟨w.heap.size, 0, none⟩) 1 1, .slice (some ⟨w.heap.size + 1, 0, none⟩) 1 1, .slice (some ⟨w.heap.size + 1 + 1, 0, none⟩) 1 1] 204)).alloc (.cells (madeCells #[.bool false] N) 4) := ⟨_, rfl⟩
  have hnk : New w wk := by rw [hwk]; exact (by repeat (first | with_reducible exact New.refl _ | with_reducible assumption | with_reducible refine New.alloc ?_ _ | with_reducible refine New.drew ?_ | with_reducible refine New.drewN ?_ _ | with_reducible refine New.setCell ?_ (by simp <;> omega) _))
  have hzk : wk.heap.size = w.heap.size + 5 := by rw [hwk]; simp only [size_alloc]
  have hbk : BoxW3 wk (w.heap.size + 1 + 1 + 1) (.slice (some ⟨w.heap.size, 0, none⟩) 1 1) (.slice (some ⟨w.heap.size + 1, 0, none⟩) 1 1) (.slice (some ⟨w.heap.size + 1 + 1, 0, none⟩) 1 1) := by rw [hwk]; exact ⟨by go_simp, by go_simp, by go_simp, by go_simp, by go_simp, by go_simp⟩
  have hSk : SL 3 2 4 w.heap.size (w.heap.size + 1 + 1 + 1) (w.heap.size + 1 + 1 + 1 + 1) N wk (.slice (some ⟨w.heap.size, 0, none⟩) 1 1) (.slice (some ⟨w.heap.size + 1, 0, none⟩) 1 1) (.slice (some ⟨w.heap.size + 1 + 1, 0, none⟩) 1 1) [f] [-1] [0] (fun _ => false) := by
    have r1 := (GrowK.one .i64 w.heap.size 3 w f (Nat.le_refl _)).new (w' := wk) (by rw [hwk]; exact (by repeat (first | with_reducible exact New.refl _ | with_reducible assumption | with_reducible refine New.alloc ?_ _ | with_reducible refine New.drew ?_ | with_reducible refine New.drewN ?_ _ | with_reducible refine New.setCell ?_ (by simp <;> omega) _)))
    have r2 := ownsRow_oneW (B := w.heap.size) (e := 3) (w.alloc (.cells #[.int .i64 (f : Nat)] 3)) (.int .i64 (-1)) (by (try simp only [sizes]) <;> omega)
    have r3 := ownsRow_oneW (B := w.heap.size) (e := 2) ((w.alloc (.cells #[.int .i64 (f : Nat)] 3)).alloc (.cells #[.int .i64 (-1)] 3)) (.int .i64 0) (by (try simp only [sizes]) <;> omega)
    have r4 := World.rowIs_made ((((w.alloc (.cells #[.int .i64 (f : Nat)] 3)).alloc (.cells #[.int .i64 (-1)] 3)).alloc (.cells #[.int .i64 0] 2)).alloc (.cells #[.slice (some ⟨w.heap.size, 0, none⟩) 1 1, .slice (some ⟨w.heap.size + 1, 0, none⟩) 1 1, .slice (some ⟨w.heap.size + 1 + 1, 0, none⟩) 1 1] 204)) (.bool false) N 4
    rw [← hwk] at r4
    simp only [size_alloc] at r2 r3 r4
    have n2 : New ((w.alloc (.cells #[.int .i64 (f : Nat)] 3)).alloc (.cells #[.int .i64 (-1)] 3)) wk := by rw [hwk]; exact (by repeat (first | with_reducible exact New.refl _ | with_reducible assumption | with_reducible refine New.alloc ?_ _ | with_reducible refine New.drew ?_ | with_reducible refine New.drewN ?_ _ | with_reducible refine New.setCell ?_ (by simp <;> omega) _))
    have n3 : New (((w.alloc (.cells #[.int .i64 (f : Nat)] 3)).alloc (.cells #[.int .i64 (-1)] 3)).alloc (.cells #[.int .i64 0] 2)) wk := by rw [hwk]; exact (by repeat (first | with_reducible exact New.refl _ | with_reducible assumption | with_reducible refine New.alloc ?_ _ | with_reducible refine New.drew ?_ | with_reducible refine New.drewN ?_ _ | with_reducible refine New.setCell ?_ (by simp <;> omega) _))
    refine ⟨r1, ownsRow_new r2 n2, ownsRow_new r3 n3, r4, ?_, ?_, ?_, ?_, ?_, ?_, ?_, ?_, ?_, ?_, ?_⟩ <;> (try simp [Value.ownBlock]) <;> omega
  have hp0k : ((((w.alloc (.cells #[.int .i64 (f : Nat)] 3)).alloc (.cells #[.int .i64 (-1)] 3)).alloc (.cells #[.int .i64 0] 2)).alloc (.cells #[.slice (some ⟨w.heap.size, 0, none⟩) 1 1, .slice (some ⟨w.heap.size + 1, 0, none⟩) 1 1, .slice (some ⟨w.heap.size + 1 + 1, 0, none⟩) 1 1] 204)).cell? ⟨pb, 0, none⟩ = some (.int .i64 (m : Nat)) := New.cell (w := w) (by repeat (first | with_reducible exact New.refl _ | with_reducible assumption | with_reducible refine New.alloc ?_ _ | with_reducible refine New.drew ?_ | with_reducible refine New.drewN ?_ _ | with_reducible refine New.setCell ?_ (by simp <;> omega) _)) hp0
  have hpb : pb < w.heap.size := World.block_lt_of_cell? w _ hp0
  have hpb1 : pb < w.heap.size + 1 := by omega
  have hpb2 : pb < w.heap.size + 1 + 1 := by omega
  have hpb3 : pb < w.heap.size + 1 + 1 + 1 := by omega
  obtain ⟨wi, hwi⟩ : ∃ wi, wi = ((((w.alloc (.cells #[.int .i64 (f : Nat)] 3)).alloc (.cells #[.int .i64 (-1)] 3)).alloc (.cells #[.int .i64 0] 2)).alloc (.cells #[.slice (some ⟨w.heap.size, 0, none⟩) 1 1, .slice (some ⟨w.heap.size + 1, 0, none⟩) 1 1, .slice (some ⟨w.heap.size + 1 + 1, 0, none⟩) 1 1] 204)).alloc (.cells ((madeCells #[.bool false] N).setIfInBounds f (.bool true)) 4) := ⟨_, rfl⟩
  have hei : wi = wk.setCell ⟨w.heap.size + 1 + 1 + 1 + 1, f, none⟩ (.bool true) := by rw [hwk, hwi]; refine (World.setCell_alloc_at _ _ _ _ _ ?_).symm; simp only [size_alloc]
  have hni : New w wi := by rw [hei]; exact hnk.setCell (by show w.heap.size ≤ w.heap.size + 1 + 1 + 1 + 1; omega) _
  have hzi : wi.heap.size = w.heap.size + 5 := by rw [hei, size_setCell, hzk]
  have hbi : BoxW3 wi (w.heap.size + 1 + 1 + 1) (.slice (some ⟨w.heap.size, 0, none⟩) 1 1) (.slice (some ⟨w.heap.size + 1, 0, none⟩) 1 1) (.slice (some ⟨w.heap.size + 1 + 1, 0, none⟩) 1 1) := by rw [hei]; exact hbk.other _ (by simp) _
  have hSi : SL 3 2 4 w.heap.size (w.heap.size + 1 + 1 + 1) (w.heap.size + 1 + 1 + 1 + 1) N wi (.slice (some ⟨w.heap.size, 0, none⟩) 1 1) (.slice (some ⟨w.heap.size + 1, 0, none⟩) 1 1) (.slice (some ⟨w.heap.size + 1 + 1, 0, none⟩) 1 1) (tTo a.nx f 0).sets (tTo a.nx f 0).before (tTo a.nx f 0).letters (fun j => (tTo a.nx f 0).sets.contains j) := by
    rw [hei]
    refine (hSk.mark f).congr fun j => ?_
    rw [tTo_zero]
    by_cases e : j = f <;> simp [tStart, e]
  have hmc : (madeCells #[Value.bool false] N)[f]? = some (.bool false) := by
    have := hSk.row.cell (by omega : f < N)
    rw [hwk] at this
    rw [← World.cell?_alloc_at (w := ((((w.alloc (.cells #[.int .i64 (f : Nat)] 3)).alloc (.cells #[.int .i64 (-1)] 3)).alloc (.cells #[.int .i64 0] 2)).alloc (.cells #[.slice (some ⟨w.heap.size, 0, none⟩) 1 1, .slice (some ⟨w.heap.size + 1, 0, none⟩) 1 1, .slice (some ⟨w.heap.size + 1 + 1, 0, none⟩) 1 1] 204))) (madeCells #[Value.bool false] N) 4 (w.heap.size + 1 + 1 + 1 + 1) f (by simp only [size_alloc])]
    exact this
  go_enter Try.func197, Try.ntmps197
  go_wp2
  rw [← hwi]
  clear hmc hp0k hpb hpb1 hpb2 hpb3 hwi hwk hei hmk hbk hSk hnk hzk hfN
  obtain ⟨bx, hbx⟩ : ∃ bx, bx = w.heap.size + 1 + 1 + 1 := ⟨_, rfl⟩
  obtain ⟨sb, hsb⟩ : ∃ sb, sb = w.heap.size + 1 + 1 + 1 + 1 := ⟨_, rfl⟩
  rw [← hsb] at hSi ⊢
  rw [← hbx] at hSi hbi ⊢
  have hbxs : w.heap.size ≤ bx := by omega
  have hbs : bx < sb := by omega
  have hsbs : w.heap.size ≤ sb := by omega
  clear hbx hsb hzi
  go_loopw [7] (fun i wr => ∃ (k : Nat) (v1 v2 v3 : Value), i = .int .i64 k ∧ k ≤ (tTo a.nx f k).sets.length ∧ New w wr ∧ BoxW3 wr bx v1 v2 v3 ∧ SL 3 2 4 w.heap.size bx sb N wr v1 v2 v3 (tTo a.nx f k).sets (tTo a.nx f k).before (tTo a.nx f k).letters (fun j => (tTo a.nx f k).sets.contains j)) (fun i _ => 1025 - (intOf i).toNat)
  case atStart => exact ⟨0, _, _, _, rfl, Nat.zero_le _, hni, hbi, hSi⟩
  case round =>
    obtain ⟨k, v1, v2, v3, rfl, hk, hn, hb, hS⟩ := hrel
    clear hbi hSi hni
    obtain ⟨wo, rfl⟩ : ∃ wo : World, wo = wr := ⟨_, rfl⟩
    obtain ⟨z0, z1, z2, _⟩ := id hb
    have hok := TOk.to HA.out f HF.out k
    have hlen := hok.len (autOk_n HA.out).2
    have HOK := hid hok
    obtain ⟨Al, cl, rfl⟩ := hS.l1.form
    by_cases hlt : k < (tTo a.nx f k).sets.length
    · have b1 : (k : Int) < ((tTo a.nx f k).sets.length : Int) := by omega
      have hF1 : nth (tTo a.nx f k).sets k < 2 ^ a.n.toNat := HOK.out.lt _ (nth_mem _ _ hlt)
      have HFK := hid hF1
      clear hF1 hok
      go_wp2
      go_loopw [8] (fun i wr => ∃ (l : Nat) (v1 v2 v3 : Value), i = .int .i64 l ∧ l ≤ a.nx.length ∧ New w wr ∧ BoxW3 wr bx v1 v2 v3 ∧ SL 3 2 4 w.heap.size bx sb N wr v1 v2 v3 (tRow a.nx k (tTo a.nx f k) l).sets (tRow a.nx k (tTo a.nx f k) l).before (tRow a.nx k (tTo a.nx f k) l).letters (fun j => (tRow a.nx k (tTo a.nx f k) l).sets.contains j)) (fun i _ => a.nx.length - (intOf i).toNat)
      case atStart => exact ⟨0, _, _, _, rfl, Nat.zero_le _, hn, hb, hS⟩
      case round =>
        clear hn hb hS z0 z1 z2
        obtain ⟨l, v1, v2, v3, rfl, hl, hn, hb, hS⟩ := hrel
        obtain ⟨wp, rfl⟩ : ∃ wp : World, wp = wr := ⟨_, rfl⟩
        replace hp1 := hn.cell hp1
        by_cases hltl : l < a.nx.length
        · have b3 : (l : Int) < (a.nx.length : Int) := by omega
          have hok2 := HOK.out.row HA.out k hlt l (by omega)
          have hslen := hok2.len (autOk_n HA.out).2
          have hst := tRow_sets a.nx k (tTo a.nx f k) l
          have HSUCC := hid (tRow_succ a.nx k (tTo a.nx f k) l)
          have hmv := moved_ok HA.out l (nth (tTo a.nx f k).sets k) hltl HFK.out
          have HS := hid (hst.2 k hlt)
          obtain ⟨T, hT⟩ : ∃ T, T = tRow a.nx k (tTo a.nx f k) l := ⟨_, rfl⟩
          rw [← hT] at HSUCC HS hS hok2 hslen
          have hkT : k < T.sets.length := by rw [hT]; omega
          have HT := hid hT
          clear hT
          rw [← HS.out] at hmv
          have HMV := hid hmv
          obtain ⟨x, hx⟩ : ∃ x, x = moved (nth a.nx l) (nth T.sets k) := ⟨_, rfl⟩
          have hxN : x < N := by rw [HN.out, hx]; have := HMV.out; rw [HM.out, Int.toNat_natCast] at this; exact this
          obtain ⟨b2, off2, rv, rfl, hx2, hr2⟩ := hc2 l hltl
          obtain ⟨r1, r2⟩ := autOk_row HA.out l hltl
          have HCC := hid (fun w1 (hm : New w w1) => show Calls Try.prog 250 #[rv, .int .i64 (nth T.sets k : Nat)] w1 fun e w' => e = .returned (.int .i64 (x : Nat)) ∧ w' = w1 from by
            rw [hx]
            have hn10 := autOk_n HA.out
            refine l02Moved_any rv (nth a.nx l) (nth T.sets k) w1 (hr2.new hm) ?_ (by omega) (fun i hi => by have := r2 i hi; omega)
            have h9 := HFK.out
            rw [HS.out, show (nth a.nx l).length = a.n.toNat by omega]; exact h9)
          have HX := hid hx
          replace hx2 := hn.cell hx2
          obtain ⟨A3, c3, rfl⟩ := hr2.form
          obtain ⟨Al, cl, rfl⟩ := hS.l1.form
          obtain ⟨A5, c5, e5, _, hc5⟩ := hS.l1.at (by omega)
          cases e5
          obtain ⟨b6, off6, rfl, hx6⟩ := hc5 k hkT
          have kb6 : (k : Int) < (T.sets.length : Int) := by omega
          obtain ⟨z0, z1, z2, f0, f1, f2⟩ := id hb
          have hsx := hS.row.cell hxN
          have hsf := hS.row.frozen x
          have kx : (x : Int) < (N : Int) := by omega
          clear hc5 hc2 r1 r2 hst hmv hx
          cases hcx : T.sets.contains x with
          | true =>
            rw [hcx] at hsx
            have HCX := hid hcx
            clear hcx
            go_wp2_with fail
            go_quiet ((go_at_call 250; exact Calls.quiet_of_same (HCC.out _ (hn.drewN _))))
            go_wp2
            go_roundw
            case rel =>
              refine ⟨l + 1, _, _, _, by go_num, by omega, hn.drewN nq, hb.new ((New.refl _).drewN nq), ?_⟩
              rw [HSUCC.out, tStep_has _ _ _ _ (by rw [← HX.out]; exact HCX.out)]
              exact hS.new ((New.refl _).drewN nq)
            case measure => simp [intOf]; omega
          | false =>
            rw [hcx] at hsx
            have HCX := hid hcx
            clear hcx
            obtain ⟨Ab, cb, rfl⟩ := hS.l2.form
            obtain ⟨Ac, cc, rfl⟩ := hS.l3.form
            have HLB := hid hok2.lb
            have HLL := hid hok2.ll
            go_wp2_with fail
            go_quiet ((go_at_call 250; exact Calls.quiet_of_same (HCC.out _ (hn.drewN _))))
            have hS1 := (hS.new ((New.refl wp).drewN nq)).mark x
            have hb1 := (hb.new ((New.refl wp).drewN nq)).other ⟨sb, x, none⟩ (by show sb ≠ bx; omega) (.bool true)
            have hz1 : ((wp.drewN nq).setCell ⟨sb, x, none⟩ (.bool true)).heap.size = wp.heap.size := by rw [size_setCell, size_drewN]
            have hzw := hn.size
            have hbl1 := hb1.lt
            obtain ⟨q0, q1, q2, qf0, qf1, qf2⟩ := id hb1
            have hB1 := hS1.l1.block
            have hn1 : New w ((wp.drewN nq).setCell ⟨sb, x, none⟩ (.bool true)) := (hn.drewN nq).setCell hsbs _
            clear z0 z1 z2 f0 f1 f2 hx6 hx2
            go_wp2_with (first
              | (at_builtin; refine wpList_appV rfl _ _ _ rfl (B := w.heap.size) Try.underlying202 info_int rfl (by decide) rfl (.slice (some ⟨b6, off6, none⟩) T.sets.length cl) T.sets.length _ rfl hS1.l1 (by show Value.slice (some ⟨wp.heap.size, 0, none⟩) 1 1 = _; rw [hz1]) (by omega) (by omega) ?_; intro g1 cap1 w1 ho1 hgr1 hloc1; have hS2 := hS1.app1 hbl1 (by simpa [GrowK] using ho1) hgr1 (by rcases hloc1 with h | h; exact Or.inl h; exact Or.inr (by omega)); have hb2 := hb1.grown hgr1 hS1.b1; have hn2 := New.grown hn1 hgr1 (fun q hq => (hB1 q hq).1); have hS3 := hS2.box (grown_setCell w1 ⟨bx, 0, none⟩ (.slice (some ⟨g1, 0, none⟩) (T.sets.length + 1) cap1)); have hb3 := hb2.set0 (.slice (some ⟨g1, 0, none⟩) (T.sets.length + 1) cap1); have hn3 := hn2.setCell (p := ⟨bx, 0, none⟩) hbxs (.slice (some ⟨g1, 0, none⟩) (T.sets.length + 1) cap1); have hs1 := hgr1.size; have hz3 := size_setCell w1 ⟨bx, 0, none⟩ (.slice (some ⟨g1, 0, none⟩) (T.sets.length + 1) cap1); obtain ⟨s0, s1, s2, sf0, sf1, sf2⟩ := id hb2; obtain ⟨t0, t1, t2, tf0, tf1, tf2⟩ := id hb3; have hB3 := hS3.l2.block; have hbl3 := hb3.lt)
              | (at_builtin; refine wpList_appV rfl _ _ _ rfl (B := w.heap.size) Try.underlying202 info_int rfl (by decide) rfl (.slice Ab T.before.length cb) T.before.length _ rfl hS3.l2 (by show Value.slice (some ⟨w1.heap.size, 0, none⟩) 1 1 = _; rw [hz3]) (by have := HLB.out; omega) (by omega) ?_; intro g2 cap2 w2 ho2 hgr2 hloc2; have hS4 := hS3.app2 (y := (k : Int)) hbl3 (by simpa [Grow] using ho2) hgr2 (by rcases hloc2 with h | h; exact Or.inl h; exact Or.inr (by omega)); have hb4 := hb3.grown hgr2 hS3.b2; have hn4 := New.grown hn3 hgr2 (fun q hq => (hB3 q hq).1); have hS5 := hS4.box (grown_setCell w2 ⟨bx, 1, none⟩ (.slice (some ⟨g2, 0, none⟩) (T.before.length + 1) cap2)); have hb5 := hb4.set1 (.slice (some ⟨g2, 0, none⟩) (T.before.length + 1) cap2); have hn5 := hn4.setCell (p := ⟨bx, 1, none⟩) hbxs (.slice (some ⟨g2, 0, none⟩) (T.before.length + 1) cap2); have hs2 := hgr2.size; have hz5 := size_setCell w2 ⟨bx, 1, none⟩ (.slice (some ⟨g2, 0, none⟩) (T.before.length + 1) cap2); obtain ⟨s0, s1, s2, sf0, sf1, sf2⟩ := id hb4; obtain ⟨t0, t1, t2, tf0, tf1, tf2⟩ := id hb5; have hB5 := hS5.l3.block; have hbl5 := hb5.lt)
              | (at_builtin; refine wpList_appV rfl _ _ _ rfl (B := w.heap.size) Try.underlying26 info_i64 rfl (by decide) rfl (.slice Ac T.letters.length cc) T.letters.length _ rfl hS5.l3 (by show Value.slice (some ⟨w2.heap.size, 0, none⟩) 1 1 = _; rw [hz5]) (by have := HLL.out; omega) (by omega) ?_; intro g3 cap3 w3 ho3 hgr3 hloc3; have hS6 := hS5.app3 (z := (l : Int)) hbl5 (by simpa [Grow] using ho3) hgr3 (by rcases hloc3 with h | h; exact Or.inl h; exact Or.inr (by omega)); have hb6 := hb5.grown hgr3 hS5.b3; have hn6 := New.grown hn5 hgr3 (fun q hq => (hB5 q hq).1); have hS7 := hS6.box (grown_setCell w3 ⟨bx, 2, none⟩ (.slice (some ⟨g3, 0, none⟩) (T.letters.length + 1) cap3)); have hb7 := hb6.set2 (.slice (some ⟨g3, 0, none⟩) (T.letters.length + 1) cap3); have hn7 := hn6.setCell (p := ⟨bx, 2, none⟩) hbxs (.slice (some ⟨g3, 0, none⟩) (T.letters.length + 1) cap3); obtain ⟨s0, s1, s2, sf0, sf1, sf2⟩ := id hb6))
            go_roundw
            case rel =>
              refine ⟨l + 1, _, _, _, by go_num, by omega, hn7, hb7, ?_⟩
              rw [HSUCC.out, tStep_new _ _ _ _ (by rw [← HX.out]; exact HCX.out), ← HX.out]
              refine hS7.congr fun j => ?_
              by_cases e : j = x <;> simp [e]
            case measure => simp [intOf]; omega
        · have e : l = a.nx.length := by omega
          subst e
          have hst := tRow_sets a.nx k (tTo a.nx f k) a.nx.length
          have HE := hid (show tTo a.nx f (k + 1) = tRow a.nx k (tTo a.nx f k) a.nx.length by rw [tTo_succ, if_pos hlt])
          have hst1 := hst.1
          clear hst
          go_wp2
          go_roundw
          case rel => exact ⟨k + 1, _, _, _, by go_num, by rw [HE.out]; omega, hn, hb, by rw [HE.out]; exact hS⟩
          case measure => simp [intOf]; omega
    · have e : k = (tTo a.nx f k).sets.length := by omega
      have HE := hid (tour_end HA.out f HF.out k e.symm)
      clear e
      have hlb := hok.lb
      have hll := hok.ll
      have hok' := tourOk HA.out f HF.out
      go_wp2
      go_ret
      rw [HE.out]
      exact ⟨_, rfl, hn, bx, _, _, _, rfl, z0, z1, z2, hS.l1.at (by omega), (hS.l2.own (by omega)).at, (hS.l3.own (by omega)).at⟩

end Go.Proofs.Ytiflokfinkachaa
