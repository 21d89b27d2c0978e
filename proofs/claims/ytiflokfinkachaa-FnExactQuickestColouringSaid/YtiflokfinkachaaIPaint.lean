/- The program's roads with the arrangements of all towns. -/
import Derived.Test.YtiflokfinkachaaRows
import Derived.Test.YtiflokfinkachaaCore
import Derived.Test.YtiflokfinkachaaInfos
import Derived.Test.YtiflokfinkachaaPlains
import Derived.Test.YtiflokfinkachaaMaps
import Derived.Test.YtiflokfinkachaaArrs
import Derived.Test.YtiflokfinkachaaJoins
import Derived.Test.YtiflokfinkachaaIArr
import Derived.Test.YtiflokfinkachaaIArr2
import Derived.WalkKit
import Derived.WalkSpells
import Derived.WalkLawsBesides
import Derived.Deep.QuietTactic
import Derived.Deep.OwnRows
import Derived.BigQuiet
import Derived.KernelRfl
import Derived.Carry
import Derived.Deep.RegionLaw
namespace Go.Proofs.Ytiflokfinkachaa
open Go.RowKit

theorem info_rows : (Try.prog.info? 22).map (fun i => (i.zero, i.size, i.bytes)) = some (some (.slice none 0 0), 1, 24) := by kernel_rfl
set_option maxRecDepth 20000 in
set_option maxHeartbeats 4000000 in
theorem newPaintS_any (v : Value) (r : Aut) (w : World) (h : AutAt w v r) (hl : r.nx.length ≤ 7) (hll : ∀ i, i < r.nx.length → (nth r.nx i).length ≤ 3) :
    Calls Try.prog 108 #[v] w fun e w' => ∃ rv rc, e = .returned (.agg #[.int .i64 r.n, rv, rc]) ∧ v = .agg #[.int .i64 r.n, rv] ∧ New w w' ∧ RowsAt w' rv r.nx ∧ Solid (fun k => k < w.heap.size) w' (fun w' => ListAt RowsAt w' rc (choicesOf r)) := by
  obtain ⟨rv, rfl, hr⟩ := h
  obtain ⟨A, c, rfl, hl', hc⟩ := id hr
  have HC := hid hc
  have HLL := hid hll
  clear hc hll
  obtain ⟨W0, hW0⟩ : ∃ W0, W0 = ((w.alloc (.cells #[.int .i64 r.n, .slice A r.nx.length c] 59)).alloc (.cells #[.int .i64 0, .slice none 0 0, .slice none 0 0] 132)).alloc (.cells #[.int .i64 r.n, .slice A r.nx.length c, .slice none 0 0] 132) := ⟨_, rfl⟩
  have hn0 : New w W0 := by rw [hW0]; exact (by repeat (first | with_reducible exact New.refl _ | with_reducible assumption | with_reducible refine New.alloc ?_ _ | with_reducible refine New.drewN ?_ _ | with_reducible refine New.drew ?_ | with_reducible refine New.trans ?_ (by with_reducible assumption)))
  have hz0 : w.heap.size + 3 ≤ W0.heap.size := by rw [hW0]; simp only [size_alloc]; omega
  have hP : Box3 W0 (w.heap.size + 1 + 1) (.int .i64 r.n) (.slice A r.nx.length c) (.slice none 0 0) := by rw [hW0]; exact ⟨⟨by go_simp, by go_simp, by go_simp⟩, by go_simp, by go_simp, by go_simp⟩
  have hR : Box3 W0 (w.heap.size + 1) (.int .i64 0) (.slice none 0 0) (.slice none 0 0) := by rw [hW0]; exact ⟨⟨by go_simp, by go_simp, by go_simp⟩, by go_simp, by go_simp, by go_simp⟩
  have hG : GrowS RowsAt (fun k => k < w.heap.size + 3 ∨ (Value.slice none 0 0).ownBlock = some k) (w.heap.size + 3) 22 W0 (.slice none 0 0) ((r.nx.take 0).map arrOf) := GrowS.nil
  go_enter Try.func108, Try.ntmps108
  go_wp2_with fail
  rw [← hW0]
  clear hW0
  go_loopw [11] (fun i wr => ∃ (k : Nat) (cv : Value), i = .int .i64 k ∧ k ≤ r.nx.length ∧ New w wr ∧ w.heap.size + 3 ≤ wr.heap.size ∧ Box3 wr (w.heap.size + 1 + 1) (.int .i64 r.n) (.slice A r.nx.length c) cv ∧ Box3 wr (w.heap.size + 1) (.int .i64 0) (.slice none 0 0) (.slice none 0 0) ∧
      GrowS RowsAt (fun k => k < w.heap.size + 3 ∨ cv.ownBlock = some k) (w.heap.size + 3) 22 wr cv ((r.nx.take k).map arrOf)) (fun i _ => r.nx.length - (intOf i).toNat)
  case atStart => exact ⟨0, _, rfl, Nat.zero_le _, hn0, hz0, hP, hR, hG⟩
  case round =>
    obtain ⟨k, cv, rfl, hk, hn, hz, hPw, hRw, hGw⟩ := hrel
    clear hn0 hz0 hP hR hG
    obtain ⟨wo, rfl⟩ : ∃ wo : World, wo = wr := ⟨_, rfl⟩
    by_cases hlt : k < r.nx.length
    · have b1 : (k : Int) < (r.nx.length : Int) := by omega
      obtain ⟨xb, xo, xv, rfl, hx, hxv⟩ := HC.out k hlt
      have hlk := HLL.out k hlt
      obtain ⟨X, hX⟩ : ∃ z, z = nth r.nx k := ⟨_, rfl⟩
      rw [← hX] at hxv hlk
      obtain ⟨YS, hYS⟩ : ∃ z, z = (r.nx.take k).map arrOf := ⟨_, rfl⟩
      have hYl : YS.length = k := by rw [hYS]; simp; omega
      have HE := hid (show (r.nx.take (k + 1)).map arrOf = YS ++ [arrOf X] by rw [take_succ_nth _ k hlt, List.map_append, ← hYS, hX]; rfl)
      rw [← hYS] at hGw
      clear hYS hX
      obtain ⟨AO, cO, rfl⟩ := hGw.form
      replace hx := hn.cell hx
      replace hxv := hxv.new hn
      obtain ⟨⟨p0, p1, p2⟩, pf0, pf1, pf2⟩ := id hPw
      have hpl := hPw.lt
      obtain ⟨l1, hl1, hsp⟩ := hGw.appT
      have HSP := hid hsp
      have hblk := hid hGw.block
      have hYl' : YS.length < 1099511627776 := by omega
      have HLK := hid hlk
      clear hsp hlk hYl
      go_wp2_with fail
      go_region_law
        (first
          | (go_simp; go_at_call 201; refine (arrangements_any _ X _ (hxv.new (by repeat (first | with_reducible exact New.refl _ | with_reducible assumption | with_reducible refine New.alloc ?_ _ | with_reducible refine New.drewN ?_ _ | with_reducible refine New.drew ?_ | with_reducible refine New.trans ?_ (by with_reducible assumption)))) HLK.out).mono ?_; rintro e w1 ⟨x, he, hq1, hL1⟩; obtain ⟨Ax, cx, rfl⟩ := hL1.now.form; subst he; have hw1 : New wo w1 := (by repeat (first | with_reducible exact New.refl _ | with_reducible assumption | with_reducible refine New.alloc ?_ _ | with_reducible refine New.drewN ?_ _ | with_reducible refine New.drew ?_ | with_reducible refine New.trans ?_ (by with_reducible assumption))); have y2 := hw1.cell p2; have y2a := (New.alloc hw1 (.cells #[.slice Ax (arrF X.length X).length cx] 22)).cell p2; have hz1 := hw1.size)
          | (refine step_appV1 rfl _ _ _ rfl (B := w.heap.size + 3) Try.underlying77 info_rows rfl (by decide) (.slice AO YS.length cO) YS.length l1 (.slice Ax (arrF X.length X).length cx) rfl _ rfl (ownsRow_new hl1 (by repeat (first | with_reducible exact New.refl _ | with_reducible assumption | with_reducible refine New.alloc ?_ _ | with_reducible refine New.drewN ?_ _ | with_reducible refine New.drew ?_ | with_reducible refine New.trans ?_ (by with_reducible assumption)))) rfl (by go_simp) hYl' (by (try simp only [sizes]) <;> omega) ?_; intro g cap wd hod hgd hloc; have hbw : But (fun q => (Value.slice AO YS.length cO).ownBlock = some q) wo wd := But.trans (But.of_new (by repeat (first | with_reducible exact New.refl _ | with_reducible assumption | with_reducible refine New.alloc ?_ _ | with_reducible refine New.drewN ?_ _ | with_reducible refine New.drew ?_ | with_reducible refine New.trans ?_ (by with_reducible assumption)))) (But.of_grown hgd (fun q hq => hq)) (fun q hq => Or.inl hq); have hP2 := hPw.but hbw (fun q => by have := (hblk.out _ q).1; omega); obtain ⟨⟨_, _, u2⟩, _, _, uf2⟩ := id hP2))
      all_goals
        have hS : ∀ q, (q < w.heap.size + 3 ∨ (Value.slice AO YS.length cO).ownBlock = some q) → q < wo.heap.size := fun q hq => hq.elim (fun h => by omega) (fun h => (hblk.out q h).2)
        have hgB : w.heap.size + 3 ≤ g := by
          rcases hloc with q | q
          · exact (hblk.out g q).1
          · (try simp only [sizes] at q); omega
        have hG2 := HSP.out (fun _ => False) (fun q => q < w.heap.size + 3 ∨ (Value.slice (some ⟨g, 0, none⟩) (YS.length + 1) cap).ownBlock = some q) _ wd g cap _ (arrF X.length X) (But.of_new (by repeat (first | with_reducible exact New.refl _ | with_reducible assumption | with_reducible refine New.alloc ?_ _ | with_reducible refine New.drewN ?_ _ | with_reducible refine New.drew ?_ | with_reducible refine New.trans ?_ (by with_reducible assumption)))) (fun q hq => hq.elim) (fun q hq => Or.inr hq)
          (Solid.new (Solid.mono hL1 (fun q hq => Or.inl (hS q hq))) (by repeat (first | with_reducible exact New.refl _ | with_reducible assumption | with_reducible refine New.alloc ?_ _ | with_reducible refine New.drewN ?_ _ | with_reducible refine New.drew ?_ | with_reducible refine New.trans ?_ (by with_reducible assumption)))) hod hgd (fun q hq => hq.elim (fun h => Or.inl (Or.inl h)) (fun h => by
            have h' : g = q := Option.some.inj h
            subst h'
            exact hloc.imp Or.inr id))
        have hR2 := hRw.but hbw (fun q => by have := (hblk.out _ q).1; omega)
        have hn2 : New w wd := But.new hn hbw (fun q hq => by have := (hblk.out q hq).1; omega)
        have hz2 := hbw.size
        clear hgd hod hloc hbw hn
        go_wp2_with fail
        have hbs : But (fun q => q = w.heap.size + 1 + 1) wd (wd.setCell ⟨w.heap.size + 1 + 1, 2, none⟩ (.slice (some ⟨g, 0, none⟩) (YS.length + 1) cap)) := But.setCell _ _ rfl
        have hgn : g ≠ w.heap.size + 1 + 1 := by omega
        refine ⟨⟨k + 1, _, by go_num, by omega, hn2.setCell (p := ⟨w.heap.size + 1 + 1, 2, none⟩) (Nat.le_trans (Nat.le_succ _) (Nat.le_succ _)) _, by rw [size_setCell]; omega, hP2.set2 _, hR2.but hbs (by omega), by
          rw [HE.out]
          exact hG2.step hbs (fun q hq => Or.inl (Or.inl (by omega))) (fun q hq e => hgn (by have h' : g = q := Option.some.inj hq; omega)) (fun q hq => Or.inl hq)⟩, ?_⟩
        simp [intOf]; omega
    · have e : k = r.nx.length := by omega
      subst e
      have b1 : ¬ (r.nx.length : Int) < (r.nx.length : Int) := by omega
      obtain ⟨YS, hYS⟩ : ∃ z, z = (r.nx.take r.nx.length).map arrOf := ⟨_, rfl⟩
      have hYl : YS.length ≤ 9223372036854775807 := by rw [hYS]; simp; omega
      have HE := hid (show choicesOf r = YS by rw [hYS, List.take_length]; rfl)
      rw [← hYS] at hGw
      clear hYS
      obtain ⟨AO, cO, rfl⟩ := hGw.form
      have hL := hGw.lies hYl (fun q hq => Or.inl hq)
      obtain ⟨⟨p0, p1, p2⟩, pf0, pf1, pf2⟩ := id hPw
      obtain ⟨⟨q0, q1, q2⟩, qf0, qf1, qf2⟩ := id hRw
      obtain ⟨⟨g0, g1, g2⟩, _⟩ := ((hRw.set0 (.int .i64 r.n)).set1 (.slice A r.nx.length c)).set2 (.slice AO YS.length cO)
      have hW : Within (w.heap.size + 1) (w.heap.size + 1 + 1) wo (((wo.setCell ⟨w.heap.size + 1, 0, none⟩ (.int .i64 r.n)).setCell ⟨w.heap.size + 1, 1, none⟩ (.slice A r.nx.length c)).setCell ⟨w.heap.size + 1, 2, none⟩ (.slice AO YS.length cO)) := (by repeat (first | with_reducible exact Within.refl _ _ _ | with_reducible refine Within.setCell ?_ (by simp <;> omega) (by simp <;> omega) _))
      go_wp2_with fail
      refine bodyPost_ret (v := .agg #[.int .i64 r.n, .slice A r.nx.length c, .slice AO YS.length cO]) (by simp [results, Try.results108, go_sem, g0, g1, g2]) rfl ?_
      have hN := hn.within hW (by omega)
      have hB := But.of_within hW
      exact ⟨_, _, rfl, rfl, hN, hr.new hN, by rw [HE.out]; exact hL.step (hB.mono (fun q hq => Or.inl (by omega))) (fun q hq => Or.inl (Or.inl (by omega)))⟩
theorem newPaint_any (v : Value) (r : Aut) (w : World) (h : AutAt w v r) (hl : r.nx.length ≤ 7) (hll : ∀ i, i < r.nx.length → (nth r.nx i).length ≤ 3) :
    Calls Try.prog 108 #[v] w fun e w' => ∃ rv rc, e = .returned (.agg #[.int .i64 r.n, rv, rc]) ∧ New w w' ∧ RowsAt w' rv r.nx ∧ ListAt RowsAt w' rc (choicesOf r) :=
  (newPaintS_any v r w h hl hll).mono fun _e _w' ⟨rv, rc, he, _, hn, hr, hc⟩ => ⟨rv, rc, he, hn, hr, hc.now⟩

end Go.Proofs.Ytiflokfinkachaa
