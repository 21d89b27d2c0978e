/- The program's merging words of all pairs of states. -/
import Derived.Test.YtnhjoiafadapaaaRows
import Derived.Test.YtnhjoiafadapaaaCore
import Derived.Test.YtnhjoiafadapaaaInfos
import Derived.Test.YtnhjoiafadapaaaPlains
import Derived.Test.YtnhjoiafadapaaaMaps
import Derived.Test.YtnhjoiafadapaaaArrs
import Derived.Test.YtnhjoiafadapaaaPlainMerges
import Derived.Test.YtnhjoiafadapaaaIMerge
import Derived.Test.YtnhjoiafadapaaaSArrs
import Derived.WalkKit
import Derived.WalkSpells
import Derived.WalkLawsBesides
import Derived.Deep.QuietTactic
import Derived.Deep.OwnRows
import Derived.BigQuiet
import Derived.KernelRfl
import Derived.Carry
import Derived.Deep.RegionHeld3
namespace Go.Proofs.Ytnhjoiafadapaaa
open Go.RowKit

theorem WordAt.solid {S : Nat → Prop} {w : World} {v : Value} {x : List Int × Bool} (h : IntsAt w v x.1) (hv : ∀ k, v.ownBlock = some k → ¬ S k) (h2 : x.2 = false → v = .slice none 0 0) : Solid S w (fun w => WordAt w v x) := fun w' hb => ⟨h.solid hv w' hb, h2⟩
set_option maxRecDepth 20000 in
set_option maxHeartbeats 1000000 in
theorem merges_any (v : Value) (a : Aut) (w : World) (h : AutAt w v a) (ha : autOk a = true) :
    Calls Try.prog 50 #[v] w fun e w' => ∃ r, e = .returned r ∧ New w w' ∧ Solid (fun k => k < w.heap.size) w' (fun w' => ListAt (ListAt WordAt) w' r (mwTab a)) := by
  obtain ⟨rv, rfl, hr⟩ := h
  obtain ⟨A, c, rfl⟩ := hr.form
  have h1 : AutAt w (.agg #[.int .i64 a.n, .slice A a.nx.length c]) a := ⟨_, rfl, hr⟩
  have han := autOk_n ha
  obtain ⟨n, hn⟩ : ∃ n : Nat, a.n = (n : Int) := ⟨a.n.toNat, by omega⟩
  have hn10 : n ≤ 10 := by omega
  obtain ⟨wb, hwb⟩ : ∃ wb, wb = w.alloc (.cells #[.int .i64 n, .slice A a.nx.length c] 29) := ⟨_, rfl⟩
  have hnb : New w wb := by rw [hwb]; exact (by repeat (first | with_reducible exact New.refl _ | with_reducible assumption | with_reducible refine New.alloc ?_ _ | with_reducible refine New.drewN ?_ _ | with_reducible refine New.drew ?_ | with_reducible refine New.trans ?_ (by with_reducible assumption)))
  have hb0 : wb.cell? ⟨w.heap.size, 0, none⟩ = some (.int .i64 n) := by rw [hwb]; go_simp
  have hb1 : wb.cell? ⟨w.heap.size, 1, none⟩ = some (.slice A a.nx.length c) := by rw [hwb]; go_simp
  have HM := hid (show ∀ w1 (s t : Nat), New w w1 → s < n → t < n → Calls Try.prog 119 #[.agg #[.int .i64 a.n, .slice A a.nx.length c], .int .i64 s, .int .i64 t] w1 fun e w' => ∃ r cd, e = .returned (.tuple #[r, .int .i64 cd]) ∧ New w1 w' ∧ OwnInts w1.heap.size w'.heap.size w' r (mw a.nx s t).1 ∧ ((mw a.nx s t).2 = false → r = .slice none 0 0) from fun w1 s t hw hs ht =>
    (mergingN_any _ a s t w1 (h1.new hw) ha (by omega) (by omega)).mono fun e w' ⟨r, q1, q2, q3, q4⟩ => ⟨r, _, q1, q2, by rw [← (told_mw a.nx s t).1]; exact q3, fun hb => q4 ((told_mw a.nx s t).2.1 hb)⟩)
  rw [hn] at HM
  rw [show mwTab a = mwTo a.nx n n by unfold mwTab; rw [hn]; rfl]
  have hzb : wb.heap.size = w.heap.size + 1 := by rw [hwb]; simp only [size_alloc]
  have hG : GrowS (ListAt WordAt) (fun q => q < w.heap.size + 1 ∨ (Value.slice (some ⟨wb.heap.size, 0, none⟩) 0 0).ownBlock = some q) (w.heap.size + 1) 22 (wb.alloc (.cells #[] 22)) (.slice (some ⟨wb.heap.size, 0, none⟩) 0 0) (mwTo a.nx n 0) := GrowS.empty (by omega)
  have hnG : New wb (wb.alloc (.cells #[] 22)) := (by repeat (first | with_reducible exact New.refl _ | with_reducible assumption | with_reducible refine New.alloc ?_ _ | with_reducible refine New.drewN ?_ _ | with_reducible refine New.drew ?_ | with_reducible refine New.trans ?_ (by with_reducible assumption)))
  rw [hzb] at hG
  rw [hn]
  clear h1 ha han hzb hn
  go_enter Try.func50, Try.ntmps50
  go_wp2_with fail
  rw [← hwb]
  clear hwb
  go_wp2_with fail
  generalize (wb.alloc (.cells #[] 22)) = w0 at hG hnG ⊢
  have hn0 := hnb.trans hnG
  have z0 := hnG.cell hb0
  have z1 := hnG.cell hb1
  go_wp2_with fail
  go_loopw [3, 12] (fun ov i wr => ∃ k : Nat, k ≤ n ∧ i = .int .i64 k ∧ New w wr ∧ w0.heap.size ≤ wr.heap.size ∧ wr.cell? ⟨w.heap.size, 0, none⟩ = some (.int .i64 n) ∧ wr.cell? ⟨w.heap.size, 1, none⟩ = some (.slice A a.nx.length c) ∧ GrowS (ListAt WordAt) (fun q => q < w.heap.size + 1 ∨ ov.ownBlock = some q) (w.heap.size + 1) 22 wr ov (mwTo a.nx n k)) (fun _ i _ => n - (intOf i).toNat)
  case atStart => exact ⟨0, Nat.zero_le _, rfl, hn0, Nat.le_refl _, z0, z1, hG⟩
  case round =>
    obtain ⟨k, hk, rfl, hnw, hzw, x0, x1, hGw⟩ := hrel
    clear hn0 hG hnG hb0 hb1 z0 z1
    obtain ⟨wo, rfl⟩ : ∃ wo : World, wo = wr := ⟨_, rfl⟩
    by_cases hlt : k < n
    · have b1 : (k : Int) < (n : Int) := by omega
      have HSU := hid (mwTo_succ a.nx n k)
      have hYl := mwTo_len a.nx n k
      obtain ⟨YS, hYS⟩ : ∃ z, z = mwTo a.nx n k := ⟨_, rfl⟩
      rw [← hYS] at HSU hYl hGw
      clear hYS
      obtain ⟨AO, cO, rfl⟩ := hGw.form
      rw [hYl] at hGw
      have HGW := hid hGw
      have HYL := hid hYl
      have hzo : w.heap.size < wo.heap.size := World.block_lt_of_cell? _ _ x0
      have hR0 : GrowS WordAt (fun q => q < wo.heap.size ∨ (Value.slice (some ⟨wo.heap.size, 0, none⟩) 0 0).ownBlock = some q) wo.heap.size 26 (wo.alloc (.cells #[] 26)) (.slice (some ⟨wo.heap.size, 0, none⟩) 0 0) (mwRow a.nx k 0) := GrowS.empty (Nat.le_refl _)
      have hnR : New wo (wo.alloc (.cells #[] 26)) := (by repeat (first | with_reducible exact New.refl _ | with_reducible assumption | with_reducible refine New.alloc ?_ _ | with_reducible refine New.drewN ?_ _ | with_reducible refine New.drew ?_ | with_reducible refine New.trans ?_ (by with_reducible assumption)))
      have z0 := hnR.cell x0
      have z1 := hnR.cell x1
      clear hGw hYl
      go_wp2_with fail
      generalize (wo.alloc (.cells #[] 26)) = wp at hR0 hnR z0 z1 ⊢
      go_wp2_with fail
      go_loopw [5, 18] (fun rv i wr => ∃ t : Nat, t ≤ n ∧ i = .int .i64 t ∧ New wo wr ∧ wr.cell? ⟨w.heap.size, 0, none⟩ = some (.int .i64 n) ∧ wr.cell? ⟨w.heap.size, 1, none⟩ = some (.slice A a.nx.length c) ∧ GrowS WordAt (fun q => q < wo.heap.size ∨ rv.ownBlock = some q) wo.heap.size 26 wr rv (mwRow a.nx k t)) (fun _ i _ => n - (intOf i).toNat)
      case atStart => exact ⟨0, Nat.zero_le _, rfl, hnR, z0, z1, hR0⟩
      case round =>
        obtain ⟨t, ht, rfl, hni, y0, y1, hGi⟩ := hrel
        clear hR0 hnR z0 z1
        obtain ⟨wi, rfl⟩ : ∃ wi : World, wi = wr := ⟨_, rfl⟩
        have hzi := hni.size
        by_cases hlt2 : t < n
        · have b2 : (t : Int) < (n : Int) := by omega
          have HS2 := hid (mwRow_succ a.nx k t)
          have hYl2 := mwRow_len a.nx k t
          obtain ⟨RS, hRS⟩ : ∃ z, z = mwRow a.nx k t := ⟨_, rfl⟩
          rw [← hRS] at HS2 hYl2 hGi
          clear hRS
          obtain ⟨AR, cR, rfl⟩ := hGi.form
          obtain ⟨l1, hl1, hsp⟩ := hGi.appT
          have HSP := hid hsp
          have hblk := hid hGi.block
          rw [hYl2] at hl1 HSP hblk
          have hYl3 : t < 1099511627776 := by omega
          have C := HM.out wi k t (hnw.trans hni) hlt hlt2
          obtain ⟨MW, hMW⟩ : ∃ z, z = mw a.nx k t := ⟨_, rfl⟩
          rw [← hMW] at C HS2
          have HYL2 := hid hYl2
          clear hsp hGi hMW hYl2
          rw [HYL2.out]
          go_wp2_with (first
            | (go_at_call 119; refine C.mono ?_; rintro e w1 ⟨r, cd, rfl, hn1, ho1, hnl⟩; obtain ⟨Ax, cx, rfl⟩ := ho1.form; have hz1 := hn1.size)
            | (at_builtin; refine wpList_appV (w1 := w1) rfl _ _ _ rfl (B := wo.heap.size) Try.underlying22 info_ints rfl (by decide) rfl (.slice AR t cR) t l1 rfl (ownsRow_new hl1 hn1) rfl hYl3 (by omega) ?_; intro g cap wd hod hgd hloc))
          have hS : ∀ q, (q < wo.heap.size ∨ (Value.slice AR t cR).ownBlock = some q) → q < wi.heap.size := fun q hq => hq.elim (fun h => by omega) (fun h => (hblk.out q h).2)
          have hb1x := ho1.block
          have hG2 := HSP.out (fun _ => False) (fun q => q < wo.heap.size ∨ (Value.slice (some ⟨g, 0, none⟩) (t + 1) cap).ownBlock = some q) w1 wd g cap (.slice Ax MW.1.length cx) MW (But.of_new hn1) (fun q hq => hq.elim) (fun q hq => Or.inr hq)
            (WordAt.solid ho1.at (fun q hq hs => by have := hb1x q hq; have := hS q hs; omega) hnl) hod hgd (fun q hq => hq.elim (fun h => Or.inl (Or.inl h)) (fun h => by
              have h' : g = q := Option.some.inj h
              subst h'
              exact hloc.imp Or.inr Nat.le_of_lt))
          have hn2 : New wo wd := New.grown (hni.trans hn1) hgd (fun q hq => (hblk.out q hq).1)
          have k0 : wd.cell? ⟨w.heap.size, 0, none⟩ = some (.int .i64 n) := hn2.cell x0
          have k1 : wd.cell? ⟨w.heap.size, 1, none⟩ = some (.slice A a.nx.length c) := hn2.cell x1
          exact ⟨⟨t + 1, by omega, by go_num, hn2, k0, k1, by rw [HS2.out]; exact hG2⟩, by simp [intOf]; omega⟩
        · have e : t = n := by omega
          subst e
          have hmrl := mwRow_len a.nx k t
          obtain ⟨AR, cR, rfl⟩ := hGi.form
          rw [hmrl] at hGi
          have hL1 := hGi.lies (by omega) (fun q hq => Or.inl hq)
          obtain ⟨TT, hTT⟩ : ∃ z, z = mwRow a.nx k t := ⟨_, rfl⟩
          rw [← hTT] at hL1 HSU hmrl
          obtain ⟨l1, hl1, hsp⟩ := (HGW.out.new hni).appT
          have HSP := hid hsp
          have hblk := hid HGW.out.block
          rw [HYL.out] at hl1 HSP
          have hYl3 : k < 1099511627776 := by omega
          have HYL3 := hid hmrl
          rw [← hTT, hmrl]
          clear hsp hGi hTT hmrl
          rw [HYL.out]
          go_wp2_with (at_builtin; refine wpList_appV (w1 := wi) rfl _ _ _ rfl (B := w.heap.size + 1) Try.underlying59 info_rowsS rfl (by decide) rfl (.slice AO k cO) k l1 rfl hl1 rfl hYl3 (by omega) ?_; intro g cap wd hod hgd hloc)
          have hS : ∀ q, (q < w.heap.size + 1 ∨ (Value.slice AO k cO).ownBlock = some q) → q < wo.heap.size := fun q hq => hq.elim (fun h => by omega) (fun h => (hblk.out q h).2)
          have hG2 := HSP.out (fun _ => False) (fun q => q < w.heap.size + 1 ∨ (Value.slice (some ⟨g, 0, none⟩) (k + 1) cap).ownBlock = some q) wi wd g cap _ TT But.refl (fun q hq => hq.elim) (fun q hq => Or.inr hq)
            (Solid.mono hL1 (fun q hq => Or.inl (hS q hq))) hod hgd (fun q hq => hq.elim (fun h => Or.inl (Or.inl h)) (fun h => by
              have h' : g = q := Option.some.inj h
              subst h'
              exact hloc.imp Or.inr Nat.le_of_lt))
          have hbq : ∀ q, (Value.slice AO k cO).ownBlock = some q → w.heap.size + 1 ≤ q := fun q hq => (hblk.out q hq).1
          have hn2 : New w wd := New.grown (hnw.trans hni) hgd (fun q hq => by have := hbq q hq; omega)
          have k0 : wd.cell? ⟨w.heap.size, 0, none⟩ = some (.int .i64 t) := hgd.cell y0 (fun e => by have : w.heap.size + 1 ≤ w.heap.size := hbq _ e.symm; omega)
          have k1 : wd.cell? ⟨w.heap.size, 1, none⟩ = some (.slice A a.nx.length c) := hgd.cell y1 (fun e => by have : w.heap.size + 1 ≤ w.heap.size := hbq _ e.symm; omega)
          have hzd := hgd.size
          exact ⟨⟨k + 1, by omega, by go_num, hn2, by omega, k0, k1, by rw [HSU.out]; exact hG2⟩, by simp [intOf]; omega⟩
    · have e : k = n := by omega
      subst e
      have hmrl := mwTo_len a.nx k k
      obtain ⟨AO, cO, rfl⟩ := hGw.form
      have hL := hGw.lies (by omega) (fun q hq => Or.inl hq)
      have HL := hid hL
      clear hL hGw
      go_wp2_with fail
      go_ret
      exact ⟨_, rfl, hnw, Solid.mono HL.out (fun q hq => Or.inl (by omega))⟩

end Go.Proofs.Ytnhjoiafadapaaa
