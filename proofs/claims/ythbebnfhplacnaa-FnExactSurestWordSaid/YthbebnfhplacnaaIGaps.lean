/- The gaps of a partial automaton, by the program and by the reference. -/
import Derived.Test.YthbebnfhplacnaaRows
import Derived.Test.YthbebnfhplacnaaCore
import Derived.Test.YthbebnfhplacnaaInfos
import Derived.Test.YthbebnfhplacnaaPlains
import Derived.Test.YthbebnfhplacnaaDrawT
import Derived.Test.YthbebnfhplacnaaPlainFill
import Derived.Test.YthbebnfhplacnaaMaps
import Derived.Test.YthbebnfhplacnaaArrs
import Derived.Test.YthbebnfhplacnaaGrowG
import Derived.WalkKit
import Derived.WalkSpells
import Derived.WalkLawsBesides
import Derived.Deep.QuietTactic
import Derived.Deep.OwnRows
import Derived.BigQuiet
import Derived.KernelRfl
namespace Go.Proofs.Ythbebnfhplacnaa
open Go.RowKit

theorem info_gap : (Try.prog.info? 94).map (fun i => (i.zero, i.size, i.bytes)) = some (some (.agg #[.int .i64 0, .int .i64 0]), 2, 16) := by kernel_rfl
set_option maxRecDepth 20000 in
set_option maxHeartbeats 2000000 in
theorem gaps_any (v : Value) (p : Aut) (w : World) (h : AutAt w v p) (hl : p.nx.length ≤ 3) (hll : ∀ i, i < p.nx.length → (nth p.nx i).length ≤ 10) :
    Calls Try.prog 54 #[v] w fun e w' => ∃ r, e = .returned r ∧ New w w' ∧ GapsAt w' r (gapsOf p.nx) ∧ ∀ q, r.ownBlock = some q → w.heap.size ≤ q := by
  obtain ⟨rv, rfl, hr⟩ := h
  obtain ⟨A, c, rfl, hlm, hcr⟩ := hr
  obtain ⟨wb, hwb⟩ : ∃ wb, wb = w.alloc (.cells #[.int .i64 p.n, .slice A p.nx.length c] 29) := ⟨_, rfl⟩
  have hnb : New w wb := by rw [hwb]; exact (by repeat (first | with_reducible exact New.refl _ | with_reducible assumption | with_reducible refine New.alloc ?_ _ | with_reducible refine New.drewN ?_ _ | with_reducible refine New.drew ?_ | with_reducible refine New.trans ?_ (by with_reducible assumption)))
  have hb1 : wb.cell? ⟨w.heap.size, 1, none⟩ = some (.slice A p.nx.length c) := by rw [hwb]; go_simp
  have HC := hid hcr
  have HLL := hid hll
  have HGL := hid (fun k hk => gapsTo_len (nx := p.nx) (m := 10) hll k hk)
  clear hcr hll
  have hzb : wb.heap.size = w.heap.size + 1 := by rw [hwb]; simp only [size_alloc]
  have hG0 := GrowG.empty wb.heap.size 94 wb (Nat.le_refl _)
  rw [hzb] at hG0
  have hnG : New wb (wb.alloc (.cells #[] 94)) := (by repeat (first | with_reducible exact New.refl _ | with_reducible assumption | with_reducible refine New.alloc ?_ _ | with_reducible refine New.drewN ?_ _ | with_reducible refine New.drew ?_ | with_reducible refine New.trans ?_ (by with_reducible assumption)))
  go_enter Try.func54, Try.ntmps54
  go_wp2_with fail
  rw [← hwb]
  clear hwb
  go_wp2_with fail
  generalize (wb.alloc (.cells #[] 94)) = w0 at hG0 hnG ⊢
  have hn0 := hnb.trans hnG
  have hB2 : w.heap.size + 1 ≤ w0.heap.size := by have := hnG.size; omega
  clear hnb hzb
  replace hb1 := hnG.cell hb1
  go_wp2_with fail
  go_loopw [3, 12] (fun o i wr => ∃ k : Nat, k ≤ p.nx.length ∧ i = .int .i64 k ∧ New w wr ∧ GrowG (w.heap.size + 1) 94 wr o (gapsTo p.nx k) ∧ w0.heap.size ≤ wr.heap.size) (fun _ i _ => p.nx.length - (intOf i).toNat)
  case atStart => exact ⟨0, Nat.zero_le _, rfl, hn0, hG0, Nat.le_refl _⟩
  case round =>
    obtain ⟨k, hk, rfl, hn, hG, hz⟩ := hrel
    obtain ⟨wo, rfl⟩ : ∃ wo : World, wo = wr := ⟨_, rfl⟩
    clear hn0 hG0 hnG
    by_cases hlt : k < p.nx.length
    · have b1 : (k : Int) < (p.nx.length : Int) := by omega
      obtain ⟨b, off, rv, rfl, hx, hxr⟩ := HC.out k hlt
      obtain ⟨A2, c2, rfl, _, hrow⟩ := hxr
      replace hx := hn.cell hx
      have hl10 := HLL.out k hlt
      have hgl := HGL.out k hk
      have HROW := hid hrow
      have HSU := hid (gapsTo_succ p.nx k)
      obtain ⟨GS, hGS⟩ : ∃ z, z = gapsTo p.nx k := ⟨_, rfl⟩
      rw [← hGS] at HSU hgl hG
      obtain ⟨ROW, hROW⟩ : ∃ z, z = nth p.nx k := ⟨_, rfl⟩
      rw [← hROW] at HSU HROW hl10 hx
      clear hrow hGS hROW
      go_wp2_with fail
      go_loopw [3, 19] (fun o i wr => ∃ s : Nat, s ≤ ROW.length ∧ i = .int .i64 s ∧ New w wr ∧ GrowG (w.heap.size + 1) 94 wr o (GS ++ gapRow k ROW s) ∧ w0.heap.size ≤ wr.heap.size) (fun _ i _ => ROW.length - (intOf i).toNat)
      case atStart => exact ⟨0, Nat.zero_le _, rfl, hn, by simpa [gapRow] using hG, hz⟩
      case round =>
        obtain ⟨s, hs, rfl, hn1, hG1, hz1⟩ := hrel
        obtain ⟨wi, rfl⟩ : ∃ wi : World, wi = wr := ⟨_, rfl⟩
        have hgl2 := gapRow_len k ROW s
        obtain ⟨GL, hGL⟩ : ∃ z, z = GS ++ gapRow k ROW s := ⟨_, rfl⟩
        have hgl4 : GL.length = GS.length + (gapRow k ROW s).length := by rw [hGL, List.length_append]
        have HGL := hid hGL
        rw [← hGL] at hG1
        clear hGL
        obtain ⟨AG, cG, rfl⟩ := hG1.form
        by_cases hlt2 : s < ROW.length
        · have b2 : (s : Int) < (ROW.length : Int) := by omega
          obtain ⟨b3, off3, rfl, hy⟩ := HROW.out s hlt2
          replace hy := hn1.cell hy
          have hgl3 : GL.length < 1048576 := by omega
          clear hgl4 hgl2 hgl
          by_cases hneg : nth ROW s < 0
          · have HG2 := hid (gapRow_yes (l := k) hneg)
            go_wp2_with (at_builtin; refine wpList_appG (w1 := wi) rfl _ _ _ rfl Try.underlying63 info_gap rfl (.slice AG GL.length cG) GL rfl hG1 rfl hgl3 (by omega) ?_; intro g cap w9 ho9 hg9)
            have hn9 : New w w9 := hn1.grown hg9 (fun q hq => by have := (hG1.block q hq).1; omega)
            refine ⟨⟨s + 1, by omega, by go_num, hn9, by rw [HG2.out, ← List.append_assoc, ← HGL.out]; exact ho9, by have := hg9.size; omega⟩, by simp [intOf]; omega⟩
          · have HG2 := hid (gapRow_no (l := k) hneg)
            go_wp2_with fail
            exact ⟨⟨s + 1, by omega, by go_num, hn1, by rw [HG2.out, ← HGL.out]; exact hG1, hz1⟩, by simp [intOf]; omega⟩
        · have e : s = ROW.length := by omega
          subst e
          go_wp2_with fail
          exact ⟨⟨k + 1, by omega, by go_num, hn1, by rw [HSU.out, ← HGL.out]; exact hG1, hz1⟩, by simp [intOf]; omega⟩
    · have e : k = p.nx.length := by omega
      subst e
      go_wp2_with fail
      go_ret
      exact ⟨_, rfl, hn, hG.at, fun q hq => by have := (hG.block q hq).1; omega⟩

end Go.Proofs.Ythbebnfhplacnaa
