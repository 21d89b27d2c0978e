/- The reference's gaps of a partial automaton, and how many fillings there are. -/
import Derived.Test.YthbebnfhplacnaaRows
import Derived.Test.YthbebnfhplacnaaCore
import Derived.Test.YthbebnfhplacnaaInfos
import Derived.Test.YthbebnfhplacnaaPlains
import Derived.Test.YthbebnfhplacnaaDrawT
import Derived.Test.YthbebnfhplacnaaPlainFill
import Derived.Test.YthbebnfhplacnaaMaps
import Derived.Test.YthbebnfhplacnaaArrs
import Derived.Test.YthbebnfhplacnaaGrowG
import Derived.Test.YthbebnfhplacnaaIGaps
import Derived.WalkKit
import Derived.WalkSpells
import Derived.WalkLawsBesides
import Derived.Deep.QuietTactic
import Derived.Deep.OwnRows
import Derived.BigQuiet
import Derived.KernelRfl
namespace Go.Proofs.Ythbebnfhplacnaa
open Go.RowKit

set_option maxRecDepth 20000 in
set_option maxHeartbeats 2000000 in
theorem l04Gaps_any (v : Value) (p : Aut) (w : World) (h : PAut w v p) (hl : p.nx.length ≤ 3) (hll : ∀ i, i < p.nx.length → (nth p.nx i).length ≤ 10) :
    Calls Try.prog 37 #[v] w fun e w' => ∃ r, e = .returned r ∧ New w w' ∧ GapsAt w' r (gapsOf p.nx) ∧ ∀ q, r.ownBlock = some q → w.heap.size ≤ q := by
  obtain ⟨pb, rv, rfl, hp0, hp1, hr⟩ := h
  obtain ⟨A, c, rfl, hlm, hcr⟩ := hr
  have HC := hid hcr
  have HLL := hid hll
  have HGL := hid (fun k hk => gapsTo_len (nx := p.nx) (m := 10) hll k hk)
  clear hcr hll
  have hG0 := GrowG.empty w.heap.size 94 w (Nat.le_refl _)
  have hn0 : New w (w.alloc (.cells #[] 94)) := (by repeat (first | with_reducible exact New.refl _ | with_reducible assumption | with_reducible refine New.alloc ?_ _ | with_reducible refine New.drewN ?_ _ | with_reducible refine New.drew ?_ | with_reducible refine New.trans ?_ (by with_reducible assumption)))
  go_enter Try.func37, Try.ntmps37
  go_wp2_with fail
  generalize (w.alloc (.cells #[] 94)) = w0 at hG0 hn0 ⊢
  go_loopw [3, 4] (fun o i wr => ∃ k : Nat, k ≤ p.nx.length ∧ i = .int .i64 k ∧ New w wr ∧ GrowG w.heap.size 94 wr o (gapsTo p.nx k)) (fun _ i _ => p.nx.length - (intOf i).toNat)
  case atStart => exact ⟨0, Nat.zero_le _, rfl, hn0, hG0⟩
  case round =>
    obtain ⟨k, hk, rfl, hn, hG⟩ := hrel
    obtain ⟨wo, rfl⟩ : ∃ wo : World, wo = wr := ⟨_, rfl⟩
    have z1 := hn.cell hp1
    have hzo := hn.size
    clear hn0 hG0
    by_cases hlt : k < p.nx.length
    · have b1 : (k : Int) < (p.nx.length : Int) := by omega
      obtain ⟨b, off, rv, rfl, hx, hxr⟩ := HC.out k hlt
      obtain ⟨A2, c2, rfl, _, hrow⟩ := hxr
      have hl10 := HLL.out k hlt
      have hgl := HGL.out k hk
      have HROW := hid hrow
      have HSU := hid (gapsTo_succ p.nx k)
      obtain ⟨GS, hGS⟩ : ∃ z, z = gapsTo p.nx k := ⟨_, rfl⟩
      rw [← hGS] at HSU hgl hG
      obtain ⟨ROW, hROW⟩ : ∃ z, z = nth p.nx k := ⟨_, rfl⟩
      rw [← hROW] at HSU HROW hl10 hx
      clear hrow hGS hROW
      go_wp2_with fail
      go_loopw [3, 5] (fun o i wr => ∃ s : Nat, s ≤ ROW.length ∧ i = .int .i64 s ∧ New w wr ∧ GrowG w.heap.size 94 wr o (GS ++ gapRow k ROW s)) (fun _ i _ => ROW.length - (intOf i).toNat)
      case atStart => exact ⟨0, Nat.zero_le _, rfl, hn, by simpa [gapRow] using hG⟩
      case round =>
        obtain ⟨s, hs, rfl, hn1, hG1⟩ := hrel
        clear z1 hzo
        obtain ⟨wi, rfl⟩ : ∃ wi : World, wi = wr := ⟨_, rfl⟩
        have z1 := hn1.cell hp1
        have z2 := hn1.cell hx
        have hzi := hn1.size
        have hgl2 := gapRow_len k ROW s
        obtain ⟨GL, hGL⟩ : ∃ z, z = GS ++ gapRow k ROW s := ⟨_, rfl⟩
        have hgl4 : GL.length = GS.length + (gapRow k ROW s).length := by rw [hGL, List.length_append]
        have HGL := hid hGL
        rw [← hGL] at hG1
        clear hGL
        obtain ⟨AG, cG, rfl⟩ := hG1.form
        by_cases hlt2 : s < ROW.length
        · have b2 : (s : Int) < (ROW.length : Int) := by omega
          obtain ⟨b3, off3, rfl, hy⟩ := HROW.out s hlt2
          replace hy := hn1.cell hy
          have hgl3 : GL.length < 1048576 := by omega
          clear hgl4 hgl2 hgl
          by_cases hneg : nth ROW s < 0
          · have HG2 := hid (gapRow_yes (l := k) hneg)
            go_wp2_with (at_builtin; refine wpList_appG (w1 := wi) rfl _ _ _ rfl Try.underlying63 info_gap rfl (.slice AG GL.length cG) GL rfl hG1 rfl hgl3 (by omega) ?_; intro g cap w9 ho9 hg9)
            have hn9 : New w w9 := hn1.grown hg9 (fun q hq => by have := (hG1.block q hq).1; omega)
            refine ⟨⟨s + 1, by omega, by go_num, hn9, by rw [HG2.out, ← List.append_assoc, ← HGL.out]; exact ho9⟩, by simp [intOf]; omega⟩
          · have HG2 := hid (gapRow_no (l := k) hneg)
            go_wp2_with fail
            exact ⟨⟨s + 1, by omega, by go_num, hn1, by rw [HG2.out, ← HGL.out]; exact hG1⟩, by simp [intOf]; omega⟩
        · have e : s = ROW.length := by omega
          subst e
          go_wp2_with fail
          exact ⟨⟨k + 1, by omega, by go_num, hn1, by rw [HSU.out, ← HGL.out]; exact hG1⟩, by simp [intOf]; omega⟩
    · have e : k = p.nx.length := by omega
      subst e
      go_wp2_with fail
      go_ret
      exact ⟨_, rfl, hn, hG.at, fun q hq => by have := (hG.block q hq).1; omega⟩
/-- A count of fillings that is great enough where it is too great. -/
def cntCut (n m : Nat) (c : Int) : Prop := (n ^ m ≤ 5000 ∧ c = ((n ^ m : Nat) : Int)) ∨ (5000 < n ^ m ∧ 5000 < c)
set_option maxRecDepth 20000 in
set_option maxHeartbeats 2000000 in
theorem l04Fillings_any (v : Value) (p : Aut) (w : World) (h : PAut w v p) (hf : PartFacts p) :
    Calls Try.prog 15 #[v] w fun e w' => ∃ c, e = .returned (.int .i64 c) ∧ New w w' ∧ cntCut p.n.toNat (gapsOf p.nx).length c := by
  have C1 := l04Gaps_any v p w h hf.l3 (fun i hi => by have := hf.row i hi; have := hf.n10; omega)
  obtain ⟨pb, rv, rfl, hp0, hp1, hr⟩ := h
  have hgl := gaps_len hf
  obtain ⟨m, hm⟩ : ∃ m, m = (gapsOf p.nx).length := ⟨_, rfl⟩
  obtain ⟨n, hn⟩ : ∃ n : Nat, p.n = (n : Int) := ⟨p.n.toNat, by have := hf.n1; omega⟩
  have hn1 : 1 ≤ n := by have := hf.n1; omega
  have hn10 : n ≤ 10 := by have := hf.n10; omega
  rw [hn] at hp0
  rw [hn, Int.toNat_natCast]
  obtain ⟨GS, hGS⟩ : ∃ z, z = gapsOf p.nx := ⟨_, rfl⟩
  rw [← hGS] at C1 hgl hm ⊢
  clear hf hn hGS
  go_enter Try.func15, Try.ntmps15
  go_wp2_with fail
  refine C1.mono ?_
  rintro e w1 ⟨r1, rfl, hnw, hg, _⟩
  obtain ⟨AG, cG, rfl⟩ := hg.form
  rw [← hm] at hgl
  have z0 := hnw.cell hp0
  clear hg C1
  go_wp2_with fail
  rw [← hm]
  have HM2 := hid hm
  clear hm
  go_loopw [3, 4] (fun cv i wr => ∃ k : Nat, k ≤ m ∧ i = .int .i64 ((m : Int) - k) ∧ cv = .int .i64 (n ^ k : Nat) ∧ wr = w1 ∧ (k = 0 ∨ n ^ (k - 1) ≤ 5000)) (fun _ i _ => (intOf i).toNat)
  case atStart => exact ⟨0, Nat.zero_le _, by simp, by simp, rfl, Or.inl rfl⟩
  case round =>
    obtain ⟨k, hk, rfl, rfl, rfl, hb⟩ := hrel
    have hbig : n ^ k ≤ 50000 := by
      rcases hb with e | e
      · subst e; simp
      · rcases k with _ | k
        · simp
        · rw [Nat.pow_succ]
          have := Nat.mul_le_mul e hn10
          simpa using this
    have HSU := hid (Nat.pow_succ n k)
    have HMO := hid (Nat.pow_le_pow_right (n := n) hn1 hk)
    obtain ⟨X, hX⟩ : ∃ X, X = n ^ k := ⟨_, rfl⟩
    rw [← hX] at hbig HSU HMO ⊢
    by_cases hlt : k < m
    · have b1 : (0 : Int) < (m : Int) - (k : Int) := by omega
      by_cases h5 : X ≤ 5000
      · have b5 : (X : Int) ≤ 5000 := by omega
        have key : X * n ≤ 5000 * 10 := Nat.mul_le_mul h5 hn10
        obtain ⟨Y, hY⟩ : ∃ Y, Y = X * n := ⟨_, rfl⟩
        have hmul : (X : Int) * (n : Int) = ((Y : Nat) : Int) := by rw [hY]; simp
        rw [← hY] at key HSU
        have hw1 : Go.RowKit.wrap64 ((X : Int) * (n : Int)) = (Y : Int) := by rw [hmul]; exact IntWalk.wrap64_in _ ⟨by omega, by omega⟩
        have hw2 : IntKind.i64.wrap ((X : Int) * (n : Int)) = (Y : Int) := by rw [hmul]; exact IntWalk.i64_in _ (by omega)
        have HX := hid hX
        clear hX hY hmul hb
        go_wp2_with fail
        refine ⟨⟨k + 1, by omega, ?_, ?_, by trivial, Or.inr (by rw [Nat.add_sub_cancel, ← HX.out]; exact h5)⟩, ?_⟩
        · congr 1; omega
        · congr 1; rw [HSU.out]
        · simp only [intOf]; omega
      · have b5 : ¬ (X : Int) ≤ 5000 := by omega
        have HM := HMO.out
        clear hX
        go_wp2_with fail
        go_ret
        exact ⟨_, rfl, hnw, Or.inr ⟨by rw [← HM2.out]; omega, by omega⟩⟩
    · have e : k = m := by omega
      have b1 : ¬ (0 : Int) < (m : Int) - (k : Int) := by omega
      have HX := hid hX
      clear hX
      go_wp2_with fail
      go_ret
      refine ⟨_, rfl, hnw, ?_⟩
      unfold cntCut
      rw [← HM2.out, ← e, ← HX.out]
      by_cases h5 : X ≤ 5000
      · exact Or.inl ⟨h5, rfl⟩
      · exact Or.inr ⟨by omega, by omega⟩

end Go.Proofs.Ythbebnfhplacnaa
