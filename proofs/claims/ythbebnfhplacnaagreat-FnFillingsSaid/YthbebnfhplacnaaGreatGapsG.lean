/- Parts of the proof that lean on no program: GrowG, IGaps, SGaps, SOwn, SFill. -/
import Derived.Test.YthbebnfhplacnaaGreatRows
import Derived.Test.YthbebnfhplacnaaGreatCore
import Derived.Test.YthbebnfhplacnaaGreatMaps
import Derived.Test.YthbebnfhplacnaaGreatArrs
import Derived.Test.YthbebnfhplacnaaGreatInfos
import Derived.Test.YthbebnfhplacnaaGreatPlains
import Derived.Test.YthbebnfhplacnaaGreatDrawT
import Derived.Test.YthbebnfhplacnaaGreatPlainFill
import Derived.WalkKit
import Derived.WalkSpells
import Derived.WalkLawsBesides
import Derived.Deep.QuietTactic
import Derived.Deep.OwnRows
import Derived.BigQuiet
import Derived.KernelRfl
import Derived.OwnWalk
import Derived.Deep.AppendLies
import Derived.Deep.RegionHeld3
import Derived.Carry
import Derived.Deep.RegionLaw
import Derived.Deep.Cut
namespace Go.Proofs.YthbebnfhplacnaaGreat
open Go.RowKit

section
def gapVals (gs : List (Nat × Nat)) : List Value := gs.flatMap fun g => [.int .i64 g.1, .int .i64 g.2]
theorem gapVals_len (gs : List (Nat × Nat)) : (gapVals gs).length = gs.length * 2 := by
  induction gs with
  | nil => rfl
  | cons g r ih => simp only [gapVals, List.flatMap_cons, List.length_append, List.length_cons, List.length_nil] at ih ⊢; omega
theorem gapVals_append (a b : List (Nat × Nat)) : gapVals (a ++ b) = gapVals a ++ gapVals b := by simp [gapVals]
theorem gapVals_at (gs : List (Nat × Nat)) : ∀ i, i < gs.length → (gapVals gs)[i * 2]? = some (.int .i64 (nth gs i).1) ∧ (gapVals gs)[i * 2 + 1]? = some (.int .i64 (nth gs i).2) := by
  induction gs with
  | nil => intro i hi; simp at hi
  | cons g r ih =>
    intro i hi
    rcases i with _ | i
    · exact ⟨rfl, rfl⟩
    · have := ih i (by simpa using hi)
      have e : nth (g :: r) (i + 1) = nth r i := rfl
      rw [e]
      have e1 : gapVals (g :: r) = .int .i64 g.1 :: .int .i64 g.2 :: gapVals r := rfl
      rw [e1, show (i + 1) * 2 = i * 2 + 2 by omega, show i * 2 + 2 + 1 = i * 2 + 1 + 2 by omega]
      exact this
/-- Pairs under append. -/
def GrowG (B : Nat) (e : TypeId) (w : World) (v : Value) (gs : List (Nat × Nat)) : Prop := w.ownsRow B e 2 v gs.length (gapVals gs)
/-- A list of pairs. -/
def GapsAt (w : World) (v : Value) (gs : List (Nat × Nat)) : Prop := ∃ A c, v = .slice A gs.length c ∧ ∀ i, i < gs.length → ∃ b, A = some ⟨b, 0, none⟩ ∧ w.cell? ⟨b, i * 2, none⟩ = some (.int .i64 (nth gs i).1) ∧ w.cell? ⟨b, i * 2 + 1, none⟩ = some (.int .i64 (nth gs i).2)
theorem GapsAt.but {S : Nat → Prop} {w w' : World} {v : Value} {gs : List (Nat × Nat)} (h : GapsAt w v gs) (hb : But S w w') (hS : ∀ k, v.ownBlock = some k → ¬ S k) : GapsAt w' v gs := by
  obtain ⟨A, c, rfl, hc⟩ := h
  refine ⟨A, c, rfl, fun i hi => ?_⟩
  obtain ⟨b, rfl, h1, h2⟩ := hc i hi
  exact ⟨b, rfl, hb.cell h1 (hS b rfl), hb.cell h2 (hS b rfl)⟩
theorem GapsAt.new {w w' : World} {v : Value} {gs : List (Nat × Nat)} (h : GapsAt w v gs) (hn : New w w') : GapsAt w' v gs := h.but (S := fun _ => False) (But.of_new hn) (fun _ _ => id)
theorem GapsAt.form {w : World} {v : Value} {gs : List (Nat × Nat)} (h : GapsAt w v gs) : ∃ A c, v = .slice A gs.length c := let ⟨A, c, h, _⟩ := h; ⟨A, c, h⟩
theorem GrowG.empty (B : Nat) (e : TypeId) (w : World) (h : B ≤ w.heap.size) : GrowG B e (w.alloc (.cells #[] e)) (.slice (some ⟨w.heap.size, 0, none⟩) 0 0) [] := by
  have := World.ownsRow_made (w := w) (base := B) (e := e) (size := 2) #[] 0 h (by simp) (by simp)
  exact this
theorem GrowG.form {B : Nat} {e : TypeId} {w : World} {v : Value} {gs : List (Nat × Nat)} (h : GrowG B e w v gs) : ∃ A c, v = .slice A gs.length c := by
  obtain ⟨h1, ⟨rfl, h2⟩ | ⟨g, cap, cur, rfl, _⟩⟩ := h
  · exact ⟨none, 0, by rw [h2]⟩
  · exact ⟨_, _, rfl⟩
theorem GrowG.block {B : Nat} {e : TypeId} {w : World} {v : Value} {gs : List (Nat × Nat)} (h : GrowG B e w v gs) : ∀ k, v.ownBlock = some k → B ≤ k ∧ k < w.heap.size := World.ownsRow.lt h
theorem GrowG.new {B : Nat} {e : TypeId} {w w' : World} {v : Value} {gs : List (Nat × Nat)} (h : GrowG B e w v gs) (hn : New w w') : GrowG B e w' v gs := ownsRow_new h hn
theorem GrowG.at {B : Nat} {e : TypeId} {w : World} {v : Value} {gs : List (Nat × Nat)} (h : GrowG B e w v gs) : GapsAt w v gs := by
  obtain ⟨A, c, rfl⟩ := h.form
  refine ⟨A, c, rfl, fun i hi => ?_⟩
  obtain ⟨h1, ⟨e1, e2⟩ | ⟨g, cap, cur, e1, hg, hh, hn, hc, hs, ht⟩⟩ := h
  · omega
  · cases e1
    obtain ⟨q1, q2⟩ := gapVals_at gs i hi
    refine ⟨g, rfl, ?_, ?_⟩
    · rw [← ht, List.getElem?_take, if_pos (by omega)] at q1
      simpa [World.cell?, hh] using q1
    · rw [← ht, List.getElem?_take, if_pos (by omega)] at q2
      simpa [World.cell?, hh] using q2
section
variable {P : Program}
theorem wpList_appG {ops : Array Oper} {rest : List Oper} {o : Oper} {a : Act} {Q : Exit → Act → World → Prop} {w1 : World} {T : TypeId} {l s : Nat} (hg : o.guard = none) (so x : Operand) (t : TypeId)
    (ho : o.op = .call { callee := .builtin .append, args := #[so, x], argTypes := #[t, t] }) {B : Nat} {e : TypeId} (ht : P.underlying t = some (.slice e)) {z0 : Value}
    (hinfo : (P.info? e).map (fun i => (i.zero, i.size, i.bytes)) = some (some z0, 2, 16)) (hz0' : z0.cells.size = 2) (v : Value) (gs : List (Nat × Nat)) (hs : a.eval so = v) (hown : GrowG B e w1 v gs)
    (hx : a.eval x = .slice (some ⟨w1.heap.size, 0, none⟩) 1 1) (hlen : gs.length < 1048576) (hB : B ≤ w1.heap.size)
    (h : ∀ g cap w', GrowG B e w' (.slice (some ⟨g, 0, none⟩) (gs.length + 1) cap) (gs ++ [(l, s)]) → w1.grownBy w' v.ownBlock → wpList P ops Q rest (a.put o.dst (.slice (some ⟨g, 0, none⟩) (gs.length + 1) cap)) w') :
    wpList P ops Q (o :: rest) a (w1.alloc (.cells #[.int .i64 l, .int .i64 s] T)) := by
  obtain ⟨i0, hi, hz0, hz1, hz2⟩ := info_parts hinfo
  refine wpList_append_own _ hg so x t ho B e i0 z0 2 16 ht hi hz0 hz1 hz2 hz0' (by decide) v gs.length _ hs (World.ownsRow.alloc hown _) ⟨w1.heap.size, 0, none⟩ 1 1 [.int .i64 l, .int .i64 s] hx rfl ?_ (by intro u hu; simp at hu; rcases hu with rfl | rfl <;> rfl) (by unfold maxLen; omega) (by omega) (by simp; omega) ?_
  · intro j u hj
    rcases j with _ | _ | j
    · simp at hj; subst hj
      unfold Addr.add World.cell?
      simp only [if_true]
      rw [heap_alloc_new]; rfl
    · simp at hj; subst hj
      unfold Addr.add World.cell?
      simp only [Nat.zero_add, Nat.one_ne_zero, if_false]
      rw [heap_alloc_new]; rfl
    · simp at hj
  · intro v' w' hown' hgrow hnil
    have hgr : w1.grownBy w' v.ownBlock := grown_trans (World.grownBy_alloc _ _ _) hgrow
    have e1 : gapVals gs ++ [.int .i64 (l : Int), .int .i64 (s : Int)] = gapVals (gs ++ [(l, s)]) := by rw [gapVals_append]; rfl
    have hown2 : GrowG B e w' v' (gs ++ [(l, s)]) := by
      unfold GrowG
      rw [← e1, List.length_append, List.length_singleton]
      exact hown'
    obtain ⟨h1, ⟨rfl, h2⟩ | ⟨g, cap, cur, rfl, _⟩⟩ := id hown'
    · omega
    · exact h g cap w' hown2 hgr
end
end
section
theorem info_gap : (Tryz.prog.info? 87).map (fun i => (i.zero, i.size, i.bytes)) = some (some (.agg #[.int .i64 0, .int .i64 0]), 2, 16) := by kernel_rfl
set_option maxRecDepth 20000 in
set_option maxHeartbeats 2000000 in
theorem gaps_any (v : Value) (p : Aut) (w : World) (h : AutAt w v p) (hl : p.nx.length ≤ 3) (hll : ∀ i, i < p.nx.length → (nth p.nx i).length ≤ 10) :
    Calls Tryz.prog 40 #[v] w fun e w' => ∃ r, e = .returned r ∧ New w w' ∧ GapsAt w' r (gapsOf p.nx) ∧ ∀ q, r.ownBlock = some q → w.heap.size ≤ q := by
  obtain ⟨rv, rfl, hr⟩ := h
  obtain ⟨A, c, rfl, hlm, hcr⟩ := hr
  obtain ⟨wb, hwb⟩ : ∃ wb, wb = w.alloc (.cells #[.int .i64 p.n, .slice A p.nx.length c] 26) := ⟨_, rfl⟩
  have hnb : New w wb := by rw [hwb]; exact (by repeat (first | with_reducible exact New.refl _ | with_reducible assumption | with_reducible refine New.alloc ?_ _ | with_reducible refine New.drewN ?_ _ | with_reducible refine New.drew ?_ | with_reducible refine New.trans ?_ (by with_reducible assumption)))
  have hb1 : wb.cell? ⟨w.heap.size, 1, none⟩ = some (.slice A p.nx.length c) := by rw [hwb]; go_simp
  have HC := hid hcr
  have HLL := hid hll
  have HGL := hid (fun k hk => gapsTo_len (nx := p.nx) (m := 10) hll k hk)
  clear hcr hll
  have hzb : wb.heap.size = w.heap.size + 1 := by rw [hwb]; simp only [size_alloc]
  have hG0 := GrowG.empty wb.heap.size 87 wb (Nat.le_refl _)
  rw [hzb] at hG0
  have hnG : New wb (wb.alloc (.cells #[] 87)) := (by repeat (first | with_reducible exact New.refl _ | with_reducible assumption | with_reducible refine New.alloc ?_ _ | with_reducible refine New.drewN ?_ _ | with_reducible refine New.drew ?_ | with_reducible refine New.trans ?_ (by with_reducible assumption)))
  go_enter Tryz.func40, Tryz.ntmps40
  go_wp2_with fail
  rw [← hwb]
  clear hwb
  go_wp2_with fail
  generalize (wb.alloc (.cells #[] 87)) = w0 at hG0 hnG ⊢
  have hn0 := hnb.trans hnG
  have hB2 : w.heap.size + 1 ≤ w0.heap.size := by have := hnG.size; omega
  clear hnb hzb
  replace hb1 := hnG.cell hb1
  go_wp2_with fail
  go_loopw [3, 12] (fun o i wr => ∃ k : Nat, k ≤ p.nx.length ∧ i = .int .i64 k ∧ New w wr ∧ GrowG (w.heap.size + 1) 87 wr o (gapsTo p.nx k) ∧ w0.heap.size ≤ wr.heap.size) (fun _ i _ => p.nx.length - (intOf i).toNat)
  case atStart => exact ⟨0, Nat.zero_le _, rfl, hn0, hG0, Nat.le_refl _⟩
  case round =>
    obtain ⟨k, hk, rfl, hn, hG, hz⟩ := hrel
    obtain ⟨wo, rfl⟩ : ∃ wo : World, wo = wr := ⟨_, rfl⟩
    clear hn0 hG0 hnG
    by_cases hlt : k < p.nx.length
    · have b1 : (k : Int) < (p.nx.length : Int) := by omega
      obtain ⟨b, off, rv, rfl, hx, hxr⟩ := HC.out k hlt
      obtain ⟨A2, c2, rfl, _, hrow⟩ := hxr
      replace hx := hn.cell hx
      have hl10 := HLL.out k hlt
      have hgl := HGL.out k hk
      have HROW := hid hrow
      have HSU := hid (gapsTo_succ p.nx k)
      obtain ⟨GS, hGS⟩ : ∃ z, z = gapsTo p.nx k := ⟨_, rfl⟩
      rw [← hGS] at HSU hgl hG
      obtain ⟨ROW, hROW⟩ : ∃ z, z = nth p.nx k := ⟨_, rfl⟩
      rw [← hROW] at HSU HROW hl10 hx
      clear hrow hGS hROW
      go_wp2_with fail
      go_loopw [3, 19] (fun o i wr => ∃ s : Nat, s ≤ ROW.length ∧ i = .int .i64 s ∧ New w wr ∧ GrowG (w.heap.size + 1) 87 wr o (GS ++ gapRow k ROW s) ∧ w0.heap.size ≤ wr.heap.size) (fun _ i _ => ROW.length - (intOf i).toNat)
      case atStart => exact ⟨0, Nat.zero_le _, rfl, hn, by simpa [gapRow] using hG, hz⟩
      case round =>
        obtain ⟨s, hs, rfl, hn1, hG1, hz1⟩ := hrel
        obtain ⟨wi, rfl⟩ : ∃ wi : World, wi = wr := ⟨_, rfl⟩
        have hgl2 := gapRow_len k ROW s
        obtain ⟨GL, hGL⟩ : ∃ z, z = GS ++ gapRow k ROW s := ⟨_, rfl⟩
        have hgl4 : GL.length = GS.length + (gapRow k ROW s).length := by rw [hGL, List.length_append]
        have HGL := hid hGL
        rw [← hGL] at hG1
        clear hGL
        obtain ⟨AG, cG, rfl⟩ := hG1.form
        by_cases hlt2 : s < ROW.length
        · have b2 : (s : Int) < (ROW.length : Int) := by omega
          obtain ⟨b3, off3, rfl, hy⟩ := HROW.out s hlt2
          replace hy := hn1.cell hy
          have hgl3 : GL.length < 1048576 := by omega
          clear hgl4 hgl2 hgl
          by_cases hneg : nth ROW s < 0
          · have HG2 := hid (gapRow_yes (l := k) hneg)
            go_wp2_with (at_builtin; refine wpList_appG (w1 := wi) rfl _ _ _ rfl Tryz.underlying28 info_gap rfl (.slice AG GL.length cG) GL rfl hG1 rfl hgl3 (by omega) ?_; intro g cap w9 ho9 hg9)
            have hn9 : New w w9 := hn1.grown hg9 (fun q hq => by have := (hG1.block q hq).1; omega)
            refine ⟨⟨s + 1, by omega, by go_num, hn9, by rw [HG2.out, ← List.append_assoc, ← HGL.out]; exact ho9, by have := hg9.size; omega⟩, by simp [intOf]; omega⟩
          · have HG2 := hid (gapRow_no (l := k) hneg)
            go_wp2_with fail
            exact ⟨⟨s + 1, by omega, by go_num, hn1, by rw [HG2.out, ← HGL.out]; exact hG1, hz1⟩, by simp [intOf]; omega⟩
        · have e : s = ROW.length := by omega
          subst e
          go_wp2_with fail
          exact ⟨⟨k + 1, by omega, by go_num, hn1, by rw [HSU.out, ← HGL.out]; exact hG1, hz1⟩, by simp [intOf]; omega⟩
    · have e : k = p.nx.length := by omega
      subst e
      go_wp2_with fail
      go_ret
      exact ⟨_, rfl, hn, hG.at, fun q hq => by have := (hG.block q hq).1; omega⟩
end
section
set_option maxRecDepth 20000 in
set_option maxHeartbeats 2000000 in
theorem l04Gaps_any (v : Value) (p : Aut) (w : World) (h : PAut w v p) (hl : p.nx.length ≤ 3) (hll : ∀ i, i < p.nx.length → (nth p.nx i).length ≤ 10) :
    Calls Tryz.prog 21 #[v] w fun e w' => ∃ r, e = .returned r ∧ New w w' ∧ GapsAt w' r (gapsOf p.nx) ∧ ∀ q, r.ownBlock = some q → w.heap.size ≤ q := by
  obtain ⟨pb, rv, rfl, hp0, hp1, hr⟩ := h
  obtain ⟨A, c, rfl, hlm, hcr⟩ := hr
  have HC := hid hcr
  have HLL := hid hll
  have HGL := hid (fun k hk => gapsTo_len (nx := p.nx) (m := 10) hll k hk)
  clear hcr hll
  have hG0 := GrowG.empty w.heap.size 87 w (Nat.le_refl _)
  have hn0 : New w (w.alloc (.cells #[] 87)) := (by repeat (first | with_reducible exact New.refl _ | with_reducible assumption | with_reducible refine New.alloc ?_ _ | with_reducible refine New.drewN ?_ _ | with_reducible refine New.drew ?_ | with_reducible refine New.trans ?_ (by with_reducible assumption)))
  go_enter Tryz.func21, Tryz.ntmps21
  go_wp2_with fail
  generalize (w.alloc (.cells #[] 87)) = w0 at hG0 hn0 ⊢
  go_loopw [3, 4] (fun o i wr => ∃ k : Nat, k ≤ p.nx.length ∧ i = .int .i64 k ∧ New w wr ∧ GrowG w.heap.size 87 wr o (gapsTo p.nx k)) (fun _ i _ => p.nx.length - (intOf i).toNat)
  case atStart => exact ⟨0, Nat.zero_le _, rfl, hn0, hG0⟩
  case round =>
    obtain ⟨k, hk, rfl, hn, hG⟩ := hrel
    obtain ⟨wo, rfl⟩ : ∃ wo : World, wo = wr := ⟨_, rfl⟩
    have z1 := hn.cell hp1
    have hzo := hn.size
    clear hn0 hG0
    by_cases hlt : k < p.nx.length
    · have b1 : (k : Int) < (p.nx.length : Int) := by omega
      obtain ⟨b, off, rv, rfl, hx, hxr⟩ := HC.out k hlt
      obtain ⟨A2, c2, rfl, _, hrow⟩ := hxr
      have hl10 := HLL.out k hlt
      have hgl := HGL.out k hk
      have HROW := hid hrow
      have HSU := hid (gapsTo_succ p.nx k)
      obtain ⟨GS, hGS⟩ : ∃ z, z = gapsTo p.nx k := ⟨_, rfl⟩
      rw [← hGS] at HSU hgl hG
      obtain ⟨ROW, hROW⟩ : ∃ z, z = nth p.nx k := ⟨_, rfl⟩
      rw [← hROW] at HSU HROW hl10 hx
      clear hrow hGS hROW
      go_wp2_with fail
      go_loopw [3, 5] (fun o i wr => ∃ s : Nat, s ≤ ROW.length ∧ i = .int .i64 s ∧ New w wr ∧ GrowG w.heap.size 87 wr o (GS ++ gapRow k ROW s)) (fun _ i _ => ROW.length - (intOf i).toNat)
      case atStart => exact ⟨0, Nat.zero_le _, rfl, hn, by simpa [gapRow] using hG⟩
      case round =>
        obtain ⟨s, hs, rfl, hn1, hG1⟩ := hrel
        clear z1 hzo
        obtain ⟨wi, rfl⟩ : ∃ wi : World, wi = wr := ⟨_, rfl⟩
        have z1 := hn1.cell hp1
        have z2 := hn1.cell hx
        have hzi := hn1.size
        have hgl2 := gapRow_len k ROW s
        obtain ⟨GL, hGL⟩ : ∃ z, z = GS ++ gapRow k ROW s := ⟨_, rfl⟩
        have hgl4 : GL.length = GS.length + (gapRow k ROW s).length := by rw [hGL, List.length_append]
        have HGL := hid hGL
        rw [← hGL] at hG1
        clear hGL
        obtain ⟨AG, cG, rfl⟩ := hG1.form
        by_cases hlt2 : s < ROW.length
        · have b2 : (s : Int) < (ROW.length : Int) := by omega
          obtain ⟨b3, off3, rfl, hy⟩ := HROW.out s hlt2
          replace hy := hn1.cell hy
          have hgl3 : GL.length < 1048576 := by omega
          clear hgl4 hgl2 hgl
          by_cases hneg : nth ROW s < 0
          · have HG2 := hid (gapRow_yes (l := k) hneg)
            go_wp2_with (at_builtin; refine wpList_appG (w1 := wi) rfl _ _ _ rfl Tryz.underlying28 info_gap rfl (.slice AG GL.length cG) GL rfl hG1 rfl hgl3 (by omega) ?_; intro g cap w9 ho9 hg9)
            have hn9 : New w w9 := hn1.grown hg9 (fun q hq => by have := (hG1.block q hq).1; omega)
            refine ⟨⟨s + 1, by omega, by go_num, hn9, by rw [HG2.out, ← List.append_assoc, ← HGL.out]; exact ho9⟩, by simp [intOf]; omega⟩
          · have HG2 := hid (gapRow_no (l := k) hneg)
            go_wp2_with fail
            exact ⟨⟨s + 1, by omega, by go_num, hn1, by rw [HG2.out, ← HGL.out]; exact hG1⟩, by simp [intOf]; omega⟩
        · have e : s = ROW.length := by omega
          subst e
          go_wp2_with fail
          exact ⟨⟨k + 1, by omega, by go_num, hn1, by rw [HSU.out, ← HGL.out]; exact hG1⟩, by simp [intOf]; omega⟩
    · have e : k = p.nx.length := by omega
      subst e
      go_wp2_with fail
      go_ret
      exact ⟨_, rfl, hn, hG.at, fun q hq => by have := (hG.block q hq).1; omega⟩
/-- A count of fillings that is great enough where it is too great. -/
def cntCut (n m : Nat) (c : Int) : Prop := (n ^ m ≤ 5000 ∧ c = ((n ^ m : Nat) : Int)) ∨ (5000 < n ^ m ∧ 5000 < c)
set_option maxRecDepth 20000 in
set_option maxHeartbeats 2000000 in
theorem l04Fillings_any (v : Value) (p : Aut) (w : World) (h : PAut w v p) (hf : PartFacts p) :
    Calls Tryz.prog 25 #[v] w fun e w' => ∃ c, e = .returned (.int .i64 c) ∧ New w w' ∧ cntCut p.n.toNat (gapsOf p.nx).length c := by
  have C1 := l04Gaps_any v p w h hf.l3 (fun i hi => by have := hf.row i hi; have := hf.n10; omega)
  obtain ⟨pb, rv, rfl, hp0, hp1, hr⟩ := h
  have hgl := gaps_len hf
  obtain ⟨m, hm⟩ : ∃ m, m = (gapsOf p.nx).length := ⟨_, rfl⟩
  obtain ⟨n, hn⟩ : ∃ n : Nat, p.n = (n : Int) := ⟨p.n.toNat, by have := hf.n1; omega⟩
  have hn1 : 1 ≤ n := by have := hf.n1; omega
  have hn10 : n ≤ 10 := by have := hf.n10; omega
  rw [hn] at hp0
  rw [hn, Int.toNat_natCast]
  obtain ⟨GS, hGS⟩ : ∃ z, z = gapsOf p.nx := ⟨_, rfl⟩
  rw [← hGS] at C1 hgl hm ⊢
  clear hf hn hGS
  go_enter Tryz.func25, Tryz.ntmps25
  go_wp2_with fail
  refine C1.mono ?_
  rintro e w1 ⟨r1, rfl, hnw, hg, _⟩
  obtain ⟨AG, cG, rfl⟩ := hg.form
  rw [← hm] at hgl
  have z0 := hnw.cell hp0
  clear hg C1
  go_wp2_with fail
  rw [← hm]
  have HM2 := hid hm
  clear hm
  go_loopw [3, 4] (fun cv i wr => ∃ k : Nat, k ≤ m ∧ i = .int .i64 ((m : Int) - k) ∧ cv = .int .i64 (n ^ k : Nat) ∧ wr = w1 ∧ (k = 0 ∨ n ^ (k - 1) ≤ 5000)) (fun _ i _ => (intOf i).toNat)
  case atStart => exact ⟨0, Nat.zero_le _, by simp, by simp, rfl, Or.inl rfl⟩
  case round =>
    obtain ⟨k, hk, rfl, rfl, rfl, hb⟩ := hrel
    have hbig : n ^ k ≤ 50000 := by
      rcases hb with e | e
      · subst e; simp
      · rcases k with _ | k
        · simp
        · rw [Nat.pow_succ]
          have := Nat.mul_le_mul e hn10
          simpa using this
    have HSU := hid (Nat.pow_succ n k)
    have HMO := hid (Nat.pow_le_pow_right (n := n) hn1 hk)
    obtain ⟨X, hX⟩ : ∃ X, X = n ^ k := ⟨_, rfl⟩
    rw [← hX] at hbig HSU HMO ⊢
    by_cases hlt : k < m
    · have b1 : (0 : Int) < (m : Int) - (k : Int) := by omega
      by_cases h5 : X ≤ 5000
      · have b5 : (X : Int) ≤ 5000 := by omega
        have key : X * n ≤ 5000 * 10 := Nat.mul_le_mul h5 hn10
        obtain ⟨Y, hY⟩ : ∃ Y, Y = X * n := ⟨_, rfl⟩
        have hmul : (X : Int) * (n : Int) = ((Y : Nat) : Int) := by rw [hY]; simp
        rw [← hY] at key HSU
        have hw1 : Go.RowKit.wrap64 ((X : Int) * (n : Int)) = (Y : Int) := by rw [hmul]; exact IntWalk.wrap64_in _ ⟨by omega, by omega⟩
        have hw2 : IntKind.i64.wrap ((X : Int) * (n : Int)) = (Y : Int) := by rw [hmul]; exact IntWalk.i64_in _ (by omega)
        have HX := hid hX
        clear hX hY hmul hb
        go_wp2_with fail
        refine ⟨⟨k + 1, by omega, ?_, ?_, by trivial, Or.inr (by rw [Nat.add_sub_cancel, ← HX.out]; exact h5)⟩, ?_⟩
        · congr 1; omega
        · congr 1; rw [HSU.out]
        · simp only [intOf]; omega
      · have b5 : ¬ (X : Int) ≤ 5000 := by omega
        have HM := HMO.out
        clear hX
        go_wp2_with fail
        go_ret
        exact ⟨_, rfl, hnw, Or.inr ⟨by rw [← HM2.out]; omega, by omega⟩⟩
    · have e : k = m := by omega
      have b1 : ¬ (0 : Int) < (m : Int) - (k : Int) := by omega
      have HX := hid hX
      clear hX
      go_wp2_with fail
      go_ret
      refine ⟨_, rfl, hnw, ?_⟩
      unfold cntCut
      rw [← HM2.out, ← e, ← HX.out]
      by_cases h5 : X ≤ 5000
      · exact Or.inl ⟨h5, rfl⟩
      · exact Or.inr ⟨by omega, by omega⟩
end
section
/-- A slice is not longer than its capacity. -/
def CapAt (v : Value) : Prop := ∀ A m c, v = .slice A m c → m ≤ c
set_option maxHeartbeats 400000 in
theorem l00OwnC_any (v : Value) (xs : List Int) (w : World) (h : IntsAt w v xs) (hl : xs.length ≤ 1048576) :
    Calls Tryz.prog 69 #[v] w fun e w' => ∃ r, e = .returned r ∧ New w w' ∧ OwnInts w.heap.size w'.heap.size w' r xs ∧ CapAt r := by
  go_enter Tryz.func69, Tryz.ntmps69
  go_wp2_with (at_builtin; refine wpList_appAll rfl _ _ _ rfl Tryz.underlying34 info_i64 (.slice (some ⟨w.heap.size, 0, none⟩) 0 0) _ [] xs w.heap.size rfl (Grow.empty w.heap.size 2 w (Nat.le_refl _)) rfl rfl (h.new (by repeat (first | with_reducible exact New.refl _ | with_reducible assumption | with_reducible refine New.alloc ?_ _ | with_reducible refine New.drewN ?_ _ | with_reducible refine New.drew ?_ | with_reducible refine New.trans ?_ (by with_reducible assumption)))) (by simp; omega) (by (try simp only [sizes]) <;> omega) ?_; intro g cap w2 ho2 hg2 hloc)
  go_ret
  have hn : New w w2 := New.grown (by repeat (first | with_reducible exact New.refl _ | with_reducible assumption | with_reducible refine New.alloc ?_ _ | with_reducible refine New.drewN ?_ _ | with_reducible refine New.drew ?_ | with_reducible refine New.trans ?_ (by with_reducible assumption))) hg2 (fun k hk => by simp [Value.ownBlock] at hk; omega)
  simp only [List.length_nil, Nat.zero_add, List.nil_append] at ho2
  exact ⟨_, rfl, hn, ho2.own (by omega), fun A m c e => by
    obtain ⟨_, ⟨h1, _⟩ | ⟨g', cap', cur, e', _, _, hn', _⟩⟩ := ho2
    · cases h1
    · injection e' with _ _ e3
      injection e with _ e4 e5
      omega⟩
theorem l00Own_any (v : Value) (xs : List Int) (w : World) (h : IntsAt w v xs) (hl : xs.length ≤ 1048576) :
    Calls Tryz.prog 69 #[v] w fun e w' => ∃ r, e = .returned r ∧ New w w' ∧ OwnInts w.heap.size w'.heap.size w' r xs :=
  (l00OwnC_any v xs w h hl).mono fun _e _w' ⟨r, he, hn, ho, _⟩ => ⟨r, he, hn, ho⟩
set_option maxRecDepth 20000 in
set_option maxHeartbeats 1000000 in
theorem l06OwnRows_any (v : Value) (xss : List (List Int)) (w : World) (h : RowsAt w v xss) (hl : xss.length ≤ 1048576) (hll : ∀ i, i < xss.length → (nth xss i).length ≤ 1048576) :
    Calls Tryz.prog 83 #[v] w fun e w' => ∃ r, e = .returned r ∧ New w w' ∧ OwnRows w.heap.size w'.heap.size w' r xss := by
  obtain ⟨A, c, rfl, hl', hc⟩ := h
  have HLL := hid hll
  clear hll
  go_enter Tryz.func83, Tryz.ntmps83
  go_wp2
  go_loopw [3, 4] (fun o i wr => ∃ k : Nat, k ≤ xss.length ∧ i = .int .i64 k ∧ GrowRows w.heap.size 34 wr o (xss.take k) ∧ New w wr) (fun _ i _ => xss.length - (intOf i).toNat)
  case atStart => exact ⟨0, Nat.zero_le _, rfl, GrowRows.empty _ _ _ (Nat.le_refl _), (by repeat (first | with_reducible exact New.refl _ | with_reducible assumption | with_reducible refine New.alloc ?_ _ | with_reducible refine New.drew ?_ | with_reducible refine New.drewN ?_ _ | with_reducible refine New.setCell ?_ (by simp <;> omega) _))⟩
  case round =>
    obtain ⟨k, hk, rfl, ho, hn⟩ := hrel
    by_cases hlt : k < xss.length
    · obtain ⟨b, off, rv, rfl, hx, hr⟩ := hc k hlt
      have b1 : (k : Int) < (xss.length : Int) := by omega
      have hzr := hn.size
      have hkl : (xss.take k).length = k := by simp; omega
      replace hx := hn.cell hx
      clear hc
      go_wp2_with (first
        | (go_at_call 69; refine (l00Own_any _ _ _ (hr.new (by repeat (first | with_reducible exact New.refl _ | with_reducible assumption | with_reducible refine New.alloc ?_ _ | with_reducible refine New.drewN ?_ _ | with_reducible refine New.drew ?_ | with_reducible refine New.trans ?_ (by with_reducible assumption)))) (HLL.out k hlt)).mono ?_; rintro e w1 ⟨r, he, hn1, ho1⟩; obtain ⟨Ar, cr, rfl⟩ := ho1.form; subst he)
        | (at_builtin; refine wpList_appRows rfl _ _ _ rfl Tryz.underlying24 info_ints _ (xss.take k) (nth xss k) rfl ho hn1 ho1 rfl (by omega) (by omega) ?_; intro g cap w2 ho2 hg2))
      go_roundw
      case rel => exact ⟨k + 1, by omega, by go_num, by rw [take_succ_nth xss k hlt]; rw [hkl] at ho2; exact ho2, (hn.trans hn1).appRows hg2 ho (Nat.le_refl _)⟩
      case measure => simp [intOf]; omega
    · have e : k = xss.length := by omega
      subst e
      rw [List.take_length] at ho
      go_wp2
      go_ret
      exact ⟨_, rfl, hn, ho.own (by omega)⟩
theorem l00OwnG_any (v : Value) (xs : List Int) (w : World) (h : IntsAt w v xs) (hl : xs.length ≤ 1048576) :
    Calls Tryz.prog 69 #[v] w fun e w' => ∃ r, e = .returned r ∧ New w w' ∧ Grow w.heap.size 2 w' r xs := by
  go_enter Tryz.func69, Tryz.ntmps69
  go_wp2_with (at_builtin; refine wpList_appAll rfl _ _ _ rfl Tryz.underlying34 info_i64 (.slice (some ⟨w.heap.size, 0, none⟩) 0 0) _ [] xs w.heap.size rfl (Grow.empty w.heap.size 2 w (Nat.le_refl _)) rfl rfl (h.new (by repeat (first | with_reducible exact New.refl _ | with_reducible assumption | with_reducible refine New.alloc ?_ _ | with_reducible refine New.drewN ?_ _ | with_reducible refine New.drew ?_ | with_reducible refine New.trans ?_ (by with_reducible assumption)))) (by simp; omega) (by (try simp only [sizes]) <;> omega) ?_; intro g cap w2 ho2 hg2 hloc)
  go_ret
  have hn : New w w2 := New.grown (by repeat (first | with_reducible exact New.refl _ | with_reducible assumption | with_reducible refine New.alloc ?_ _ | with_reducible refine New.drewN ?_ _ | with_reducible refine New.drew ?_ | with_reducible refine New.trans ?_ (by with_reducible assumption))) hg2 (fun k hk => by simp [Value.ownBlock] at hk; omega)
  simp only [List.length_nil, Nat.zero_add, List.nil_append] at ho2
  exact ⟨_, rfl, hn, ho2⟩
end
section
theorem Box2.mk1 {w w' : World} {u v : Value} {t : TypeId} (h : New (w.alloc (.cells #[u, v] t)) w') : Box2 w' w.heap.size u v :=
  Box2.new ⟨by unfold World.cell?; rw [heap_alloc_new]; rfl, by unfold World.cell?; rw [heap_alloc_new]; rfl, by unfold World.frozen?; rw [heap_alloc_new]; rfl, by unfold World.frozen?; rw [heap_alloc_new]; rfl⟩ h
theorem Box2.mk2 {w w' : World} {u v : Value} {t : TypeId} (h : New (w.alloc (.cells #[u, v] t)).drew w') : Box2 w' w.heap.size u v :=
  Box2.mk1 ((New.refl _).drew.trans h)
set_option maxRecDepth 20000 in
set_option maxHeartbeats 2000000 in
theorem l04Fill_any (v sv : Value) (p : Aut) (st : List Int) (w : World) (h : PAut w v p) (hs : IntsAt w sv st) (hf : PartFacts p) (hsl : st.length = (gapsOf p.nx).length) :
    Calls Tryz.prog 56 #[v, sv] w fun e w' => ∃ r, e = .returned r ∧ New w w' ∧ OwnAut w.heap.size w'.heap.size w' r ⟨p.n, fillOf p.nx st⟩ := by
  have C1 := fun w1 (hn : New w w1) => l04Gaps_any v p w1 (h.new hn) hf.l3 (fun i hi => by have := hf.row i hi; have := hf.n10; omega)
  obtain ⟨pb, rv, rfl, hp0, hp1, hr⟩ := h
  obtain ⟨A, c, rfl⟩ := hr.form
  obtain ⟨AS, cS, rfl⟩ := hs.form
  have hl3 := hf.l3
  have HL := hid (fun w1 (hn : New w w1) => l06OwnRows_any _ p.nx w1 (hr.new hn) (by omega) (fun i hi => by have := hf.row i hi; have := hf.n10; omega))
  have HS := hid hs
  have HSL := hid hsl
  obtain ⟨wb, hwb⟩ : ∃ wb, wb = w.alloc (.cells #[.int .i64 0, .slice none 0 0] 31) := ⟨_, rfl⟩
  have hnb : New w wb := by rw [hwb]; exact (by repeat (first | with_reducible exact New.refl _ | with_reducible assumption | with_reducible refine New.alloc ?_ _ | with_reducible refine New.drewN ?_ _ | with_reducible refine New.drew ?_ | with_reducible refine New.trans ?_ (by with_reducible assumption)))
  have hzb : wb.heap.size = w.heap.size + 1 := by rw [hwb]; simp only [size_alloc]
  have hR : Box2 wb w.heap.size (.int .i64 0) (.slice none 0 0) := by rw [hwb]; exact ⟨by go_simp, by go_simp, by go_simp, by go_simp⟩
  have HF1 := hid (fun i hi => gaps_in (p := p) i hi)
  have HFIN := hid (show ∀ w9 v9 B E, OwnRows B E w9 v9 (fillTo' p.nx (gapsOf p.nx) st (gapsOf p.nx).length) → OwnRows B E w9 v9 (fillOf p.nx st) from fun _ _ _ _ h => h)
  have C2 := C1 wb hnb
  obtain ⟨GS, hGS⟩ : ∃ z, z = gapsOf p.nx := ⟨_, rfl⟩
  rw [← hGS] at HF1 HSL HFIN C2
  have hzb2 : w.heap.size + 1 ≤ wb.heap.size := by omega
  clear hf hs hsl C1 hr hGS hzb
  go_enter Tryz.func56, Tryz.ntmps56
  go_wp2_with fail
  rw [← hwb]
  clear hwb
  refine C2.mono ?_
  rintro e w1 ⟨gv, rfl, hn1, hgp, hgb⟩
  obtain ⟨AG, cG, rfl⟩ := hgp.form
  have hN1 := hnb.trans hn1
  have z0 := hN1.cell hp0
  have z1 := hN1.cell hp1
  have hR1 := hR.new hn1
  have hz1 := hn1.size
  go_wp2_with fail
  go_cut [6] from 7 (fun o wr => ∃ tb A3 c3 lo hi, o = .pointer (some ⟨tb, 0, none⟩) ∧ w1.heap.size ≤ tb ∧ New w1 wr ∧ Box2 wr tb (.int .i64 p.n) (.slice A3 p.nx.length c3) ∧ w1.heap.size ≤ lo ∧ hi ≤ wr.heap.size ∧ (tb < lo ∨ hi ≤ tb) ∧ OwnRows lo hi wr (.slice A3 p.nx.length c3) p.nx)
  case first =>
    have lz : pb < w1.heap.size := World.block_lt_of_cell? w1 _ z0
    go_region_law (first
      | (go_simp; go_at_call 83; refine (HL.out _ (hN1.trans (by repeat (first | with_reducible exact New.refl _ | with_reducible assumption | with_reducible refine New.alloc ?_ _ | with_reducible refine New.drew ?_ | with_reducible refine New.drewN ?_ _ | with_reducible refine New.setCell ?_ (by simp <;> omega) _)))).mono ?_; rintro e w2 ⟨r2, he, hn2, ho2⟩; obtain ⟨A2, c2, rfl⟩ := ho2.form; subst he; have hm2 : New w1 w2 := New.trans (by repeat (first | with_reducible exact New.refl _ | with_reducible assumption | with_reducible refine New.alloc ?_ _ | with_reducible refine New.drew ?_ | with_reducible refine New.drewN ?_ _ | with_reducible refine New.setCell ?_ (by simp <;> omega) _)) hn2; have p0 := hm2.cell z0; have p1 := hm2.cell z1; have hs2 := hn2.size; (try simp only [sizes] at hs2); have lz2 : pb < w2.heap.size := (by omega); (first | have B2 := Box2.mk1 hn2 | have B2 := Box2.mk2 hn2 | skip); (try obtain ⟨x0, x1, x2, x3⟩ := id B2)))
    all_goals go_wp2_with fail
    all_goals go_meet
    all_goals first
      | refine ⟨w2.heap.size, A2, c2, w1.heap.size, w2.heap.size, by with_reducible rfl, ?_⟩; exact ⟨by omega, hm2.alloc _, Box2.mk1 (New.refl _), Nat.le_refl _, (by (try simp only [sizes]) <;> omega), Or.inr (Nat.le_refl _), (ho2.new ((New.refl _).alloc _)).widen (by (try simp only [sizes]) <;> omega) (Nat.le_refl _)⟩
      | refine ⟨w1.heap.size, A2, c2, w1.heap.size + 1, w2.heap.size, by with_reducible rfl, ?_⟩; exact ⟨by omega, New.fill hm2 (by omega) _ _, B2.fill _ _, by omega, (by (try simp only [sizes]) <;> omega), Or.inl (Nat.lt_succ_self _), (ho2.widen (B' := w1.heap.size + 1) (by (try simp only [sizes]) <;> omega) (Nat.le_refl _)).within (Within.fill w2 w1.heap.size _ _) (Or.inr (Nat.le_refl _))⟩
  case rest =>
    obtain ⟨tb, A3, c3, lo, hi, rfl, htb, hn3, hbo, hlo, hhi, hsep, hO⟩ := hcut
    have HN3 := hid hn3
    have HGP := hid hgp
    have hRc := hR1.new hn3
    have hNc := hN1.trans hn3
    obtain ⟨x0, x1, xf0, xf1⟩ := id hbo
    clear hgp hR1 C2 hn3 z0 z1
    go_wp2_with fail
    go_loopw [7] (fun i wr => ∃ k : Nat, k ≤ GS.length ∧ i = .int .i64 k ∧ Within lo hi wc wr ∧ OwnRows lo hi wr (.slice A3 p.nx.length c3) (fillTo' p.nx GS st k)) (fun i _ => GS.length - (intOf i).toNat)
    case atStart => exact ⟨0, Nat.zero_le _, rfl, Within.refl _ _ _, hO⟩
    case round =>
      obtain ⟨k, hk, rfl, hW, hOk⟩ := hrel
      clear hO
      obtain ⟨wi, rfl⟩ : ∃ wi : World, wi = wr := ⟨_, rfl⟩
      have hOi := hbo.within hW hsep
      obtain ⟨x0, x1, xf0, xf1⟩ := id hOi
      by_cases hlt2 : k < GS.length
      · have b2 : (k : Int) < (GS.length : Int) := by omega
        obtain ⟨_, _, e, hgc⟩ := id HGP.out
        cases e
        obtain ⟨gb, hA, g1, g2⟩ := hgc k hlt2
        cases hA
        have hgb2 : gb < w1.heap.size := World.block_lt_of_cell? w1 _ g1
        replace g1 := hW.cell (HN3.out.cell g1) (Or.inl (by show gb < lo; omega))
        replace g2 := hW.cell (HN3.out.cell g2) (Or.inl (by show gb < lo; omega))
        obtain ⟨q1, q2⟩ := HF1.out k hlt2
        have hst := HS.out.new (hNc.within hW (by omega))
        obtain ⟨_, _, e, _, hsc⟩ := id hst
        cases e
        obtain ⟨sb2, so, hA, hsx⟩ := hsc k (by rw [HSL.out]; exact hlt2)
        cases hA
        have hsb2 : sb2 < w.heap.size := by
          obtain ⟨_, _, e, _, hsc⟩ := id HS.out
          injection e with e1 e2 e3
          obtain ⟨b9, o9, h9, h9x⟩ := hsc k (by rw [HSL.out]; exact hlt2)
          rw [← e1] at h9
          injection h9 with h9
          injection h9 with h9 _ _
          have := World.block_lt_of_cell? w _ h9x
          simp only at this
          omega
        have hfl := gapTo_len p.nx GS st k
        have hfr := fillTo_row (fun i hi => (HF1.out i hi).1) st (nth GS k).1 k hk
        have HFS := hid (fillTo_succ p.nx GS st k)
        obtain ⟨FT, hFT⟩ : ∃ z, z = fillTo' p.nx GS st k := ⟨_, rfl⟩
        rw [← hFT] at hfl hfr HFS hOk
        obtain ⟨l, hl⟩ : ∃ l, l = (nth GS k).1 := ⟨_, rfl⟩
        obtain ⟨s, hs⟩ : ∃ s, s = (nth GS k).2 := ⟨_, rfl⟩
        rw [← hl] at g1 q1 q2 hfr HFS
        rw [← hs] at g2 q2 HFS
        have i1 : (l : Int) < (p.nx.length : Int) := by omega
        have i2 : (s : Int) < ((nth FT l).length : Int) := by omega
        have i3 : (k : Int) < (st.length : Int) := by rw [HSL.out]; omega
        obtain ⟨b, off, b2, off2, c2, hA, ux, uxs, uxf, ux1, ux2, hput⟩ := hOk.put l s (by omega) (by omega)
        cases hA
        have hne := hOk.row_ne l (by omega) ux
        obtain ⟨X, hX⟩ : ∃ X, X = nth st k := ⟨_, rfl⟩
        rw [← hX] at hsx HFS
        obtain ⟨hO9, hW9⟩ := hput X
        have hwz : hi ≤ wi.heap.size := by have := hW.2.2.2.1; omega
        have HO9 := hid hO9
        have HW9 := hid hW9
        have hb2t : b2 ≠ tb := by omega
        have HST := hid (fun (z : Value) => (show (wi.setCell ⟨b2, off2 + s, none⟩ z).cell? ⟨tb, 1, none⟩ = some (.slice (some ⟨b, off, none⟩) p.nx.length c3) ∧ (wi.setCell ⟨b2, off2 + s, none⟩ z).cell? ⟨gb, k * 2, none⟩ = some (.int .i64 l) ∧ (wi.setCell ⟨b2, off2 + s, none⟩ z).cell? ⟨gb, k * 2 + 1, none⟩ = some (.int .i64 s) ∧ (wi.setCell ⟨b2, off2 + s, none⟩ z).cell? ⟨b, off + l, none⟩ = some (.slice (some ⟨b2, off2, none⟩) (nth FT l).length c2) ∧ (wi.setCell ⟨b2, off2 + s, none⟩ z).cell? ⟨sb2, so + k, none⟩ = some (.int .i64 X) from
            ⟨by rw [World.cell?_setCell_other _ _ _ _ (fun e => by injection e with e; omega)]; exact x1, by rw [World.cell?_setCell_other _ _ _ _ (fun e => by injection e with e; omega)]; exact g1, by rw [World.cell?_setCell_other _ _ _ _ (fun e => by injection e with e; omega)]; exact g2, by rw [World.cell?_setCell_other _ _ _ _ (fun e => hne (by injection e))]; exact ux, by rw [World.cell?_setCell_other _ _ _ _ (fun e => by injection e with e; omega)]; exact hsx⟩))
        clear hput hl hs hFT hX hgc hsc hst hOk hO9 hW9
        go_wp2_with fail
        go_region_held3 (fun w' => w'.cell? ⟨tb, 1, none⟩ = some (.slice (some ⟨b, off, none⟩) p.nx.length c3) ∧ w'.cell? ⟨gb, k * 2, none⟩ = some (.int .i64 l) ∧ w'.cell? ⟨gb, k * 2 + 1, none⟩ = some (.int .i64 s) ∧ w'.cell? ⟨b, off + l, none⟩ = some (.slice (some ⟨b2, off2, none⟩) (nth FT l).length c2) ∧ w'.cell? ⟨sb2, so + k, none⟩ = some (.int .i64 X))
          (first | exact ⟨x1, g1, g2, ux, hsx⟩ | exact HST.out _ | go_keep) (fail)
        go_wp2_with fail
        exact ⟨⟨k + 1, by omega, by go_num, (hW.trans HW9.out).trans (Within.of_new (by repeat (first | with_reducible exact New.refl _ | with_reducible assumption | with_reducible refine New.alloc ?_ _ | with_reducible refine New.drewN ?_ _ | with_reducible refine New.drew ?_ | with_reducible refine New.trans ?_ (by with_reducible assumption))) _ _), by rw [HFS.out]; exact HO9.out.new (by repeat (first | with_reducible exact New.refl _ | with_reducible assumption | with_reducible refine New.alloc ?_ _ | with_reducible refine New.drewN ?_ _ | with_reducible refine New.drew ?_ | with_reducible refine New.trans ?_ (by with_reducible assumption)))⟩, by simp [intOf]; omega⟩
      · have e : k = GS.length := by omega
        subst e
        have hRi := hRc.within hW (Or.inl (by omega))
        obtain ⟨y0, y1, yf0, yf1⟩ := id hRi
        obtain ⟨t0, t1, _, _⟩ := hRi.fill (.int .i64 p.n) (.slice A3 p.nx.length c3)
        have HOK := hid (HFIN.out _ _ _ _ hOk)
        have HLF := hid (show (fillOf p.nx st).length = p.nx.length from gapTo_len _ _ _ _)
        have HWF := hid (Within.fill wi w.heap.size (.int .i64 p.n) (.slice A3 p.nx.length c3))
        have HNI := hid (hNc.within hW (by omega))
        have hzi := hW.2.2.2.1
        clear hOk
        go_wp2_with fail
        refine bodyPost_ret (v := .agg #[.int .i64 p.n, .slice A3 p.nx.length c3]) (by simp [results, Tryz.results56, go_sem, t0, t1]) rfl ?_
        refine ⟨_, rfl, HNI.out.within HWF.out (by omega), ⟨_, rfl, (HOK.out.within HWF.out (Or.inr (by omega))).widen (by omega) (by have := HWF.out.2.2.2.1; omega)⟩⟩
end

end Go.Proofs.YthbebnfhplacnaaGreat
