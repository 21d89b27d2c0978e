/- The reference puts a list to its place among lists in order. -/
import Derived.Test.YtogfmmcapepcdaaRows
import Derived.Test.YtogfmmcapepcdaaCore
import Derived.Test.YtogfmmcapepcdaaInfo
import Derived.Test.YtogfmmcapepcdaaPlains
import Derived.Test.YtogfmmcapepcdaaPlainOrd
import Derived.Test.YtogfmmcapepcdaaPlainIns
import Derived.Test.YtogfmmcapepcdaaMaps
import Derived.Test.YtogfmmcapepcdaaRowsSwap
import Derived.Test.YtogfmmcapepcdaaRowsPut
import Derived.Test.YtogfmmcapepcdaaS00a
import Derived.Test.YtogfmmcapepcdaaSReach
import Derived.WalkKit
import Derived.WalkSpells
import Derived.WalkLawsBesides
import Derived.Deep.QuietTactic
import Derived.Deep.OwnRows
import Derived.BigQuiet
import Derived.KernelRfl
namespace Go.Proofs.Ytogfmmcapepcdaa
open Go.RowKit

set_option maxRecDepth 20000 in
set_option maxHeartbeats 2000000 in
theorem l03Put_any {B : Nat} {e : TypeId} (g n cap : Nat) (all : List (List Int)) (r : Value) (x : List Int) (w0 w : World) (h : GrowRows B e w0 (.slice (some ⟨g, 0, none⟩) n cap) all) (h01 : New w0 w) (hr : OwnInts w0.heap.size w.heap.size w r x) (hB : B ≤ w0.heap.size) (hl : all.length ≤ 1048576) (hx : x ∉ all) (he : e = 35) :
    Calls Try.prog 35 #[.slice (some ⟨g, 0, none⟩) n cap, r] w fun e' w' => ∃ g2 cap2, e' = .returned (.slice (some ⟨g2, 0, none⟩) (all.length + 1) cap2) ∧ New w w' ∧ GrowRows B e w' (.slice (some ⟨g2, 0, none⟩) (all.length + 1) cap2) (insL lexLt x all) := by
  subst he
  obtain ⟨rv, k1, k2, k3⟩ := h
  have hn : n = all.length := by obtain ⟨A, c, e⟩ := ownsRow_form k1; cases e; rfl
  subst hn
  have hcap : all.length ≤ cap ∧ cap ≤ 9223372036854775807 := by
    obtain ⟨_, h2 | ⟨g', cap', cur, e1, _, _, q1, q2, _⟩⟩ := id k1
    · cases h2.1
    · cases e1; exact ⟨q1, by unfold maxLen at q2; omega⟩
  have HK2 := hid k2
  have HK3 := hid k3
  have hcell : ∀ j, j < all.length → ∀ w', New w w' → w'.cell? ⟨g, j, none⟩ = some (rv j) := fun j hj w' hw => by
    obtain ⟨b, _, ⟨c', e2⟩, _, _, hc, hfz⟩ := ownsRow_cells k1 j (by simpa using hj)
    cases e2
    have : w0.cell? ⟨g, j, none⟩ = some (rv j) := by rw [hc]; simp
    exact (h01.trans hw).cell this
  have HCELL := hid hcell
  have hform : ∀ j, j < all.length → ∃ A c, rv j = .slice A (nth all j).length c := fun j hj => (k2 j hj).1.form
  have HFORM := hid hform
  obtain ⟨Ar, cr, rfl⟩ := hr.form
  have HRX := hid hr.at
  have HR := hid hr
  have HX := hid hx
  have hgl : g < w.heap.size := by
    have := (World.ownsRow.lt k1 g rfl).2
    have := h01.size
    omega
  have ho0 : (w.alloc (.cells #[] 35)).ownsRow w.heap.size 35 1 (.slice (some ⟨w.heap.size, 0, none⟩) 0 0) 0 ((List.range 0).map rv) :=
    World.ownsRow_made (w := w) (base := w.heap.size) (e := 35) (size := 1) #[] 0 (Nat.le_refl _) (by simp) (by simp)
  have hn0 : New w (w.alloc (.cells #[] 35)) := (by repeat (first | with_reducible exact New.refl _ | with_reducible assumption | with_reducible refine New.alloc ?_ _ | with_reducible refine New.drew ?_ | with_reducible refine New.drewN ?_ _ | with_reducible refine New.setCell ?_ (by simp <;> omega) _))
  clear k1 k2 k3 hcell hform hr hx
  go_enter Try.func35, Try.ntmps35
  go_wp2
  go_loopw [5, 6] (fun o i wr => ∃ (k g1 cap1 : Nat), i = .int .i64 k ∧ o = .slice (some ⟨g1, 0, none⟩) k cap1 ∧ k ≤ all.length ∧ New w wr ∧ wr.ownsRow w.heap.size 35 1 (.slice (some ⟨g1, 0, none⟩) k cap1) k ((List.range k).map rv) ∧ Hid (∀ i, i < k → lexLt (nth all i) x = true)) (fun _ i _ => all.length - (intOf i).toNat)
  case atStart => exact ⟨0, _, _, rfl, rfl, Nat.zero_le _, hn0, ho0, hid (fun i hi => absurd hi (by omega))⟩
  case round =>
    obtain ⟨k, g1, cap1, rfl, rfl, hk, hnr, ho, hlt⟩ := hrel
    clear ho0 hn0
    obtain ⟨wo, rfl⟩ : ∃ wo : World, wo = wr := ⟨_, rfl⟩
    have hzr := hnr.size
    -- behind the loop
    by_cases hkl : k < all.length
    · have b1 : (k : Int) < (all.length : Int) := by omega
      obtain ⟨Ak, ck, hk1⟩ := HFORM.out k hkl
      have hck := HCELL.out k hkl wo hnr
      rw [hk1] at hck
      have hrk : IntsAt wo (.slice Ak (nth all k).length ck) (nth all k) := by
        have := ((HK2.out k hkl).1.new (h01.trans hnr)).at
        rwa [hk1] at this
      have CB := hid (fun w1 (hm : New wo w1) => l03Before_any _ _ _ _ w1 (hrk.new hm) (HRX.out.new (hnr.trans hm)))
      cases hq : lexLt (nth all k) x with
      | true =>
        have HQ := hid hq
        rw [hq] at CB
        clear hq
        go_wp2_with (first
          | (go_at_call 78; refine (CB.out _ (New.refl _)).mono ?_; rintro e w2 ⟨rfl, hn2⟩; have ho2 := ownsRow_new ho hn2; have hck2 := hn2.cell hck; have hz2 := hn2.size)
          | (at_builtin; refine wpList_appV rfl _ _ _ rfl (B := w.heap.size) Try.underlying22 info_ints rfl (by decide) rfl (.slice (some ⟨g1, 0, none⟩) k cap1) k _ rfl ho2 rfl (by omega) (by omega) ?_; intro g3 cap3 w3 ho3 hg3 hl3))
        go_roundw
        case rel =>
          have hlo := World.ownsRow.lt ho
          refine ⟨k + 1, g3, cap3, by go_num, rfl, by omega, New.grown (hnr.trans hn2) hg3 (fun q hq => (hlo q hq).1), ?_, hid (fun i hi => by
            rcases Nat.lt_succ_iff_lt_or_eq.1 hi with h | h
            · exact hlt.out i h
            · subst h; exact HQ.out)⟩
          rw [list_range_snoc, hk1]; exact ho3
        case measure => simp [intOf]; omega
      | false =>
        have HQ := hid (insL_at lexLt x all k hk hlt.out (Or.inr hq))
        rw [hq] at CB
        have hc1 : k < cap := by omega
        have hc2 : ¬ cap = k := by omega
        have hc3 : (all.length : Int) ≤ (cap : Int) := by omega
        have hc4 : (k : Int) ≤ (all.length : Int) := by omega
        have hc5 : (k : Int) < (cap : Int) := by omega
        obtain ⟨ns, hns⟩ : ∃ ns, ns = ((List.range all.length).map rv).drop k := ⟨_, rfl⟩
        have HNL := hid (show ns.length = all.length - k by rw [hns]; simp)
        have HNS := hid hns
        have HONE := hid (show ∀ u, u ∈ ns → u.oneCell' = true from fun u hu => by
          rw [hns] at hu
          obtain ⟨i, hi, rfl⟩ := List.mem_map.1 (List.mem_of_mem_drop hu)
          obtain ⟨A, c, e⟩ := HFORM.out i (List.mem_range.1 hi)
          rw [e]; rfl)
        have HNC := hid (show ∀ j u, ns[j]? = some u → ∀ w', New w w' → w'.cell? ((⟨g, k, none⟩ : Addr).add j) = some u from fun j u hj w' hw => by
          rw [hns] at hj
          rw [List.getElem?_drop, List.getElem?_map] at hj
          have hkj : k + j < all.length := by
            rcases Nat.lt_or_ge (k + j) all.length with h | h
            · exact h
            · rw [List.getElem?_eq_none (by simpa using h)] at hj; cases hj
          rw [List.getElem?_range hkj] at hj
          simp at hj
          subst hj
          have e2 : (⟨g, k, none⟩ : Addr).add j = ⟨g, k + j, none⟩ := by
            unfold Addr.add
            split
            · rename_i h; subst h; rfl
            · rfl
          rw [e2]
          exact HCELL.out (k + j) hkj w' hw)
        clear hns
        have hne : nth all k ≠ x := fun e => HX.out (e ▸ nth_mem _ _ hkl)
        have b2 : ((k : Int) == (all.length : Int)) = false := by simp; omega
        clear hq
        have CS := hid (fun w1 (hm : New wo w1) => l00Same_any _ _ _ _ w1 (hrk.new hm) (HRX.out.new (hnr.trans hm)))
        rw [decide_eq_false hne] at CS
        clear hne
        go_wp2_with (first
          | (go_at_call 78; refine (CB.out _ (New.refl _)).mono ?_; rintro e w2 ⟨rfl, hn2⟩; have ho2 := ownsRow_new ho hn2; have hck2 := hn2.cell hck; have hz2 := hn2.size)
          | (go_at_call 79; refine (CS.out _ hn2).mono ?_; rintro e w3 ⟨rfl, hn3⟩; have ho3 := ownsRow_new ho2 hn3; have hz3 := hn3.size)
          | (at_builtin; refine wpList_appV rfl _ _ _ rfl (B := w.heap.size) Try.underlying22 info_ints rfl (by decide) rfl (.slice (some ⟨g1, 0, none⟩) k cap1) k _ rfl ho3 rfl (by omega) (by omega) ?_; intro g4 cap4 w4 ho4 hg4 hl4; have hlo := World.ownsRow.lt ho; have hn4 : New w w4 := New.grown ((hnr.trans hn2).trans hn3) hg4 (fun q hq => (hlo q hq).1); have hz4 := hn4.size)
          | (at_builtin; refine wpList_appVs rfl _ _ _ rfl (B := w.heap.size) Try.underlying22 info_ints rfl (by decide) (.slice (some ⟨g4, 0, none⟩) (k + 1) cap4) (k + 1) g4 _ ns ⟨g, k, none⟩ (cap - k) rfl ho4 rfl (by rw [HNL.out]; rfl) (fun j u hj => HNC.out j u hj w4 hn4) HONE.out (by rw [HNL.out]; omega) (by omega) ?_; intro g5 cap5 w5 ho5 hg5 hl5))
        go_ret
        have hlo4 := World.ownsRow.lt ho4
        have hw5 : New w w5 := New.grown hn4 hg5 (fun q hq => (hlo4 q hq).1)
        have el : k + 1 + ns.length = all.length + 1 := by rw [HNL.out]; omega
        rw [el] at ho5 ⊢
        rw [HNS.out] at ho5
        refine ⟨g5, cap5, rfl, hw5, ?_⟩
        rw [HQ.out]
        exact GrowRows.put rfl HK2.out HK3.out h01 HR.out hB hw5 hk ho5
    · have e : k = all.length := by omega
      subst e
      have HQ := hid (insL_at lexLt x all all.length hk hlt.out (Or.inl rfl))
      have b1 : ¬ (all.length : Int) < (all.length : Int) := by omega
      have b2 : ((all.length : Int) == (all.length : Int)) = true := by simp
      have hc3 : (all.length : Int) ≤ (cap : Int) := by omega
      have HDR := hid (show ((List.range all.length).map rv).drop all.length = [] by simp)
      by_cases hc : cap = all.length
      · have hc2 : cap - all.length = 0 := by omega
        subst hc
        go_wp2_with (first
          | (at_builtin; refine wpList_appV rfl _ _ _ rfl (B := w.heap.size) Try.underlying22 info_ints rfl (by decide) rfl (.slice (some ⟨g1, 0, none⟩) all.length cap1) all.length _ rfl ho rfl (by omega) (by omega) ?_; intro g4 cap4 w4 ho4 hg4 hl4; have hlo := World.ownsRow.lt ho; have hn4 : New w w4 := New.grown hnr hg4 (fun q hq => (hlo q hq).1); have hz4 := hn4.size)
          | (at_builtin; refine wpList_appVs rfl _ _ _ rfl (B := w.heap.size) Try.underlying22 info_ints rfl (by decide) (.slice (some ⟨g4, 0, none⟩) (all.length + 1) cap4) (all.length + 1) g4 _ [] _ _ rfl ho4 rfl rfl (fun j u hj => by simp at hj) (fun u hu => by simp at hu) (by simp; omega) (by omega) ?_; intro g5 cap5 w5 ho5 hg5 hl5))
        go_ret
        have hlo4 := World.ownsRow.lt ho4
        have hw5 : New w w5 := New.grown hn4 hg5 (fun q hq => (hlo4 q hq).1)
        refine ⟨g5, cap5, rfl, hw5, ?_⟩
        rw [HQ.out]
        exact GrowRows.put rfl HK2.out HK3.out h01 HR.out hB hw5 hk (by rw [HDR.out]; exact ho5)
      · have hc1 : all.length < cap := by omega
        have hc5 : (all.length : Int) < (cap : Int) := by omega
        have hc2 : ¬ cap = all.length := hc
        go_wp2_with (first
          | (at_builtin; refine wpList_appV rfl _ _ _ rfl (B := w.heap.size) Try.underlying22 info_ints rfl (by decide) rfl (.slice (some ⟨g1, 0, none⟩) all.length cap1) all.length _ rfl ho rfl (by omega) (by omega) ?_; intro g4 cap4 w4 ho4 hg4 hl4; have hlo := World.ownsRow.lt ho; have hn4 : New w w4 := New.grown hnr hg4 (fun q hq => (hlo q hq).1); have hz4 := hn4.size)
          | (at_builtin; refine wpList_appVs rfl _ _ _ rfl (B := w.heap.size) Try.underlying22 info_ints rfl (by decide) (.slice (some ⟨g4, 0, none⟩) (all.length + 1) cap4) (all.length + 1) g4 _ [] _ _ rfl ho4 rfl rfl (fun j u hj => by simp at hj) (fun u hu => by simp at hu) (by simp; omega) (by omega) ?_; intro g5 cap5 w5 ho5 hg5 hl5))
        go_ret
        have hlo4 := World.ownsRow.lt ho4
        have hw5 : New w w5 := New.grown hn4 hg5 (fun q hq => (hlo4 q hq).1)
        refine ⟨g5, cap5, rfl, hw5, ?_⟩
        rw [HQ.out]
        exact GrowRows.put rfl HK2.out HK3.out h01 HR.out hB hw5 hk (by rw [HDR.out]; exact ho5)

end Go.Proofs.Ytogfmmcapepcdaa
