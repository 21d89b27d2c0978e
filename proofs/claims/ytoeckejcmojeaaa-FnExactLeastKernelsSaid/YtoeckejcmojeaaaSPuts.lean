/- Parts of the proof that lean on no program: SPutG, SPutI. -/
import Derived.Test.YtoeckejcmojeaaaRows
import Derived.Test.YtoeckejcmojeaaaCore
import Derived.Test.YtoeckejcmojeaaaInfos
import Derived.Test.YtoeckejcmojeaaaPlains
import Derived.Test.YtoeckejcmojeaaaPOrds
import Derived.Test.YtoeckejcmojeaaaMaps
import Derived.Test.YtoeckejcmojeaaaRowsSwap
import Derived.Test.YtoeckejcmojeaaaRowsPut
import Derived.Test.YtoeckejcmojeaaaSBase
import Derived.Test.YtoeckejcmojeaaaSReach
import Derived.WalkKit
import Derived.WalkSpells
import Derived.WalkLawsBesides
import Derived.Deep.QuietTactic
import Derived.Deep.OwnRows
import Derived.BigQuiet
import Derived.KernelRfl
namespace Go.Proofs.Ytoeckejcmojeaaa
open Go.RowKit

section
set_option maxRecDepth 20000 in
set_option maxHeartbeats 2000000 in
theorem l03Put_gen {B : Nat} (g n cap : Nat) (all : List (List Int)) (r : Value) (x : List Int) (rv : Nat → Value) (w : World) (k1 : w.ownsRow B 42 1 (.slice (some ⟨g, 0, none⟩) n cap) all.length ((List.range all.length).map rv)) (k2 : ∀ j, j < all.length → IntsAt w (rv j) (nth all j)) (hr : IntsAt w r x) (hl : all.length ≤ 1048576) (hx : x ∉ all) :
    Calls Try.prog 42 #[.slice (some ⟨g, 0, none⟩) n cap, r] w fun e' w' => ∃ g2 cap2, e' = .returned (.slice (some ⟨g2, 0, none⟩) (all.length + 1) cap2) ∧ New w w' ∧ ∃ k, k ≤ all.length ∧ insL lexLt x all = all.take k ++ x :: all.drop k ∧ w'.ownsRow w.heap.size 42 1 (.slice (some ⟨g2, 0, none⟩) (all.length + 1) cap2) (all.length + 1) ((List.range k).map rv ++ [r] ++ ((List.range all.length).map rv).drop k) := by
  have hn : n = all.length := by obtain ⟨A, c, e⟩ := ownsRow_form k1; cases e; rfl
  subst hn
  have hcap : all.length ≤ cap ∧ cap ≤ 9223372036854775807 := by
    obtain ⟨_, h2 | ⟨g', cap', cur, e1, _, _, q1, q2, _⟩⟩ := id k1
    · cases h2.1
    · cases e1; exact ⟨q1, by unfold maxLen at q2; omega⟩
  have HK2 := hid k2
  have hcell : ∀ j, j < all.length → ∀ w', New w w' → w'.cell? ⟨g, j, none⟩ = some (rv j) := fun j hj w' hw => by
    obtain ⟨b, _, ⟨c', e2⟩, _, _, hc, hfz⟩ := ownsRow_cells k1 j (by simpa using hj)
    cases e2
    have : w.cell? ⟨g, j, none⟩ = some (rv j) := by rw [hc]; simp
    exact hw.cell this
  have HCELL := hid hcell
  have hform : ∀ j, j < all.length → ∃ A c, rv j = .slice A (nth all j).length c := fun j hj => (k2 j hj).form
  have HFORM := hid hform
  obtain ⟨Ar, cr, rfl⟩ := hr.form
  have HRX := hid hr
  have HX := hid hx
  have hgl : g < w.heap.size := (World.ownsRow.lt k1 g rfl).2
  have ho0 : (w.alloc (.cells #[] 42)).ownsRow w.heap.size 42 1 (.slice (some ⟨w.heap.size, 0, none⟩) 0 0) 0 ((List.range 0).map rv) :=
    World.ownsRow_made (w := w) (base := w.heap.size) (e := 42) (size := 1) #[] 0 (Nat.le_refl _) (by simp) (by simp)
  have hn0 : New w (w.alloc (.cells #[] 42)) := (by repeat (first | with_reducible exact New.refl _ | with_reducible assumption | with_reducible refine New.alloc ?_ _ | with_reducible refine New.drew ?_ | with_reducible refine New.drewN ?_ _ | with_reducible refine New.setCell ?_ (by simp <;> omega) _))
  clear k1 k2 hcell hform hr hx
  go_enter Try.func42, Try.ntmps42
  go_wp2
  go_loopw [5, 6] (fun o i wr => ∃ (k g1 cap1 : Nat), i = .int .i64 k ∧ o = .slice (some ⟨g1, 0, none⟩) k cap1 ∧ k ≤ all.length ∧ New w wr ∧ wr.ownsRow w.heap.size 42 1 (.slice (some ⟨g1, 0, none⟩) k cap1) k ((List.range k).map rv) ∧ Hid (∀ i, i < k → lexLt (nth all i) x = true)) (fun _ i _ => all.length - (intOf i).toNat)
  case atStart => exact ⟨0, _, _, rfl, rfl, Nat.zero_le _, hn0, ho0, hid (fun i hi => absurd hi (by omega))⟩
  case round =>
    obtain ⟨k, g1, cap1, rfl, rfl, hk, hnr, ho, hlt⟩ := hrel
    clear ho0 hn0
    obtain ⟨wo, rfl⟩ : ∃ wo : World, wo = wr := ⟨_, rfl⟩
    have hzr := hnr.size
    -- behind the loop
    by_cases hkl : k < all.length
    · have b1 : (k : Int) < (all.length : Int) := by omega
      obtain ⟨Ak, ck, hk1⟩ := HFORM.out k hkl
      have hck := HCELL.out k hkl wo hnr
      rw [hk1] at hck
      have hrk : IntsAt wo (.slice Ak (nth all k).length ck) (nth all k) := by
        have := (HK2.out k hkl).new hnr
        rwa [hk1] at this
      have CB := hid (fun w1 (hm : New wo w1) => l03Before_any _ _ _ _ w1 (hrk.new hm) (HRX.out.new (hnr.trans hm)))
      cases hq : lexLt (nth all k) x with
      | true =>
        have HQ := hid hq
        rw [hq] at CB
        clear hq
        go_wp2_with (first
          | (go_at_call 93; refine (CB.out _ (New.refl _)).mono ?_; rintro e w2 ⟨rfl, hn2⟩; have ho2 := ownsRow_new ho hn2; have hck2 := hn2.cell hck; have hz2 := hn2.size)
          | (at_builtin; refine wpList_appV rfl _ _ _ rfl (B := w.heap.size) Try.underlying22 info_ints rfl (by decide) rfl (.slice (some ⟨g1, 0, none⟩) k cap1) k _ rfl ho2 rfl (by omega) (by omega) ?_; intro g3 cap3 w3 ho3 hg3 hl3))
        go_roundw
        case rel =>
          have hlo := World.ownsRow.lt ho
          refine ⟨k + 1, g3, cap3, by go_num, rfl, by omega, New.grown (hnr.trans hn2) hg3 (fun q hq => (hlo q hq).1), ?_, hid (fun i hi => by
            rcases Nat.lt_succ_iff_lt_or_eq.1 hi with h | h
            · exact hlt.out i h
            · subst h; exact HQ.out)⟩
          rw [list_range_snoc, hk1]; exact ho3
        case measure => simp [intOf]; omega
      | false =>
        have HQ := hid (insL_at lexLt x all k hk hlt.out (Or.inr hq))
        rw [hq] at CB
        have hc1 : k < cap := by omega
        have hc2 : ¬ cap = k := by omega
        have hc3 : (all.length : Int) ≤ (cap : Int) := by omega
        have hc4 : (k : Int) ≤ (all.length : Int) := by omega
        have hc5 : (k : Int) < (cap : Int) := by omega
        obtain ⟨ns, hns⟩ : ∃ ns, ns = ((List.range all.length).map rv).drop k := ⟨_, rfl⟩
        have HNL := hid (show ns.length = all.length - k by rw [hns]; simp)
        have HNS := hid hns
        have HONE := hid (show ∀ u, u ∈ ns → u.oneCell' = true from fun u hu => by
          rw [hns] at hu
          obtain ⟨i, hi, rfl⟩ := List.mem_map.1 (List.mem_of_mem_drop hu)
          obtain ⟨A, c, e⟩ := HFORM.out i (List.mem_range.1 hi)
          rw [e]; rfl)
        have HNC := hid (show ∀ j u, ns[j]? = some u → ∀ w', New w w' → w'.cell? ((⟨g, k, none⟩ : Addr).add j) = some u from fun j u hj w' hw => by
          rw [hns] at hj
          rw [List.getElem?_drop, List.getElem?_map] at hj
          have hkj : k + j < all.length := by
            rcases Nat.lt_or_ge (k + j) all.length with h | h
            · exact h
            · rw [List.getElem?_eq_none (by simpa using h)] at hj; cases hj
          rw [List.getElem?_range hkj] at hj
          simp at hj
          subst hj
          have e2 : (⟨g, k, none⟩ : Addr).add j = ⟨g, k + j, none⟩ := by
            unfold Addr.add
            split
            · rename_i h; subst h; rfl
            · rfl
          rw [e2]
          exact HCELL.out (k + j) hkj w' hw)
        clear hns
        have hne : nth all k ≠ x := fun e => HX.out (e ▸ nth_mem _ _ hkl)
        have b2 : ((k : Int) == (all.length : Int)) = false := by simp; omega
        clear hq
        have CS := hid (fun w1 (hm : New wo w1) => l00Same_any _ _ _ _ w1 (hrk.new hm) (HRX.out.new (hnr.trans hm)))
        rw [decide_eq_false hne] at CS
        clear hne
        go_wp2_with (first
          | (go_at_call 93; refine (CB.out _ (New.refl _)).mono ?_; rintro e w2 ⟨rfl, hn2⟩; have ho2 := ownsRow_new ho hn2; have hck2 := hn2.cell hck; have hz2 := hn2.size)
          | (go_at_call 92; refine (CS.out _ hn2).mono ?_; rintro e w3 ⟨rfl, hn3⟩; have ho3 := ownsRow_new ho2 hn3; have hz3 := hn3.size)
          | (at_builtin; refine wpList_appV rfl _ _ _ rfl (B := w.heap.size) Try.underlying22 info_ints rfl (by decide) rfl (.slice (some ⟨g1, 0, none⟩) k cap1) k _ rfl ho3 rfl (by omega) (by omega) ?_; intro g4 cap4 w4 ho4 hg4 hl4; have hlo := World.ownsRow.lt ho; have hn4 : New w w4 := New.grown ((hnr.trans hn2).trans hn3) hg4 (fun q hq => (hlo q hq).1); have hz4 := hn4.size)
          | (at_builtin; refine wpList_appVs rfl _ _ _ rfl (B := w.heap.size) Try.underlying22 info_ints rfl (by decide) (.slice (some ⟨g4, 0, none⟩) (k + 1) cap4) (k + 1) g4 _ ns ⟨g, k, none⟩ (cap - k) rfl ho4 rfl (by rw [HNL.out]; rfl) (fun j u hj => HNC.out j u hj w4 hn4) HONE.out (by rw [HNL.out]; omega) (by omega) ?_; intro g5 cap5 w5 ho5 hg5 hl5))
        go_ret
        have hlo4 := World.ownsRow.lt ho4
        have hw5 : New w w5 := New.grown hn4 hg5 (fun q hq => (hlo4 q hq).1)
        have el : k + 1 + ns.length = all.length + 1 := by rw [HNL.out]; omega
        rw [el] at ho5 ⊢
        rw [HNS.out] at ho5
        exact ⟨g5, cap5, rfl, hw5, k, hk, HQ.out, ho5⟩
    · have e : k = all.length := by omega
      subst e
      have HQ := hid (insL_at lexLt x all all.length hk hlt.out (Or.inl rfl))
      have b1 : ¬ (all.length : Int) < (all.length : Int) := by omega
      have b2 : ((all.length : Int) == (all.length : Int)) = true := by simp
      have hc3 : (all.length : Int) ≤ (cap : Int) := by omega
      have HDR := hid (show ((List.range all.length).map rv).drop all.length = [] by simp)
      by_cases hc : cap = all.length
      · have hc2 : cap - all.length = 0 := by omega
        subst hc
        go_wp2_with (first
          | (at_builtin; refine wpList_appV rfl _ _ _ rfl (B := w.heap.size) Try.underlying22 info_ints rfl (by decide) rfl (.slice (some ⟨g1, 0, none⟩) all.length cap1) all.length _ rfl ho rfl (by omega) (by omega) ?_; intro g4 cap4 w4 ho4 hg4 hl4; have hlo := World.ownsRow.lt ho; have hn4 : New w w4 := New.grown hnr hg4 (fun q hq => (hlo q hq).1); have hz4 := hn4.size)
          | (at_builtin; refine wpList_appVs rfl _ _ _ rfl (B := w.heap.size) Try.underlying22 info_ints rfl (by decide) (.slice (some ⟨g4, 0, none⟩) (all.length + 1) cap4) (all.length + 1) g4 _ [] _ _ rfl ho4 rfl rfl (fun j u hj => by simp at hj) (fun u hu => by simp at hu) (by simp; omega) (by omega) ?_; intro g5 cap5 w5 ho5 hg5 hl5))
        go_ret
        have hlo4 := World.ownsRow.lt ho4
        have hw5 : New w w5 := New.grown hn4 hg5 (fun q hq => (hlo4 q hq).1)
        exact ⟨g5, cap5, rfl, hw5, all.length, Nat.le_refl _, HQ.out, by simp only [List.length_nil, Nat.add_zero, List.append_nil] at ho5; rw [HDR.out]; first | exact ho5 | (rw [List.append_nil]; exact ho5)⟩
      · have hc1 : all.length < cap := by omega
        have hc5 : (all.length : Int) < (cap : Int) := by omega
        have hc2 : ¬ cap = all.length := hc
        go_wp2_with (first
          | (at_builtin; refine wpList_appV rfl _ _ _ rfl (B := w.heap.size) Try.underlying22 info_ints rfl (by decide) rfl (.slice (some ⟨g1, 0, none⟩) all.length cap1) all.length _ rfl ho rfl (by omega) (by omega) ?_; intro g4 cap4 w4 ho4 hg4 hl4; have hlo := World.ownsRow.lt ho; have hn4 : New w w4 := New.grown hnr hg4 (fun q hq => (hlo q hq).1); have hz4 := hn4.size)
          | (at_builtin; refine wpList_appVs rfl _ _ _ rfl (B := w.heap.size) Try.underlying22 info_ints rfl (by decide) (.slice (some ⟨g4, 0, none⟩) (all.length + 1) cap4) (all.length + 1) g4 _ [] _ _ rfl ho4 rfl rfl (fun j u hj => by simp at hj) (fun u hu => by simp at hu) (by simp; omega) (by omega) ?_; intro g5 cap5 w5 ho5 hg5 hl5))
        go_ret
        have hlo4 := World.ownsRow.lt ho4
        have hw5 : New w w5 := New.grown hn4 hg5 (fun q hq => (hlo4 q hq).1)
        exact ⟨g5, cap5, rfl, hw5, all.length, Nat.le_refl _, HQ.out, by simp only [List.length_nil, Nat.add_zero, List.append_nil] at ho5; rw [HDR.out]; first | exact ho5 | (rw [List.append_nil]; exact ho5)⟩
end
section
theorem range_getD (f : Nat → Value) (idx : List Nat) : (List.range idx.length).map (fun j => f (idx.getD j 0)) = idx.map f := by
  apply List.ext_getElem
  · simp
  · intro i h1 h2
    simp only [List.length_map] at h2
    simp [List.getElem?_eq_getElem h2]
theorem nth_mapD (L : List (List Int)) (idx : List Nat) (j : Nat) (hj : j < idx.length) : nth (idx.map (nth L)) j = nth L (idx.getD j 0) := by
  rw [nth_eq _ _ (by simpa using hj)]
  simp [List.getElem?_eq_getElem hj]
theorem l03Put_idx {B : Nat} (g n cap m : Nat) (idx : List Nat) (rvA : Nat → Value) (L : List (List Int)) (i : Nat) (r : Value) (w : World) (hm : idx.length = m) (k1 : w.ownsRow B 42 1 (.slice (some ⟨g, 0, none⟩) n cap) m (idx.map rvA)) (k2 : ∀ j, j ∈ idx → IntsAt w (rvA j) (nth L j)) (he : r = rvA i) (hr : IntsAt w r (nth L i)) (hl : m ≤ 1048576) (hx : nth L i ∉ idx.map (nth L)) :
    Calls Try.prog 42 #[.slice (some ⟨g, 0, none⟩) n cap, r] w fun e' w' => ∃ (g2 cap2 : Nat) (idx' : List Nat), e' = .returned (.slice (some ⟨g2, 0, none⟩) (m + 1) cap2) ∧ New w w' ∧ idx'.Perm (i :: idx) ∧ idx'.map (nth L) = insL lexLt (nth L i) (idx.map (nth L)) ∧ w'.ownsRow w.heap.size 42 1 (.slice (some ⟨g2, 0, none⟩) (m + 1) cap2) (m + 1) (idx'.map rvA) := by
  subst hm
  have e1 : (idx.map (nth L)).length = idx.length := by simp
  have h := l03Put_gen (B := B) g n cap (idx.map (nth L)) r (nth L i) (fun j => rvA (idx.getD j 0)) w (by rw [e1, range_getD]; exact k1) (fun j hj => by
    rw [e1] at hj
    rw [nth_mapD L idx j hj]
    exact k2 _ (by rw [List.getD_eq_getElem?_getD, List.getElem?_eq_getElem hj]; simp)) hr (by rw [e1]; exact hl) hx
  refine h.mono ?_
  rintro e' w' ⟨g2, cap2, rfl, hn, k, hk, q1, q2⟩
  rw [e1] at hk q2 ⊢
  refine ⟨g2, cap2, idx.take k ++ i :: idx.drop k, rfl, hn, ?_, ?_, ?_⟩
  · have := List.perm_middle (a := i) (l₁ := idx.take k) (l₂ := idx.drop k)
    rwa [List.take_append_drop] at this
  · rw [q1]; simp
  · have e2 : (List.range k).map (fun j => rvA (idx.getD j 0)) ++ [r] ++ ((List.range idx.length).map (fun j => rvA (idx.getD j 0))).drop k = (idx.take k ++ i :: idx.drop k).map rvA := by
      rw [range_getD, he]
      have : (List.range k).map (fun j => rvA (idx.getD j 0)) = (idx.take k).map rvA := by
        have := range_getD rvA (idx.take k)
        rw [List.length_take, Nat.min_eq_left hk] at this
        rw [← this]
        apply List.map_congr_left
        intro j hj
        rw [List.mem_range] at hj
        simp [hj]
      rw [this]
      simp
    rw [e2] at q2
    exact q2
/-- The rows of a list, laid in another order in a new frame. -/
theorem GrowRows.reorder {B B' n cap g2 cap2 g : Nat} {e : TypeId} {w0 w : World} {L : List (List Int)} {rvA : Nat → Value} {idx : List Nat}
    (k2 : ∀ i, i < L.length → OwnInts B w0.heap.size w0 (rvA i) (nth L i) ∧ ((rvA i).ownBlock ≠ (Value.slice (some ⟨g, 0, none⟩) n cap).ownBlock ∨ (rvA i).ownBlock = none))
    (k3 : ∀ i j, i < j → j < L.length → (rvA i).ownBlock ≠ (rvA j).ownBlock ∨ (rvA i).ownBlock = none) (hn : New w0 w) (hp : idx.Perm (List.range L.length)) (hB : B ≤ B') (hB' : w0.heap.size ≤ B')
    (ho : w.ownsRow B' e 1 (.slice (some ⟨g2, 0, none⟩) L.length cap2) L.length (idx.map rvA)) :
    GrowRows B e w (.slice (some ⟨g2, 0, none⟩) L.length cap2) (idx.map (nth L)) := by
  have hl : idx.length = L.length := by simpa using hp.length_eq
  have hnd : idx.Nodup := hp.nodup_iff.2 List.nodup_range
  have hlt : ∀ j, j < idx.length → idx.getD j 0 < L.length := fun j hj => by
    have : idx.getD j 0 ∈ idx := by rw [List.getD_eq_getElem?_getD, List.getElem?_eq_getElem hj]; simp
    exact List.mem_range.1 (hp.subset this)
  have hg2 := World.ownsRow.lt ho g2 rfl
  have sym : ∀ a b, a ≠ b → a < L.length → b < L.length → (rvA a).ownBlock ≠ (rvA b).ownBlock ∨ (rvA a).ownBlock = none := fun a b hab ha hb => by
    rcases Nat.lt_or_gt_of_ne hab with h | h
    · exact k3 a b h hb
    · rcases k3 b a h ha with h1 | h1
      · exact Or.inl (Ne.symm h1)
      · cases e : (rvA a).ownBlock with
        | none => exact Or.inr rfl
        | some q => left; rw [h1]; simp
  refine ⟨fun j => rvA (idx.getD j 0), ?_, fun j hj => ?_, fun i j hij hj => ?_⟩
  · rw [List.length_map, range_getD, hl]
    exact ownsRow_base ho hB
  · rw [List.length_map] at hj
    rw [nth_mapD L idx j hj]
    obtain ⟨a, _⟩ := k2 _ (hlt j hj)
    refine ⟨(a.new hn).widen (Nat.le_refl _) hn.size, ?_⟩
    cases e1 : (rvA (idx.getD j 0)).ownBlock with
    | none => exact Or.inr rfl
    | some q => left; have := a.block q e1; simp [Value.ownBlock]; omega
  · rw [List.length_map] at hj
    refine sym _ _ (fun e => ?_) (hlt i (by omega)) (hlt j hj)
    rw [List.getD_eq_getElem?_getD, List.getD_eq_getElem?_getD, List.getElem?_eq_getElem (by omega), List.getElem?_eq_getElem hj] at e
    simp only [Option.getD_some] at e
    have := (List.getElem_inj hnd).1 e
    omega
end

end Go.Proofs.Ytoeckejcmojeaaa
