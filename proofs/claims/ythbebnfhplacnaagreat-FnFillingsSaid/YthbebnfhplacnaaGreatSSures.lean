/- Parts of the proof that lean on no program: SSure1, SSure2, SSure3. -/
import Derived.Test.YthbebnfhplacnaaGreatRows
import Derived.Test.YthbebnfhplacnaaGreatCore
import Derived.Test.YthbebnfhplacnaaGreatInfos
import Derived.Test.YthbebnfhplacnaaGreatPlains
import Derived.Test.YthbebnfhplacnaaGreatPOrds
import Derived.Test.YthbebnfhplacnaaGreatPlainSure
import Derived.Test.YthbebnfhplacnaaGreatMaps
import Derived.Test.YthbebnfhplacnaaGreatRowsG
import Derived.Test.YthbebnfhplacnaaGreatSBase
import Derived.Test.YthbebnfhplacnaaGreatGapsG
import Derived.Test.YthbebnfhplacnaaGreatPlainFill
import Derived.Test.YthbebnfhplacnaaGreatPMerg
import Derived.Test.YthbebnfhplacnaaGreatArrs
import Derived.Test.YthbebnfhplacnaaGreatDrawT
import Derived.Test.YthbebnfhplacnaaGreatPlainReset
import Derived.Test.YthbebnfhplacnaaGreatS04a
import Derived.Test.YthbebnfhplacnaaGreatSShort
import Derived.Test.YthbebnfhplacnaaGreatSFill2
import Derived.WalkKit
import Derived.WalkSpells
import Derived.WalkLawsBesides
import Derived.Deep.QuietTactic
import Derived.Deep.OwnRows
import Derived.BigQuiet
import Derived.KernelRfl
import Derived.Deep.RegionLaw
import Derived.Deep.RegionHeld3
import Derived.Carry
import Derived.Maps.AppendAt
namespace Go.Proofs.YthbebnfhplacnaaGreat
open Go.RowKit

section
set_option maxHeartbeats 1600000 in
theorem l07Less_any (v1 v2 : Value) (x y : List Int) (w : World) (h1 : IntsAt w v1 x) (h2 : IntsAt w v2 y) :
    Calls Tryz.prog 68 #[v1, v2] w fun e w' => e = .returned (.bool (shortLt x y)) ∧ New w w' := by
  obtain ⟨A1, c1, rfl, hl1, hc1⟩ := h1
  obtain ⟨A2, c2, rfl, hl2, hc2⟩ := h2
  have HC1 := hid hc1
  have HC2 := hid hc2
  clear hc1 hc2
  by_cases hlen : x.length = y.length
  · have hb : ((x.length : Int) != y.length) = false := by simp [hlen]
    have HL := hid hlen
    clear hlen
    go_enter Tryz.func68, Tryz.ntmps68
    go_wp2
    go_loopw [5] (fun i wr => ∃ k : Nat, i = .int .i64 k ∧ k ≤ x.length ∧ New w wr ∧ Hid (∀ j, j < k → nth x j = nth y j)) (fun i _ => x.length - (intOf i).toNat)
    case atStart => exact ⟨0, rfl, Nat.zero_le _, New.refl _, hid (fun j hj => absurd hj (by omega))⟩
    case round =>
      obtain ⟨k, rfl, hk1, hn, heq⟩ := hrel
      by_cases hx : k < x.length
      · have hy : k < y.length := by have := HL.out; omega
        obtain ⟨b1, o1, rfl, hx1⟩ := HC1.out k hx
        obtain ⟨b2, o2, rfl, hx2⟩ := HC2.out k hy
        have q1 : (k : Int) < (x.length : Int) := by omega
        have q2 : (k : Int) < (y.length : Int) := by omega
        replace hx1 := hn.cell hx1
        replace hx2 := hn.cell hx2
        by_cases hq : nth x k = nth y k
        · have hq' : (nth x k != nth y k) = false := by simp [hq]
          have HQ := hid hq
          clear hq
          go_wp2_with fail
          go_quiet (fail)
          go_wp2_with fail
          go_roundw
          case rel => exact ⟨k + 1, by go_num, by omega, hn.drewN _, hid (fun j hj => by
              rcases Nat.lt_succ_iff_lt_or_eq.1 hj with h | h
              · exact heq.out j h
              · subst h; exact HQ.out)⟩
          case measure => simp [intOf]; omega
        · have hq' : (nth x k != nth y k) = true := by simp [hq]
          have HE := hid (shortLt_at HL.out k hx heq.out hq).symm
          clear hq
          go_wp2_with fail
          go_quiet (fail)
          go_wp2_with fail
          go_quiet (fail)
          go_wp2_with fail
          go_ret
          exact ⟨ret_bool HE.out, (hn.drewN _).drewN _⟩
      · have HE := hid (show shortLt x y = false by
          have e : x = y := ext_nth _ _ HL.out (fun i hi => heq.out i (by omega))
          rw [e]; exact shortLt_same y)
        have q1 : ¬ (k : Int) < (x.length : Int) := by omega
        go_wp2_with fail
        go_ret
        exact ⟨ret_bool HE.out.symm, hn⟩
  · have hb : ((x.length : Int) != y.length) = true := by simp; omega
    have HE := hid (shortLt_len hlen)
    clear hlen
    go_enter Tryz.func68, Tryz.ntmps68
    go_wp2
    go_ret
    exact ⟨ret_bool (by rw [HE.out]), New.refl _⟩
theorem half_nat {lo hi : Nat} : Int.tdiv ((lo : Int) + (hi : Int)) 2 = (((lo + hi) / 2 : Nat) : Int) := by rw [Int.tdiv_eq_ediv_of_nonneg (by omega)]; omega
set_option maxRecDepth 20000 in
set_option maxHeartbeats 2000000 in
theorem l07Into_any (g cap : Nat) (all : List (List Int)) (r : Value) (x : List Int) (rv : Nat → Value) (w : World) (k1 : ∀ j, j < all.length → w.cell? ⟨g, j, none⟩ = some (rv j)) (k2 : ∀ j, j < all.length → IntsAt w (rv j) (nth all j)) (hcap : all.length ≤ cap ∧ cap ≤ 9223372036854775807) (hr : IntsAt w r x) (hl : all.length ≤ 1048576) (hxl : x.length ≤ 1048576) (hs : srtR shortLt all) :
    Calls Tryz.prog 36 #[.slice (some ⟨g, 0, none⟩) all.length cap, r] w fun e w' => New w w' ∧
      ((intoL x all = all ∧ e = .returned (.slice (some ⟨g, 0, none⟩) all.length cap)) ∨
       ∃ g2 cap2 rx k, e = .returned (.slice (some ⟨g2, 0, none⟩) (all.length + 1) cap2) ∧ k ≤ all.length ∧ intoL x all = all.take k ++ x :: all.drop k ∧ OwnInts w.heap.size w'.heap.size w' rx x ∧ w'.ownsRow w.heap.size 34 1 (.slice (some ⟨g2, 0, none⟩) (all.length + 1) cap2) (all.length + 1) ((List.range k).map rv ++ [rx] ++ ((List.range all.length).map rv).drop k)) := by
  have HCELL := hid (show ∀ j, j < all.length → ∀ w', New w w' → w'.cell? ⟨g, j, none⟩ = some (rv j) from fun j hj w' hn => hn.cell (k1 j hj))
  have HK2 := hid k2
  have HFORM := hid (show ∀ j, j < all.length → ∃ A c, rv j = .slice A (nth all j).length c from fun j hj => (k2 j hj).form)
  obtain ⟨Ar, cr, rfl⟩ := hr.form
  have HRX := hid hr
  have HS := hid hs
  obtain ⟨hcp1, hcp2⟩ := hcap
  clear k1 k2 hr hs
  go_enter Tryz.func36, Tryz.ntmps36
  go_wp2
  go_loopw [5, 6] (fun lv hv wr => ∃ lo hi : Nat, lv = .int .i64 lo ∧ hv = .int .i64 hi ∧ lo ≤ hi ∧ hi ≤ all.length ∧ New w wr ∧ Hid (∀ i, i < lo → shortLt (nth all i) x = true) ∧ Hid (∀ i, hi ≤ i → i < all.length → shortLt (nth all i) x = false)) (fun lv hv _ => (intOf hv - intOf lv).toNat)
  case atStart => exact ⟨0, all.length, rfl, rfl, Nat.zero_le _, Nat.le_refl _, New.refl _, hid (fun i hi => absurd hi (by omega)), hid (fun i h1 h2 => absurd h1 (by omega))⟩
  case round =>
    obtain ⟨lo, hi, rfl, rfl, hlh, hhl, hn, hlow, hhigh⟩ := hrel
    obtain ⟨wo, rfl⟩ : ∃ wo : World, wo = wr := ⟨_, rfl⟩
    by_cases hlt : lo < hi
    · obtain ⟨mid, hmid⟩ : ∃ mid, mid = (lo + hi) / 2 := ⟨_, rfl⟩
      have m1 : lo ≤ mid ∧ mid < hi := by omega
      have hquo := half_nat (lo := lo) (hi := hi)
      rw [← hmid] at hquo
      have hml : mid < all.length := by omega
      have b1 : (lo : Int) < (hi : Int) := by omega
      have b2 : (mid : Int) < (all.length : Int) := by omega
      have hwm : IntKind.i64.wrap (mid : Int) = (mid : Int) := IntWalk.i64_in _ (by omega)
      obtain ⟨Ak, ck, hk1⟩ := HFORM.out mid hml
      have hck := HCELL.out mid hml wo hn
      rw [hk1] at hck
      have hrk : IntsAt wo (.slice Ak (nth all mid).length ck) (nth all mid) := by
        have := (HK2.out mid hml).new hn
        rwa [hk1] at this
      have CB := hid (fun w1 (hm : New wo w1) => l07Less_any _ _ _ _ w1 (hrk.new hm) (HRX.out.new (hn.trans hm)))
      clear hmid hk1
      cases hq : shortLt (nth all mid) x with
      | true =>
        have HQ := hid (half_low HS.out hml hq)
        rw [hq] at CB
        clear hq
        go_wp2_with (go_at_call 68; refine (CB.out _ (New.refl _)).mono ?_; rintro e w2 ⟨rfl, hn2⟩)
        exact ⟨⟨mid + 1, hi, by go_num, rfl, by omega, hhl, hn.trans hn2, HQ, hhigh⟩, by simp [intOf]; omega⟩
      | false =>
        have HQ := hid (half_high HS.out hq)
        rw [hq] at CB
        clear hq
        go_wp2_with (go_at_call 68; refine (CB.out _ (New.refl _)).mono ?_; rintro e w2 ⟨rfl, hn2⟩)
        exact ⟨⟨lo, mid, rfl, rfl, by omega, by omega, hn.trans hn2, hlow, HQ⟩, by simp [intOf]; omega⟩
    · have e : lo = hi := by omega
      subst e
      have HAT := hid (intoL_at HS.out hhl hlow.out hhigh.out)
      have b1 : ¬ (lo : Int) < (lo : Int) := by omega
      obtain ⟨ps, hps⟩ : ∃ ps, ps = (List.range lo).map rv := ⟨_, rfl⟩
      have HPL := hid (show ps.length = lo by rw [hps]; simp)
      have HPS := hid hps
      have HPONE := hid (show ∀ u, u ∈ ps → u.oneCell' = true from fun u hu => by
        rw [hps] at hu
        obtain ⟨i, hi, rfl⟩ := List.mem_map.1 hu
        obtain ⟨A, c, e⟩ := HFORM.out i (by have := List.mem_range.1 hi; omega)
        rw [e]; rfl)
      have HPC := hid (show ∀ j u, ps[j]? = some u → ∀ w', New w w' → w'.cell? ((⟨g, 0, none⟩ : Addr).add j) = some u from fun j u hj w' hw => by
        rw [hps, List.getElem?_map] at hj
        have hkj : j < lo := by
          rcases Nat.lt_or_ge j lo with h | h
          · exact h
          · rw [List.getElem?_eq_none (by simpa using h)] at hj; cases hj
        rw [List.getElem?_range hkj] at hj
        simp at hj
        subst hj
        have e2 : (⟨g, 0, none⟩ : Addr).add j = ⟨g, j, none⟩ := by
          unfold Addr.add
          split
          · rename_i h; subst h; rfl
          · simp
        rw [e2]
        exact HCELL.out j (by omega) w' hw)
      obtain ⟨ns, hns⟩ : ∃ ns, ns = ((List.range all.length).map rv).drop lo := ⟨_, rfl⟩
      have HNL := hid (show ns.length = all.length - lo by rw [hns]; simp)
      have HNS := hid hns
      have HONE := hid (show ∀ u, u ∈ ns → u.oneCell' = true from fun u hu => by
        rw [hns] at hu
        obtain ⟨i, hi, rfl⟩ := List.mem_map.1 (List.mem_of_mem_drop hu)
        obtain ⟨A, c, e⟩ := HFORM.out i (List.mem_range.1 hi)
        rw [e]; rfl)
      have HNC := hid (show ∀ j u, ns[j]? = some u → ∀ w', New w w' → w'.cell? ((⟨g, lo, none⟩ : Addr).add j) = some u from fun j u hj w' hw => by
        rw [hns] at hj
        rw [List.getElem?_drop, List.getElem?_map] at hj
        have hkj : lo + j < all.length := by
          rcases Nat.lt_or_ge (lo + j) all.length with h | h
          · exact h
          · rw [List.getElem?_eq_none (by simpa using h)] at hj; cases hj
        rw [List.getElem?_range hkj] at hj
        simp at hj
        subst hj
        have e2 : (⟨g, lo, none⟩ : Addr).add j = ⟨g, lo + j, none⟩ := by
          unfold Addr.add
          split
          · rename_i h; subst h; rfl
          · rfl
        rw [e2]
        exact HCELL.out (lo + j) hkj w' hw)
      clear hns hps
      have hcl : (lo : Int) ≤ (cap : Int) := by omega
      have hc3 : (all.length : Int) ≤ (cap : Int) := by omega
      have HE0 := hid (fun w1 (hm : New w w1) => (World.ownsRow_made (w := w1) (base := w.heap.size) (e := 34) (size := 1) #[] 0 hm.size (by simp) (by simp) : (w1.alloc (.cells #[] 34)).ownsRow w.heap.size 34 1 (.slice (some ⟨w1.heap.size, 0, none⟩) 0 0) 0 []))
      have HOWN := hid (fun w1 (hm : New w w1) => l00Own_any _ x w1 (HRX.out.new hm) hxl)
      have HFIN := hid (show ∀ (w4 w5 w6 w7 : World) (rx : Value) (g4 g6 : Nat), w.heap.size ≤ w4.heap.size → OwnInts w4.heap.size w5.heap.size w5 rx x → g4 < w4.heap.size → w5.grownBy w6 (some g4) → w6.grownBy w7 (some g6) → (some g4 = some g6 ∨ w5.heap.size < g6) → OwnInts w.heap.size w7.heap.size w7 rx x from fun w4 w5 w6 w7 rx g4 g6 h1 h2 h3 h4 h5 h6 => by
        have hb := h2.block
        have q1 := h2.grown h4 (Or.inl fun e => by have := hb g4 e; omega)
        have q2 := q1.grown h5 (Or.inl fun e => by
          have := hb g6 e
          rcases h6 with k | k
          · injection k with k; omega
          · omega)
        exact q2.widen h1 (Nat.le_trans h4.size h5.size))
      by_cases hlo : lo < all.length
      · have b2 : (lo : Int) < (all.length : Int) := by omega
        obtain ⟨Ak, ck, hk1⟩ := HFORM.out lo hlo
        have hck := HCELL.out lo hlo wo hn
        rw [hk1] at hck
        have hrk : IntsAt wo (.slice Ak (nth all lo).length ck) (nth all lo) := by
          have := (HK2.out lo hlo).new hn
          rwa [hk1] at this
        have CS := hid (fun w1 (hm : New wo w1) => l00Same_any _ _ _ _ w1 (hrk.new hm) (HRX.out.new (hn.trans hm)))
        clear hk1
        by_cases hq : nth all lo = x
        · have HQ := hid (HAT.out.1 ⟨hlo, hq⟩)
          rw [decide_eq_true hq] at CS
          clear hq
          go_wp2_with (go_at_call 38; refine (CS.out _ (New.refl _)).mono ?_; rintro e w2 ⟨rfl, hn2⟩)
          go_ret
          exact ⟨hn.trans hn2, Or.inl ⟨HQ.out, rfl⟩⟩
        · have HQ := hid (HAT.out.2 (fun q => hq q.2))
          rw [decide_eq_false hq] at CS
          clear hq
          have hc1 : lo < cap := by omega
          have hc2 : ¬ cap = lo := by omega
          have hc5 : (lo : Int) < (cap : Int) := by omega
          go_wp2_with (first
            | (go_at_call 38; refine (CS.out _ (New.refl _)).mono ?_; rintro e w2 ⟨rfl, hn2⟩; have hN2 := hn.trans hn2; have ho2 := HE0.out w2 hN2; have hn3 : New w2 (w2.alloc (.cells #[] 34)) := (by repeat (first | with_reducible exact New.refl _ | with_reducible assumption | with_reducible refine New.alloc ?_ _ | with_reducible refine New.drewN ?_ _ | with_reducible refine New.drew ?_ | with_reducible refine New.trans ?_ (by with_reducible assumption))); have hN3 := hN2.trans hn3; have hz3 := hN3.size)
            | (at_builtin; refine wpList_appVs rfl _ _ _ rfl (B := w.heap.size) Tryz.underlying24 info_ints rfl (by decide) (.slice (some ⟨w2.heap.size, 0, none⟩) 0 0) 0 w2.heap.size _ ps ⟨g, 0, none⟩ cap rfl ho2 rfl (by rw [HPL.out]; rfl) (fun j u hj => HPC.out j u hj _ hN3) HPONE.out (by rw [HPL.out]; omega) (by omega) ?_; intro g4 cap4 w4 ho4 hg4 hl4)
            | (go_at_call 69; have hlo2 := World.ownsRow.lt ho2; have hn4 : New w w4 := New.grown hN3 hg4 (fun q hq => (hlo2 q hq).1); have hz4 := hn4.size; rw [Nat.zero_add, List.nil_append] at ho4; have hg4l := (World.ownsRow.lt ho4 g4 rfl).2; refine (HOWN.out w4 hn4).mono ?_; rintro e w5 ⟨rx, rfl, hn5, hox5⟩; obtain ⟨Ax, cx, rfl⟩ := hox5.form; have ho5 := ownsRow_new ho4 hn5; have hN5 := hn4.trans hn5; have hz5 := hN5.size)
            | (at_builtin; refine wpList_appV rfl _ _ _ rfl (B := w.heap.size) Tryz.underlying24 info_ints rfl (by decide) rfl (.slice (some ⟨g4, 0, none⟩) ps.length cap4) ps.length _ rfl ho5 rfl (by rw [HPL.out]; omega) (by omega) ?_; intro g6 cap6 w6 ho6 hg6 hl6; have hlo5 := World.ownsRow.lt ho5; have hn6 : New w w6 := New.grown hN5 hg6 (fun q hq => (hlo5 q hq).1); have hz6 := hn6.size)
            | (at_builtin; refine wpList_appVs rfl _ _ _ rfl (B := w.heap.size) Tryz.underlying24 info_ints rfl (by decide) (.slice (some ⟨g6, 0, none⟩) (ps.length + 1) cap6) (ps.length + 1) g6 _ ns ⟨g, lo, none⟩ (cap - lo) rfl ho6 rfl (by rw [HNL.out]; rfl) (fun j u hj => HNC.out j u hj w6 hn6) HONE.out (by rw [HNL.out, HPL.out]; omega) (by omega) ?_; intro g7 cap7 w7 ho7 hg7 hl7))
          go_ret
          have hlo6 := World.ownsRow.lt ho6
          have hn7 : New w w7 := New.grown hn6 hg7 (fun q hq => (hlo6 q hq).1)
          refine ⟨hn7, Or.inr ⟨g7, cap7, _, lo, ?_, hhl, HQ.out, HFIN.out w4 w5 w6 w7 _ g4 g6 hz4 hox5 hg4l hg6 hg7 hl6, ?_⟩⟩
          · rw [show ps.length + 1 + ns.length = all.length + 1 by rw [HPL.out, HNL.out]; omega]
            rfl
          · rw [show ps.length + 1 + ns.length = all.length + 1 by rw [HPL.out, HNL.out]; omega] at ho7
            rw [HPS.out, HNS.out] at ho7
            exact ho7
      · have e2 : lo = all.length := by omega
        have HQ := hid (HAT.out.2 (fun q => hlo q.1))
        have b2 : ¬ (lo : Int) < (all.length : Int) := by omega
        have ho2 := HE0.out wo hn
        have hn3 : New wo (wo.alloc (.cells #[] 34)) := (by repeat (first | with_reducible exact New.refl _ | with_reducible assumption | with_reducible refine New.alloc ?_ _ | with_reducible refine New.drewN ?_ _ | with_reducible refine New.drew ?_ | with_reducible refine New.trans ?_ (by with_reducible assumption)))
        have hN3 := hn.trans hn3
        have hz3 := hN3.size
        have E2 := hid e2
        clear e2
        by_cases hc : cap = lo
        · have hc1 : ¬ lo < cap := by omega
          have hc2 : lo - lo = 0 := by omega
          have hns0 : ns = [] := List.eq_nil_of_length_eq_zero (by rw [HNL.out]; have := E2.out; omega)
          have hal : (all.length : Int) ≤ (lo : Int) := by have := E2.out; omega
          have hal2 : lo = all.length := E2.out
          have HN0 := hid hns0
          clear hns0
          subst hc
          subst hal2
          go_wp2_with (first
            | (at_builtin; refine wpList_appVs rfl _ _ _ rfl (B := w.heap.size) Tryz.underlying24 info_ints rfl (by decide) (.slice (some ⟨wo.heap.size, 0, none⟩) 0 0) 0 wo.heap.size _ ps ⟨g, 0, none⟩ all.length rfl ho2 rfl (by rw [HPL.out]; rfl) (fun j u hj => HPC.out j u hj _ hN3) HPONE.out (by rw [HPL.out]; omega) (by omega) ?_; intro g4 cap4 w4 ho4 hg4 hl4)
            | (go_at_call 69; have hlo2 := World.ownsRow.lt ho2; have hn4 : New w w4 := New.grown hN3 hg4 (fun q hq => (hlo2 q hq).1); have hz4 := hn4.size; rw [Nat.zero_add, List.nil_append] at ho4; have hg4l := (World.ownsRow.lt ho4 g4 rfl).2; refine (HOWN.out w4 hn4).mono ?_; rintro e w5 ⟨rx, rfl, hn5, hox5⟩; obtain ⟨Ax, cx, rfl⟩ := hox5.form; have ho5 := ownsRow_new ho4 hn5; have hN5 := hn4.trans hn5; have hz5 := hN5.size)
            | (at_builtin; refine wpList_appV rfl _ _ _ rfl (B := w.heap.size) Tryz.underlying24 info_ints rfl (by decide) rfl (.slice (some ⟨g4, 0, none⟩) ps.length cap4) ps.length _ rfl ho5 rfl (by rw [HPL.out]; omega) (by omega) ?_; intro g6 cap6 w6 ho6 hg6 hl6; have hlo5 := World.ownsRow.lt ho5; have hn6 : New w w6 := New.grown hN5 hg6 (fun q hq => (hlo5 q hq).1); have hz6 := hn6.size)
            | (at_builtin; refine wpList_appVs rfl _ _ _ rfl (B := w.heap.size) Tryz.underlying24 info_ints rfl (by decide) (.slice (some ⟨g6, 0, none⟩) (ps.length + 1) cap6) (ps.length + 1) g6 _ [] _ _ rfl ho6 rfl rfl (fun j u hj => by simp at hj) (fun u hu => by simp at hu) (by rw [HPL.out]; simp; omega) (by omega) ?_; intro g7 cap7 w7 ho7 hg7 hl7))
          go_ret
          have hlo6 := World.ownsRow.lt ho6
          have hn7 : New w w7 := New.grown hn6 hg7 (fun q hq => (hlo6 q hq).1)
          refine ⟨hn7, Or.inr ⟨g7, cap7, _, all.length, ?_, hhl, HQ.out, HFIN.out w4 w5 w6 w7 _ g4 g6 hz4 hox5 hg4l hg6 hg7 hl6, ?_⟩⟩
          · rw [← HPL.out]
            rfl
          · rw [← HNS.out, HN0.out]
            rw [show ps.length + 1 + ([] : List Value).length = ps.length + 1 from rfl, HPL.out, HPS.out] at ho7
            exact ho7
        · have hc1 : lo < cap := by omega
          have hc2 : ¬ cap = lo := hc
          have hc5 : (lo : Int) < (cap : Int) := by omega
          go_wp2_with (first
            | (at_builtin; refine wpList_appVs rfl _ _ _ rfl (B := w.heap.size) Tryz.underlying24 info_ints rfl (by decide) (.slice (some ⟨wo.heap.size, 0, none⟩) 0 0) 0 wo.heap.size _ ps ⟨g, 0, none⟩ cap rfl ho2 rfl (by rw [HPL.out]; rfl) (fun j u hj => HPC.out j u hj _ hN3) HPONE.out (by rw [HPL.out]; omega) (by omega) ?_; intro g4 cap4 w4 ho4 hg4 hl4)
            | (go_at_call 69; have hlo2 := World.ownsRow.lt ho2; have hn4 : New w w4 := New.grown hN3 hg4 (fun q hq => (hlo2 q hq).1); have hz4 := hn4.size; rw [Nat.zero_add, List.nil_append] at ho4; have hg4l := (World.ownsRow.lt ho4 g4 rfl).2; refine (HOWN.out w4 hn4).mono ?_; rintro e w5 ⟨rx, rfl, hn5, hox5⟩; obtain ⟨Ax, cx, rfl⟩ := hox5.form; have ho5 := ownsRow_new ho4 hn5; have hN5 := hn4.trans hn5; have hz5 := hN5.size)
            | (at_builtin; refine wpList_appV rfl _ _ _ rfl (B := w.heap.size) Tryz.underlying24 info_ints rfl (by decide) rfl (.slice (some ⟨g4, 0, none⟩) ps.length cap4) ps.length _ rfl ho5 rfl (by rw [HPL.out]; omega) (by omega) ?_; intro g6 cap6 w6 ho6 hg6 hl6; have hlo5 := World.ownsRow.lt ho5; have hn6 : New w w6 := New.grown hN5 hg6 (fun q hq => (hlo5 q hq).1); have hz6 := hn6.size)
            | (at_builtin; refine wpList_appVs rfl _ _ _ rfl (B := w.heap.size) Tryz.underlying24 info_ints rfl (by decide) (.slice (some ⟨g6, 0, none⟩) (ps.length + 1) cap6) (ps.length + 1) g6 _ ns ⟨g, lo, none⟩ (cap - lo) rfl ho6 rfl (by rw [HNL.out]; rfl) (fun j u hj => HNC.out j u hj w6 hn6) HONE.out (by rw [HNL.out, HPL.out]; omega) (by omega) ?_; intro g7 cap7 w7 ho7 hg7 hl7))
          go_ret
          have hlo6 := World.ownsRow.lt ho6
          have hn7 : New w w7 := New.grown hn6 hg7 (fun q hq => (hlo6 q hq).1)
          refine ⟨hn7, Or.inr ⟨g7, cap7, _, lo, ?_, hhl, HQ.out, HFIN.out w4 w5 w6 w7 _ g4 g6 hz4 hox5 hg4l hg6 hg7 hl6, ?_⟩⟩
          · rw [show ps.length + 1 + ns.length = all.length + 1 by rw [HPL.out, HNL.out]; omega]
            rfl
          · rw [show ps.length + 1 + ns.length = all.length + 1 by rw [HPL.out, HNL.out]; omega] at ho7
            rw [HPS.out, HNS.out] at ho7
            exact ho7
end
section
set_option maxHeartbeats 400000 in
theorem l01ToAt_any (b o : Nat) (v rv : Value) (a : Aut) (s : Int) (ws : List Int) (w : World) (hp1 : w.cell? ⟨b, o + 1, none⟩ = some rv) (hpr : RowsAt w rv a.nx) (h : IntsAt w v ws) (ha : autOk a = true) (hw : letters a ws) (hs : 0 ≤ s ∧ s < a.n) :
    Calls Tryz.prog 70 #[.pointer (some ⟨b, o, none⟩), .int .i64 s, v] w fun e w' => e = .returned (.int .i64 (runOf a.nx s ws)) ∧ New w w' := by
  obtain ⟨A2, c2, rfl, hl2, hc2⟩ := hpr
  obtain ⟨A, c, rfl, hl, hc⟩ := h
  have HA := hid ha
  have HW := hid hw
  have HS := hid hs
  clear ha hw hs
  go_enter Tryz.func70, Tryz.ntmps70
  go_wp2
  go_loopw [1, 7] (fun q i wr => ∃ (k : Nat) (z : Int), k ≤ ws.length ∧ i = .int .i64 k ∧ q = .int .i64 z ∧ Hid (z = runOf a.nx s (ws.take k)) ∧ New w wr) (fun _ i _ => ws.length - (intOf i).toNat)
  case atStart => exact ⟨0, _, Nat.zero_le _, rfl, rfl, rfl, New.refl _⟩
  case round =>
    obtain ⟨k, z, hk, rfl, rfl, he, hn⟩ := hrel
    by_cases hlt : k < ws.length
    · obtain ⟨b, off, rfl, hx⟩ := hc k hlt
      have b1 : (k : Int) < (ws.length : Int) := by omega
      have hz : 0 ≤ z ∧ z < a.n := by rw [he.out]; exact runOf_in HA.out ws HW.out s HS.out k (by omega)
      have hL := HW.out k hlt
      obtain ⟨b2, off2, rv, rfl, hx2, hr⟩ := hc2 (nth ws k).toNat (by omega)
      obtain ⟨h1, h2⟩ := autOk_row HA.out (nth ws k).toNat (by omega)
      obtain ⟨A3, c3, rfl, hl3, hc3⟩ := hr
      obtain ⟨b3, off3, rfl, hx3⟩ := hc3 z.toNat (by omega)
      obtain ⟨hz1, hz2⟩ := hz
      obtain ⟨hL1, hL2⟩ := hL
      have b2 : z < ((nth a.nx (nth ws k).toNat).length : Int) := by omega
      replace hx := hn.cell hx
      replace hx2 := hn.cell hx2
      replace hx3 := hn.cell hx3
      replace hp1 := hn.cell hp1
      clear hc hc2 hc3 h1 h2
      go_wp2_with fail
      go_quiet (fail)
      go_wp2
      go_roundw
      case rel => exact ⟨k + 1, _, by omega, by go_num, rfl, by show _ = _; rw [runOf_take _ _ _ _ hlt, ← he.out]; rfl, hn.drewN nq⟩
      case measure => simp [intOf]; omega
    · have e : k = ws.length := by omega
      subst e
      go_wp2
      go_ret
      exact ⟨ret_int (by rw [he.out, List.take_length]), hn⟩
/-- Whether the first k states are led to one. -/
theorem same_to {a : Aut} (ha : autOk a = true) {ws : List Int} (hw : letters a ws) : rsB a ws = true ↔ ∀ s : Nat, 1 ≤ s → (s : Int) < a.n → runOf a.nx (s : Int) ws = runOf a.nx 0 ws := by
  have hn := autOk_n ha
  rw [rsB_iff ha hw]
  constructor
  · intro h s _ h2; exact h s (by omega)
  · intro h s hs
    rcases Nat.eq_zero_or_pos s with e | e
    · subst e; rfl
    · exact h s e (by omega)
set_option maxRecDepth 20000 in
set_option maxHeartbeats 2000000 in
theorem l04Resets_any (v v2 : Value) (p : Aut) (ws : List Int) (n : Nat) (w : World) (h : AutsAt w v p.n (fun i => (fillN p i).nx) n) (h2 : IntsAt w v2 ws) (hf : PartFacts p) (hw : lettersP p ws) (hn : n ≤ 1048576) :
    Calls Tryz.prog 37 #[v, v2] w fun e w' => e = .returned (.int .i64 (resTo p ws n : Nat)) ∧ New w w' := by
  obtain ⟨A, c, rfl, hc⟩ := h
  obtain ⟨A2, c2, rfl⟩ := h2.form
  have HC := hid hc
  have HW2 := hid h2
  have HL := hid (fun i => letters_fill hw i)
  have HOK := hid (fun i => fillN_ok hf i)
  have hn1 := hf.n1
  have hn10 := hf.n10
  have HCT := hid (fun i => resTo_le p ws i)
  clear hc h2 hw hf
  go_enter Tryz.func37, Tryz.ntmps37
  go_wp2
  go_loopw [5, 6] (fun cv iv wr => ∃ i : Nat, i ≤ n ∧ iv = .int .i64 i ∧ cv = .int .i64 (resTo p ws i : Nat) ∧ New w wr) (fun _ iv _ => n - (intOf iv).toNat)
  case atStart => exact ⟨0, Nat.zero_le _, rfl, rfl, New.refl _⟩
  case round =>
    obtain ⟨i, hi, rfl, rfl, hN⟩ := hrel
    obtain ⟨wo, rfl⟩ : ∃ wo : World, wo = wr := ⟨_, rfl⟩
    have hcl := HCT.out i
    by_cases hlt : i < n
    · have b1 : (i : Int) < (n : Int) := by omega
      obtain ⟨b, r, rfl, x0, x1, xr⟩ := HC.out i hlt
      replace x0 := hN.cell x0
      replace x1 := hN.cell x1
      replace xr := xr.new hN
      have HRE := hid (show resTo p ws (i + 1) = resTo p ws i + if rsB (fillN p i) ws = true then 1 else 0 from rfl)
      have hok := HOK.out i
      have hll := HL.out i
      have HS := hid (same_to hok hll)
      have HFN := hid (show (fillN p i).n = p.n from rfl)
      obtain ⟨FN, hFN⟩ : ∃ FN, FN = fillN p i := ⟨_, rfl⟩
      have hx : RowsAt wo r FN.nx := by rw [hFN]; exact xr
      rw [← hFN] at HRE hok hll HS HFN
      have HT := hid (fun (s : Int) (hs : 0 ≤ s ∧ s < p.n) (w1 : World) (hm : New wo w1) => l01ToAt_any b (i * 2) _ r FN s ws w1 (hm.cell x1) (hx.new hm) (HW2.out.new (hN.trans hm)) hok hll (by rw [HFN.out]; exact hs))
      obtain ⟨CN, hCN⟩ : ∃ CN, CN = resTo p ws i := ⟨_, rfl⟩
      rw [← hCN] at HRE hcl ⊢
      have HFN2 := hid hFN
      have HCN := hid hCN
      clear hFN xr hok hll hCN
      have HT0 := hid (fun w1 hm => HT.out 0 (by omega) w1 hm)
      obtain ⟨T0, hT0⟩ : ∃ T0, T0 = runOf FN.nx 0 ws := ⟨_, rfl⟩
      have HTT := hid hT0
      rw [← hT0] at HT0 HS
      clear hT0
      go_wp2_with (go_at_call 70; refine (HT0.out _ (New.refl _)).mono ?_; rintro e w2 ⟨rfl, hn2⟩)
      have y0 := hn2.cell x0
      go_loopw [8, 9] (fun bv sv wr => ∃ (s : Nat) (q : Bool), 1 ≤ s ∧ (s : Int) ≤ p.n ∧ sv = .int .i64 s ∧ bv = .bool q ∧ New wo wr ∧ Hid (q = true ↔ ∀ t : Nat, 1 ≤ t → t < s → runOf FN.nx (t : Int) ws = T0)) (fun _ sv _ => p.n.toNat + 1 - (intOf sv).toNat)
      case atStart => exact ⟨1, true, Nat.le_refl _, by omega, rfl, rfl, hn2, hid (by simp; intro t h1 h2; omega)⟩
      case round =>
        obtain ⟨s, q, hs1, hsn, rfl, rfl, hm, hq⟩ := hrel
        obtain ⟨wi, rfl⟩ : ∃ wi : World, wi = wr := ⟨_, rfl⟩
        clear y0
        have y0 := hm.cell x0
        have hkey := hid (show ∀ z : Bool, (rsB FN ws = true ↔ z = true) → (resTo p ws (i + 1) = CN + if z = true then 1 else 0) from fun z hz => by
          rw [HRE.out]
          by_cases hzz : z = true
          · rw [if_pos hzz, if_pos (hz.2 hzz)]
          · rw [if_neg hzz, if_neg (fun k => hzz (hz.1 k))])
        have hRR := hN.trans hm
        by_cases hsl : (s : Int) < p.n
        · cases hqe : q with
          | true =>
            rw [hqe] at hq
            have CT := hid (fun w1 (hm1 : New wi w1) => HT.out (s : Int) ⟨by omega, hsl⟩ w1 (hm.trans hm1))
            obtain ⟨TS, hTS⟩ : ∃ TS, TS = runOf FN.nx (s : Int) ws := ⟨_, rfl⟩
            rw [← hTS] at CT
            have HTS := hid hTS
            clear hTS hqe
            go_wp2_with (go_at_call 70; refine (CT.out _ (New.refl _)).mono ?_; rintro e w3 ⟨rfl, hn3⟩)
            refine ⟨⟨s + 1, TS == T0, by omega, by omega, by go_num, rfl, hm.trans hn3, hid ?_⟩, by simp [intOf]; omega⟩
            rw [beq_iff_eq]
            constructor
            · intro h t h1 h2
              rcases Nat.lt_succ_iff_lt_or_eq.1 h2 with k | k
              · exact hq.out.1 (by first | rfl | trivial) t h1 k
              · subst k; rw [← HTS.out]; exact h
            · intro h; rw [HTS.out]; exact h s hs1 (Nat.lt_succ_self _)
          | false =>
            have HZ := hid (hkey.out false (by
              rw [HS.out]
              constructor
              · intro h; exact absurd (hq.out.2 (fun t h1 h2 => h t h1 (by rw [HFN.out]; omega))) (by rw [hqe]; simp)
              · intro h; cases h))
            clear hqe
            go_wp2_with fail
            exact ⟨⟨i + 1, by omega, by go_num, by rw [HZ.out]; simp, hRR⟩, by simp [intOf]; omega⟩
        · have HZ0 := hid (hkey.out q (by
            rw [HS.out, hq.out]
            constructor
            · intro h t h1 h2; exact h t h1 (by rw [HFN.out]; omega)
            · intro h t h1 h2; exact h t h1 (by rw [HFN.out] at h2; omega)))
          cases hqe : q with
          | true =>
            have HZ := hid (show resTo p ws (i + 1) = CN + 1 by rw [HZ0.out, hqe]; rfl)
            clear hqe
            go_wp2_with fail
            exact ⟨⟨i + 1, by omega, by go_num, by rw [HZ.out]; go_num, hRR⟩, by simp [intOf]; omega⟩
          | false =>
            have HZ := hid (show resTo p ws (i + 1) = CN by rw [HZ0.out, hqe]; rfl)
            clear hqe
            go_wp2_with fail
            exact ⟨⟨i + 1, by omega, by go_num, by rw [HZ.out], hRR⟩, by simp [intOf]; omega⟩
    · have e : i = n := by omega
      subst e
      have b1 : ¬ (i : Int) < (i : Int) := by omega
      go_wp2_with fail
      go_ret
      exact ⟨rfl, hN⟩
end
section
theorem info_aut : (Tryz.prog.info? 31).map (fun i => (i.zero, i.size, i.bytes)) = some (some (.agg #[.int .i64 0, .slice none 0 0]), 2, 32) := by kernel_rfl
theorem made_nil (B : Nat) (w : World) (e : TypeId) (h : B ≤ w.heap.size) : OwnInts B (w.alloc (.cells #[] e)).heap.size (w.alloc (.cells #[] e)) (.slice (some ⟨w.heap.size, 0, none⟩) 0 0) [] :=
  ⟨some ⟨w.heap.size, 0, none⟩, 0, rfl, by simp, fun a h' => by cases h'; simp only [size_alloc]; omega, fun i hi => by simp at hi⟩
theorem l07IntoK_any (lo : Nat) (M : Nat → Prop) (v r : Value) (x : List Int) (all : List (List Int)) (w : World) (h : WordsK lo M w v all) (hlo : lo ≤ w.heap.size) (hM : ∀ q, M q → q < w.heap.size) (hr : IntsAt w r x) (hl : all.length ≤ 1048576) (hxl : x.length ≤ 1048576) (hs : srtR shortLt all) :
    Calls Tryz.prog 36 #[v, r] w fun e w' => ∃ v', e = .returned v' ∧ New w w' ∧ WordsK lo M w' v' (intoL x all) := by
  obtain ⟨g, cap, rv, rfl, k1, k2, k3, k4, k5, k6⟩ := id h
  refine (l07Into_any g cap all r x rv w (fun j hj => (k6 j hj).1) (fun j hj => (k6 j hj).2.at) ⟨k1, k2⟩ hr hl hxl hs).mono ?_
  rintro e w' ⟨hn, ⟨e1, rfl⟩ | ⟨g2, cap2, rx, k, rfl, hk, e1, ho, hw⟩⟩
  · exact ⟨_, rfl, hn, by rw [e1]; exact h.new hn⟩
  · exact ⟨_, rfl, hn, by rw [e1]; exact WordsK.put (fun j hj => (k6 j hj).2) hn hlo hM ho hk hw⟩
set_option maxRecDepth 20000 in
set_option maxHeartbeats 2000000 in
theorem specSurestWord_any (v : Value) (p : Aut) (w : World) (h : AutAt w v p) :
    Calls Tryz.prog 10 #[v] w fun e w' => ∃ r, e = .returned (.tuple #[r, .int .i64 (SurestWord p).2]) ∧ New w w' ∧ OwnInts w.heap.size w'.heap.size w' r (SurestWord p).1 := by
  obtain ⟨rv, rfl, hr⟩ := h
  obtain ⟨A, c, rfl⟩ := hr.form
  obtain ⟨wb, hwb⟩ : ∃ wb, wb = w.alloc (.cells #[.int .i64 p.n, .slice A p.nx.length c] 26) := ⟨_, rfl⟩
  have hnb : New w wb := by rw [hwb]; exact (by repeat (first | with_reducible exact New.refl _ | with_reducible assumption | with_reducible refine New.alloc ?_ _ | with_reducible refine New.drewN ?_ _ | with_reducible refine New.drew ?_ | with_reducible refine New.trans ?_ (by with_reducible assumption)))
  have hb0 : wb.cell? ⟨w.heap.size, 0, none⟩ = some (.int .i64 p.n) := by rw [hwb]; go_simp
  have hb1 : wb.cell? ⟨w.heap.size, 1, none⟩ = some (.slice A p.nx.length c) := by rw [hwb]; go_simp
  have hp : PAut wb (.pointer (some ⟨w.heap.size, 0, none⟩)) p := ⟨_, _, rfl, hb0, hb1, hr.new hnb⟩
  have C1 := l04Ok_any _ p wb hp
  obtain ⟨R, hRR⟩ : ∃ R, R = SurestWord p := ⟨_, rfl⟩
  rw [← hRR]
  unfold SurestWord at hRR
  have HR := hid hRR
  clear hRR
  cases hok : partOk p with
  | false =>
    rw [hok] at C1
    have HE := hid (show R = ([], 1) by rw [HR.out, hok]; rfl)
    go_enter Tryz.func10, Tryz.ntmps10
    go_wp2_with fail
    rw [← hwb]
    clear hwb
    refine C1.mono ?_
    rintro e w1 ⟨rfl, hn1⟩
    go_wp2_with fail
    go_ret2
    rw [HE.out]
    exact ⟨_, rfl, (hnb.trans hn1).trans (by repeat (first | with_reducible exact New.refl _ | with_reducible assumption | with_reducible refine New.alloc ?_ _ | with_reducible refine New.drewN ?_ _ | with_reducible refine New.drew ?_ | with_reducible refine New.trans ?_ (by with_reducible assumption))), made_nil _ _ _ (hnb.trans hn1).size⟩
  | true =>
    rw [hok] at C1
    have hf := part_facts hok
    have hpn := fun w1 (hn : New wb w1) => PAut.new hp hn
    have HC2 := hid (fun w1 (hn : New wb w1) => l04Fillings_any _ p w1 (hpn w1 hn) hf)
    have HCF := hid (fun w1 (N : Nat) (hn : New wb w1) (hN : N ≤ 1000000) => l04Filling_any _ p N w1 (hpn w1 hn) hf hN)
    have HSR := hid (show ∀ w1 v3 (N : Nat), AutAt w1 v3 (fillN p N) → Calls Tryz.prog 27 #[v3] w1 fun e w' => ∃ r, e = .returned (.tuple #[r, .int .i64 (told (fillW p N)).2]) ∧ New w1 w' ∧ OwnInts w1.heap.size w'.heap.size w' r (told (fillW p N)).1 from fun w1 v3 N h3 => specShortestReset_any v3 (fillN p N) w1 h3 (fillN_ok hf N))
    have HWL := hid (fun N => fillW_len hf N)
    have HIN := hid (fun n x (hx : x ∈ sureIn p n) => sureIn_word hf hx)
    have HSRT := hid (fun n => sureIn_srt p n)
    have HLEN := hid (fun n => sureIn_len p n)
    have HRES := hid (fun v1 v2 ws n w1 (h1 : AutsAt w1 v1 p.n (fun i => (fillN p i).nx) n) (h2 : IntsAt w1 v2 ws) (hw : lettersP p ws) (hn : n ≤ 1048576) => l04Resets_any v1 v2 p ws n w1 h1 h2 hf hw hn)
    have hcnt : fillCount p = p.n.toNat ^ (gapsOf p.nx).length := rfl
    have HE0 := hid (show R = (if 5000 < fillCount p then ([], 3) else (if bestAt (sureF p) (sureIn p (fillCount p)).length < 0 then ([], 6) else (nth (sureIn p (fillCount p)) (bestAt (sureF p) (sureIn p (fillCount p)).length).toNat, 0))) by rw [HR.out, if_pos hok])
    unfold cntCut at HC2
    rw [← hcnt] at HC2
    have HSF := hid (show ∀ k, sureF p k = resTo p (nth (sureIn p (fillCount p)) k) (fillCount p) from fun _ => rfl)
    have HBT := hid (fun k => bestAt_lt (sureF p) k)
    have HSFL := hid (bestM_le (f := sureF p) (C := fillCount p) (fun k => resTo_le p _ _))
    obtain ⟨CC, hCC⟩ : ∃ z, z = fillCount p := ⟨_, rfl⟩
    rw [← hCC] at HC2 HE0 HSF HSFL
    obtain ⟨SF, hSF⟩ : ∃ z, z = sureF p := ⟨_, rfl⟩
    rw [← hSF] at HE0 HSF HBT HSFL
    clear hok hf hcnt hCC HR hp hSF
    go_enter Tryz.func10, Tryz.ntmps10
    go_wp2_with fail
    rw [← hwb]
    clear hwb
    refine C1.mono ?_
    rintro e w1 ⟨rfl, hn1⟩
    go_wp2_with fail
    refine (HC2.out _ hn1).mono ?_
    rintro e w2 ⟨cv, rfl, hn2, hcut⟩
    have hnw2 := hn1.trans hn2
    have hNw := hnb.trans hnw2
    rcases hcut with ⟨h5, rfl⟩ | ⟨h5, h6⟩
    · have b5 : ¬ (5000 : Int) < (CC : Int) := by omega
      have HE1 := hid (show R = (if bestAt SF (sureIn p CC).length < 0 then ([], 6) else (nth (sureIn p CC) (bestAt SF (sureIn p CC).length).toNat, 0)) by rw [HE0.out, if_neg (by omega)])
      have hA0 := fun M => GrowA.empty w2.heap.size 31 M w2 p.n (fun i => (fillN p i).nx) (Nat.le_refl _)
      obtain ⟨w3, hw3⟩ : ∃ w3, w3 = w2.alloc (.cells #[] 31) := ⟨_, rfl⟩
      have hn3 : New w2 w3 := by rw [hw3]; exact (by repeat (first | with_reducible exact New.refl _ | with_reducible assumption | with_reducible refine New.alloc ?_ _ | with_reducible refine New.drewN ?_ _ | with_reducible refine New.drew ?_ | with_reducible refine New.trans ?_ (by with_reducible assumption)))
      have hz3 : w3.heap.size = w2.heap.size + 1 := by rw [hw3]; simp only [size_alloc]
      rw [← hw3] at hA0
      have hW0 := fun M hM => WordsK.empty w2.heap.size 34 M w3 hn3.size hM
      obtain ⟨w4, hw4⟩ : ∃ w4, w4 = w3.alloc (.cells #[] 34) := ⟨_, rfl⟩
      have hn4 : New w3 w4 := by rw [hw4]; exact (by repeat (first | with_reducible exact New.refl _ | with_reducible assumption | with_reducible refine New.alloc ?_ _ | with_reducible refine New.drewN ?_ _ | with_reducible refine New.drew ?_ | with_reducible refine New.trans ?_ (by with_reducible assumption)))
      rw [← hw4] at hW0
      have hS0 := hid (show GrowA w2.heap.size 31 (fun q => (Value.slice (some ⟨w2.heap.size, 0, none⟩) 0 0).ownBlock = some q) w4 (.slice (some ⟨w2.heap.size, 0, none⟩) 0 0) p.n (fun i => (fillN p i).nx) 0 ∧ WordsK w2.heap.size (fun q => (Value.slice (some ⟨w2.heap.size, 0, none⟩) 0 0).ownBlock = some q) w4 (.slice (some ⟨w2.heap.size + 1, 0, none⟩) 0 0) (sureIn p 0) from
        ⟨(hA0 _).new hn4, by rw [← hz3]; exact hW0 _ (fun e => by simp [Value.ownBlock] at e; omega)⟩)
      have hN4 := (hn3.trans hn4)
      clear hA0 hW0
      go_wp2_with fail
      rw [← hw3, ← hw4]
      clear hw3 hw4
      go_loopw [5, 6, 7] (fun lv wv i wr => ∃ n : Nat, n ≤ CC ∧ i = .int .i64 n ∧ New w2 wr ∧ GrowA w2.heap.size 31 (fun q => lv.ownBlock = some q) wr lv p.n (fun i => (fillN p i).nx) n ∧ WordsK w2.heap.size (fun q => lv.ownBlock = some q) wr wv (sureIn p n)) (fun _ _ i _ => CC - (intOf i).toNat)
      case atStart => exact ⟨0, Nat.zero_le _, rfl, hN4, hS0.out.1, hS0.out.2⟩
      case round =>
        obtain ⟨n, hnC, rfl, hnn, hA, hW⟩ := hrel
        clear hS0 hN4
        obtain ⟨wo, rfl⟩ : ∃ wo : World, wo = wr := ⟨_, rfl⟩
        have hno := hnw2.trans hnn
        have hNo := hNw.trans hnn
        have hzo := hNo.size
        obtain ⟨LA, LC, rfl⟩ := hA.form
        obtain ⟨WA, WC, rfl⟩ := hW.form
        by_cases hlt : n < CC
        · have b1 : (n : Int) < (CC : Int) := by omega
          have b2 : (n : Int) < ((n + 1 : Nat) : Int) := by omega
          have hz2o := hnn.size
          have HFN := hid (show (fillN p n).n = p.n from rfl)
          have HWS := hid (show ∀ (w5 w7 : World) (g7 cap7 k : Nat), New wo w5 → w5.grownBy w7 (Value.slice LA n LC).ownBlock → ((Value.slice LA n LC).ownBlock = some g7 ∨ w5.heap.size ≤ g7) → WordsK w2.heap.size (fun q => (Value.slice (some ⟨g7, 0, none⟩) k cap7).ownBlock = some q) w7 (.slice WA (sureIn p n).length WC) (sureIn p n) from fun w5 w7 g7 cap7 k h1 h2 h3 =>
            (hW.new h1).but (S := fun q => (Value.slice LA n LC).ownBlock = some q) (But.of_grown h2 (fun k hk => hk)) (fun q hq => Or.inl hq) (fun q hq => by cases hq; exact h3))
          have hlen := HLEN.out n
          have hwl := HWL.out n
          have HSRn := hid (fun w1 v3 h3 => HSR.out w1 v3 n h3)
          have HMB := hid (fun (g7 cap7 k q w1 : Nat) (h : g7 < w1) (hq : (Value.slice (some ⟨g7, 0, none⟩) k cap7).ownBlock = some q) => (show q < w1 by cases hq; exact h))
          cases hb : (fillW p n).2 with
          | false =>
            have HS := hid (sureIn_no hb)
            rw [show (told (fillW p n)) = ([], 6) by unfold told; rw [hb]; rfl] at HSRn
            clear hb
            go_wp2_with (first
              | (go_at_call 26; refine (HCF.out _ n hno (by omega)).mono ?_; rintro e w5 ⟨r5, rfl, hn5, ho5⟩; obtain ⟨rv5, rfl, ho6⟩ := ho5; obtain ⟨A5, c5, rfl⟩ := ho6.form; rw [HFN.out]; have hA5 := hA.new hn5; have hk5 : KeptRows w2.heap.size (fun q => (Value.slice LA n LC).ownBlock = some q) w5 (.slice A5 (fillN p n).nx.length c5) (fillN p n).nx := ⟨wo.heap.size, w5.heap.size, hz2o, Nat.le_refl _, ho6, fun q hq => Or.inl (hA.block q hq).2⟩; have hz5 := hn5.size)
              | (at_builtin; refine wpList_appA rfl _ _ _ rfl Tryz.underlying57 info_aut rfl rfl (.slice LA n LC) n (fun i => (fillN p i).nx) rfl hA5 rfl (by omega) (by omega) hk5 (fun k hk => hk) ?_; intro g7 cap7 w7 hA7 hg7 hl7; have hN7 : New w2 w7 := New.grown (hnn.trans hn5) hg7 (fun q hq => (hA5.block q hq).1); have hA8 := hA7 (fun q => (Value.slice (some ⟨g7, 0, none⟩) (n + 1) cap7).ownBlock = some q) (fun q hq => by cases hq; exact hl7); have hW7 := HWS.out w5 w7 g7 cap7 (n + 1) hn5 hg7 hl7; obtain ⟨b7, c7, r7, e7, x0, x1, xk⟩ := hA8.row n (Nat.lt_succ_self _); cases e7; obtain ⟨A7, c7, rfl⟩ := xk.at.form)
              | (go_at_call 27; refine (HSRn.out w7 _ ⟨_, rfl, xk.at⟩).mono ?_; rintro e w8 ⟨q8, he, hn8, ho8⟩; obtain ⟨A8, c8, rfl⟩ := ho8.form; subst he; have hW8 := hW7.new hn8; have hA9 := hA8.new hn8; have hN8 := hN7.trans hn8))
            exact ⟨⟨n + 1, by omega, by go_num, hN8, hA9, by rw [HS.out]; exact hW8⟩, by simp [intOf]; omega⟩
          | true =>
            have HS := hid (sureIn_yes hb)
            rw [show (told (fillW p n)) = ((fillW p n).1, 0) by unfold told; rw [hb]; rfl] at HSRn
            clear hb
            go_wp2_with (first
              | (go_at_call 26; refine (HCF.out _ n hno (by omega)).mono ?_; rintro e w5 ⟨r5, rfl, hn5, ho5⟩; obtain ⟨rv5, rfl, ho6⟩ := ho5; obtain ⟨A5, c5, rfl⟩ := ho6.form; rw [HFN.out]; have hA5 := hA.new hn5; have hk5 : KeptRows w2.heap.size (fun q => (Value.slice LA n LC).ownBlock = some q) w5 (.slice A5 (fillN p n).nx.length c5) (fillN p n).nx := ⟨wo.heap.size, w5.heap.size, hz2o, Nat.le_refl _, ho6, fun q hq => Or.inl (hA.block q hq).2⟩; have hz5 := hn5.size)
              | (at_builtin; refine wpList_appA rfl _ _ _ rfl Tryz.underlying57 info_aut rfl rfl (.slice LA n LC) n (fun i => (fillN p i).nx) rfl hA5 rfl (by omega) (by omega) hk5 (fun k hk => hk) ?_; intro g7 cap7 w7 hA7 hg7 hl7; have hN7 : New w2 w7 := New.grown (hnn.trans hn5) hg7 (fun q hq => (hA5.block q hq).1); have hA8 := hA7 (fun q => (Value.slice (some ⟨g7, 0, none⟩) (n + 1) cap7).ownBlock = some q) (fun q hq => by cases hq; exact hl7); have hW7 := HWS.out w5 w7 g7 cap7 (n + 1) hn5 hg7 hl7; obtain ⟨b7, c7, r7, e7, x0, x1, xk⟩ := hA8.row n (Nat.lt_succ_self _); cases e7; obtain ⟨A7, c7, rfl⟩ := xk.at.form)
              | (go_at_call 27; refine (HSRn.out w7 _ ⟨_, rfl, xk.at⟩).mono ?_; rintro e w8 ⟨q8, he, hn8, ho8⟩; obtain ⟨A8, c8, rfl⟩ := ho8.form; subst he; have hW8 := hW7.new hn8; have hA9 := hA8.new hn8; have hN8 := hN7.trans hn8)
              | (go_at_call 36; refine (l07IntoK_any w2.heap.size _ _ _ (fillW p n).1 (sureIn p n) w8 hW8 hN8.size (fun q hq => HMB.out g7 cap7 (n + 1) q w8.heap.size (hA9.block g7 rfl).2 hq) ho8.at (by omega) (by omega) (HSRT.out n)).mono ?_; rintro e w9 ⟨v9, rfl, hn9, hW9⟩))
            exact ⟨⟨n + 1, by omega, by go_num, hN8.trans hn9, hA9.new hn9, by rw [HS.out]; exact hW9⟩, by simp [intOf]; omega⟩
        · have e : n = CC := by omega
          subst e
          have b1 : ¬ (n : Int) < (n : Int) := by omega
          have hlen := HLEN.out n
          have hAA := hA.at
          obtain ⟨gw, cw, rvw, ew, w1', w2', w3', w4', w5', w6'⟩ := id hW
          have eWA : WA = some ⟨gw, 0, none⟩ := by injection ew
          subst eWA
          clear ew w1' w2' w3' w4' w5' hA
          have HW6 := hid w6'
          clear w6'
          obtain ⟨WL, hWL⟩ : ∃ z, z = sureIn p n := ⟨_, rfl⟩
          have HINn := hid (fun x hx => HIN.out n x hx)
          rw [← hWL] at HW6 HE1 hlen HSF HINn hW
          have HWLD := hid hWL
          rw [← hWL]
          clear hWL
          go_wp2_with fail
          go_loopw [10, 11, 12] (fun bv mv iv wr => ∃ k : Nat, k ≤ WL.length ∧ iv = .int .i64 k ∧ bv = .int .i64 (bestAt SF k) ∧ mv = .int .i64 (bestM SF k : Nat) ∧ New wo wr) (fun _ _ iv _ => WL.length - (intOf iv).toNat)
          case atStart => exact ⟨0, Nat.zero_le _, rfl, rfl, rfl, New.refl _⟩
          case round =>
            obtain ⟨k, hk, rfl, rfl, rfl, hm⟩ := hrel
            obtain ⟨wi, rfl⟩ : ∃ wi : World, wi = wr := ⟨_, rfl⟩
            have hbt := HBT.out k
            have hbm := HSFL.out k
            by_cases hkl : k < WL.length
            · have c1 : (k : Int) < (WL.length : Int) := by omega
              obtain ⟨y0, y1⟩ := HW6.out k hkl
              obtain ⟨A6, c6, e6⟩ := y1.at.form
              rw [e6] at y0 y1
              replace y0 := hm.cell y0
              have hyi := y1.at.new hm
              obtain ⟨hlp, _⟩ := HINn.out (nth WL k) (nth_mem _ _ hkl)
              have CR := hid (fun w1 (h1 : New wi w1) => HRES.out _ _ (nth WL k) n w1 (hAA.new (hm.trans h1)) (hyi.new h1) hlp (by omega))
              rw [← HSF.out k] at CR
              have HB1 := hid (show bestAt SF (k + 1) = if bestM SF k < SF k then (k : Int) else bestAt SF k from rfl)
              have HB2 := hid (show bestM SF (k + 1) = if bestM SF k < SF k then SF k else bestM SF k from rfl)
              have hsfk : SF k ≤ n := by rw [HSF.out k]; exact resTo_le p _ _
              obtain ⟨S1, hS1⟩ : ∃ z, z = SF k := ⟨_, rfl⟩
              obtain ⟨M1, hM1⟩ : ∃ z, z = bestM SF k := ⟨_, rfl⟩
              obtain ⟨B1, hB1⟩ : ∃ z, z = bestAt SF k := ⟨_, rfl⟩
              rw [← hS1] at CR HB1 HB2 hsfk
              rw [← hM1] at HB1 HB2 hbm
              rw [← hB1] at HB1 hbt
              rw [← hM1, ← hB1]
              clear hS1 hM1 hB1 e6
              by_cases hgt : M1 < S1
              · have c2 : (M1 : Int) < (S1 : Int) := by omega
                rw [if_pos hgt] at HB1 HB2
                go_wp2_with (go_at_call 37; refine (CR.out _ (New.refl _)).mono ?_; rintro e w8 ⟨rfl, hn8⟩)
                exact ⟨⟨k + 1, by omega, by go_num, by rw [HB1.out], by rw [HB2.out], hm.trans hn8⟩, by simp [intOf]; omega⟩
              · have c2 : ¬ (M1 : Int) < (S1 : Int) := by omega
                rw [if_neg hgt] at HB1 HB2
                go_wp2_with (go_at_call 37; refine (CR.out _ (New.refl _)).mono ?_; rintro e w8 ⟨rfl, hn8⟩)
                exact ⟨⟨k + 1, by omega, by go_num, by rw [HB1.out], by rw [HB2.out], hm.trans hn8⟩, by simp [intOf]; omega⟩
            · have e : k = WL.length := by omega
              subst e
              have c1 : ¬ (WL.length : Int) < (WL.length : Int) := by omega
              have hNi := hNo.trans hm
              obtain ⟨B1, hB1⟩ : ∃ z, z = bestAt SF WL.length := ⟨_, rfl⟩
              rw [← hB1] at HE1 hbt
              rw [← hB1]
              clear hB1
              by_cases hneg : B1 < 0
              · have HE := hid (show R = ([], 6) by rw [HE1.out, if_pos hneg])
                go_wp2_with fail
                go_ret2
                rw [HE.out]
                exact ⟨_, rfl, hNi.trans (by repeat (first | with_reducible exact New.refl _ | with_reducible assumption | with_reducible refine New.alloc ?_ _ | with_reducible refine New.drewN ?_ _ | with_reducible refine New.drew ?_ | with_reducible refine New.trans ?_ (by with_reducible assumption))), made_nil _ _ _ hNi.size⟩
              · have HE := hid (show R = (nth WL B1.toNat, 0) by rw [HE1.out, if_neg hneg])
                obtain ⟨K, hK⟩ : ∃ K : Nat, B1 = (K : Int) := ⟨B1.toNat, by omega⟩
                subst hK
                rw [Int.toNat_natCast] at HE
                have hkl : K < WL.length := by omega
                have c2 : (K : Int) < (WL.length : Int) := by omega
                obtain ⟨y0, y1⟩ := HW6.out K hkl
                obtain ⟨A6, c6, e6⟩ := y1.at.form
                rw [e6] at y0 y1
                replace y0 := hm.cell y0
                clear e6
                go_wp2_with fail
                go_ret2
                rw [HE.out]
                exact ⟨_, rfl, hNi, ((y1.new hm).own).widen hNw.size (Nat.le_refl _)⟩
    · have HE := hid (show R = ([], 3) by rw [HE0.out, if_pos h5])
      go_wp2_with fail
      go_ret2
      rw [HE.out]
      exact ⟨_, rfl, hNw.trans (by repeat (first | with_reducible exact New.refl _ | with_reducible assumption | with_reducible refine New.alloc ?_ _ | with_reducible refine New.drewN ?_ _ | with_reducible refine New.drew ?_ | with_reducible refine New.trans ?_ (by with_reducible assumption))), made_nil _ _ _ hNw.size⟩
end

end Go.Proofs.YthbebnfhplacnaaGreat
