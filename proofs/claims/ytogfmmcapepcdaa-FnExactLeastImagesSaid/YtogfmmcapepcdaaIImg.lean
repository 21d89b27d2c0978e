/- The program's images of the least rank. -/
import Derived.Test.YtogfmmcapepcdaaRows
import Derived.Test.YtogfmmcapepcdaaCore
import Derived.Test.YtogfmmcapepcdaaInfo
import Derived.Test.YtogfmmcapepcdaaPlains
import Derived.Test.YtogfmmcapepcdaaPlainOrd
import Derived.Test.YtogfmmcapepcdaaPlainIns
import Derived.Test.YtogfmmcapepcdaaPlainImg
import Derived.Test.YtogfmmcapepcdaaMaps
import Derived.Test.YtogfmmcapepcdaaRowsSwap
import Derived.Test.YtogfmmcapepcdaaSortRows
import Derived.Test.YtogfmmcapepcdaaICmp
import Derived.Test.YtogfmmcapepcdaaI01a
import Derived.Test.YtogfmmcapepcdaaI01b
import Derived.Test.YtogfmmcapepcdaaI01c
import Derived.Test.YtogfmmcapepcdaaIIdx
import Derived.Test.YtogfmmcapepcdaaIRen
import Derived.Test.YtogfmmcapepcdaaIFlk
import Derived.Test.YtogfmmcapepcdaaITour
import Derived.Test.YtogfmmcapepcdaaIFor
import Derived.Test.YtogfmmcapepcdaaILeast
import Derived.WalkKit
import Derived.WalkSpells
import Derived.WalkLawsBesides
import Derived.Deep.QuietTactic
import Derived.Deep.OwnRows
import Derived.BigQuiet
import Derived.KernelRfl
import Derived.Deep.RegionHeld3
import Derived.Shelf.SlSortCmp.Whole1
namespace Go.Proofs.Ytogfmmcapepcdaa
open Go.RowKit

set_option maxRecDepth 20000 in
set_option maxHeartbeats 1000000 in
theorem rank_any (v1 : Value) (a : Aut) (w : World) (h1 : AutAt w v1 a) (ha : autOk a = true) :
    Calls Try.prog 38 #[v1] w fun e w' => e = .returned (.int .i64 (leastOf a.nx (full a.n) : Nat)) ∧ New w w' := by
  obtain ⟨rv, rfl, hr⟩ := h1
  obtain ⟨A, c, rfl⟩ := hr.form
  have h1 : AutAt w (.agg #[.int .i64 a.n, .slice A a.nx.length c]) a := ⟨_, rfl, hr⟩
  have han := autOk_n ha
  obtain ⟨wb, hwb⟩ : ∃ wb, wb = w.alloc (.cells #[.int .i64 a.n, .slice A a.nx.length c] 28) := ⟨_, rfl⟩
  have hnb : New w wb := by rw [hwb]; exact (by repeat (first | with_reducible exact New.refl _ | with_reducible assumption | with_reducible refine New.alloc ?_ _ | with_reducible refine New.drew ?_ | with_reducible refine New.drewN ?_ _ | with_reducible refine New.setCell ?_ (by simp <;> omega) _))
  have hb0 : wb.cell? ⟨w.heap.size, 0, none⟩ = some (.int .i64 a.n) := by rw [hwb]; go_simp
  have hb1 : wb.cell? ⟨w.heap.size, 1, none⟩ = some (.slice A a.nx.length c) := by rw [hwb]; go_simp
  have HC1 := hid (fun w1 (hm : New w w1) => all_any _ a w1 (h1.new hm) ha)
  have HC2 := hid (fun v w1 (h : IntsAt w1 v (iota 0 a.n.toNat)) => flockOf_any v _ w1 h (sIota a ha))
  rw [full_iota a.n (by omega)] at HC2
  have HC3 := hid (fun w1 (hm : New w w1) => least_any _ a (full a.n) w1 (h1.new hm) ha (full_lt a.n))
  clear ha
  go_enter Try.func38, Try.ntmps38
  go_wp2_with fail
  rw [← hwb]
  clear hwb
  go_region_held3 (fun w' => w'.cell? ⟨w.heap.size, 0, none⟩ = some (.int .i64 a.n) ∧ w'.cell? ⟨w.heap.size, 1, none⟩ = some (.slice A a.nx.length c))
    (first | go_keep | exact ⟨hq2.cell hb0, hq2.cell hb1⟩ | exact ⟨hq3.cell hb0, hq3.cell hb1⟩)
    (first
      | (go_at_call 41; refine (HC1.out _ (hnb.trans (New.refl _).drew)).mono ?_; rintro e w3 ⟨r2, he, hr2, ho2⟩; obtain ⟨A2, c2, rfl⟩ := ho2.form; subst he; have hq2 : New wb w3 := New.trans (New.refl _).drew hr2)
      | (go_at_call 40; refine (HC2.out _ _ ho2.at).mono ?_; rintro e w' ⟨rfl, rfl⟩)
      | (go_at_call 87; refine (HC3.out _ (hnb.trans hq2)).mono ?_; rintro e w4 ⟨rfl, hr3⟩; have hq3 : New wb w4 := hq2.trans hr3))
  go_wp2
  go_ret
  exact ⟨rfl, hnb.trans hq3⟩
set_option maxRecDepth 20000 in
set_option maxHeartbeats 2000000 in
theorem implLeastImages_any (v1 : Value) (a : Aut) (w : World) (h1 : AutAt w v1 a) :
    Calls Try.prog 10 #[v1] w fun e w' => ∃ r, e = .returned (.tuple #[r, .int .i64 (LeastImages a).2]) ∧ New w w' ∧ OwnRows w.heap.size w'.heap.size w' r (LeastImages a).1 := by
  obtain ⟨rv, rfl, hr⟩ := h1
  obtain ⟨A, c, rfl⟩ := hr.form
  have h1 : AutAt w (.agg #[.int .i64 a.n, .slice A a.nx.length c]) a := ⟨_, rfl, hr⟩
  obtain ⟨wb, hwb⟩ : ∃ wb, wb = w.alloc (.cells #[.int .i64 a.n, .slice A a.nx.length c] 28) := ⟨_, rfl⟩
  have hnb : New w wb := by rw [hwb]; exact (by repeat (first | with_reducible exact New.refl _ | with_reducible assumption | with_reducible refine New.alloc ?_ _ | with_reducible refine New.drew ?_ | with_reducible refine New.drewN ?_ _ | with_reducible refine New.setCell ?_ (by simp <;> omega) _))
  have hb0 : wb.cell? ⟨w.heap.size, 0, none⟩ = some (.int .i64 a.n) := by rw [hwb]; go_simp
  have hb1 : wb.cell? ⟨w.heap.size, 1, none⟩ = some (.slice A a.nx.length c) := by rw [hwb]; go_simp
  obtain ⟨R, hR⟩ : ∃ R, R = LeastImages a := ⟨_, rfl⟩
  rw [← hR]
  unfold LeastImages at hR
  have HR := hid hR
  clear hR
  have C1 := ValidAutomaton_any _ a _ (h1.new hnb)
  cases ha : autOk a with
  | false =>
    rw [ha] at C1
    have HE := hid (show R = ([], 1) by rw [HR.out, ha]; rfl)
    go_enter Try.func10, Try.ntmps10
    go_wp2_with fail
    rw [← hwb]
    refine C1.mono ?_
    rintro e w1 ⟨rfl, hn1⟩
    go_wp2
    go_ret2
    rw [HE.out]
    exact ⟨_, rfl, hnb.trans hn1, none, 0, fun _ => default, rfl, by simp, by simp, by simp, by simp⟩
  | true =>
    rw [ha] at C1
    have han := autOk_n ha
    obtain ⟨b, hb⟩ : ∃ b, b = leastOf a.nx (full a.n) := ⟨_, rfl⟩
    have HE := hid (show R = (buildR lexLt (imgs (tourOf a.nx (full a.n)).sets b (tourOf a.nx (full a.n)).sets.length), 0) by rw [HR.out, ha, hb]; rfl)
    have hsome := imgs_some ha (full a.n) (full_lt a.n)
    have HC0 := hid (fun w1 (hm : New w w1) => rank_any _ a w1 (h1.new hm) ha)
    rw [← hb] at hsome HC0
    clear hb
    have HOK := hid (tourOk ha (full a.n) (full_lt a.n))
    have hlen := HOK.out.len han.2
    have hpos := HOK.out.pos
    have HC1 := hid (fun w1 (hm : New w w1) => all_any _ a w1 (h1.new hm) ha)
    have HC2 := hid (fun v w1 (h : IntsAt w1 v (iota 0 a.n.toNat)) => flockOf_any v _ w1 h (sIota a ha))
    rw [full_iota a.n (by omega)] at HC2
    have HC3 := hid (fun w1 (hm : New w w1) => tour_any _ a (full a.n) w1 (h1.new hm) ha (full_lt a.n))
    obtain ⟨T, hT⟩ : ∃ T, T = tourOf a.nx (full a.n) := ⟨_, rfl⟩
    rw [← hT] at HC3 HE HOK hlen hpos hsome
    clear hT ha
    have HLT := hid (fun k (hk : k < T.sets.length) => (show nth T.sets k < 1024 from lt_10 (HOK.out.lt _ (nth_mem _ _ hk)) (by omega)))
    have hent := enters Try.func45 (by decide) (by simp [Try.f45])
    have HENT := hid hent
    have hfd := fun (Al : Option Addr) (cl mb : Nat) (w : World) => (show (Instr.field 65 (.agg #[.slice Al T.sets.length cl, .map (some mb)]) 0).run Try.prog w = .ok (.slice Al T.sets.length cl) w by kernel_rfl)
    clear hent
    go_enter Try.func10, Try.ntmps10
    go_wp2_with fail
    rw [← hwb]
    refine C1.mono ?_
    rintro e w1 ⟨rfl, hn1⟩
    replace hb0 := hn1.cell hb0
    replace hb1 := hn1.cell hb1
    go_wp2_with fail
    refine (HC0.out _ (hnb.trans hn1)).mono ?_
    rintro e w1' ⟨rfl, hn1'⟩
    replace hb0 := hn1'.cell hb0
    replace hb1 := hn1'.cell hb1
    replace hn1 := hn1.trans hn1'
    clear hn1' C1
    obtain ⟨w1, rfl⟩ : ∃ w9, w9 = w1' := ⟨_, rfl⟩
    have hs1 := (hnb.trans hn1).size
    have hG0 := GrowRows.empty w.heap.size 35 w1 hs1
    have hN0 : New w1 (w1.alloc (.cells #[] 35)) := (by repeat (first | with_reducible exact New.refl _ | with_reducible assumption | with_reducible refine New.alloc ?_ _ | with_reducible refine New.drew ?_ | with_reducible refine New.drewN ?_ _ | with_reducible refine New.setCell ?_ (by simp <;> omega) _))
    obtain ⟨go, hgo⟩ : ∃ go, go = w1.heap.size := ⟨_, rfl⟩
    go_wp2_with fail
    rw [← hgo] at hG0 ⊢
    replace hb0 := hN0.cell hb0
    replace hb1 := hN0.cell hb1
    have hNw := (hnb.trans hn1).trans hN0
    have hgo2 : go < (w1.alloc (.cells #[] 35)).heap.size := by rw [hgo, size_alloc]; exact Nat.lt_succ_self _
    clear hgo
    generalize (w1.alloc (.cells #[] 35)) = w2 at hG0 hN0 hb0 hb1 hNw hgo2 ⊢
    clear hN0 hs1 hn1 hnb hwb
    go_region_held3 (fun w' => w'.cell? ⟨w.heap.size, 0, none⟩ = some (.int .i64 a.n) ∧ w'.cell? ⟨w.heap.size, 1, none⟩ = some (.slice A a.nx.length c))
      (first | go_keep | exact ⟨hq2.cell hb0, hq2.cell hb1⟩ | exact ⟨hq3.cell hb0, hq3.cell hb1⟩)
      (first
        | (go_at_call 41; refine (HC1.out _ (hNw.trans (New.refl _).drew)).mono ?_; rintro e w3 ⟨r2, he, hr2, ho2⟩; obtain ⟨A2, c2, rfl⟩ := ho2.form; subst he; have hq2 : New w2 w3 := New.trans (New.refl _).drew hr2)
        | (go_at_call 40; refine (HC2.out _ _ ho2.at).mono ?_; rintro e w' ⟨rfl, rfl⟩)
        | (go_at_call 39; refine (HC3.out _ (hNw.trans hq2)).mono ?_; rintro e w4 ⟨lv, mb, rfl, hr3, hT⟩; obtain ⟨Al, cl, rfl⟩ := hT.form; have hq3 : New w2 w4 := hq2.trans hr3))
    obtain ⟨A9, c9, e9, _, hcs⟩ := hT.nats (by omega)
    cases e9
    have HCS := hid hcs
    have hG4 := hG0.new hq3
    obtain ⟨_, _, _, _, _, hTg, _⟩ := id hT
    have hTb := hTg.block
    have hz23 := hq2.size
    clear hTg
    have hN4 := hNw.trans hq3
    have hz4 := hN4.size
    clear hT hr3 hr2 ho2 hq2 hG0 hNw hcs hb0 hb1 hq3
    go_wp2_with fail
    go_loopw [5, 21] (fun o i wr => ∃ k : Nat, i = .int .i64 k ∧ k ≤ T.sets.length ∧ New w wr ∧ w4.heap.size ≤ wr.heap.size ∧ Hid (∀ b, w2.heap.size ≤ b → b < w4.heap.size → wr.heap[b]? = w4.heap[b]?) ∧ Hid (∀ q, o.ownBlock = some q → q < w2.heap.size ∨ w4.heap.size ≤ q) ∧ GrowRows w.heap.size 35 wr o (imgs T.sets b k)) (fun _ i _ => T.sets.length - (intOf i).toNat)
    case atStart => exact ⟨0, rfl, Nat.zero_le _, hN4, Nat.le_refl _, hid (fun _ _ _ => rfl), hid (fun q hq => Or.inl (by simp [Value.ownBlock] at hq; omega)), by rw [imgs_zero]; exact hG4⟩
    case round =>
      obtain ⟨k, rfl, hk, hnr, hzr4, hkeep, hloc, hg⟩ := hrel
      clear hG4
      obtain ⟨wo, rfl⟩ : ∃ wo : World, wo = wr := ⟨_, rfl⟩
      obtain ⟨Ao, co, rfl⟩ := hg.form
      obtain ⟨O, hO⟩ : ∃ O, O = imgs T.sets b k := ⟨_, rfl⟩
      have HOL := hid (show O.length ≤ k by rw [hO]; exact imgs_len T.sets b k hk)
      have HOD := hid hO
      have HLOC' := hloc.out
      rw [← hO] at hg HLOC' ⊢
      have HLOC := hid HLOC'
      clear HLOC' hO
      have hzr : w.heap.size ≤ wo.heap.size := Nat.le_trans hz4 hzr4
      by_cases hlt : k < T.sets.length
      · have b1 : (k : Int) < (T.sets.length : Int) := by omega
        obtain ⟨bs, os, rfl, hx⟩ := HCS.out k hlt
        have hbs := hTb bs rfl
        replace hx : wo.cell? ⟨bs, os + k, none⟩ = some (.int .u64 (nth T.sets k : Nat)) := by
          rw [World.cell?_of_block (w := w4) (hkeep.out bs (by omega) hbs.2)]; exact hx
        have hF := HLT.out k hlt
        have hsl := bitsTo_len (nth T.sets k) 10
        obtain ⟨X, hX⟩ : ∃ X, X = setOf (nth T.sets k) := ⟨_, rfl⟩
        have C5 := hid (fun w1 => set_any (nth T.sets k) w1 hF)
        have C6 := hid (fun w1 => count_any (nth T.sets k) w1 hF)
        rw [← hX] at C5 C6
        by_cases hq : X.length = b
        · have HS := hid (show imgs T.sets b (k + 1) = O ++ [X] by rw [imgs_yes _ _ _ hlt (by rw [← hX]; exact hq), ← HOD.out, hX])
          have e1 : ((X.length : Int) == (b : Int)) = true := by simp [hq]
          have hXl : X.length ≤ 10 := by rw [hX]; exact hsl
          clear hq hX
          go_wp2_with (first
            | (go_at_call 42; refine (C6.out _).mono ?_; rintro e w5' ⟨rfl, hn5'⟩; have hg' := hg.new hn5'; have hzr5 := hn5'.size)
            | (go_at_call 43; refine (C5.out _).mono ?_; rintro e w5 ⟨r5, he, hn5, ho5⟩; obtain ⟨A5, c5, rfl⟩ := ho5.form; subst he)
            | (at_builtin; refine wpList_appRowsL rfl _ _ _ rfl Try.underlying22 info_ints (.slice Ao O.length co) O X rfl hg' hn5 ho5 rfl (by have := HOL.out; omega) (by omega) ?_; intro g6 cap6 w6 ho6 hg6 hl6))
          go_roundw
          case rel =>
            have hv := hg.block
            have hs5 := hn5.size
            have hs6 := hg6.size
            exact ⟨k + 1, by go_num, by omega, New.grown ((hnr.trans hn5').trans hn5) hg6 (fun q hq => by have := hv q hq; omega), by omega, hid (fun b hb1 hb2 => by
              rw [hg6.block b (by omega) (fun e => by have := HLOC.out b e.symm; omega), hn5.block b (by omega), hn5'.block b (by omega)]
              exact hkeep.out b hb1 hb2), hid (fun q hq => by
              simp [Value.ownBlock] at hq
              subst hq
              rcases hl6 with h | h
              · exact HLOC.out _ h
              · exact Or.inr (by omega)), by rw [HS.out]; exact ho6⟩
          case measure => simp [intOf]; omega
        · have HS := hid (show imgs T.sets b (k + 1) = O by rw [imgs_no _ _ _ hlt (by rw [← hX]; exact hq), ← HOD.out])
          have e1 : ((X.length : Int) == (b : Int)) = false := by simp; omega
          clear hq hX
          go_wp2_with (go_at_call 42; refine (C6.out _).mono ?_; rintro e w5 ⟨rfl, hn5⟩)
          go_roundw
          case rel =>
            have hs5 := hn5.size
            exact ⟨k + 1, by go_num, by omega, hnr.trans hn5, by omega, hid (fun b hb1 hb2 => by
              rw [hn5.block b (by omega)]
              exact hkeep.out b hb1 hb2), HLOC, by rw [HS.out]; exact hg.new hn5⟩
          case measure => simp [intOf]; omega
      · have e : k = T.sets.length := by omega
        subst e
        have HD := HOD.out
        have hx0 : 0 < O.length := by rw [HD]; exact hsome
        have hxl : O.length ≤ 1048576 := by have := HOL.out; omega
        obtain ⟨g5, cap5, A5, n5, e5, _, _, _⟩ := hg.rowAt 0 hx0
        have q5 : Ao = some ⟨g5, 0, none⟩ := by injection e5
        subst q5
        clear e5 HD
        have C := SortRows_any lexC lex_total 45 #[] g5 O.length co _ wo hg hx0 hxl HENT.out (fun w' v1 v2 x y a b => (CompareInts_any v1 v2 x y w' a b).mono fun _ _ ⟨p, q⟩ => ⟨p, 0, #[], by rw [q, Go.Sort.grow_empty]; rfl⟩)
        have hgb := hg.block g5 rfl
        have HG := hid hg
        clear hg
        go_wp2_with (go_at_call 44; refine C.mono ?_; rintro e w5 ⟨rfl, hg5, hG5⟩)
        go_ret2
        rw [HE.out]
        refine ⟨_, rfl, New.grown hnr hg5 (fun q hq => by cases hq; exact hgb.1), ?_⟩
        rw [← HOD.out]
        have := hG5.own (by rw [buildR_len]; omega)
        exact this

end Go.Proofs.Ytogfmmcapepcdaa
