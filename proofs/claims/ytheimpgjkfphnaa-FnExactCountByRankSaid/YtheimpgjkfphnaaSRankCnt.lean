/- The reference's counts of words by their ranks. -/
import Derived.Test.YtheimpgjkfphnaaRows
import Derived.Test.YtheimpgjkfphnaaBase
import Derived.Test.YtheimpgjkfphnaaAut
import Derived.Test.YtheimpgjkfphnaaApp
import Derived.Test.YtheimpgjkfphnaaAppRows
import Derived.Test.YtheimpgjkfphnaaInfo
import Derived.Test.YtheimpgjkfphnaaInfo2
import Derived.Test.YtheimpgjkfphnaaPlain1
import Derived.Test.YtheimpgjkfphnaaPlainRun
import Derived.Test.YtheimpgjkfphnaaPlainSet
import Derived.Test.YtheimpgjkfphnaaPlainBits
import Derived.Test.YtheimpgjkfphnaaPlainTour
import Derived.Test.YtheimpgjkfphnaaMapV
import Derived.Test.YtheimpgjkfphnaaTourV
import Derived.Test.YtheimpgjkfphnaaWalkV
import Derived.Test.YtheimpgjkfphnaaPlainFirst
import Derived.Test.YtheimpgjkfphnaaPlainCnt
import Derived.Test.YtheimpgjkfphnaaOwnC
import Derived.Test.YtheimpgjkfphnaaS00b
import Derived.Test.YtheimpgjkfphnaaS01a
import Derived.Test.YtheimpgjkfphnaaSFlk
import Derived.Test.YtheimpgjkfphnaaSWalk
import Derived.Test.YtheimpgjkfphnaaSLeast
import Derived.Test.YtheimpgjkfphnaaSCnt
import Derived.WalkKit
import Derived.WalkSpells
import Derived.WalkLawsBesides
import Derived.Deep.QuietTactic
import Derived.Deep.OwnRows
import Derived.BigQuiet
import Derived.KernelRfl
import Derived.StillTailTactics
import Derived.Deep.RegionLaw
namespace Go.Proofs.Ytheimpgjkfphnaa
open Go.RowKit

set_option maxRecDepth 20000 in
set_option maxHeartbeats 16000000 in
theorem specCountByRank_any (v1 : Value) (a : Aut) (len : Int) (w : World) (h1 : AutAt w v1 a) :
    Calls Try.prog 22 #[v1, .int .i64 len] w fun e w' => ∃ r, e = .returned (.tuple #[r, .int .i64 (CountByRank a len).2]) ∧ New w w' ∧ OwnInts w.heap.size w'.heap.size w' r (CountByRank a len).1 := by
  obtain ⟨rv, rfl, hr⟩ := h1
  obtain ⟨A, c, rfl, _, hrc⟩ := id hr
  obtain ⟨wb, hwb⟩ : ∃ wb, wb = w.alloc (.cells #[.int .i64 a.n, .slice A a.nx.length c] 26) := ⟨_, rfl⟩
  have hp : PAut wb (.pointer (some ⟨w.heap.size, 0, none⟩)) a := by rw [hwb]; exact PAut.box hr _
  have hnb : New w wb := by rw [hwb]; exact (by repeat (first | with_reducible exact New.refl _ | with_reducible assumption | with_reducible refine New.alloc ?_ _ | with_reducible refine New.drew ?_ | with_reducible refine New.drewN ?_ _ | with_reducible refine New.setCell ?_ (by simp <;> omega) _))
  have hzb : wb.heap.size = w.heap.size + 1 := by rw [hwb]; simp only [size_alloc]
  have hb0 : wb.cell? ⟨w.heap.size, 0, none⟩ = some (.int .i64 a.n) := by rw [hwb]; go_simp
  have hb1 : wb.cell? ⟨w.heap.size, 1, none⟩ = some (.slice A a.nx.length c) := by rw [hwb]; go_simp
  obtain ⟨R, hR⟩ : ∃ R, R = CountByRank a len := ⟨_, rfl⟩
  rw [← hR]
  unfold CountByRank at hR
  have HR := hid hR
  have C1 := l01Ok_any _ a _ hp
  clear hR
  cases ha : autOk a with
  | false =>
    rw [ha] at C1
    have HE := hid (show R = ([], 1) by rw [HR.out, ha]; rfl)
    go_enter Try.func22, Try.ntmps22
    go_wp2_with fail
    rw [← hwb]
    refine C1.mono ?_
    rintro e w1 ⟨rfl, hn1⟩
    have hz1 := hn1.size
    go_wp2
    go_ret2
    rw [HE.out]; exact ⟨_, rfl, (by repeat (first | with_reducible exact New.refl _ | with_reducible assumption | with_reducible refine New.alloc ?_ _ | with_reducible refine New.drewN ?_ _ | with_reducible refine New.drew ?_ | with_reducible refine New.trans ?_ (by with_reducible assumption))), OwnInts.none' _ (by (try simp only [size_alloc, size_drew, size_drewN, size_setCell] at *) <;> omega) (by (try simp only [size_alloc, size_drew, size_drewN, size_setCell] at *) <;> omega)⟩
  | true =>
    rw [ha] at C1
    have han := autOk_n ha
    obtain ⟨n1, n2⟩ := han
    have HA := hid ha
    have C2 := l00In_any len 0 20
    cases hs : inB len 0 20 with
    | false =>
      rw [hs] at C2
      have HE := hid (show R = ([], 2) by rw [HR.out, ha, hs]; rfl)
      go_enter Try.func22, Try.ntmps22
      go_wp2_with fail
      rw [← hwb]
      refine C1.mono ?_
      rintro e w1 ⟨rfl, hn1⟩
      have hz1 := hn1.size
      go_wp2_with fail
      refine (C2 _).mono ?_
      rintro e w' ⟨rfl, rfl⟩
      go_wp2
      go_ret2
      rw [HE.out]; exact ⟨_, rfl, (by repeat (first | with_reducible exact New.refl _ | with_reducible assumption | with_reducible refine New.alloc ?_ _ | with_reducible refine New.drewN ?_ _ | with_reducible refine New.drew ?_ | with_reducible refine New.trans ?_ (by with_reducible assumption))), OwnInts.none' _ (by (try simp only [size_alloc, size_drew, size_drewN, size_setCell] at *) <;> omega) (by (try simp only [size_alloc, size_drew, size_drewN, size_setCell] at *) <;> omega)⟩
    | true =>
      rw [hs] at C2
      have hs' := (inB_iff _ _ _).1 hs
      obtain ⟨L, hL⟩ : ∃ L : Nat, len = (L : Int) := ⟨len.toNat, by omega⟩
      subst hL
      have hL20 : L ≤ 20 := by omega
      have HE0 : R = (rowL (a.n.toNat + 1) fun k => w64 (sumD (tourOf a.nx (full a.n)).sets (fun F => (setOf F).length == k) (cnt a.nx (tourOf a.nx (full a.n)).sets (full a.n) L)), 0) := by rw [HR.out, if_pos ha, if_pos hs, Int.toNat_natCast]; rfl
      have hok := tourOk HA.out (full a.n) (full_lt a.n)
      have hlen := hok.len n2
      obtain ⟨m, hm⟩ : ∃ m : Nat, a.n = (m : Int) := ⟨a.n.toNat, by omega⟩
      have hm10 : m ≤ 10 := by omega
      obtain ⟨N, hN⟩ : ∃ N, N = 2 ^ m := ⟨_, rfl⟩
      have hN10 : N ≤ 1024 := by rw [hN]; exact pow10' m hm10
      have hpn : 2 ^ a.n.toNat = N := by rw [hm, Int.toNat_natCast, hN]
      have HLT := hid (show ∀ i, i < (tourOf a.nx (full a.n)).sets.length → nth (tourOf a.nx (full a.n)).sets i < N from fun i hi => Nat.lt_of_lt_of_eq (hok.lt _ (nth_mem _ _ hi)) hpn)
      have HMV := hid (show ∀ l F, l < a.nx.length → F < N → moved (nth a.nx l) F < N from fun l F hl hF => Nat.lt_of_lt_of_eq (moved_ok ha l F hl (Nat.lt_of_lt_of_eq hF hpn.symm)) hpn)
      have HC3 := hid (fun w1 (hmm : New wb w1) => l02Full_any _ a w1 (hp.new hmm) (by omega) n2)
      have HC4 := hid (fun w1 (hmm : New wb w1) => l02From_any _ a (full a.n) w1 (hp.new hmm) HA.out (full_lt a.n))
      have hfN : full a.n < N := Nat.lt_of_lt_of_eq (full_lt a.n) hpn
      obtain ⟨S, hS⟩ : ∃ S, S = (tourOf a.nx (full a.n)).sets := ⟨_, rfl⟩
      have HPS := hid (show ∀ v w1, PWalk w1 v (tourOf a.nx (full a.n)) → ∃ b A c, v = .pointer (some ⟨b, 0, none⟩) ∧ w1.cell? ⟨b, 0, none⟩ = some (.slice A S.length c) ∧ ∀ i, i < S.length → ∃ b off, A = some ⟨b, off, none⟩ ∧ w1.cell? ⟨b, off + i, none⟩ = some (.int .i64 (nth S i : Nat)) from fun v w1 h => by
        obtain ⟨b, s1, s2, s3, rfl, h0, _, _, h4, _, _⟩ := h
        obtain ⟨A, c, rfl, _, hc⟩ := h4
        rw [hS]
        exact ⟨b, A, c, rfl, h0, hc⟩)
      rw [← hS] at hlen HLT HE0
      have HE := hid HE0
      obtain ⟨f, hf⟩ : ∃ f, f = full a.n := ⟨_, rfl⟩
      rw [← hf] at HC3 HC4 HE hfN HPS
      have hmk := fun w => run_make_row' (P := Try.prog) 36 2 (.int .i64 0) 8 Try.underlying36 info_i64 rfl .i64 .i64 N (by omega) (by omega) w
      have hmk2 : ∀ w : World, (Instr.makeSlice 36 (.int .i64 (Go.RowKit.wrap64 ((2 : Int) ^ m))) (.int .i64 (Go.RowKit.wrap64 ((2 : Int) ^ m)))).run Try.prog w = .ok (.slice (some ⟨w.heap.size, 0, none⟩) N N) (w.alloc (.cells (madeCells #[.int .i64 0] N) 2)) := fun w => by
        rw [two_pow_wrap m hm10, ← hN]; exact hmk w
      have HN := hid hN
      have HM := hid hm
      rw [hm] at hb0
      have HRW := hid (fun l (hl : l < a.nx.length) => autOk_row ha l hl)
      have kfN : (f : Int) < (N : Int) := by omega
      have HRC := hid hrc
      clear hs hs' HE0 hok hS hf hN hm hrc hpn
      go_enter Try.func22, Try.ntmps22
      go_wp2_with fail
      rw [← hwb]
      refine C1.mono ?_
      rintro e w1 ⟨rfl, hn1⟩
      have hz1 := hn1.size
      replace hb0 := hn1.cell hb0
      replace hb1 := hn1.cell hb1
      go_wp2_with fail
      refine (C2 _).mono ?_
      rintro e w' ⟨rfl, rfl⟩
      go_wp2_with fail
      refine (HC3.out _ hn1).mono ?_
      rintro e w' ⟨rfl, rfl⟩
      go_wp2_with fail
      refine (HC4.out _ hn1).mono ?_
      rintro e w2 ⟨v, he, hn2, hv⟩
      obtain ⟨b, A5, c5, rfl, h0, hc⟩ := HPS.out _ _ hv
      subst he
      have HCX := hid hc
      have hnn := hn1.trans hn2
      have hn2' := New.refl w2
      have hnw := hnb.trans hnn
      replace hb0 := hn2.cell hb0
      replace hb1 := hn2.cell hb1
      have hbx : b < w2.heap.size := World.block_lt_of_cell? w2 _ h0
      have hrow0 := OwnInts.made w2 N 2 (by omega)
      have hnm : New w2 (w2.alloc (.cells (madeCells #[.int .i64 0] N) 2)) := (by repeat (first | with_reducible exact New.refl _ | with_reducible assumption | with_reducible refine New.alloc ?_ _ | with_reducible refine New.drew ?_ | with_reducible refine New.drewN ?_ _ | with_reducible refine New.setCell ?_ (by simp <;> omega) _))
      clear hc hv C1 C2
      go_wp2_with fail
      refine (HC3.out _ (hnn.trans hnm)).mono ?_
      rintro e w' ⟨rfl, rfl⟩
      obtain ⟨wA, hwA⟩ : ∃ wA, wA = w2.alloc (.cells (madeCells #[.int .i64 0] N) 2) := ⟨_, rfl⟩
      rw [← hwA] at hrow0 hnm
      have hlr : (List.replicate N (0 : Int)).length = N := by simp
      obtain ⟨x0, f0⟩ := hrow0.cell_at f (by rw [hlr]; omega)
      rw [Nat.zero_add, hwA] at x0 f0
      obtain ⟨wi, hwi⟩ : ∃ wi, wi = wA.setCell ⟨w2.heap.size, f, none⟩ (.int .i64 1) := ⟨_, rfl⟩
      have hrow1 : OwnInts w2.heap.size (w2.heap.size + 1) wi (.slice (some ⟨w2.heap.size, 0, none⟩) N N) (rowL N fun G => w64 (cnt a.nx S f 0 G)) := by
        have := hrow0.set f (by rw [hlr]; omega) 1
        rw [Nat.zero_add, ← hwi, ← rowL_zero, rowL_set _ _ _ _ hfN] at this
        rw [rowL_congr N (fun G => w64 (cnt a.nx S f 0 G)) _ (fun G _ => cnt_zero _ _ _ _)]; exact this
      have hni : New w2 wi := by rw [hwi]; exact hnm.setCell (Nat.le_refl _) _
      rw [hwA] at hwi
      have hwi2 : wi = w2.alloc (.cells ((madeCells #[.int .i64 0] N).setIfInBounds f (.int .i64 1)) 2) := by rw [hwi]; exact World.setCell_alloc_at _ _ _ _ _ rfl
      have HWI := hid hwi2
      clear hlr hrow0 hnm hwA hwi hwi2
      have x0' : (w2.alloc (.cells (madeCells #[.int .i64 0] N) 2)).cell? ⟨w2.heap.size, f, none⟩ = some (.int .i64 (nth (List.replicate N (0 : Int)) f)) := x0
      clear x0
      go_wp2
      rw [← HWI.out]
      clear f0 x0'
      go_loopw [7, 8] (fun q i wr => ∃ (k nb : Nat), k ≤ L ∧ i = .int .i64 k ∧ q = .slice (some ⟨nb, 0, none⟩) N N ∧ OwnInts w2.heap.size wr.heap.size wr (.slice (some ⟨nb, 0, none⟩) N N) (rowL N fun G => w64 (cnt a.nx S f k G)) ∧ New w2 wr) (fun _ i _ => L - (intOf i).toNat)
      case atStart => exact ⟨0, _, Nat.zero_le _, rfl, rfl, hrow1.widen (Nat.le_refl _) (by
        exact World.block_lt_of_cell? wi _ (hrow1.cell_at f (by rw [rowL_len]; exact hfN)).1), hni⟩
      case round =>
        obtain ⟨k, nb, hk, rfl, rfl, ho, hn⟩ := hrel
        obtain ⟨wo, rfl⟩ : ∃ wo : World, wo = wr := ⟨_, rfl⟩
        clear hrow1 hni
        have HO := hid ho
        clear ho
        by_cases hlt : k < L
        · have kb : (k : Int) < (L : Int) := by omega
          have hrowx := OwnInts.made wo N 2 (by omega)
          have hnm : New wo (wo.alloc (.cells (madeCells #[.int .i64 0] N) 2)) := (by repeat (first | with_reducible exact New.refl _ | with_reducible assumption | with_reducible refine New.alloc ?_ _ | with_reducible refine New.drew ?_ | with_reducible refine New.drewN ?_ _ | with_reducible refine New.setCell ?_ (by simp <;> omega) _))
          go_wp2
          go_loopw [10] (fun i wr => ∃ s : Nat, s ≤ S.length ∧ i = .int .i64 s ∧ OwnInts wo.heap.size (wo.heap.size + 1) wr (.slice (some ⟨wo.heap.size, 0, none⟩) N N) (rowL N fun G => midAt a.nx S (cnt a.nx S f k) s 0 G) ∧ New wo wr) (fun i _ => S.length - (intOf i).toNat)
          case atStart => exact ⟨0, Nat.zero_le _, rfl, by rw [rowL_congr N _ (fun _ => 0) (fun G _ => midAt_start _ _ _ _), rowL_zero]; exact hrowx, hnm⟩
          case round =>
            obtain ⟨s, hs, rfl, hoX, hnX⟩ := hrel
            have y0 := (hn.trans hnX).cell h0
            by_cases hlts : s < S.length
            · have ks : (s : Int) < (S.length : Int) := by omega
              go_wp2
              go_loopw [11] (fun i wr => ∃ l : Nat, l ≤ a.nx.length ∧ i = .int .i64 l ∧ OwnInts wo.heap.size (wo.heap.size + 1) wr (.slice (some ⟨wo.heap.size, 0, none⟩) N N) (rowL N fun G => midAt a.nx S (cnt a.nx S f k) s l G) ∧ New wo wr) (fun i _ => a.nx.length - (intOf i).toNat)
              case atStart => exact ⟨0, Nat.zero_le _, rfl, hoX, hnX⟩
              case round =>
                clear hoX hnX y0
                obtain ⟨l, hl, rfl, hoX, hnX⟩ := hrel
                have hnn2 := hn.trans hnX
                have y0 := hnn2.cell h0
                have y1 := hnn2.cell hb1
                by_cases hltl : l < a.nx.length
                · have kl : (l : Int) < (a.nx.length : Int) := by omega
                  obtain ⟨b6, off6, rfl, hx6⟩ := HCX.out s hlts
                  obtain ⟨b7, off7, rv, rfl, hx7, hr7⟩ := HRC.out l hltl
                  have hF := HLT.out s hlts
                  have hto := HMV.out l _ hltl hF
                  have z6 := hnn2.cell hx6
                  have z7 := (hnw.trans hnn2).cell hx7
                  obtain ⟨r1, r2⟩ := HRW.out l hltl
                  have HC := hid (fun w1 (hmm : New w w1) => l02Moved_any rv (nth a.nx l) (nth S s) w1 (hr7.new hmm) (by rw [show (nth a.nx l).length = m by have := HM.out; omega, ← HN.out]; exact hF) (by have := HM.out; omega) (fun i hi => by have := r2 i hi; have := HM.out; omega))
                  obtain ⟨to, hto2⟩ : ∃ to, to = moved (nth a.nx l) (nth S s) := ⟨_, rfl⟩
                  rw [← hto2] at hto HC
                  have HTO := hid hto2
                  obtain ⟨F, hF2⟩ : ∃ F, F = nth S s := ⟨_, rfl⟩
                  rw [← hF2] at hF z6 HC
                  have HF2 := hid hF2
                  obtain ⟨xX, fX⟩ := hoX.cell_at to (by rw [rowL_len]; exact hto)
                  rw [Nat.zero_add] at xX fX
                  rw [nth_rowL _ _ _ hto] at xX
                  have xN := ((HO.out.new hnX).cell_at F (by rw [rowL_len]; exact hF)).1
                  rw [Nat.zero_add] at xN
                  rw [nth_rowL _ _ _ hF] at xN
                  have kto : (to : Int) < (N : Int) := by omega
                  have kF : (F : Int) < (N : Int) := by omega
                  obtain ⟨A8, c8, rfl⟩ := hr7.form
                  have HOX := hid hoX
                  clear r1 r2 hoX hto2 hF2
                  go_wp2_with fail
                  refine wp_region_still_tail 28 (by kernel_rfl) (by kernel_rfl) ?_
                  simp only [List.take_succ_cons, List.take_zero, List.drop_succ_cons, List.drop_zero]
                  repeat still_step
                  refine wpStill_step (fun K hK => ?_)
                  go_simp
                  refine ⟨_, HC.out _ (hnw.trans hnn2).drew, hK _ ?_⟩
                  clear hK K
                  repeat still_step
                  refine wpStill_nil ?_
                  change wpList _ _ _ _ _ wr.drew
                  go_wp2
                  go_roundw
                  case rel =>
                    refine ⟨l + 1, by omega, by go_num, ?_, ?_⟩
                    · have := HOX.out.set to (by rw [rowL_len]; exact hto) (Go.RowKit.wrap64 (midAt a.nx S (cnt a.nx S f k) s l to + w64 (cnt a.nx S f k F)))
                      rw [Nat.zero_add, rowL_set _ _ _ _ hto] at this
                      rw [rowL_congr N (fun G => midAt a.nx S (cnt a.nx S f k) s (l + 1) G) (fun j => if j = to then Go.RowKit.wrap64 (midAt a.nx S (cnt a.nx S f k) s l to + w64 (cnt a.nx S f k F)) else midAt a.nx S (cnt a.nx S f k) s l j) (fun G _ => by
                        rw [midAt_step, ← HTO.out, ← HF2.out]
                        by_cases e : G = to
                        · rw [if_pos e, if_pos e, e]
                        · rw [if_neg e, if_neg e])]
                      exact this.new (New.refl _).drew
                    · exact (hnX.setCell (Nat.le_refl _) _).drew
                  case measure => simp [intOf]; omega
                · have e : l = a.nx.length := by omega
                  subst e
                  go_wp2
                  go_roundw
                  case rel => exact ⟨s + 1, by omega, by go_num, by rw [rowL_congr N _ _ (fun G _ => midAt_next _ _ _ _ _ hlts)]; exact hoX, hnX⟩
                  case measure => simp [intOf]; omega
            · have e : s = S.length := by omega
              have HX := hid hoX
              rw [e, rowL_congr N _ _ (fun G _ => midAt_end _ _ _ _ _)] at HX
              have hbl : wo.heap.size < wr.heap.size := World.block_lt_of_cell? wr _ (HX.out.cell_at f (by rw [rowL_len]; exact hfN)).1
              have hzz := hn.size
              clear hoX
              subst e
              go_wp2
              go_roundw
              case rel => exact ⟨k + 1, _, by omega, by go_num, rfl, HX.out.widen hzz (by omega), hn.trans hnX⟩
              case measure => simp [intOf]; omega
        · have e : L = k := by omega
          subst e
          have y0 := hn.cell h0
          have hmkR : ∀ w : World, (Instr.makeSlice 36 (.int .i64 ((m : Int) + 1)) (.int .i64 ((m : Int) + 1))).run Try.prog w = .ok (.slice (some ⟨w.heap.size, 0, none⟩) (m + 1) (m + 1)) (w.alloc (.cells (madeCells #[.int .i64 0] (m + 1)) 2)) := fun w => by
            have := run_make_row' (P := Try.prog) 36 2 (.int .i64 0) 8 Try.underlying36 info_i64 rfl .i64 .i64 (m + 1) (by omega) (by omega) w
            rwa [show ((m + 1 : Nat) : Int) = (m : Int) + 1 by omega] at this
          have hb0' := (hn2'.trans hn).cell hb0
          have hrowR := OwnInts.made wo (m + 1) 2 (by omega)
          have hnR : New wo (wo.alloc (.cells (madeCells #[.int .i64 0] (m + 1)) 2)) := (by repeat (first | with_reducible exact New.refl _ | with_reducible assumption | with_reducible refine New.alloc ?_ _ | with_reducible refine New.drew ?_ | with_reducible refine New.drewN ?_ _ | with_reducible refine New.setCell ?_ (by simp <;> omega) _))
          go_wp2
          go_loopw [13] (fun i wr => ∃ s : Nat, s ≤ S.length ∧ i = .int .i64 s ∧
            OwnInts wo.heap.size (wo.heap.size + 1) wr (.slice (some ⟨wo.heap.size, 0, none⟩) (m + 1) (m + 1)) (rowL (m + 1) fun k => w64 (pickTo S (fun F => (setOf F).length == k) (cnt a.nx S f L) s)) ∧ New wo wr) (fun i _ => S.length - (intOf i).toNat)
          case atStart =>
            refine ⟨0, Nat.zero_le _, rfl, ?_, hnR⟩
            rw [rowL_congr (m + 1) _ (fun _ => 0) (fun G _ => by unfold pickTo; rw [sumTo_zero, w64_zero]), rowL_zero]; exact hrowR
          case round =>
            obtain ⟨s, hs, rfl, hoR, hnX⟩ := hrel
            have y0' := hnX.cell y0
            by_cases hlts : s < S.length
            · have ks : (s : Int) < (S.length : Int) := by omega
              obtain ⟨b6, off6, rfl, hx6⟩ := HCX.out s hlts
              have hF := HLT.out s hlts
              have z6 := (hn.trans hnX).cell hx6
              have HP := hid (fun d => pickTo_succ S d (cnt a.nx S f L) s hlts)
              obtain ⟨F, hF2⟩ : ∃ F, F = nth S s := ⟨_, rfl⟩
              rw [← hF2] at hF z6 HP
              have hlF : (setOf F).length ≤ m := by
                rw [setOf_eq (f := F) (n := m) (by have := HN.out; omega) hm10]
                exact bitsTo_len F m
              obtain ⟨q, hq⟩ : ∃ q, q = (setOf F).length := ⟨_, rfl⟩
              have C := l02Set_len F q (by omega) hq
              rw [← hq] at hlF
              have HQ := hid hq
              have xN := ((HO.out.new hnX).cell_at F (by rw [rowL_len]; exact hF)).1
              rw [Nat.zero_add] at xN
              rw [nth_rowL _ _ _ hF] at xN
              have kF : (F : Int) < (N : Int) := by omega
              obtain ⟨xR, fR⟩ := hoR.cell_at q (by rw [rowL_len]; omega)
              rw [Nat.zero_add] at xR fR
              rw [nth_rowL _ _ _ (by omega)] at xR
              have kq : (q : Int) < (m : Int) + 1 := by omega
              have HOR := hid hoR
              clear hF2 hq hoR
              go_wp2_with fail
              have g1 : b < wo.heap.size := World.block_lt_of_cell? wo _ y0
              have g2 : b6 < wo.heap.size := World.block_lt_of_cell? wo _ (hn.cell hx6)
              have g3 : nb < wo.heap.size := World.block_lt_of_cell? wo _ (HO.out.cell_at f (by rw [rowL_len]; exact hfN)).1
              have n1 : ¬ b = wo.heap.size := by omega
              have n2' : ¬ b6 = wo.heap.size := by omega
              have n3 : ¬ nb = wo.heap.size := by omega
              clear g1 g2 g3
              clear n1 n2' n3
              go_region_law (go_simp; go_at_call 79; refine (C _).mono ?_; rintro e w9 ⟨A9, c9, rfl, hr9⟩; have hq9 : New wr w9 := New.trans (New.refl _).drew hr9; have q0 := hq9.cell y0'; have q1 := hq9.cell z6; have q2 := hq9.cell xN; have q3 := hq9.cell xR; have q4 := (hq9.frozen xR).trans fR)
              all_goals
                go_wp2
                go_roundw
                case rel =>
                  refine ⟨s + 1, by omega, by go_num, ?_, (hnX.trans hq9).setCell (Nat.le_refl _) _⟩
                  have := (HOR.out.new hq9).set q (by rw [rowL_len]; omega) (Go.RowKit.wrap64 (w64 (pickTo S (fun F => (setOf F).length == q) (cnt a.nx S f L) s) + w64 (cnt a.nx S f L F)))
                  rw [Nat.zero_add, rowL_set _ _ _ _ (by omega)] at this
                  rw [rowL_congr (m + 1) (fun k => w64 (pickTo S (fun F => (setOf F).length == k) (cnt a.nx S f L) (s + 1))) (fun j => if j = q then Go.RowKit.wrap64 (w64 (pickTo S (fun F => (setOf F).length == q) (cnt a.nx S f L) s) + w64 (cnt a.nx S f L F)) else w64 (pickTo S (fun F => (setOf F).length == j) (cnt a.nx S f L) s)) (fun G _ => by
                    rw [HP.out]
                    by_cases e : G = q
                    · rw [if_pos e, if_pos (by rw [e, HQ.out]; simp), w64_add, e]
                    · rw [if_neg e, if_neg (by rw [← HQ.out]; simp; omega), Int.add_zero])]
                  exact this
                case measure => simp [intOf]; omega
            · have e : s = S.length := by omega
              subst e
              have HOR := hid hoR
              clear hoR
              go_wp2
              go_ret2
              rw [HE.out]
              refine ⟨_, rfl, (hnw.trans hn).trans hnX, ?_⟩
              have := HOR.out
              rw [rowL_congr (m + 1) _ (fun k => w64 (sumD S (fun F => (setOf F).length == k) (cnt a.nx S f L))) (fun G _ => by rw [pickTo_all])] at this
              rw [HM.out, Int.toNat_natCast]
              exact this.widen (by have := (hnw.trans hn).size; omega) (World.block_lt_of_cell? wr _ (this.cell_at 0 (by rw [rowL_len]; omega)).1)

end Go.Proofs.Ytheimpgjkfphnaa
