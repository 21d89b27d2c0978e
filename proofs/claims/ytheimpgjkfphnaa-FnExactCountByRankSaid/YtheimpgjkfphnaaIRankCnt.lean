/- The program's counts of words by their ranks. -/
import Derived.Test.YtheimpgjkfphnaaRows
import Derived.Test.YtheimpgjkfphnaaBase
import Derived.Test.YtheimpgjkfphnaaAut
import Derived.Test.YtheimpgjkfphnaaApp
import Derived.Test.YtheimpgjkfphnaaAppRows
import Derived.Test.YtheimpgjkfphnaaInfo
import Derived.Test.YtheimpgjkfphnaaPlain1
import Derived.Test.YtheimpgjkfphnaaPlainRun
import Derived.Test.YtheimpgjkfphnaaPlainSet
import Derived.Test.YtheimpgjkfphnaaPlainBits
import Derived.Test.YtheimpgjkfphnaaPlainTour
import Derived.Test.YtheimpgjkfphnaaPlainFirst
import Derived.Test.YtheimpgjkfphnaaPlainRen
import Derived.Test.YtheimpgjkfphnaaPlainCnt
import Derived.Test.YtheimpgjkfphnaaMapV
import Derived.Test.YtheimpgjkfphnaaMapR
import Derived.Test.YtheimpgjkfphnaaTourV
import Derived.Test.YtheimpgjkfphnaaOwnC
import Derived.Test.YtheimpgjkfphnaaI01a
import Derived.Test.YtheimpgjkfphnaaI01b
import Derived.Test.YtheimpgjkfphnaaI01c
import Derived.Test.YtheimpgjkfphnaaIIdx
import Derived.Test.YtheimpgjkfphnaaIFlk
import Derived.Test.YtheimpgjkfphnaaITour
import Derived.Test.YtheimpgjkfphnaaIRen
import Derived.Test.YtheimpgjkfphnaaIFirst
import Derived.Test.YtheimpgjkfphnaaINum
import Derived.Test.YtheimpgjkfphnaaICnt
import Derived.WalkKit
import Derived.WalkSpells
import Derived.WalkLawsBesides
import Derived.Deep.QuietTactic
import Derived.Deep.OwnRows
import Derived.BigQuiet
import Derived.KernelRfl
import Derived.Carry
import Derived.Maps.RangeWalk
namespace Go.Proofs.Ytheimpgjkfphnaa
open Go.RowKit

set_option maxHeartbeats 400000 in
theorem CountByRank1_any (b2 : Nat) (len : Int) (w : World) (h2 : w.cell? ⟨b2, 0, none⟩ = some (.int .i64 len)) :
    Calls Try.prog 80 #[.pointer (some ⟨b2, 0, none⟩)] w fun e w' => e = .returned (.bool (inB len 0 20)) ∧ New w w' := by
  go_enter Try.func80, Try.ntmps80
  go_wp2_with (go_at_call 76; refine (within_any _ _ _ _).mono ?_; rintro e w2 ⟨rfl, rfl⟩)
  go_ret
  exact ⟨rfl, (by repeat (first | with_reducible exact New.refl _ | with_reducible assumption | with_reducible refine New.alloc ?_ _ | with_reducible refine New.drewN ?_ _ | with_reducible refine New.drew ?_ | with_reducible refine New.trans ?_ (by with_reducible assumption)))⟩
set_option maxRecDepth 20000 in
set_option maxHeartbeats 2000000 in
theorem implCountByRank_any (v1 : Value) (a : Aut) (len : Int) (w : World) (h1 : AutAt w v1 a) :
    Calls Try.prog 23 #[v1, .int .i64 len] w fun e w' => ∃ r, e = .returned (.tuple #[r, .int .i64 (CountByRank a len).2]) ∧ New w w' ∧ OwnInts w.heap.size w'.heap.size w' r (CountByRank a len).1 := by
  obtain ⟨rv, rfl, hr⟩ := h1
  obtain ⟨A, c, rfl⟩ := hr.form
  have h1 : AutAt w (.agg #[.int .i64 a.n, .slice A a.nx.length c]) a := ⟨_, rfl, hr⟩
  obtain ⟨wb, hwb⟩ : ∃ wb, wb = (w.alloc (.cells #[.int .i64 a.n, .slice A a.nx.length c] 26)).alloc (.cells #[.int .i64 len] 2) := ⟨_, rfl⟩
  have hnb : New w wb := by rw [hwb]; exact (by repeat (first | with_reducible exact New.refl _ | with_reducible assumption | with_reducible refine New.alloc ?_ _ | with_reducible refine New.drew ?_ | with_reducible refine New.drewN ?_ _ | with_reducible refine New.setCell ?_ (by simp <;> omega) _))
  have hzb : wb.heap.size = w.heap.size + 2 := by rw [hwb]; simp only [size_alloc]
  have hb0 : wb.cell? ⟨w.heap.size, 0, none⟩ = some (.int .i64 a.n) := by rw [hwb]; go_simp
  have hb1 : wb.cell? ⟨w.heap.size, 1, none⟩ = some (.slice A a.nx.length c) := by rw [hwb]; go_simp
  have hb2 : wb.cell? ⟨w.heap.size + 1, 0, none⟩ = some (.int .i64 len) := by rw [hwb]; go_simp
  have HC : Calls Try.prog 61 #[.agg #[.int .i64 a.n, .slice A a.nx.length c], .func (.func 80) #[] #[.pointer (some ⟨w.heap.size + 1, 0, none⟩)]] wb
      fun e w' => e = .returned (.int .i64 (codeOf (autOk a) (inB len 0 20))) ∧ New wb w' := by
    refine code_any _ a _ _ _ _ (h1.new hnb) (enters Try.func80 (by decide) (by simp [Try.f80])) fun ha w' hw => ?_
    exact CountByRank1_any _ _ _ (hw.cell hb2)
  obtain ⟨R, hR⟩ : ∃ R, R = CountByRank a len := ⟨_, rfl⟩
  rw [← hR]
  unfold CountByRank at hR
  have HR := hid hR
  clear hR
  cases ha : autOk a with
  | false =>
    rw [ha] at HC
    have e : codeOf false (inB len 0 20) = 1 := rfl
    rw [e] at HC
    have HE := hid (show R = ([], 1) by rw [HR.out, ha]; rfl)
    go_enter Try.func23, Try.ntmps23
    go_wp2_with fail
    rw [← hwb]
    refine HC.mono ?_
    rintro e w1 ⟨rfl, hn1⟩
    go_wp2
    go_ret2
    rw [HE.out]; exact ⟨_, rfl, (by repeat (first | with_reducible exact New.refl _ | with_reducible assumption | with_reducible refine New.alloc ?_ _ | with_reducible refine New.drewN ?_ _ | with_reducible refine New.drew ?_ | with_reducible refine New.trans ?_ (by with_reducible assumption))), OwnInts.nil _ _ _⟩
  | true =>
    rw [ha] at HC
    have HA := hid ha
    cases hs : inB len 0 20 with
    | false =>
      rw [hs] at HC
      have e : codeOf true false = 2 := rfl
      rw [e] at HC
      have HE := hid (show R = ([], 2) by rw [HR.out, ha, hs]; rfl)
      go_enter Try.func23, Try.ntmps23
      go_wp2_with fail
      rw [← hwb]
      refine HC.mono ?_
      rintro e w1 ⟨rfl, hn1⟩
      go_wp2
      go_ret2
      rw [HE.out]; exact ⟨_, rfl, (by repeat (first | with_reducible exact New.refl _ | with_reducible assumption | with_reducible refine New.alloc ?_ _ | with_reducible refine New.drewN ?_ _ | with_reducible refine New.drew ?_ | with_reducible refine New.trans ?_ (by with_reducible assumption))), OwnInts.nil _ _ _⟩
    | true =>
      rw [hs] at HC
      have e : codeOf true true = 0 := rfl
      rw [e] at HC
      have hs' := (inB_iff _ _ _).1 hs
      obtain ⟨L, hL⟩ : ∃ L : Nat, len = (L : Int) := ⟨len.toNat, by omega⟩
      subst hL
      have HE := hid (show R = (rowL (a.n.toNat + 1) fun k => w64 (sumD (tourOf a.nx (full a.n)).sets (fun F => (setOf F).length == k) (cnt a.nx (tourOf a.nx (full a.n)).sets (full a.n) L)), 0) by rw [HR.out, if_pos ha, if_pos hs, Int.toNat_natCast]; rfl)
      have han := autOk_n ha
      have hokT := tourOk ha (full a.n) (full_lt a.n)
      have HND := hid hokT.nodup
      have HS10 := hid (show ∀ x, x ∈ (tourOf a.nx (full a.n)).sets → x < 1024 from fun x hx => lt_10 (hokT.lt x hx) (by omega))
      have HLT := hid (show ∀ x, x ∈ (tourOf a.nx (full a.n)).sets → x < 2 ^ a.n.toNat from hokT.lt)
      obtain ⟨m, hm⟩ : ∃ m : Nat, a.n = (m : Int) := ⟨a.n.toNat, by omega⟩
      have hm10 : m ≤ 10 := by omega
      have hmkR : ∀ w : World, (Instr.makeSlice 36 (.int .i64 ((m : Int) + 1)) (.int .i64 ((m : Int) + 1))).run Try.prog w = .ok (.slice (some ⟨w.heap.size, 0, none⟩) (m + 1) (m + 1)) (w.alloc (.cells (madeCells #[.int .i64 0] (m + 1)) 2)) := fun w => by
        have := run_make_row' (P := Try.prog) 36 2 (.int .i64 0) 8 Try.underlying36 info_i64 rfl .i64 .i64 (m + 1) (by omega) (by omega) w
        rwa [show ((m + 1 : Nat) : Int) = (m : Int) + 1 by omega] at this
      have HM := hid hm
      have HCN := hid (fun w1 (hm : New w w1) => counts_any _ a L w1 (h1.new hm) ha (by omega))
      obtain ⟨S, hS⟩ : ∃ S, S = (tourOf a.nx (full a.n)).sets := ⟨_, rfl⟩
      rw [← hS] at HND HS10 HLT HCN HE
      obtain ⟨val, hval⟩ : ∃ val, val = cnt a.nx S (full a.n) L := ⟨_, rfl⟩
      rw [← hval] at HCN HE
      clear hs hs' ha hokT hS hval e hm
      go_enter Try.func23, Try.ntmps23
      go_wp2_with fail
      rw [← hwb]
      refine HC.mono ?_
      rintro e w1 ⟨rfl, hn1⟩
      replace hb0 := hn1.cell hb0
      replace hb1 := hn1.cell hb1
      replace hb2 := hn1.cell hb2
      rw [HM.out] at hb0
      have hs1' := hn1.size
      have hzz0 : w.heap.size < w1.heap.size := by omega
      have hzz1 : w.heap.size + 1 < w1.heap.size := by omega
      have hrowR := OwnInts.made w1 (m + 1) 2 (by omega)
      have hnR : New w1 (w1.alloc (.cells (madeCells #[.int .i64 0] (m + 1)) 2)) := (by repeat (first | with_reducible exact New.refl _ | with_reducible assumption | with_reducible refine New.alloc ?_ _ | with_reducible refine New.drew ?_ | with_reducible refine New.drewN ?_ _ | with_reducible refine New.setCell ?_ (by simp <;> omega) _))
      go_wp2_with fail
      rw [← HM.out]
      refine (HCN.out _ ((hnb.trans hn1).trans hnR)).mono ?_
      rintro e w2 ⟨b, rfl, hn2, hbB, hC⟩
      obtain ⟨s, F, hs1, hm, hF1, hF2⟩ := hC
      have HF1 := hid hF1
      have HF2 := hid hF2
      have hs2 := hn2.size
      rw [size_alloc] at hbB hs2
      obtain ⟨ob, hob⟩ : ∃ ob, ob = w1.heap.size := ⟨_, rfl⟩
      rw [← hob] at hrowR hbB hs2 ⊢
      have hob1 : w.heap.size ≤ ob := by omega
      replace hrowR := hrowR.new hn2
      clear hF1 hF2 hob
      go_wp2_with (first
        | (at_range; refine wpList_rangeM w2 rfl _ 99 rfl 2 law_flock Try.underlying99 rfl hm ?_; intro w0 left0 hleft0 hrg0 hg0 hs0)
        | fail)
      obtain ⟨rb, hrb⟩ : ∃ rb, rb = w2.heap.size := ⟨_, rfl⟩
      rw [← hrb] at hrg0 hs0 ⊢
      have hrb1 : ob < rb := by omega
      have hn0 : New w w0 := New.grown (((hnb.trans hn1).trans hnR).trans hn2) hg0 (fun q hq => by cases hq)
      have hst : OwnInts ob (ob + 1) w0 (.slice (some ⟨ob, 0, none⟩) (m + 1) (m + 1)) (rowL (m + 1) fun k => w64 (sumD S (fun G => metB F left0 G && (setOf G).length == k) val)) := by
        rw [rowL_congr (m + 1) _ (fun _ => 0) (fun k _ => by
          rw [sumD_congr S _ (fun _ => false) val val (fun X _ => by
            have : metB F left0 X = false := by unfold metB; rw [hleft0 (.int .u64 (X : Nat)) trivial]; cases (F (.int .u64 (X : Nat))).isSome <;> rfl
            rw [this]; rfl), sumD_none, w64_zero]), rowL_zero]
        exact hrowR.grown hg0 (Or.inl (by simp [Value.ownBlock]))
      clear hrb hm hleft0
      go_frame
      go_loopw [8] (fun _ wr => ∃ (left : Lit → Bool) (cn : Nat), cn ≤ s ∧ New w wr ∧ OwnInts ob (ob + 1) wr (.slice (some ⟨ob, 0, none⟩) (m + 1) (m + 1)) (rowL (m + 1) fun k => w64 (sumD S (fun G => metB F left G && (setOf G).length == k) val)) ∧ RangeAt Try.prog 102 wr b rb s F left cn) (fun _ wr => wr.rangeLeft b rb)
      case atStart => exact ⟨left0, s, Nat.le_refl _, hn0, hst, hrg0⟩
      case round =>
        obtain ⟨left, cn, hcn, hnr, hoR, hrg⟩ := hrel
        clear hst hrg0 hn0
        go_wp2_with (first
          | (at_next; refine wpList_nextM wr rfl _ rfl law_flock Try.underlying102 rfl hrg ?_ ?_)
          | fail)
        · intro hc0 hl0
          have HOR := hid (show OwnInts ob (ob + 1) wr (.slice (some ⟨ob, 0, none⟩) (m + 1) (m + 1)) (rowL (m + 1) fun k => w64 (sumD S (fun G => (setOf G).length == k) val)) by
            rw [rowL_congr (m + 1) _ (fun k => w64 (sumD S (fun G => metB F left G && (setOf G).length == k) val)) (fun k _ => by
              congr 1
              refine sumD_congr S _ _ _ _ fun X _ => ?_
              unfold metB
              rw [hl0]
              cases e : F (.int .u64 (X : Nat)) with
              | none => rw [HF2.out X e]; simp
              | some v => simp)]
            exact hoR)
          clear hoR
          have hol := World.block_lt_of_cell? wr _ (HOR.out.cell_at 0 (by rw [rowL_len]; omega)).1
          go_wp2
          go_ret2
          rw [HE.out, HM.out, Int.toNat_natCast]
          exact ⟨_, rfl, hnr, HOR.out.widen hob1 hol⟩
        · intro x v w3 cn1 hwx hlx hFx hrg1 hlt1 hg1 hs3 hen
          obtain ⟨X, rfl, hX, rfl⟩ := HF1.out x v hFx
          have HX := hid hX
          have hX10 := HS10.out X hX
          have HME := hid (metB_step F left X (by rw [hFx]; rfl))
          have HMF := hid (show metB F left X = false by unfold metB; rw [hlx]; simp)
          have hn3 : New w w3 := New.grown hnr hg1 (fun q hq => by cases hq; omega)
          have ho3 := hoR.grown hg1 (Or.inl (by simp [Value.ownBlock]; omega))
          have HL1 := hid (hrg.left_eq)
          have hlX : (setOf X).length ≤ m := by
            have := HLT.out X hX
            rw [HM.out, Int.toNat_natCast] at this
            rw [setOf_eq this hm10]; exact bitsTo_len X m
          have C := count_any X
          obtain ⟨q, hq⟩ : ∃ q, q = (setOf X).length := ⟨_, rfl⟩
          rw [← hq] at hlX C
          have HQ := hid hq
          have kq : (q : Int) < (m : Int) + 1 := by omega
          have HO3 := hid ho3
          clear hrg hwx hlx hFx hg1 hX hnr hoR hq ho3
          go_wp2_with (go_at_call 81; refine (C _ hX10).mono ?_; rintro e w5 ⟨rfl, hn5⟩; have ho5 := HO3.out.new hn5; obtain ⟨xR, fR⟩ := ho5.cell_at q (by rw [rowL_len]; omega); rw [Nat.zero_add] at xR fR; rw [nth_rowL _ _ _ (by omega)] at xR; have HO5 := hid ho5; clear ho5)
          go_roundw
          case rel =>
            refine ⟨_, cn1, by omega, (hn3.trans hn5).setCell hob1 _, ?_, (hrg1.new hn5).kept (grown_setCell w5 ⟨ob, q, none⟩ _) (by simp; omega) (by simp; omega)⟩
            have := HO5.out.set q (by rw [rowL_len]; omega) (Go.RowKit.wrap64 (w64 (sumD S (fun G => metB F left G && (setOf G).length == q) val) + w64 (val X)))
            rw [Nat.zero_add, rowL_set _ _ _ _ (by omega)] at this
            rw [rowL_congr (m + 1) _ (fun j => if j = q then Go.RowKit.wrap64 (w64 (sumD S (fun G => metB F left G && (setOf G).length == q) val) + w64 (val X)) else w64 (sumD S (fun G => metB F left G && (setOf G).length == j) val)) (fun k _ => by
              rw [HME.out]
              by_cases e : k = q
              · rw [if_pos e, w64_add, e]
                congr 1
                rw [← sumD_add S (fun G => metB F left G && (setOf G).length == q) val X HND.out HX.out (by show (metB F left X && _) = false; rw [HMF.out]; rfl)]
                refine sumD_congr S _ _ _ _ fun G _ => ?_
                by_cases e2 : G = X
                · subst e2; simp [← HQ.out]
                · have : (G == X) = false := by simpa using e2
                  simp [this]
              · rw [if_neg e]
                congr 1
                refine sumD_congr S _ _ _ _ fun G _ => ?_
                by_cases e2 : G = X
                · subst e2
                  have : ((setOf G).length == k) = false := by rw [← HQ.out]; simp; omega
                  simp [this]
                · have : (G == X) = false := by simpa using e2
                  simp [this])]
            exact this
          case measure => rw [((hrg1.new hn5).kept (grown_setCell w5 ⟨ob, q, none⟩ _) (by simp; omega) (by simp; omega)).left_eq, HL1.out]; exact hlt1

end Go.Proofs.Ytheimpgjkfphnaa
