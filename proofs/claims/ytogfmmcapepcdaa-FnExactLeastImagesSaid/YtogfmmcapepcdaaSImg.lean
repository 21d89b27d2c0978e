/- The reference's images of the least rank. -/
import Derived.Test.YtogfmmcapepcdaaRows
import Derived.Test.YtogfmmcapepcdaaCore
import Derived.Test.YtogfmmcapepcdaaInfo
import Derived.Test.YtogfmmcapepcdaaInfo2
import Derived.Test.YtogfmmcapepcdaaPlains
import Derived.Test.YtogfmmcapepcdaaPlainOrd
import Derived.Test.YtogfmmcapepcdaaPlainIns
import Derived.Test.YtogfmmcapepcdaaPlainImg
import Derived.Test.YtogfmmcapepcdaaMaps
import Derived.Test.YtogfmmcapepcdaaWalkV
import Derived.Test.YtogfmmcapepcdaaRowsSwap
import Derived.Test.YtogfmmcapepcdaaRowsPut
import Derived.Test.YtogfmmcapepcdaaS01a
import Derived.Test.YtogfmmcapepcdaaSFlk
import Derived.Test.YtogfmmcapepcdaaSWalk
import Derived.Test.YtogfmmcapepcdaaSLeast
import Derived.Test.YtogfmmcapepcdaaSReach
import Derived.Test.YtogfmmcapepcdaaSPut
import Derived.WalkKit
import Derived.WalkSpells
import Derived.WalkLawsBesides
import Derived.Deep.QuietTactic
import Derived.Deep.OwnRows
import Derived.BigQuiet
import Derived.KernelRfl
namespace Go.Proofs.Ytogfmmcapepcdaa
open Go.RowKit

set_option maxRecDepth 20000 in
set_option maxHeartbeats 2000000 in
theorem specLeastImages_any (v1 : Value) (a : Aut) (w : World) (h1 : AutAt w v1 a) :
    Calls Try.prog 8 #[v1] w fun e w' => ∃ r, e = .returned (.tuple #[r, .int .i64 (LeastImages a).2]) ∧ New w w' ∧ OwnRows w.heap.size w'.heap.size w' r (LeastImages a).1 := by
  obtain ⟨rv, rfl, hr⟩ := h1
  obtain ⟨A, c, rfl⟩ := hr.form
  obtain ⟨wb, hwb⟩ : ∃ wb, wb = w.alloc (.cells #[.int .i64 a.n, .slice A a.nx.length c] 28) := ⟨_, rfl⟩
  have hp : PAut wb (.pointer (some ⟨w.heap.size, 0, none⟩)) a := by rw [hwb]; exact PAut.box hr _
  have hnb : New w wb := by rw [hwb]; exact (by repeat (first | with_reducible exact New.refl _ | with_reducible assumption | with_reducible refine New.alloc ?_ _ | with_reducible refine New.drew ?_ | with_reducible refine New.drewN ?_ _ | with_reducible refine New.setCell ?_ (by simp <;> omega) _))
  obtain ⟨R, hR⟩ : ∃ R, R = LeastImages a := ⟨_, rfl⟩
  rw [← hR]
  unfold LeastImages at hR
  have HR := hid hR
  clear hR
  have C1 := l01Ok_any _ a _ hp
  cases ha : autOk a with
  | false =>
    rw [ha] at C1
    have HE := hid (show R = ([], 1) by rw [HR.out, ha]; rfl)
    go_enter Try.func8, Try.ntmps8
    go_wp2_with fail
    rw [← hwb]
    refine C1.mono ?_
    rintro e w1 ⟨rfl, hn1⟩
    have hz1 := (hnb.trans hn1).size
    go_wp2
    go_ret2
    rw [HE.out]
    exact ⟨_, rfl, (hnb.trans hn1).alloc _, (GrowRows.empty w.heap.size 35 w1 hz1).own (by simp)⟩
  | true =>
    rw [ha] at C1
    have han := autOk_n ha
    have C2 := hid (fun w1 (hn : New wb w1) => l02Full_any _ a w1 (hp.new hn) (by omega) han.2)
    have C3 := hid (fun w1 (hn : New wb w1) => l02From_any _ a (full a.n) w1 (hp.new hn) ha (full_lt a.n))
    have C4 := hid (fun p w1 (h : PWalk w1 p (tourOf a.nx (full a.n))) => l03Least_any p a (full a.n) w1 h ha (full_lt a.n))
    obtain ⟨b, hb⟩ : ∃ b, b = leastOf a.nx (full a.n) := ⟨_, rfl⟩
    have HE := hid (show R = (buildR lexLt (imgs (tourOf a.nx (full a.n)).sets b (tourOf a.nx (full a.n)).sets.length), 0) by rw [HR.out, ha, hb]; rfl)
    have HOK := hid (tourOk ha (full a.n) (full_lt a.n))
    have hlen := HOK.out.len han.2
    rw [← hb] at C4
    obtain ⟨T, hT⟩ : ∃ T, T = tourOf a.nx (full a.n) := ⟨_, rfl⟩
    rw [← hT] at C3 C4 HE HOK hlen
    clear hT ha hb
    have HLT := hid (fun x (hx : x ∈ T.sets) => (show x < 1024 from lt_10 (HOK.out.lt _ hx) (by omega)))
    go_enter Try.func8, Try.ntmps8
    go_wp2_with fail
    rw [← hwb]
    refine C1.mono ?_
    rintro e w1 ⟨rfl, hn1⟩
    go_wp2_with (first
      | (go_at_call 32; refine (C2.out _ hn1).mono ?_; rintro e w2 ⟨rfl, rfl⟩)
      | (go_at_call 31; refine (C3.out _ hn1).mono ?_; rintro e w3 ⟨pv, he, hn3, hP⟩; subst he)
      | (go_at_call 33; refine (C4.out _ _ hP).mono ?_; rintro e w4 ⟨rfl, hn4⟩))
    have hP4 := hP.new hn4
    obtain ⟨pb, s1, s2, s3, rfl, p0, _, _, hS, _, _⟩ := hP4
    obtain ⟨As, cs, rfl, _, hcs⟩ := hS
    have hn := ((hnb.trans hn1).trans hn3).trans hn4
    have hz4 := hn.size
    have HCS := hid hcs
    have hG0 := GrowRows.empty w4.heap.size 35 w4 (Nat.le_refl _)
    have hN0 : New w4 (w4.alloc (.cells #[] 35)) := (by repeat (first | with_reducible exact New.refl _ | with_reducible assumption | with_reducible refine New.alloc ?_ _ | with_reducible refine New.drew ?_ | with_reducible refine New.drewN ?_ _ | with_reducible refine New.setCell ?_ (by simp <;> omega) _))
    clear hcs hP hn1 hn3 hn4
    go_loopw [6, 7] (fun o i wr => ∃ (k g n cap : Nat), i = .int .i64 k ∧ o = .slice (some ⟨g, 0, none⟩) n cap ∧ k ≤ T.sets.length ∧ New w4 wr ∧ GrowRows w4.heap.size 35 wr (.slice (some ⟨g, 0, none⟩) n cap) (insAllL lexLt (imgs T.sets b k))) (fun _ i _ => T.sets.length - (intOf i).toNat)
    case atStart => exact ⟨0, _, _, _, rfl, rfl, Nat.zero_le _, hN0, by rw [imgs_zero]; exact hG0⟩
    case round =>
      obtain ⟨k, g, n, cap, rfl, rfl, hk, hnr, hg⟩ := hrel
      clear hG0 hN0
      obtain ⟨wo, rfl⟩ : ∃ wo : World, wo = wr := ⟨_, rfl⟩
      have hPm := hid (insAllL_perm lex_total (imgs T.sets b k))
      have hil := imgs_len T.sets b k hk
      obtain ⟨O, hO⟩ : ∃ O, O = insAllL lexLt (imgs T.sets b k) := ⟨_, rfl⟩
      rw [← hO] at hg hPm
      have HOD := hid hO
      have HOL := hid (show O.length ≤ k by rw [hPm.out.length_eq]; exact hil)
      clear hO hil
      have y0 := hnr.cell p0
      have hzr := hnr.size
      by_cases hlt : k < T.sets.length
      · have b1 : (k : Int) < (T.sets.length : Int) := by omega
        obtain ⟨bs, os, rfl, hx⟩ := HCS.out k hlt
        replace hx := hnr.cell hx
        have hF := HLT.out _ (nth_mem _ _ hlt)
        have hsl := bitsTo_len (nth T.sets k) 10
        obtain ⟨X, hX⟩ : ∃ X, X = setOf (nth T.sets k) := ⟨_, rfl⟩
        have C5 := l02Set_any _ wo hF
        rw [← hX] at C5
        by_cases hq : X.length = b
        · have HS := hid (show insAllL lexLt (imgs T.sets b (k + 1)) = insL lexLt X O by rw [imgs_yes _ _ _ hlt (by rw [← hX]; exact hq), insAllL_snoc, ← HOD.out, hX])
          have HNX := hid (show X ∉ O from fun h => by
            rw [hX] at h
            exact imgs_fresh T.sets b k hlt HOK.out.nodup HLT.out (hPm.out.subset h))
          have e1 : ((X.length : Int) == (b : Int)) = true := by simp [hq]
          clear hq hX
          go_wp2_with (first
            | (go_at_call 34; refine C5.mono ?_; rintro e w5 ⟨r5, he, hn5, ho5⟩; obtain ⟨A5, c5, rfl⟩ := ho5.form; subst he)
            | (go_at_call 35; refine (l03Put_any g n cap O _ X wo w5 hg hn5 ho5 hzr (by have := HOL.out; omega) HNX.out rfl).mono ?_; rintro e w6 ⟨g2, cap2, rfl, hn6, hg6⟩))
          go_roundw
          case rel => exact ⟨k + 1, g2, _, cap2, by go_num, rfl, by omega, (hnr.trans hn5).trans hn6, by rw [HS.out]; exact hg6⟩
          case measure => simp [intOf]; omega
        · have HS := hid (show insAllL lexLt (imgs T.sets b (k + 1)) = O by rw [imgs_no _ _ _ hlt (by rw [← hX]; exact hq), ← HOD.out])
          have e1 : ((X.length : Int) == (b : Int)) = false := by simp; omega
          clear hq hX
          go_wp2_with (first
            | (go_at_call 34; refine C5.mono ?_; rintro e w5 ⟨r5, he, hn5, ho5⟩; obtain ⟨A5, c5, rfl⟩ := ho5.form; subst he))
          go_roundw
          case rel => exact ⟨k + 1, g, n, cap, by go_num, rfl, by omega, hnr.trans hn5, by rw [HS.out]; exact hg.new hn5⟩
          case measure => simp [intOf]; omega
      · have e : k = T.sets.length := by omega
        subst e
        go_wp2_with fail
        go_ret2
        rw [HE.out, ← insAllL_build lex_total, ← HOD.out]
        exact ⟨_, rfl, hn.trans hnr, (hg.own (by have := HOL.out; omega)).widen hz4 (Nat.le_refl _)⟩

end Go.Proofs.Ytogfmmcapepcdaa
