/- The reference's first word of the least rank. -/
import Derived.Test.YtoeckejcmojeaaaRows
import Derived.Test.YtoeckejcmojeaaaCore
import Derived.Test.YtoeckejcmojeaaaInfos
import Derived.Test.YtoeckejcmojeaaaPlains
import Derived.Test.YtoeckejcmojeaaaPers
import Derived.Test.YtoeckejcmojeaaaPQuos
import Derived.Test.YtoeckejcmojeaaaPOrds
import Derived.Test.YtoeckejcmojeaaaPMerg
import Derived.Test.YtoeckejcmojeaaaPKerns
import Derived.Test.YtoeckejcmojeaaaMaps
import Derived.Test.YtoeckejcmojeaaaSWalks
import Derived.Test.YtoeckejcmojeaaaSBase
import Derived.WalkKit
import Derived.WalkSpells
import Derived.WalkLawsBesides
import Derived.Deep.QuietTactic
import Derived.Deep.OwnRows
import Derived.BigQuiet
import Derived.KernelRfl
namespace Go.Proofs.Ytoeckejcmojeaaa
open Go.RowKit

set_option maxRecDepth 20000 in
set_option maxHeartbeats 2000000 in
theorem specRankWord_any (v1 : Value) (a : Aut) (w : World) (h1 : AutAt w v1 a) (ha : autOk a = true) :
    Calls Try.prog 36 #[v1] w fun e w' => ∃ r, e = .returned (.tuple #[r, .int .i64 0]) ∧ New w w' ∧ OwnInts w.heap.size w'.heap.size w' r (rankP a).1 := by
  obtain ⟨rv, rfl, hr⟩ := h1
  obtain ⟨A, c, rfl⟩ := hr.form
  obtain ⟨wb, hwb⟩ : ∃ wb, wb = w.alloc (.cells #[.int .i64 a.n, .slice A a.nx.length c] 28) := ⟨_, rfl⟩
  have hp : PAut wb (.pointer (some ⟨w.heap.size, 0, none⟩)) a := by rw [hwb]; exact PAut.box hr _
  have hnb : New w wb := by rw [hwb]; exact (by repeat (first | with_reducible exact New.refl _ | with_reducible assumption | with_reducible refine New.alloc ?_ _ | with_reducible refine New.drew ?_ | with_reducible refine New.drewN ?_ _ | with_reducible refine New.setCell ?_ (by simp <;> omega) _))
  obtain ⟨R, hR⟩ : ∃ R, R = rankP a := ⟨_, rfl⟩
  have hR2 : R.2 = true := eq_true_of hR (rankP_found ha)
  rw [← hR]
  rw [rankP_is] at hR
  have C1 := l01Ok_any _ a _ hp
  rw [ha] at C1
  have han := autOk_n ha
  have C2 := hid (fun w1 (hn : New wb w1) => l02Full_any _ a w1 (hp.new hn) (by omega) han.2)
  have C3 := hid (fun w1 (hn : New wb w1) => l02From_any _ a (full a.n) w1 (hp.new hn) ha (full_lt a.n))
  have C4 := hid (fun p w1 (h : PWalk w1 p (tourOf a.nx (full a.n))) => l03Least_any p a (full a.n) w1 h ha (full_lt a.n))
  have hbr : rankA a = leastOf a.nx (full a.n) := rfl
  rw [hbr] at hR
  obtain ⟨b, hb⟩ : ∃ b, b = leastOf a.nx (full a.n) := ⟨_, rfl⟩
  have HOK := hid (tourOk ha (full a.n) (full_lt a.n))
  have hlen := HOK.out.len han.2
  rw [← hb] at C4 hR
  obtain ⟨T, hT⟩ : ∃ T, T = tourOf a.nx (full a.n) := ⟨_, rfl⟩
  rw [← hT] at C3 C4 hR HOK hlen
  clear hT ha hb hbr
  have HE := hid hR
  clear hR
  have HR2 := hid hR2
  clear hR2
  have HLT := hid (fun x (hx : x ∈ T.sets) => (show x < 1024 from lt_10 (HOK.out.lt _ hx) (by omega)))
  go_enter Try.func36, Try.ntmps36
  go_wp2_with fail
  rw [← hwb]
  refine C1.mono ?_
  rintro e w1 ⟨rfl, hn1⟩
  go_wp2_with (first
    | (go_at_call 86; refine (C2.out _ hn1).mono ?_; rintro e w2 ⟨rfl, rfl⟩)
    | (go_at_call 85; refine (C3.out _ hn1).mono ?_; rintro e w3 ⟨pv, he, hn3, hP⟩; subst he)
    | (go_at_call 87; refine (C4.out _ _ hP).mono ?_; rintro e w4 ⟨rfl, hn4⟩))
  have hP4 := hP.new hn4
  have HP4 := hid hP4
  obtain ⟨pb, s1, s2, s3, rfl, p0, _, _, hS, _, _⟩ := hP4
  obtain ⟨As, cs, rfl, _, hcs⟩ := hS
  have hn := ((hnb.trans hn1).trans hn3).trans hn4
  have hz4 := hn.size
  have HCS := hid hcs
  clear hcs hP hn1 hn3 hn4
  go_loopw [6] (fun i wr => ∃ (k : Nat), i = .int .i64 k ∧ k ≤ T.sets.length ∧ New w4 wr ∧ Hid (∀ j, j < k → (fun f => decide ((setOf f).length = b)) (nth T.sets j) = false)) (fun i _ => T.sets.length - (intOf i).toNat)
  case atStart => exact ⟨0, rfl, Nat.zero_le _, New.refl _, hid (fun j hj => absurd hj (by omega))⟩
  case round =>
    obtain ⟨k, rfl, hk, hnr, hbf⟩ := hrel
    obtain ⟨wo, rfl⟩ : ∃ wo : World, wo = wr := ⟨_, rfl⟩
    have y0 := hnr.cell p0
    have hzr := hnr.size
    by_cases hlt : k < T.sets.length
    · have b1 : (k : Int) < (T.sets.length : Int) := by omega
      obtain ⟨bs, os, rfl, hx⟩ := HCS.out k hlt
      replace hx := hnr.cell hx
      have hF := HLT.out _ (nth_mem _ _ hlt)
      have hsl := bitsTo_len (nth T.sets k) 10
      obtain ⟨N, hN⟩ : ∃ N, N = (setOf (nth T.sets k)).length := ⟨_, rfl⟩
      have C5 := l02Set_len _ N hF hN wo
      by_cases hq : N = b
      · have HS := hid (show R = (nth T.words k, true) by rw [HE.out, firstWord_hit _ T k hlt (decide_eq_true (by rw [← hN]; exact hq)) hbf.out])
        have e1 : ((N : Int) == (b : Int)) = true := by simp [hq]
        clear hq hN
        have C6 := hid (fun w1 (hm : New w4 w1) => word_any _ a T k w1 (HP4.out.new hm) HOK.out (by omega) hlt)
        go_wp2_with (first
          | (go_at_call 88; refine C5.mono ?_; rintro e w5 ⟨A5, c5, rfl, hn5⟩)
          | (go_at_call 89; refine (C6.out _ (hnr.trans hn5)).mono ?_; rintro e w6 ⟨r6, he, hn6, ho6⟩; subst he))
        go_ret2
        have hz5 := hn5.size
        exact ⟨_, rfl, ((hn.trans hnr).trans hn5).trans hn6, by rw [HS.out]; exact ho6.widen (by omega) (Nat.le_refl _)⟩
      · have HQ := hid (show (fun f => decide ((setOf f).length = b)) (nth T.sets k) = false from decide_eq_false (by rw [← hN]; exact hq))
        have e1 : ((N : Int) == (b : Int)) = false := by simp; omega
        clear hq hN
        go_wp2_with (first
          | (go_at_call 88; refine C5.mono ?_; rintro e w5 ⟨A5, c5, rfl, hn5⟩))
        go_roundw
        case rel => exact ⟨k + 1, by go_num, by omega, hnr.trans hn5, hid (fun j hj => by
          rcases Nat.lt_succ_iff_lt_or_eq.1 hj with h | h
          · exact hbf.out j h
          · subst h; exact HQ.out)⟩
        case measure => simp [intOf]; omega
    · exfalso
      have e : k = T.sets.length := by omega
      have h := firstWord_none (fun f => decide ((setOf f).length = b)) T (fun j hj => hbf.out j (by omega))
      have h2 := HR2.out
      rw [HE.out, h] at h2
      cases h2

end Go.Proofs.Ytoeckejcmojeaaa
