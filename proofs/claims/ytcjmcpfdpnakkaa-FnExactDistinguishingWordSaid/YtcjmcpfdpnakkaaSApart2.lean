/- The reference's words that distinguish two states, or two machines. -/
import Derived.Test.YtcjmcpfdpnakkaaRows
import Derived.Test.YtcjmcpfdpnakkaaBase
import Derived.Test.YtcjmcpfdpnakkaaAut
import Derived.Test.YtcjmcpfdpnakkaaMach
import Derived.Test.YtcjmcpfdpnakkaaApp
import Derived.Test.YtcjmcpfdpnakkaaAppRows
import Derived.Test.YtcjmcpfdpnakkaaInfo
import Derived.Test.YtcjmcpfdpnakkaaPlain1
import Derived.Test.YtcjmcpfdpnakkaaPlainRun
import Derived.Test.YtcjmcpfdpnakkaaPMach
import Derived.Test.YtcjmcpfdpnakkaaPlainSet
import Derived.Test.YtcjmcpfdpnakkaaPlainBits
import Derived.Test.YtcjmcpfdpnakkaaPlainTour
import Derived.Test.YtcjmcpfdpnakkaaPlainFirst
import Derived.Test.YtcjmcpfdpnakkaaPlainBfs
import Derived.Test.YtcjmcpfdpnakkaaPlainApart
import Derived.Test.YtcjmcpfdpnakkaaPlainOut
import Derived.Test.YtcjmcpfdpnakkaaXBox
import Derived.Test.YtcjmcpfdpnakkaaS01a
import Derived.Test.YtcjmcpfdpnakkaaS06b
import Derived.Test.YtcjmcpfdpnakkaaS06c
import Derived.Test.YtcjmcpfdpnakkaaSApart
import Derived.WalkKit
import Derived.WalkSpells
import Derived.WalkLawsBesides
import Derived.Deep.QuietTactic
import Derived.Deep.OwnRows
import Derived.BigQuiet
import Derived.KernelRfl
namespace Go.Proofs.Ytcjmcpfdpnakkaa
open Go.RowKit

set_option maxRecDepth 20000 in
set_option maxHeartbeats 800000 in
theorem l06Apart_any (p : Value) (m : Mach) (s t : Int) (w : World) (hp : PMach w p m) (ok : machOk m = true) (hs : apP m m (s, t)) :
    Calls Try.prog 91 #[p, .int .i64 s, .int .i64 t] w fun e w' => ∃ r, e = .returned (.tuple #[r, .bool (apartOf m m s t).2]) ∧ New w w' ∧ OwnInts w.heap.size w'.heap.size w' r (apartOf m m s t).1 := by
  obtain ⟨pb, q1, q2, rfl, a0, a1, a2, a3, ra, rb⟩ := id hp
  have hX : XBox (w.alloc (.cells #[.pointer (some ⟨pb, 0, none⟩), .pointer (some ⟨pb, 0, none⟩), .slice none 0 0, .slice none 0 0] 178)) w.heap.size (.pointer (some ⟨pb, 0, none⟩)) (.pointer (some ⟨pb, 0, none⟩)) (.slice none 0 0) (.slice none 0 0) := ⟨by go_simp, by go_simp, by go_simp, by go_simp, by go_simp, by go_simp⟩
  have hn1 : New w (w.alloc (.cells #[.pointer (some ⟨pb, 0, none⟩), .pointer (some ⟨pb, 0, none⟩), .slice none 0 0, .slice none 0 0] 178)) := (by repeat (first | with_reducible exact New.refl _ | with_reducible assumption | with_reducible refine New.alloc ?_ _ | with_reducible refine New.drew ?_ | with_reducible refine New.drewN ?_ _ | with_reducible refine New.setCell ?_ (by simp <;> omega) _))
  have C := find_any w.heap.size _ _ m m s t w _ hn1 (Nat.le_refl _) hX hp hp ok ok rfl hs
  obtain ⟨R, hR⟩ : ∃ R, R = apartOf m m s t := ⟨_, rfl⟩
  rw [← hR] at C ⊢
  clear hR
  go_enter Try.func91, Try.ntmps91
  go_wp2_with fail
  refine C.mono ?_
  rintro e w2 ⟨r, rfl, hW, ho⟩
  have hn2 : New w w2 := hn1.within hW (Nat.le_refl _)
  obtain ⟨A, c, rfl⟩ := ho.form
  go_wp2_with fail
  go_ret2
  exact ⟨_, rfl, hn2, ho.widen (by (try simp only [sizes]) <;> omega) (Nat.le_refl _)⟩
set_option maxRecDepth 20000 in
set_option maxHeartbeats 800000 in
theorem l06Differ_any (p1 p2 : Value) (m1 m2 : Mach) (w : World) (hp1 : PMach w p1 m1) (hp2 : PMach w p2 m2) (ok1 : machOk m1 = true) (ok2 : machOk m2 = true) (hl : m1.nx.length = m2.nx.length) :
    Calls Try.prog 66 #[p1, p2] w fun e w' => ∃ r, e = .returned (.tuple #[r, .bool (apartOf m1 m2 0 0).2]) ∧ New w w' ∧ OwnInts w.heap.size w'.heap.size w' r (apartOf m1 m2 0 0).1 := by
  obtain ⟨pb, q1, q2, rfl, _, _, _, _, _, _⟩ := id hp1
  obtain ⟨pc, q3, q4, rfl, _, _, _, _, _, _⟩ := id hp2
  have hX : XBox (w.alloc (.cells #[.pointer (some ⟨pb, 0, none⟩), .pointer (some ⟨pc, 0, none⟩), .slice none 0 0, .slice none 0 0] 178)) w.heap.size (.pointer (some ⟨pb, 0, none⟩)) (.pointer (some ⟨pc, 0, none⟩)) (.slice none 0 0) (.slice none 0 0) := ⟨by go_simp, by go_simp, by go_simp, by go_simp, by go_simp, by go_simp⟩
  have hn1 : New w (w.alloc (.cells #[.pointer (some ⟨pb, 0, none⟩), .pointer (some ⟨pc, 0, none⟩), .slice none 0 0, .slice none 0 0] 178)) := (by repeat (first | with_reducible exact New.refl _ | with_reducible assumption | with_reducible refine New.alloc ?_ _ | with_reducible refine New.drew ?_ | with_reducible refine New.drewN ?_ _ | with_reducible refine New.setCell ?_ (by simp <;> omega) _))
  have n1 := mach_n ok1
  have n2 := mach_n ok2
  have C := find_any w.heap.size _ _ m1 m2 0 0 w _ hn1 (Nat.le_refl _) hX hp1 hp2 ok1 ok2 hl ⟨by show 0 ≤ (0 : Int) ∧ 0 < m1.n; omega, by show 0 ≤ (0 : Int) ∧ 0 < m2.n; omega⟩
  obtain ⟨R, hR⟩ : ∃ R, R = apartOf m1 m2 0 0 := ⟨_, rfl⟩
  rw [← hR] at C ⊢
  clear hR
  go_enter Try.func66, Try.ntmps66
  go_wp2_with fail
  refine C.mono ?_
  rintro e w2 ⟨r, rfl, hW, ho⟩
  have hn2 : New w w2 := hn1.within hW (Nat.le_refl _)
  obtain ⟨A, c, rfl⟩ := ho.form
  go_wp2_with fail
  go_ret2
  exact ⟨_, rfl, hn2, ho.widen (by (try simp only [sizes]) <;> omega) (Nat.le_refl _)⟩
set_option maxRecDepth 20000 in
set_option maxHeartbeats 1000000 in
theorem specDistinguishingWord_any (v1 : Value) (m : Mach) (s t : Int) (w : World) (h1 : MachAt w v1 m) :
    Calls Try.prog 33 #[v1, .int .i64 s, .int .i64 t] w fun e w' => ∃ r, e = .returned (.tuple #[r, .int .i64 (DistinguishingWord m s t).2]) ∧ New w w' ∧ OwnInts w.heap.size w'.heap.size w' r (DistinguishingWord m s t).1 := by
  obtain ⟨r1, r2, rfl, hr1, hr2⟩ := h1
  obtain ⟨A1, c1, rfl⟩ := hr1.form
  obtain ⟨A2, c2, rfl⟩ := hr2.form
  obtain ⟨wb, hwb⟩ : ∃ wb, wb = w.alloc (.cells #[.int .i64 m.n, .int .i64 m.o, .slice A1 m.nx.length c1, .slice A2 m.out.length c2] 29) := ⟨_, rfl⟩
  have hp : PMach wb (.pointer (some ⟨w.heap.size, 0, none⟩)) m := by rw [hwb]; exact PMach.box hr1 hr2 _
  have hnb : New w wb := by rw [hwb]; exact (by repeat (first | with_reducible exact New.refl _ | with_reducible assumption | with_reducible refine New.alloc ?_ _ | with_reducible refine New.drew ?_ | with_reducible refine New.drewN ?_ _ | with_reducible refine New.setCell ?_ (by simp <;> omega) _))
  obtain ⟨R, hR⟩ : ∃ R, R = DistinguishingWord m s t := ⟨_, rfl⟩
  rw [← hR]
  unfold DistinguishingWord at hR
  have HR := hid hR
  clear hR
  have C1 := l06Ok_any _ m _ hp
  have key : ∀ (code : Int) (w1 : World) (T : TypeId), New wb w1 → R = ([], code) → ∃ r, (Ending.returned (.tuple #[.slice (some ⟨w1.heap.size, 0, none⟩) 0 0, .int .i64 code]) = .returned (.tuple #[r, .int .i64 R.2])) ∧ New w (w1.alloc (.cells #[] T)) ∧ OwnInts w.heap.size (w1.alloc (.cells #[] T)).heap.size (w1.alloc (.cells #[] T)) r R.1 := fun code w1 T hn1 e => by
    have hs := (hnb.trans hn1).size
    rw [e]
    exact ⟨_, rfl, (hnb.trans hn1).alloc _, OwnInts.none' _ hs (by rw [size_alloc]; exact Nat.lt_succ_self _)⟩
  have KEY := hid key
  clear key
  cases ha : machOk m with
  | false =>
    rw [ha] at C1
    go_enter Try.func33, Try.ntmps33
    go_wp2_with fail
    rw [← hwb]
    refine C1.mono ?_
    rintro e w1 ⟨rfl, hn1⟩
    go_wp2
    go_ret2
    exact KEY.out 1 w1 _ hn1 (by rw [HR.out, ha]; rfl)
  | true =>
    rw [ha] at C1
    obtain ⟨n1, n2⟩ := mach_n ha
    have HA := hid ha
    clear ha
    have C2 := hid (fun z w1 (hn : New wb w1) => (l06State_any _ m z w1 (hp.new hn) (by omega) (by omega)).mono fun _ _ ⟨a, b⟩ => (show _ ∧ New w1 _ from ⟨a, New.of_eq b⟩))
    cases hs : inB s 0 (m.n - 1) with
    | false =>
      have HS := hid hs
      go_enter Try.func33, Try.ntmps33
      go_wp2_with fail
      rw [← hwb]
      refine C1.mono ?_
      rintro e w1 ⟨rfl, hn1⟩
      go_wp2_with (go_at_call 71; refine (C2.out _ _ hn1).mono ?_; rw [HS.out]; rintro e w2 ⟨rfl, hn2⟩)
      go_ret2
      exact KEY.out 2 w2 _ (hn1.trans hn2) (by rw [HR.out, HA.out, HS.out]; rfl)
    | true =>
      have hs' := (inB_iff _ _ _).1 hs
      have HS := hid hs
      clear hs
      cases ht : inB t 0 (m.n - 1) with
      | false =>
        have HT := hid ht
        clear ht
        go_enter Try.func33, Try.ntmps33
        go_wp2_with fail
        rw [← hwb]
        refine C1.mono ?_
        rintro e w1 ⟨rfl, hn1⟩
        go_wp2_with (go_at_call 71; first | (refine (C2.out _ _ (hn1.trans hn2)).mono ?_; rw [HT.out]; rintro e w3 ⟨rfl, hn3⟩) | (refine (C2.out _ _ hn1).mono ?_; rw [HS.out]; rintro e w2 ⟨rfl, hn2⟩))
        go_ret2
        exact KEY.out 2 w3 _ ((hn1.trans hn2).trans hn3) (by rw [HR.out, HA.out, HS.out, HT.out]; rfl)
      | true =>
        have ht' := (inB_iff _ _ _).1 ht
        have HT := hid ht
        have C5 := hid (fun w1 (hn : New wb w1) => l06Apart_any _ m s t w1 (hp.new hn) HA.out ⟨by show 0 ≤ s ∧ s < m.n; omega, by show 0 ≤ t ∧ t < m.n; omega⟩)
        have HE := hid (show R = told (apartOf m m s t) by rw [HR.out, if_pos HA.out, if_pos (by rw [HS.out, ht]; rfl)])
        obtain ⟨T, hT⟩ : ∃ T, T = apartOf m m s t := ⟨_, rfl⟩
        rw [← hT] at C5 HE
        clear ht hT
        cases hb : T.2 with
        | true =>
          have HB := hid hb
          rw [hb] at C5
          clear hb
          go_enter Try.func33, Try.ntmps33
          go_wp2_with fail
          rw [← hwb]
          refine C1.mono ?_
          rintro e w1 ⟨rfl, hn1⟩
          go_wp2_with (first
            | (go_at_call 71; first | (refine (C2.out _ _ (hn1.trans hn2)).mono ?_; rw [HT.out]; rintro e w3 ⟨rfl, hn3⟩) | (refine (C2.out _ _ hn1).mono ?_; rw [HS.out]; rintro e w2 ⟨rfl, hn2⟩))
            | (go_at_call 91; refine (C5.out _ ((hn1.trans hn2).trans hn3)).mono ?_; rintro e w4 ⟨r, rfl, hn4, ho⟩; have hz4 := (hnb.trans ((hn1.trans hn2).trans hn3)).size))
          go_ret2
          have e : R = (T.1, 0) := by rw [HE.out]; unfold told; rw [if_pos HB.out]
          rw [e]
          exact ⟨_, rfl, (hnb.trans ((hn1.trans hn2).trans hn3)).trans hn4, ho.widen hz4 (Nat.le_refl _)⟩
        | false =>
          have HB := hid hb
          rw [hb] at C5
          clear hb
          go_enter Try.func33, Try.ntmps33
          go_wp2_with fail
          rw [← hwb]
          refine C1.mono ?_
          rintro e w1 ⟨rfl, hn1⟩
          go_wp2_with (first
            | (go_at_call 71; first | (refine (C2.out _ _ (hn1.trans hn2)).mono ?_; rw [HT.out]; rintro e w3 ⟨rfl, hn3⟩) | (refine (C2.out _ _ hn1).mono ?_; rw [HS.out]; rintro e w2 ⟨rfl, hn2⟩))
            | (go_at_call 91; refine (C5.out _ ((hn1.trans hn2).trans hn3)).mono ?_; rintro e w4 ⟨r, rfl, hn4, ho⟩))
          go_ret2
          exact KEY.out 6 w4 _ (((hn1.trans hn2).trans hn3).trans hn4) (by rw [HE.out]; unfold told; rw [if_neg (by rw [HB.out]; decide)])

end Go.Proofs.Ytcjmcpfdpnakkaa
