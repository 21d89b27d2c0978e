/- The reference's quickest colouring. -/
import Derived.Test.YtoeckejcmojeaaaGreatRows
import Derived.Test.YtoeckejcmojeaaaGreatCore
import Derived.Test.YtoeckejcmojeaaaGreatInfos
import Derived.Test.YtoeckejcmojeaaaGreatPlains
import Derived.Test.YtoeckejcmojeaaaGreatJoins
import Derived.Test.YtoeckejcmojeaaaGreatQuicks
import Derived.Test.YtoeckejcmojeaaaGreatMaps
import Derived.Test.YtoeckejcmojeaaaGreatSWalks
import Derived.Test.YtoeckejcmojeaaaGreatArrs
import Derived.Test.YtoeckejcmojeaaaGreatSBase
import Derived.Test.YtoeckejcmojeaaaGreatSRdss
import Derived.Test.YtoeckejcmojeaaaGreatSArrs
import Derived.WalkKit
import Derived.WalkSpells
import Derived.WalkLawsBesides
import Derived.Deep.QuietTactic
import Derived.Deep.OwnRows
import Derived.BigQuiet
import Derived.KernelRfl
import Derived.Deep.RegionHeld3
namespace Go.Proofs.YtoeckejcmojeaaaGreat
open Go.RowKit

set_option maxRecDepth 20000 in
set_option maxHeartbeats 1000000 in
theorem l05Count_any (cv : Value) (cs : List (List (List Int))) (w : World) (hc : ListAt RowsAt w cv cs) (h6 : ∀ s, s < cs.length → (nth cs s).length ≤ 6) (h7 : cs.length ≤ 7) :
    Calls Tryz.prog 67 #[cv] w fun e w' => e = .returned (.int .i64 (cntTo cs cs.length : Nat)) ∧ w' = w := by
  obtain ⟨AC, cC, rfl, hlC, hC⟩ := hc
  have HC := hid hC
  have HB := hid (fun s hs => cntTo_big h6 h7 s hs)
  have H6 := hid h6
  clear hC h6
  go_enter Tryz.func67, Tryz.ntmps67
  go_wp2_with fail
  go_loopw [3, 4] (fun o i wr => ∃ s : Nat, s ≤ cs.length ∧ i = .int .i64 s ∧ o = .int .i64 (cntTo cs s : Nat) ∧ wr = w) (fun _ i _ => cs.length - (intOf i).toNat)
  case atStart => exact ⟨0, Nat.zero_le _, rfl, rfl, rfl⟩
  case round =>
    obtain ⟨s, hs, rfl, rfl, rfl⟩ := hrel
    have hbig := HB.out s hs
    have HSU := hid (show cntTo cs (s + 1) = cntTo cs s * (nth cs s).length from rfl)
    obtain ⟨Z, hZ⟩ : ∃ Z, Z = cntTo cs s := ⟨_, rfl⟩
    rw [← hZ] at hbig HSU ⊢
    have HZ := hid hZ
    clear hZ
    by_cases hlt : s < cs.length
    · have b1 : (s : Int) < (cs.length : Int) := by omega
      obtain ⟨cb, co, tv, rfl, hx, hxt⟩ := HC.out s hlt
      obtain ⟨At, ct, rfl⟩ := hxt.form
      have h6 := H6.out s hlt
      obtain ⟨L, hL⟩ : ∃ L, L = (nth cs s).length := ⟨_, rfl⟩
      rw [← hL] at hx HSU h6
      have key : Z * L ≤ 279936 * 6 := Nat.mul_le_mul hbig h6
      have hmul : (Z : Int) * (L : Int) = ((Z * L : Nat) : Int) := by simp
      have HM := hid hmul
      obtain ⟨ZL, hZL⟩ : ∃ z, z = Z * L := ⟨_, rfl⟩
      rw [← hZL] at key HSU HM
      clear hL hxt hmul hZL
      have hw1 : Go.RowKit.wrap64 ((Z : Int) * (L : Int)) = (ZL : Int) := by rw [HM.out]; exact IntWalk.wrap64_in _ ⟨by omega, by omega⟩
      go_wp2_with fail
      go_roundw
      case rel => exact ⟨s + 1, by omega, by go_num, by rw [HSU.out, hw1], by trivial⟩
      case measure => simp [intOf]; omega
    · have e : s = cs.length := by omega
      subst e
      go_wp2_with fail
      go_ret
      rw [← HZ.out]
      exact ⟨rfl, rfl⟩
set_option maxRecDepth 20000 in
set_option maxHeartbeats 1000000 in
theorem l05Many_any (pb : Nat) (A : Option Addr) (c : Nat) (r : Aut) (w : World) (h0 : w.cell? ⟨pb, 0, none⟩ = some (.int .i64 r.n)) (h1 : w.cell? ⟨pb, 1, none⟩ = some (.slice A r.nx.length c)) (hcr : CapRows w (.slice A r.nx.length c) r.nx) :
    Calls Tryz.prog 66 #[.pointer (some ⟨pb, 0, none⟩)] w fun e w' => ∃ rc, e = .returned (.tuple #[rc, .int .i64 (if roadsOk r = true then (if 50000 < colCount r then 3 else 0) else 1)]) ∧ New w w' ∧ (roadsOk r = true → ¬ 50000 < colCount r → ListAt RowsAt w' rc (choicesOf r)) := by
  have hp : PAut w (.pointer (some ⟨pb, 0, none⟩)) r := ⟨pb, _, rfl, h0, h1, hcr.rows⟩
  have C1 := l05Ok_any _ r w hp
  cases hm : roadsOk r with
  | false =>
    rw [hm] at C1
    go_enter Tryz.func66, Tryz.ntmps66
    go_wp2_with fail
    refine C1.mono ?_
    rintro e w1 ⟨rfl, hn1⟩
    go_wp2_with fail
    go_ret2
    exact ⟨⟨_, rfl⟩, hn1.trans (by repeat (first | with_reducible exact New.refl _ | with_reducible assumption | with_reducible refine New.alloc ?_ _ | with_reducible refine New.drewN ?_ _ | with_reducible refine New.drew ?_ | with_reducible refine New.trans ?_ (by with_reducible assumption)))⟩
  | true =>
    rw [hm] at C1
    have hf := roads_facts hm
    have hcl := choices_len r
    have HC := hid (fun w1 (hn : New w w1) => l05Choices_any pb (.slice A r.nx.length c) r.nx w1 (hn.cell h1) (hcr.new hn) hf.n7 (fun i hi => by rw [hf.row i hi]; exact hf.l3))
    rw [show r.nx.map arrOf = choicesOf r from rfl] at HC
    have HCNT := hid (fun (w1 : World) cv (hc : ListAt RowsAt w1 cv (choicesOf r)) => (show Calls Tryz.prog 67 #[cv] w1 fun e w' => e = .returned (.int .i64 (colCount r : Nat)) ∧ w' = w1 by
      have := l05Count_any cv (choicesOf r) w1 hc (fun p hp => choices_six hf p hp) (by rw [hcl]; exact hf.n7)
      rw [hcl] at this; exact this))
    obtain ⟨CC, hCC⟩ : ∃ z, z = colCount r := ⟨_, rfl⟩
    rw [← hCC] at HCNT ⊢
    clear hf hcl hCC hm
    by_cases h5 : 50000 < CC
    · have h5i : (50000 : Int) < (CC : Int) := by omega
      rw [if_pos rfl, if_pos h5]
      go_enter Tryz.func66, Tryz.ntmps66
      go_wp2_with fail
      refine C1.mono ?_
      rintro e w1 ⟨rfl, hn1⟩
      go_wp2_with fail
      refine (HC.out _ hn1).mono ?_
      rintro e w2 ⟨rc, rfl, hn2, hL2⟩
      go_wp2_with (go_at_call 67; refine (HCNT.out _ _ hL2).mono ?_; rintro e w' ⟨rfl, rfl⟩)
      go_ret2
      exact ⟨_, rfl, (hn1.trans hn2).trans (by repeat (first | with_reducible exact New.refl _ | with_reducible assumption | with_reducible refine New.alloc ?_ _ | with_reducible refine New.drewN ?_ _ | with_reducible refine New.drew ?_ | with_reducible refine New.trans ?_ (by with_reducible assumption))), fun _ h => absurd h5 h⟩
    · have h5i : ¬ (50000 : Int) < (CC : Int) := by omega
      rw [if_pos rfl, if_neg h5]
      go_enter Tryz.func66, Tryz.ntmps66
      go_wp2_with fail
      refine C1.mono ?_
      rintro e w1 ⟨rfl, hn1⟩
      go_wp2_with fail
      refine (HC.out _ hn1).mono ?_
      rintro e w2 ⟨rc, rfl, hn2, hL2⟩
      go_wp2_with (go_at_call 67; refine (HCNT.out _ _ hL2).mono ?_; rintro e w' ⟨rfl, rfl⟩)
      go_ret2
      exact ⟨_, rfl, hn1.trans hn2, fun _ _ => hL2⟩

end Go.Proofs.YtoeckejcmojeaaaGreat
