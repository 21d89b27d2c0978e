/- The reference's least rank of a colouring: its code. -/
import Derived.Test.YtoeckejcmojeaaaGreatRows
import Derived.Test.YtoeckejcmojeaaaGreatCore
import Derived.Test.YtoeckejcmojeaaaGreatInfos
import Derived.Test.YtoeckejcmojeaaaGreatPlains
import Derived.Test.YtoeckejcmojeaaaGreatJoins
import Derived.Test.YtoeckejcmojeaaaGreatQuicks
import Derived.Test.YtoeckejcmojeaaaGreatPOrds
import Derived.Test.YtoeckejcmojeaaaGreatPMerg
import Derived.Test.YtoeckejcmojeaaaGreatPKerns
import Derived.Test.YtoeckejcmojeaaaGreatPTrah
import Derived.Test.YtoeckejcmojeaaaGreatMaps
import Derived.Test.YtoeckejcmojeaaaGreatSWalks
import Derived.Test.YtoeckejcmojeaaaGreatArrs
import Derived.Test.YtoeckejcmojeaaaGreatSBase
import Derived.Test.YtoeckejcmojeaaaGreatSRdss
import Derived.Test.YtoeckejcmojeaaaGreatSArrs
import Derived.Test.YtoeckejcmojeaaaGreatSQuick
import Derived.WalkKit
import Derived.WalkSpells
import Derived.WalkLawsBesides
import Derived.Deep.QuietTactic
import Derived.Deep.OwnRows
import Derived.BigQuiet
import Derived.KernelRfl
import Derived.Deep.RegionHeld3
namespace Go.Proofs.YtoeckejcmojeaaaGreat
open Go.RowKit

set_option maxRecDepth 20000 in
set_option maxHeartbeats 2000000 in
theorem specLeastRank_any (v : Value) (r : Aut) (w : World) (h : CapAut w v r) :
    Calls Tryz.prog 24 #[v] w fun e w' => (∃ x y : Int, e = .returned (.tuple #[.int .i64 x, .int .i64 y, .int .i64 (if roadsOk r = true then (if 50000 < colCount r then 3 else 0) else 1)])) ∧ New w w' := by
  obtain ⟨rv, rfl, hcr⟩ := h
  have hr := hcr.rows
  obtain ⟨A, c, rfl⟩ := hr.form
  obtain ⟨wb, hwb⟩ : ∃ wb, wb = w.alloc (.cells #[.int .i64 r.n, .slice A r.nx.length c] 47) := ⟨_, rfl⟩
  have hnb : New w wb := by rw [hwb]; exact (by repeat (first | with_reducible exact New.refl _ | with_reducible assumption | with_reducible refine New.alloc ?_ _ | with_reducible refine New.drewN ?_ _ | with_reducible refine New.drew ?_ | with_reducible refine New.trans ?_ (by with_reducible assumption)))
  have hb0 : wb.cell? ⟨w.heap.size, 0, none⟩ = some (.int .i64 r.n) := by rw [hwb]; go_simp
  have hb1 : wb.cell? ⟨w.heap.size, 1, none⟩ = some (.slice A r.nx.length c) := by rw [hwb]; go_simp
  have C1 := l05Many_any w.heap.size A c r wb hb0 hb1 (hcr.new hnb)
  by_cases hok : roadsOk r = true
  · rw [if_pos hok] at C1 ⊢
    by_cases h5 : 50000 < colCount r
    · rw [if_pos h5] at C1 ⊢
      clear hok h5
      go_enter Tryz.func24, Tryz.ntmps24
      go_wp2_with fail
      rw [← hwb]
      clear hwb
      refine C1.mono ?_
      rintro e w1 ⟨rc, rfl, hn1, _⟩
      go_wp2_with fail
      refine bodyPost_ret (v := .tuple #[.int .i64 0, .int .i64 0, .int .i64 3]) (by simp [results, Tryz.results24, go_sem]) rfl ?_
      exact ⟨⟨_, _, rfl⟩, hnb.trans hn1⟩
    · rw [if_neg h5] at C1 ⊢
      have hf := roads_facts hok
      have hcl := choices_len r
      have HCNT := hid (fun (w1 : World) cv (hc : ListAt RowsAt w1 cv (choicesOf r)) => (show Calls Tryz.prog 67 #[cv] w1 fun e w' => e = .returned (.int .i64 (colCount r : Nat)) ∧ w' = w1 by
        have := l05Count_any cv (choicesOf r) w1 hc (fun p hp => choices_six hf p hp) (by rw [hcl]; exact hf.n7)
        rw [hcl] at this; exact this))
      have HAT := hid (fun (w1 : World) cv (N : Nat) (hc : ListAt RowsAt w1 cv (choicesOf r)) (hN : N ≤ 4611686018427387904) => refAt_any cv r N w1 hc hf hN)
      have HFU := hid (fun (w1 : World) p (N : Nat) (hp : PAut w1 p (colN r N)) => l02Full_any p (colN r N) w1 hp (by have := autOk_n (colN_ok hf N); omega) (autOk_n (colN_ok hf N)).2)
      have HFR := hid (fun (w1 : World) p (N : Nat) (hp : PAut w1 p (colN r N)) => l02From_any p (colN r N) (full (colN r N).n) w1 hp (colN_ok hf N) (full_lt _))
      have HLS := hid (fun (w1 : World) p (N : Nat) (hp : PWalk w1 p (tourOf (colN r N).nx (full (colN r N).n))) => l03Least_any p (colN r N) (full (colN r N).n) w1 hp (colN_ok hf N) (full_lt _))
      have HRK := hid (fun n => rkN_in hf n)
      have hbig := colCount_big hf
      have HOK := hid hok
      have H5 := hid h5
      have hrn : 1 ≤ r.n ∧ r.n ≤ 7 := by have := hf.n; have := hf.n1; have := hf.n7; omega
      obtain ⟨CC, hCC⟩ : ∃ z, z = colCount r := ⟨_, rfl⟩
      rw [← hCC] at HCNT hbig
      clear hok h5 hf hcl hCC
      go_enter Tryz.func24, Tryz.ntmps24
      go_wp2_with fail
      rw [← hwb]
      clear hwb
      refine C1.mono ?_
      rintro e w1 ⟨rc, rfl, hn1, hL⟩
      have hL1 := hL HOK.out H5.out
      obtain ⟨AC, cC, hcf, _⟩ := id hL1
      subst hcf
      have hw1 := hnb.trans hn1
      have hz1 := hw1.size
      have z0 := hn1.cell hb0
      clear hL
      go_wp2_with fail
      go_loopw [7, 8, 9] (fun bv fv i wr => ∃ (n : Nat) (x y : Int), n ≤ CC ∧ i = .int .i64 n ∧ bv = .int .i64 x ∧ fv = .int .i64 y ∧ New w1 wr) (fun _ _ i _ => CC - (intOf i).toNat)
      case atStart => exact ⟨0, _, _, Nat.zero_le _, rfl, rfl, rfl, (by repeat (first | with_reducible exact New.refl _ | with_reducible assumption | with_reducible refine New.alloc ?_ _ | with_reducible refine New.drewN ?_ _ | with_reducible refine New.drew ?_ | with_reducible refine New.trans ?_ (by with_reducible assumption)))⟩
      case round =>
        obtain ⟨n, x, y, hnC, rfl, rfl, rfl, hnn⟩ := hrel
        obtain ⟨wo, rfl⟩ : ∃ wo : World, wo = wr := ⟨_, rfl⟩
        have hL2 := ListAt.new (R := RowsAt) (fun h hn => h.new hn) hL1 hnn
        have hwo := hw1.trans hnn
        have hzo := hwo.size
        by_cases hlt : n < CC
        · have b1 : (n : Int) < (CC : Int) := by omega
          have HAn := hid (fun (w2 : World) (hn : New wo w2) => HAT.out w2 (.slice AC (choicesOf r).length cC) n (ListAt.new (R := RowsAt) (fun h hn => h.new hn) hL2 hn) (by omega))
          have HLn := hid (fun (w1 : World) p (hp : PWalk w1 p (tourOf (colN r n).nx (full (colN r n).n))) => HLS.out w1 p n hp)
          rw [show leastOf (colN r n).nx (full (colN r n).n) = rkN r n from rfl] at HLn
          obtain ⟨K, hK⟩ : ∃ K, K = rkN r n := ⟨_, rfl⟩
          rw [← hK] at HLn
          clear hK
          by_cases hkx : (K : Int) < x
          · go_wp2_with (first
              | (go_at_call 67; refine (HCNT.out _ _ hL2).mono ?_; rintro e w' ⟨rfl, hww⟩; rw [hww]; clear hww w')
              | (go_at_call 68; refine (HAn.out _ (by repeat (first | with_reducible exact New.refl _ | with_reducible assumption | with_reducible refine New.alloc ?_ _ | with_reducible refine New.drewN ?_ _ | with_reducible refine New.drew ?_ | with_reducible refine New.trans ?_ (by with_reducible assumption)))).mono ?_; rintro e w3 ⟨r3, he, hn3, ho3⟩; obtain ⟨rv3, rfl, ho4⟩ := ho3; obtain ⟨A3, c3, rfl⟩ := ho4.form; subst he; have hp3 : PAut _ _ (colN r n) := PAut.box (a := colN r n) ho4.at 31)
              | (go_at_call 71; refine (HFU.out _ _ n hp3).mono ?_; rintro e w' ⟨rfl, hww⟩; rw [hww]; clear hww w')
              | (go_at_call 70; refine (HFR.out _ _ n hp3).mono ?_; rintro e w5 ⟨q5, he, hn5, ho5⟩; subst he)
              | (go_at_call 69; refine (HLn.out _ _ ho5).mono ?_; rintro e w6 ⟨rfl, hn6⟩))
            have hn6w : New wo w6 := New.trans (by repeat (first | with_reducible exact New.refl _ | with_reducible assumption | with_reducible refine New.alloc ?_ _ | with_reducible refine New.drewN ?_ _ | with_reducible refine New.drew ?_ | with_reducible refine New.trans ?_ (by with_reducible assumption))) hn6
            exact ⟨⟨n + 1, _, _, by omega, by go_num, rfl, rfl, hnn.trans hn6w⟩, by simp [intOf]; omega⟩
          · go_wp2_with (first
              | (go_at_call 67; refine (HCNT.out _ _ hL2).mono ?_; rintro e w' ⟨rfl, hww⟩; rw [hww]; clear hww w')
              | (go_at_call 68; refine (HAn.out _ (by repeat (first | with_reducible exact New.refl _ | with_reducible assumption | with_reducible refine New.alloc ?_ _ | with_reducible refine New.drewN ?_ _ | with_reducible refine New.drew ?_ | with_reducible refine New.trans ?_ (by with_reducible assumption)))).mono ?_; rintro e w3 ⟨r3, he, hn3, ho3⟩; obtain ⟨rv3, rfl, ho4⟩ := ho3; obtain ⟨A3, c3, rfl⟩ := ho4.form; subst he; have hp3 : PAut _ _ (colN r n) := PAut.box (a := colN r n) ho4.at 31)
              | (go_at_call 71; refine (HFU.out _ _ n hp3).mono ?_; rintro e w' ⟨rfl, hww⟩; rw [hww]; clear hww w')
              | (go_at_call 70; refine (HFR.out _ _ n hp3).mono ?_; rintro e w5 ⟨q5, he, hn5, ho5⟩; subst he)
              | (go_at_call 69; refine (HLn.out _ _ ho5).mono ?_; rintro e w6 ⟨rfl, hn6⟩))
            have hn6w : New wo w6 := New.trans (by repeat (first | with_reducible exact New.refl _ | with_reducible assumption | with_reducible refine New.alloc ?_ _ | with_reducible refine New.drewN ?_ _ | with_reducible refine New.drew ?_ | with_reducible refine New.trans ?_ (by with_reducible assumption))) hn6
            exact ⟨⟨n + 1, _, _, by omega, by go_num, rfl, rfl, hnn.trans hn6w⟩, by simp [intOf]; omega⟩
        · have b1 : ¬ (n : Int) < (CC : Int) := by omega
          go_wp2_with (go_at_call 67; refine (HCNT.out _ _ hL2).mono ?_; rintro e w' ⟨rfl, hww⟩; rw [hww]; clear hww w')
          refine bodyPost_ret (v := .tuple #[.int .i64 x, .int .i64 y, .int .i64 0]) (by simp [results, Tryz.results24, go_sem]) rfl ?_
          exact ⟨⟨_, _, rfl⟩, hw1.trans hnn⟩
  · rw [if_neg hok] at C1 ⊢
    clear hok
    go_enter Tryz.func24, Tryz.ntmps24
    go_wp2_with fail
    rw [← hwb]
    clear hwb
    refine C1.mono ?_
    rintro e w1 ⟨rc, rfl, hn1, _⟩
    go_wp2_with fail
    refine bodyPost_ret (v := .tuple #[.int .i64 0, .int .i64 0, .int .i64 1]) (by simp [results, Tryz.results24, go_sem]) rfl ?_
    exact ⟨⟨_, _, rfl⟩, hnb.trans hn1⟩

end Go.Proofs.YtoeckejcmojeaaaGreat
