/- The law of Finer answers true. -/
import Derived.Test.YtoeckejcmojeaaaRows
import Derived.Test.YtoeckejcmojeaaaCore
import Derived.Test.YtoeckejcmojeaaaArrs
import Derived.Test.YtoeckejcmojeaaaInfos
import Derived.Test.YtoeckejcmojeaaaPlains
import Derived.Test.YtoeckejcmojeaaaPlainCho
import Derived.Test.YtoeckejcmojeaaaSDraw
import Derived.Test.YtoeckejcmojeaaaSFin1
import Derived.Test.YtoeckejcmojeaaaSFin2
import Derived.Test.YtoeckejcmojeaaaSFin3
import Derived.Test.YtoeckejcmojeaaaSFin5
import Derived.Test.YtoeckejcmojeaaaIFin
import Derived.Test.YtoeckejcmojeaaaPlainFin
import Derived.Test.YtoeckejcmojeaaaSCho
import Derived.Test.YtoeckejcmojeaaaICho
import Derived.Test.YtoeckejcmojeaaaDirI
import Derived.WalkKit
import Derived.WalkSpells
import Derived.WalkLawsBesides
import Derived.Deep.QuietTactic
import Derived.Deep.OwnRows
import Derived.BigQuiet
import Derived.KernelRfl
import Derived.Carry
import Derived.Deep.RegionHeld3
namespace Go.Proofs.Ytoeckejcmojeaaa
open Go.RowKit

set_option maxRecDepth 20000 in
set_option maxHeartbeats 4000000 in
theorem FnFiner_any (v1 v2 : Value) (n1 n2 : Nat) (w : World) (h1 : BytesAt w v1 n1) (h2 : BytesAt w v2 n2) :
    Calls Try.prog 4 #[v1, v2] w fun e w' => e = .returned (.bool true) ∧ New w w' := by
  have C1 := f6big_any v1 n1 w h1
  have C2 := f6big_any v2 n2 w h2
  by_cases hl1 : 4096 < n1
  · rw [decide_eq_true hl1] at C1
    clear hl1
    go_enter Try.func4, Try.ntmps4
    go_wp2_with fail
    refine C1.mono ?_
    rintro e w' ⟨rfl, hww⟩
    rw [hww]
    clear hww w'
    go_wp2_with fail
    go_ret
    exact ⟨rfl, New.refl _⟩
  · rw [decide_eq_false hl1] at C1
    by_cases hl2 : 4096 < n2
    · rw [decide_eq_true hl2] at C2
      clear hl1 hl2
      go_enter Try.func4, Try.ntmps4
      go_wp2_with fail
      refine C1.mono ?_
      rintro e w' ⟨rfl, hww⟩
      rw [hww]
      clear hww w'
      go_wp2_with fail
      refine C2.mono ?_
      rintro e w' ⟨rfl, hww⟩
      rw [hww]
      clear hww w'
      go_wp2_with fail
      go_ret
      exact ⟨rfl, New.refl _⟩
    · rw [decide_eq_false hl2] at C2
      have C3 := P6Choice_any v1 n1 w h1
      clear hl1 hl2
      go_enter Try.func4, Try.ntmps4
      go_wp2_with fail
      refine C1.mono ?_
      rintro e w' ⟨rfl, hww⟩
      rw [hww]
      clear hww w'
      go_wp2_with fail
      refine C2.mono ?_
      rintro e w' ⟨rfl, hww⟩
      rw [hww]
      clear hww w'
      go_wp2_with fail
      refine C3.mono ?_
      rintro e w1 ⟨r1, d, rfl, hn1, hat1, hd, hd4⟩
      clear C1 C2 C3
      obtain ⟨rv1, rfl, hcu1⟩ := id hat1
      obtain ⟨A1, c1, rfl⟩ := hcu1.form
      clear hcu1
      have hnb : New w1 (w1.alloc (.cells #[.int .i64 d.n, .slice A1 d.nx.length c1] 39)) := (by repeat (first | with_reducible exact New.refl _ | with_reducible assumption | with_reducible refine New.alloc ?_ _ | with_reducible refine New.drewN ?_ _ | with_reducible refine New.drew ?_ | with_reducible refine New.trans ?_ (by with_reducible assumption)))
      have z0 : (w1.alloc (.cells #[.int .i64 d.n, .slice A1 d.nx.length c1] 39)).cell? ⟨w1.heap.size, 0, none⟩ = some (.int .i64 d.n) := by go_simp
      have z1 : (w1.alloc (.cells #[.int .i64 d.n, .slice A1 d.nx.length c1] 39)).cell? ⟨w1.heap.size, 1, none⟩ = some (.slice A1 d.nx.length c1) := by go_simp
      go_wp2_with fail
      obtain ⟨db, hdb⟩ : ∃ db, db = w1.heap.size := ⟨_, rfl⟩
      have HAT1 := hid (hat1.new hnb)
      have HN1 := hid (hn1.trans hnb)
      generalize (w1.alloc (.cells #[.int .i64 d.n, .slice A1 d.nx.length c1] 39)) = w2 at z0 z1 hnb HAT1 HN1 ⊢
      rw [← hdb] at z0 z1 ⊢
      clear hdb hat1 hn1 hnb
      refine (P6Finer_any v2 _ n2 d w2 (h2.new HN1.out) HAT1.out hd).mono ?_
      rintro e w3 ⟨r3, CS, rfl, hn3, hat3, hF⟩
      obtain ⟨rv3, rfl, hcu3⟩ := id hat3
      obtain ⟨A3, c3, rfl⟩ := hcu3.form
      clear hcu3
      replace z0 := hn3.cell z0
      replace z1 := hn3.cell z1
      have hnb3 : New w3 (w3.alloc (.cells #[.int .i64 d.n, .slice A3 CS.length c3] 39)) := (by repeat (first | with_reducible exact New.refl _ | with_reducible assumption | with_reducible refine New.alloc ?_ _ | with_reducible refine New.drewN ?_ _ | with_reducible refine New.drew ?_ | with_reducible refine New.trans ?_ (by with_reducible assumption)))
      have y0 : (w3.alloc (.cells #[.int .i64 d.n, .slice A3 CS.length c3] 39)).cell? ⟨w3.heap.size, 0, none⟩ = some (.int .i64 d.n) := by go_simp
      have y1 : (w3.alloc (.cells #[.int .i64 d.n, .slice A3 CS.length c3] 39)).cell? ⟨w3.heap.size, 1, none⟩ = some (.slice A3 CS.length c3) := by go_simp
      go_wp2_with fail
      obtain ⟨cb, hcb⟩ : ∃ cb, cb = w3.heap.size := ⟨_, rfl⟩
      have HAT3 := hid (show ChoAt _ _ (Cho.mk d.n CS) from hat3.new hnb3)
      have HAT1' := hid (HAT1.out.new (hn3.trans hnb3))
      have HN3 := hid (HN1.out.trans (hn3.trans hnb3))
      replace z0 := hnb3.cell z0
      replace z1 := hnb3.cell z1
      generalize (w3.alloc (.cells #[.int .i64 d.n, .slice A3 CS.length c3] 39)) = W at z0 z1 y0 y1 hnb3 HAT1' HAT3 HN3 ⊢
      rw [← hcb] at y0 y1 ⊢
      clear hcb hat3 hn3 hnb3 HAT1 HN1
      have hparts := choOk_parts hd
      have hCSl := hF.1
      have hok := fin_ok hd hF
      have HW1 := hid (fun w5 (hm : New W w5) => P6Word_any v2 n2 CS.length 5 w5 (h2.new (HN3.out.trans hm)) (by omega) (by decide))
      have HW2 := hid (fun w5 (hm : New W w5) => P6Set_any v1 n1 d.n w5 (h1.new (HN3.out.trans hm)) (by omega))
      have HR1 := hid (fun w5 (hm : New W w5) => RefineChoice_any _ _ (Cho.mk d.n CS) d w5 (HAT3.out.new hm) (HAT1'.out.new hm) hok hd rfl hCSl (fun l hl => (hF.2 l (by have hl : l < CS.length := hl; omega)).1))
      have HR2 := hid (fun w5 (hm : New W w5) => RefineChoice_any _ _ d (Cho.mk d.n CS) w5 (HAT1'.out.new hm) (HAT3.out.new hm) hd hok rfl hCSl.symm (fun l hl => (hF.2 l hl).1.symm))
      rw [fin_ref hd hF] at HR1
      rw [fin_back hd hF] at HR2
      have HSC := hid (fun w5 (hm : New W w5) => SameChoice_any _ _ (Cho.mk d.n CS) d w5 (HAT3.out.new hm) (HAT1'.out.new hm))
      obtain ⟨DB, hDB⟩ : ∃ DB, DB = decide (Cho.mk d.n CS = d) := ⟨_, rfl⟩
      rw [← hDB] at HR2 HSC
      have hbb : (DB == DB) = true := by simp
      have HFR := hid (fun set ws hs hw => fin_reach hd hF set ws hs hw)
      have HFD := hid (fun ws hw => fin_directs hd hF ws hw)
      have HCL := hid hCSl
      clear hDB hparts hCSl hok hF
      refine (HW1.out _ (New.refl _)).mono ?_
      rintro e w5 ⟨r5, ws, rfl, hn5, ho5, hwl, hwb⟩
      obtain ⟨A5, c5, rfl⟩ := ho5.form
      replace z0 := hn5.cell z0
      replace z1 := hn5.cell z1
      replace y0 := hn5.cell y0
      replace y1 := hn5.cell y1
      have HO5 := hid ho5.at
      have hword := hid (show wordOk d.shape ws = true by
        rw [wordOk_iff]
        refine ⟨by omega, fun i hi => ?_⟩
        have := hwb i hi
        have e := HCL.out
        show 0 ≤ nth ws i ∧ nth ws i < ((List.replicate d.nx.length ([] : List Int)).length : Int)
        rw [List.length_replicate]
        omega)
      clear ho5 hwl hwb
      go_wp2_with fail
      refine (HW2.out _ hn5).mono ?_
      rintro e w6 ⟨r6, xs, rfl, hn6, ho6, hset⟩
      obtain ⟨A6, c6, rfl⟩ := ho6.form
      replace z0 := hn6.cell z0
      replace z1 := hn6.cell z1
      replace y0 := hn6.cell y0
      replace y1 := hn6.cell y1
      have HO6 := hid ho6.at
      have HO5' := hid (HO5.out.new hn6)
      obtain ⟨f1, f2, f3⟩ := HFR.out xs ws hset hword.out
      obtain ⟨g1, g2, g3⟩ := HFD.out ws hword.out
      replace hn6 := hn5.trans hn6
      have HRB1 := hid (fun w7 (hm : New w6 w7) => implReachBy_any _ _ _ (Cho.mk d.n CS) xs ws w7 (HAT3.out.new (hn6.trans hm)) (HO6.out.new hm) (HO5'.out.new hm))
      have HRB2 := hid (fun w7 (hm : New w6 w7) => implReachBy_any _ _ _ d xs ws w7 (HAT1'.out.new (hn6.trans hm)) (HO6.out.new hm) (HO5'.out.new hm))
      have HD1 := hid (fun w7 (hm : New w6 w7) => implDirects_any _ _ (Cho.mk d.n CS) ws 3 w7 (HAT3.out.new (hn6.trans hm)) (HO5'.out.new hm))
      have HD2 := hid (fun w7 (hm : New w6 w7) => implDirects_any _ _ d ws 3 w7 (HAT1'.out.new (hn6.trans hm)) (HO5'.out.new hm))
      rw [f1] at HRB1
      rw [f2] at HRB2
      rw [g1] at HD1
      rw [g2] at HD2
      obtain ⟨FEW, hFEW⟩ : ∃ z, z = (ReachBy (Cho.mk d.n CS) xs ws).1 := ⟨_, rfl⟩
      obtain ⟨MANY, hMANY⟩ : ∃ z, z = (ReachBy d xs ws).1 := ⟨_, rfl⟩
      obtain ⟨LB, hLB⟩ : ∃ z, z = (Directs (Cho.mk d.n CS) ws 3).1 := ⟨_, rfl⟩
      obtain ⟨HB, hHB⟩ : ∃ z, z = (Directs d ws 3).1 := ⟨_, rfl⟩
      rw [← hFEW] at f3 HRB1
      rw [← hMANY] at f3 HRB2
      rw [← hLB] at g3 HD1
      rw [← hHB] at g3 HD2
      have HF3 := hid f3
      clear f1 f2 f3 g1 g2 hFEW hMANY hLB hHB ho6 hset HFR HFD hn5
      go_wp2_with fail
      refine (HR1.out _ hn6).mono ?_
      rintro e w7 ⟨rfl, hn7⟩
      replace z0 := hn7.cell z0
      replace z1 := hn7.cell z1
      replace y0 := hn7.cell y0
      replace y1 := hn7.cell y1
      go_wp2_with fail
      refine (HR2.out _ (hn6.trans hn7)).mono ?_
      rintro e w8 ⟨rfl, hn8⟩
      replace z0 := hn8.cell z0
      replace z1 := hn8.cell z1
      replace y0 := hn8.cell y0
      replace y1 := hn8.cell y1
      replace hn8 := hn7.trans hn8
      clear hn7
      go_wp2_with fail
      refine (HRB1.out _ hn8).mono ?_
      rintro e w9 ⟨r9, rfl, hn9, ho9⟩
      obtain ⟨A9, c9, rfl⟩ := ho9.form
      replace z0 := hn9.cell z0
      replace z1 := hn9.cell z1
      replace y0 := hn9.cell y0
      replace y1 := hn9.cell y1
      have HO9 := hid ho9.at
      replace hn9 := hn8.trans hn9
      clear ho9 hn8
      go_wp2_with fail
      refine (HRB2.out _ hn9).mono ?_
      rintro e w10 ⟨r10, rfl, hn10, ho10⟩
      obtain ⟨A10, c10, rfl⟩ := ho10.form
      replace z0 := hn10.cell z0
      replace z1 := hn10.cell z1
      replace y0 := hn10.cell y0
      replace y1 := hn10.cell y1
      have HO10 := hid ho10.at
      have HO9' := hid (HO9.out.new hn10)
      replace hn10 := hn9.trans hn10
      clear ho10 hn9
      go_wp2_with fail
      refine (HD1.out _ hn10).mono ?_
      rintro e w11 ⟨rfl, hn11⟩
      replace z0 := hn11.cell z0
      replace z1 := hn11.cell z1
      replace y0 := hn11.cell y0
      replace y1 := hn11.cell y1
      have HO9'' := hid (HO9'.out.new hn11)
      have HO10' := hid (HO10.out.new hn11)
      replace hn11 := hn10.trans hn11
      clear hn10
      go_wp2_with fail
      refine (HD2.out _ hn11).mono ?_
      rintro e w12 ⟨rfl, hn12⟩
      replace z0 := hn12.cell z0
      replace z1 := hn12.cell z1
      replace y0 := hn12.cell y0
      replace y1 := hn12.cell y1
      have HA9 := hid (HO9''.out.new hn12)
      have HA10 := hid (HO10'.out.new hn12)
      replace hn12 := hn11.trans hn12
      clear hn11
      have hN12 := hn6.trans hn12
      go_wp2_with fail
      refine (HSC.out _ hN12).mono ?_
      rintro e w13 ⟨rfl, hn13⟩
      have CP := f6part_any _ _ FEW MANY w13 (HA9.out.new hn13) (HA10.out.new hn13)
      rw [HF3.out] at CP
      go_wp2_with fail
      refine CP.mono ?_
      rintro e w14 ⟨rfl, hn14⟩
      have hfin := HN3.out.trans ((hN12.trans hn13).trans hn14)
      cases LB with
      | false =>
        go_wp2_with fail
        go_ret
        exact ⟨rfl, hfin⟩
      | true =>
        have hh := g3 rfl
        subst hh
        go_wp2_with fail
        go_ret
        exact ⟨rfl, hfin⟩

end Go.Proofs.Ytoeckejcmojeaaa
