/- The program's colouring with a number. -/
import Derived.Test.YtoeckejcmojeaaaGreatRows
import Derived.Test.YtoeckejcmojeaaaGreatCore
import Derived.Test.YtoeckejcmojeaaaGreatInfos
import Derived.Test.YtoeckejcmojeaaaGreatPlains
import Derived.Test.YtoeckejcmojeaaaGreatMaps
import Derived.Test.YtoeckejcmojeaaaGreatArrs
import Derived.Test.YtoeckejcmojeaaaGreatJoins
import Derived.Test.YtoeckejcmojeaaaGreatIArrs
import Derived.Test.YtoeckejcmojeaaaGreatIBase
import Derived.Test.YtoeckejcmojeaaaGreatIRdss
import Derived.WalkKit
import Derived.WalkSpells
import Derived.WalkLawsBesides
import Derived.Deep.QuietTactic
import Derived.Deep.OwnRows
import Derived.BigQuiet
import Derived.KernelRfl
import Derived.Carry
import Derived.Deep.RegionLaw
import Derived.Deep.RegionHeld3
namespace Go.Proofs.YtoeckejcmojeaaaGreat
open Go.RowKit

theorem OwnInts.madeZ (w : World) (T : TypeId) (n : Nat) (h : n ≤ 1099511627776) : OwnInts w.heap.size (w.heap.size + 1) (w.alloc (.cells (madeCells #[.int .i64 0] n) T)) (.slice (some ⟨w.heap.size, 0, none⟩) n n) (List.replicate n 0) := by
  have hr : (w.alloc (.cells (madeCells #[.int .i64 0] n) T)).rowIs w.heap.size T n (fun _ => .int .i64 0) := World.rowIs_made _ _ _ _
  refine ⟨some ⟨w.heap.size, 0, none⟩, n, by simp, by simpa using h, fun a ha => by cases ha; exact ⟨Nat.le_refl _, Nat.lt_succ_self _⟩, fun i hi => ⟨_, _, rfl, ?_, hr.frozen _⟩⟩
  have hi' : 0 + i < n := by simpa using hi
  rw [nth_eq _ _ hi, List.getElem_replicate]
  have := hr.cell hi'
  simpa using this
set_option maxRecDepth 20000 in
set_option maxHeartbeats 4000000 in
theorem paintAt_any (rv cv : Value) (nx : List (List Int)) (cs : List (List (List Int))) (L N : Nat) (w : World) (hr : RowsAt w rv nx) (hc : ListAt RowsAt w cv cs) (hcl : cs.length = nx.length) (h1 : 1 ≤ nx.length) (h7 : nx.length ≤ 7) (hL0 : (nth nx 0).length = L) (hL : 1 ≤ L ∧ L ≤ 3)
    (hpos : ∀ p, p < cs.length → 0 < (nth cs p).length) (hrow : ∀ p, p < cs.length → ∀ i, i < (nth cs p).length → (nth (nth cs p) i).length = L) (hN : N ≤ 4611686018427387904) :
    Calls Tryz.prog 61 #[.agg #[.int .i64 nx.length, rv, cv], .int .i64 N] w fun e w' => ∃ r, e = .returned r ∧ New w w' ∧ OwnAut w.heap.size w'.heap.size w' r ⟨nx.length, atRows cs N L⟩ := by
  obtain ⟨A, c, rfl⟩ := hr.form
  obtain ⟨AC, cC, rfl, _, hcc⟩ := id hc
  have HCC := hid hcc
  have HPOS := hid hpos
  have HROW := hid hrow
  have HL0 := hid hL0
  have HCL := hid hcl
  obtain ⟨W0, hW0⟩ : ∃ W0, W0 = ((w.alloc (.cells #[.int .i64 nx.length, .slice A nx.length c, .slice AC cs.length cC] 95)).alloc (.cells #[.int .i64 0, .slice none 0 0] 31)).alloc (.cells #[.int .i64 nx.length, .slice none 0 0] 31) := ⟨_, rfl⟩
  have hn0 : New w W0 := by rw [hW0]; exact (by repeat (first | with_reducible exact New.refl _ | with_reducible assumption | with_reducible refine New.alloc ?_ _ | with_reducible refine New.drewN ?_ _ | with_reducible refine New.drew ?_ | with_reducible refine New.trans ?_ (by with_reducible assumption)))
  have hz0 : w.heap.size + 3 ≤ W0.heap.size := by rw [hW0]; simp only [size_alloc]; omega
  have hP : Box3 W0 w.heap.size (.int .i64 nx.length) (.slice A nx.length c) (.slice AC cs.length cC) := by rw [hW0]; exact ⟨⟨by go_simp, by go_simp, by go_simp⟩, by go_simp, by go_simp, by go_simp⟩
  have hR : Box2 W0 (w.heap.size + 1) (.int .i64 0) (.slice none 0 0) := by rw [hW0]; exact ⟨by go_simp, by go_simp, by go_simp, by go_simp⟩
  have hO : Box2 W0 (w.heap.size + 1 + 1) (.int .i64 nx.length) (.slice none 0 0) := by rw [hW0]; exact ⟨by go_simp, by go_simp, by go_simp, by go_simp⟩
  have CD := degree_any (.agg #[.int .i64 nx.length, .slice A nx.length c]) ⟨nx.length, nx⟩ W0 ⟨_, rfl, hr.new hn0⟩ h1
  simp only [hL0] at CD
  have hmk := fun w => run_make_row' (P := Tryz.prog) 34 2 (.int .i64 0) 8 Tryz.underlying34 info_i64 rfl .i64 .i64 nx.length (by omega) (by omega) w
  obtain ⟨⟨z0, z1, z2⟩, _⟩ := id hP
  clear hcc hpos hrow hL0 hcl
  go_enter Tryz.func61, Tryz.ntmps61
  go_wp2_with fail
  rw [← hW0]
  refine CD.mono ?_
  rintro e w1 ⟨rfl, hn1⟩
  replace hn0 := hn0.trans hn1
  replace hP := hP.new hn1
  replace hR := hR.new hn1
  replace hO := hO.new hn1
  have hz1 := hn1.size
  replace hz0 : w.heap.size + 3 ≤ w1.heap.size := by omega
  clear z0 z1 z2 CD hW0 hn1
  have hG : GrowRows (w.heap.size + 3) 34 w1 (.slice none 0 0) (List.replicate 0 (List.replicate nx.length 0)) := GrowRows.nil _ _ _
  go_wp2_with fail
  go_loopw [17] (fun i wr => ∃ (k : Nat) (v : Value), i = .int .i64 k ∧ k ≤ L ∧ New w wr ∧ w.heap.size + 3 ≤ wr.heap.size ∧ Box3 wr w.heap.size (.int .i64 nx.length) (.slice A nx.length c) (.slice AC cs.length cC) ∧ Box2 wr (w.heap.size + 1) (.int .i64 0) (.slice none 0 0) ∧ Box2 wr (w.heap.size + 1 + 1) (.int .i64 nx.length) v ∧
      GrowRows (w.heap.size + 3) 34 wr v (List.replicate k (List.replicate nx.length 0))) (fun i _ => L - (intOf i).toNat)
  case atStart => exact ⟨0, _, rfl, Nat.zero_le _, hn0, hz0, hP, hR, hO, hG⟩
  case round =>
    obtain ⟨k, v, rfl, hk, hn, hz, hPw, hRw, hOw, hGw⟩ := hrel
    clear hn0 hz0 hz1 hP hR hO hG
    obtain ⟨wo, rfl⟩ : ∃ wo : World, wo = wr := ⟨_, rfl⟩
    by_cases hlt : k < L
    · have b1 : (k : Int) < (L : Int) := by omega
      obtain ⟨XS, hXS⟩ : ∃ z, z = List.replicate k (List.replicate nx.length (0 : Int)) := ⟨_, rfl⟩
      have HE := hid (show List.replicate (k + 1) (List.replicate nx.length (0 : Int)) = XS ++ [List.replicate nx.length 0] by rw [List.replicate_succ', hXS])
      have hXl : XS.length < 1099511627776 := by rw [hXS]; simp; omega
      rw [← hXS] at hGw
      clear hXS
      obtain ⟨D, d, rfl⟩ := hGw.form
      have hblk := hid hGw.block
      obtain ⟨o0, o1, of0, of1⟩ := id hOw
      have hol := hOw.lt
      have y1a := (New.alloc (New.refl wo) (.cells (madeCells #[.int .i64 0] nx.length) 2)).cell o1
      have y1b := (New.alloc (New.alloc (New.refl wo) (.cells (madeCells #[.int .i64 0] nx.length) 2)) (.cells #[.slice (some ⟨wo.heap.size, 0, none⟩) nx.length nx.length] 34)).cell o1
      have hmd := hid (OwnInts.madeZ wo 2 nx.length (by omega))
      go_wp2_with fail
      go_region_law
        (refine step_appRows1 rfl _ _ _ rfl Tryz.underlying24 info_ints (.slice D XS.length d) (.slice (some ⟨wo.heap.size, 0, none⟩) nx.length nx.length) XS (List.replicate nx.length 0) _ rfl hGw (by repeat (first | with_reducible exact New.refl _ | with_reducible assumption | with_reducible refine New.alloc ?_ _ | with_reducible refine New.drewN ?_ _ | with_reducible refine New.drew ?_ | with_reducible refine New.trans ?_ (by with_reducible assumption))) ((hmd.out.new (by repeat (first | with_reducible exact New.refl _ | with_reducible assumption | with_reducible refine New.alloc ?_ _ | with_reducible refine New.drewN ?_ _ | with_reducible refine New.drew ?_ | with_reducible refine New.trans ?_ (by with_reducible assumption)))).widen (Nat.le_refl _) (by (try simp only [sizes]) <;> omega)) rfl (by go_simp) hXl hz ?_; intro g cap wd hod hgd; have hO2 := (hOw.new (w' := _) (by repeat (first | with_reducible exact New.refl _ | with_reducible assumption | with_reducible refine New.alloc ?_ _ | with_reducible refine New.drewN ?_ _ | with_reducible refine New.drew ?_ | with_reducible refine New.trans ?_ (by with_reducible assumption)))).grown hgd (fun q hq => by have := (hblk.out q hq).1; omega); obtain ⟨u0, u1, uf0, uf1⟩ := id hO2)
      all_goals
        have hn2 : New w wd := New.grown (New.trans hn (by repeat (first | with_reducible exact New.refl _ | with_reducible assumption | with_reducible refine New.alloc ?_ _ | with_reducible refine New.drewN ?_ _ | with_reducible refine New.drew ?_ | with_reducible refine New.trans ?_ (by with_reducible assumption)))) hgd (fun q hq => by have := (hblk.out q hq).1; omega)
        have hP2 := (hPw.new (w' := _) (by repeat (first | with_reducible exact New.refl _ | with_reducible assumption | with_reducible refine New.alloc ?_ _ | with_reducible refine New.drewN ?_ _ | with_reducible refine New.drew ?_ | with_reducible refine New.trans ?_ (by with_reducible assumption)))).but (But.of_grown hgd (fun q hq => hq)) (fun q => by have := (hblk.out _ q).1; omega)
        have hR2 := (hRw.new (w' := _) (by repeat (first | with_reducible exact New.refl _ | with_reducible assumption | with_reducible refine New.alloc ?_ _ | with_reducible refine New.drewN ?_ _ | with_reducible refine New.drew ?_ | with_reducible refine New.trans ?_ (by with_reducible assumption)))).grown hgd (fun q hq => by have := (hblk.out q hq).1; omega)
        have hz2 := hgd.size
        (try simp only [sizes] at hz2)
        clear hgd
        go_wp2_with fail
        have hbs : Within (w.heap.size + 1 + 1) (w.heap.size + 1 + 1 + 1) wd (wd.setCell ⟨w.heap.size + 1 + 1, 1, none⟩ (.slice (some ⟨g, 0, none⟩) (XS.length + 1) cap)) := (by repeat (first | with_reducible exact Within.refl _ _ _ | with_reducible refine Within.setCell ?_ (by simp <;> omega) (by simp <;> omega) _))
        refine ⟨⟨k + 1, _, by go_num, by omega, hn2.within hbs (by omega), by rw [size_setCell]; omega, hP2.but (But.setCell (S := fun q => q = w.heap.size + 1 + 1) _ _ rfl) (by omega), hR2.other _ (by simp) _, hO2.set1 _, by rw [HE.out]; exact hod.within hbs (by omega)⟩, ?_⟩
        simp [intOf]; omega
    · have e : k = L := by omega
      subst e
      have b1 : ¬ (k : Int) < (k : Int) := by omega
      have hI0 : (List.replicate k (List.replicate nx.length (0 : Int))) = tab k cs.length (atPart cs N 0 0) := by rw [atPart_start, HCL.out]
      rw [hI0] at hGw
      clear hI0
      obtain ⟨D, d, rfl⟩ := hGw.form
      have hOW := hGw.own (by rw [tab_length]; omega)
      clear hGw
      rw [tab_length] at hOW hOw
      obtain ⟨wE, hwE⟩ : ∃ wE, wE = wo := ⟨_, rfl⟩
      obtain ⟨⟨z0, z1, z2⟩, _⟩ := id hPw
      have hkw : IntKind.i64.wrap ((cs.length : Int) - 1) = (cs.length : Int) - 1 := IntWalk.i64_in _ (by have := HCL.out; omega)
      go_wp2_with fail
      have hzE : w.heap.size + 3 ≤ wE.heap.size := by rw [hwE]; exact hz
      rw [← hwE] at hn hPw hRw hOw hOW ⊢
      clear hz hwE z0 z1 z2 hkw
      go_loopw [1, 6] (fun num s wr => ∃ j : Nat, j ≤ cs.length ∧ s = .int .i64 ((cs.length : Int) - 1 - j) ∧ num = .int .i64 (numAt cs N j) ∧ New w wr ∧ wE.heap.size ≤ wr.heap.size ∧ Box3 wr w.heap.size (.int .i64 nx.length) (.slice A nx.length c) (.slice AC cs.length cC) ∧ Box2 wr (w.heap.size + 1) (.int .i64 0) (.slice none 0 0) ∧ Box2 wr (w.heap.size + 1 + 1) (.int .i64 nx.length) (.slice D k d) ∧
          OwnRows (w.heap.size + 3) wE.heap.size wr (.slice D k d) (tab k cs.length (atPart cs N j 0))) (fun _ s _ => (intOf s + 1).toNat)
      case atStart => exact ⟨0, Nat.zero_le _, by simp, rfl, hn, Nat.le_refl _, hPw, hRw, hOw, hOW⟩
      case round =>
        obtain ⟨j, hj, rfl, rfl, hnj, hzj, hPj, hRj, hOj, hWj⟩ := hrel
        clear hn hPw hRw hOw hOW
        obtain ⟨wj, rfl⟩ : ∃ wj : World, wj = wr := ⟨_, rfl⟩
        have hMN : numAt cs N j ≤ N := by
          clear hj hWj
          induction j with
          | zero => exact Nat.le_refl _
          | succ j ih => exact Nat.le_trans (Nat.div_le_self _ _) ih
        obtain ⟨M, hM⟩ : ∃ M, M = numAt cs N j := ⟨_, rfl⟩
        rw [← hM] at hMN ⊢
        by_cases hlt : j < cs.length
        · obtain ⟨p, hp⟩ : ∃ p, p = cs.length - 1 - j := ⟨_, rfl⟩
          have hs : (cs.length : Int) - 1 - j = (p : Int) := by omega
          have hplt : p < cs.length := by omega
          rw [hs]
          have b2 : (p : Int) < (cs.length : Int) := by omega
          obtain ⟨cb, co, tv, rfl, hx, hxt⟩ := HCC.out p hplt
          obtain ⟨At, ct, rfl, htl, hct⟩ := hxt
          obtain ⟨T, hT⟩ : ∃ T, T = nth cs p := ⟨_, rfl⟩
          have hTpos := HPOS.out p hplt
          have hTrow := HROW.out p hplt
          rw [← hT] at hct htl hTpos hTrow hx
          have hmod : M % T.length < T.length := Nat.mod_lt _ hTpos
          obtain ⟨tb, to, xv, rfl, hxr, hxi⟩ := hct (M % T.length) hmod
          obtain ⟨X, hX⟩ : ∃ X, X = nth T (M % T.length) := ⟨_, rfl⟩
          have hXl : X.length = k := by rw [hX]; exact hTrow _ hmod
          rw [← hX] at hxi
          obtain ⟨Ax, cx, rfl, _, hcx⟩ := hxi
          rw [hXl] at hxr
          have HCX := hid hcx
          have HXL := hid hXl
          have HPK := hid (show pickAt cs N p = X by unfold pickAt; rw [show cs.length - 1 - p = j by omega, ← hM, ← hT, ← hX])
          have HM := hid hM
          have HT := hid hT
          have HP := hid hp
          have hrem : Int.tmod (M : Int) (T.length : Int) = ((M % T.length : Nat) : Int) := by rw [Int.tmod_eq_emod_of_nonneg (by omega)]; rfl
          have hquo : Int.tdiv (M : Int) (T.length : Int) = ((M / T.length : Nat) : Int) := by rw [Int.tdiv_eq_ediv_of_nonneg (by omega)]; rfl
          have HQUO := hid hquo
          have hmodI : ((M % T.length : Nat) : Int) < (T.length : Int) := by omega
          have hm0 : (0 : Int) ≤ (M : Int) % (T.length : Int) := Int.emod_nonneg _ (by omega)
          have hm1 : (M : Int) % (T.length : Int) < (T.length : Int) := Int.emod_lt_of_pos _ (by omega)
          have hT0 : ¬ T = [] := by rintro rfl; simp at hTpos
          have hmn : ((M : Int) % (T.length : Int)).toNat = M % T.length := Int.toNat_natCast (M % T.length)
          rw [← hmn] at hxr; clear hmn
          replace hx := hnj.cell hx
          replace hxr := hnj.cell hxr
          obtain ⟨⟨z0, z1, z2⟩, _⟩ := id hPj
          clear hX hXl hcx hM hT hp hct hTrow hs
          go_wp2_with (go_at_call 110; refine (sizeRows_any _ _ _ _ htl).mono ?_; rintro e w' ⟨rfl, rfl⟩)
          go_region_held3 (fun w' => w'.cell? ⟨w.heap.size, 2, none⟩ = some (.slice (some ⟨cb, co, none⟩) cs.length cC) ∧ w'.cell? ⟨cb, co + p, none⟩ = some (.slice (some ⟨tb, to, none⟩) T.length ct) ∧ w'.cell? ⟨tb, to + ((M : Int) % (T.length : Int)).toNat, none⟩ = some (.slice Ax k cx))
            (first | exact ⟨z2, hx, hxr⟩ | go_keep)
            (fail)
          go_wp2_with fail
          go_loopw [53] (fun x wr => ∃ l : Nat, l ≤ k ∧ x = .int .i64 l ∧ New w wr ∧ wE.heap.size ≤ wr.heap.size ∧ Box3 wr w.heap.size (.int .i64 nx.length) (.slice A nx.length c) (.slice (some ⟨cb, co, none⟩) cs.length cC) ∧ Box2 wr (w.heap.size + 1) (.int .i64 0) (.slice none 0 0) ∧ Box2 wr (w.heap.size + 1 + 1) (.int .i64 nx.length) (.slice D k d) ∧
              OwnRows (w.heap.size + 3) wE.heap.size wr (.slice D k d) (tab k cs.length (atPart cs N j l))) (fun x _ => k - (intOf x).toNat)
          case atStart => exact ⟨0, Nat.zero_le _, rfl, (by repeat (first | with_reducible exact New.refl _ | with_reducible assumption | with_reducible refine New.alloc ?_ _ | with_reducible refine New.drewN ?_ _ | with_reducible refine New.drew ?_ | with_reducible refine New.trans ?_ (by with_reducible assumption))), by (try simp only [sizes]) <;> omega, hPj.new (by repeat (first | with_reducible exact New.refl _ | with_reducible assumption | with_reducible refine New.alloc ?_ _ | with_reducible refine New.drewN ?_ _ | with_reducible refine New.drew ?_ | with_reducible refine New.trans ?_ (by with_reducible assumption))), hRj.new (by repeat (first | with_reducible exact New.refl _ | with_reducible assumption | with_reducible refine New.alloc ?_ _ | with_reducible refine New.drewN ?_ _ | with_reducible refine New.drew ?_ | with_reducible refine New.trans ?_ (by with_reducible assumption))), hOj.new (by repeat (first | with_reducible exact New.refl _ | with_reducible assumption | with_reducible refine New.alloc ?_ _ | with_reducible refine New.drewN ?_ _ | with_reducible refine New.drew ?_ | with_reducible refine New.trans ?_ (by with_reducible assumption))), hWj.new (by repeat (first | with_reducible exact New.refl _ | with_reducible assumption | with_reducible refine New.alloc ?_ _ | with_reducible refine New.drewN ?_ _ | with_reducible refine New.drew ?_ | with_reducible refine New.trans ?_ (by with_reducible assumption)))⟩
          case round =>
            obtain ⟨l, hl, rfl, hnl, hzl, hPl, hRl, hOl, hWl⟩ := hrel
            clear hPj hRj hOj hWj hrem hmod hmodI hm0 hm1 hquo z0 z1 z2 hx hxr
            obtain ⟨wl, rfl⟩ : ∃ wl : World, wl = wr := ⟨_, rfl⟩
            have HPJ := hid (show p + j + 1 = cs.length by have := HP.out; omega)
            by_cases hll : l < k
            · have b3 : (l : Int) < (k : Int) := by omega
              obtain ⟨ab, ao, rfl, hxx⟩ := HCX.out l (by have := HXL.out; omega)
              obtain ⟨hkk, fb, fo, rl, hD, hfx, hoi, hlaw⟩ := hWl.row l (by rw [tab_length]; exact hll)
              clear hkk
              subst hD
              have hrl : (nth (tab k cs.length (atPart cs N j l)) l).length = cs.length := by rw [nth_tab _ _ _ _ hll]; simp
              obtain ⟨Z, hZ⟩ : ∃ Z, Z = nth (tab k cs.length (atPart cs N j l)) l := ⟨_, rfl⟩
              rw [← hZ] at hoi hrl
              obtain ⟨Ar, cr, hrlf, _, _, hcells⟩ := id hoi
              subst hrlf
              obtain ⟨rb, ro, rfl, hcp, hfp⟩ := hcells p (by omega)
              rw [hrl] at hfx hoi hlaw
              have HLAW := hid hlaw
              have HOI := hid hoi
              have HRL := hid hrl
              have HCELL := hid (show (tab k cs.length (atPart cs N j l)).set l (Z.set p (nth X l)) = tab k cs.length (atPart cs N j (l + 1)) by
                rw [hZ, ← HPK.out]; exact atPart_cell cs N k j l p HPJ.out hll)
              replace hxx := hnl.cell (show w.cell? _ = _ from hxx)
              obtain ⟨o0, o1, of0, of1⟩ := id hOl
              clear hlaw hcells hoi hrl hZ
              go_wp2_with fail
              have ho' := HOI.out.set p (by have := HRL.out; omega) (nth X l)
              obtain ⟨hW2, hwi⟩ := HLAW.out _ _ ho' (grown_setCell _ _ _)
              rw [HCELL.out] at hW2
              refine ⟨⟨l + 1, by omega, by go_num, hnl.within hwi (by omega), by rw [size_setCell]; exact hzl, hPl.but (But.of_within hwi) (by omega), hRl.within hwi (Or.inl (by omega)), hOl.within hwi (Or.inl (by omega)), hW2⟩, ?_⟩
              simp [intOf]; omega
            · have e : l = k := by omega
              subst e
              have b3 : ¬ (l : Int) < (l : Int) := by omega
              rw [atPart_town] at hWl
              have hq2 : IntKind.i64.wrap ((p : Int) - 1) = (p : Int) - 1 := IntWalk.i64_in _ (by have := HPJ.out; have := HCL.out; omega)
              have hquo := HQUO.out
              have HN1 := hid (show numAt cs N (j + 1) = M / T.length by show numAt cs N j / (nth cs (cs.length - 1 - j)).length = _; rw [← HM.out, ← HP.out, ← HT.out])
              have HW := hid (show Go.RowKit.wrap64 ((M : Int) / (T.length : Int)) = ((M / T.length : Nat) : Int) by
                obtain ⟨Q, hQ⟩ : ∃ Q, Q = M / T.length := ⟨_, rfl⟩
                have hQM : Q ≤ M := by rw [hQ]; exact Nat.div_le_self _ _
                have e1 : (M : Int) / (T.length : Int) = (Q : Int) := by rw [hQ]; first | rfl | simp
                rw [e1, ← hQ]
                exact IntWalk.wrap64_in _ ⟨by omega, by omega⟩)
              go_wp2_with fail
              refine ⟨⟨j + 1, by omega, ?_, by rw [HN1.out, HW.out], hnl, hzl, hPl, hRl, hOl, hWl⟩, ?_⟩
              · rw [show (p : Int) - 1 = (cs.length : Int) - 1 - ((j + 1 : Nat) : Int) by have := HPJ.out; omega]
              · simp [intOf] <;> omega
        · have e : j = cs.length := by omega
          subst e
          have b2 : ¬ (0 : Int) ≤ (cs.length : Int) - 1 - (cs.length : Int) := by omega
          rw [atPart_end] at hWj
          obtain ⟨o0, o1, of0, of1⟩ := id hOj
          obtain ⟨q0, q1, qf0, qf1⟩ := id hRj
          obtain ⟨g0, g1, _⟩ := hRj.fill (.int .i64 nx.length) (.slice D k d)
          have HW := hid (Within.fill wj (w.heap.size + 1) (.int .i64 nx.length) (.slice D k d))
          go_wp2_with fail
          refine bodyPost_ret (v := .agg #[.int .i64 nx.length, .slice D k d]) (by simp [results, Tryz.results61, go_sem, g0, g1]) rfl ?_
          have hNn := hnj.within HW.out (by omega)
          exact ⟨_, rfl, hNn, _, rfl, (hWj.within HW.out (Or.inr (by omega))).widen (by omega) (by have := HW.out.2.2.2.1; omega)⟩

end Go.Proofs.YtoeckejcmojeaaaGreat
