/- The program's LeastKernels. -/
import Derived.Test.YtoeckejcmojeaaaRows
import Derived.Test.YtoeckejcmojeaaaCore
import Derived.Test.YtoeckejcmojeaaaInfos
import Derived.Test.YtoeckejcmojeaaaPlains
import Derived.Test.YtoeckejcmojeaaaPers
import Derived.Test.YtoeckejcmojeaaaPQuos
import Derived.Test.YtoeckejcmojeaaaPOrds
import Derived.Test.YtoeckejcmojeaaaPMerg
import Derived.Test.YtoeckejcmojeaaaPKerns
import Derived.Test.YtoeckejcmojeaaaMaps
import Derived.Test.YtoeckejcmojeaaaRowsSwap
import Derived.Test.YtoeckejcmojeaaaRowsM
import Derived.Test.YtoeckejcmojeaaaSMap
import Derived.Test.YtoeckejcmojeaaaIKey
import Derived.Test.YtoeckejcmojeaaaINum
import Derived.Test.YtoeckejcmojeaaaIQuo
import Derived.Test.YtoeckejcmojeaaaIBase
import Derived.Test.YtoeckejcmojeaaaI01c
import Derived.Test.YtoeckejcmojeaaaIIdx
import Derived.Test.YtoeckejcmojeaaaIRen
import Derived.Test.YtoeckejcmojeaaaIFlk
import Derived.Test.YtoeckejcmojeaaaITour
import Derived.Test.YtoeckejcmojeaaaILeast
import Derived.Test.YtoeckejcmojeaaaIImg
import Derived.Test.YtoeckejcmojeaaaICmp
import Derived.Test.YtoeckejcmojeaaaSortRows
import Derived.Test.YtoeckejcmojeaaaArrs
import Derived.Test.YtoeckejcmojeaaaIDelF
import Derived.WalkKit
import Derived.WalkSpells
import Derived.WalkLawsBesides
import Derived.Deep.QuietTactic
import Derived.Deep.OwnRows
import Derived.BigQuiet
import Derived.KernelRfl
import Derived.Shelf.SlSortCmp.Whole1
namespace Go.Proofs.Ytoeckejcmojeaaa
open Go.RowKit

theorem div_small {a : Aut} (ha : autOk a = true) (x : List Int) (h : Div a.n.toNat x) : smallL x := fun i hi => by
  have := h.lt i hi
  have := autOk_n ha
  omega
theorem zero_boolK (w : World) : (zeroValue 4).run Try.prog w = .ok (.bool false) w := by kernel_rfl
theorem filt_pos {a : Aut} (ha : autOk a = true) : 0 < ((kT a kN).list.filter fun x => decide (clsN x = (rankA a : Int))).length := by
  have h := congrArg List.length (kern_same ha)
  rw [buildR_len, buildR_len] at h
  rw [← h]
  unfold kT2
  exact List.length_pos_of_mem (start_mem _ _)
theorem cls_range (x : List Int) (hne : 0 < x.length) (hx : ∀ i, i < x.length → 0 ≤ nth x i ∧ nth x i < 1000) : 1 ≤ clsN x ∧ clsN x ≤ 1000 := by
  have h1 := (clsTo_nonneg x (fun i hi => (hx i hi).1) x.length (Nat.le_refl _)).2 hne
  refine ⟨h1, ?_⟩
  rcases clsTo_hit x x.length (Nat.le_refl _) hne with ⟨i, hi, e⟩ | e
  · have := (hx i hi).2
    unfold clsN; omega
  · unfold clsN; omega
set_option maxHeartbeats 800000 in
theorem LeastKernels1_any (bp : Nat) (r : Int) (v : Value) (x : List Int) (w : World) (h1 : IntsAt w v x) (hp : w.cell? ⟨bp, 0, none⟩ = some (.int .i64 r)) (hne : 0 < x.length) (hl : x.length ≤ 1000) (hx : ∀ i, i < x.length → 0 ≤ nth x i ∧ nth x i < 1000) :
    Calls Try.prog 50 #[v, .pointer (some ⟨bp, 0, none⟩)] w fun e w' => e = .returned (.bool (!decide (clsN x = r))) ∧ New w w' := by
  obtain ⟨A, c, rfl⟩ := h1.form
  obtain ⟨b1, b2⟩ := cls_range x hne hx
  have HC := hid (fun w1 (hm : New w w1) => max64_any _ x w1 (h1.new hm) hne hl hx)
  obtain ⟨C, hC⟩ : ∃ C, C = clsN x := ⟨_, rfl⟩
  rw [← hC] at HC b1 b2 ⊢
  clear hne hl hx hC h1
  go_enter Try.func50, Try.ntmps50
  go_wp2_with fail
  go_region_held3 (fun w' => w'.cell? ⟨bp, 0, none⟩ = some (.int .i64 r)) (first | go_keep | exact hp)
    (first
      | (go_at_call 51; refine (HC.out _ (by first | exact New.refl _ | exact (New.refl _).drew | exact (New.refl _).drew.drew)).mono ?_; rintro e w3 ⟨rfl, rfl⟩))
  go_wp2
  go_ret
  refine ⟨ret_bool ?_, (by repeat (first | with_reducible exact New.refl _ | with_reducible assumption | with_reducible refine New.alloc ?_ _ | with_reducible refine New.drewN ?_ _ | with_reducible refine New.drew ?_ | with_reducible refine New.trans ?_ (by with_reducible assumption)))⟩
  rw [IntWalk.i64_in C (by omega), Bool.eq_iff_iff]
  simp
set_option maxRecDepth 20000 in
set_option maxHeartbeats 4000000 in
theorem implLeastKernels_any (v1 : Value) (a : Aut) (w : World) (h1 : AutAt w v1 a) :
    Calls Try.prog 9 #[v1] w fun e w' => ∃ r, e = .returned (.tuple #[r, .int .i64 (LeastKernels a).2]) ∧ New w w' ∧ OwnRows w.heap.size w'.heap.size w' r (LeastKernels a).1 := by
  obtain ⟨rv, rfl, hr⟩ := h1
  obtain ⟨A, c, rfl⟩ := hr.form
  have h1 : AutAt w (.agg #[.int .i64 a.n, .slice A a.nx.length c]) a := ⟨_, rfl, hr⟩
  obtain ⟨wb, hwb⟩ : ∃ wb, wb = w.alloc (.cells #[.int .i64 a.n, .slice A a.nx.length c] 28) := ⟨_, rfl⟩
  have hnb : New w wb := by rw [hwb]; exact (by repeat (first | with_reducible exact New.refl _ | with_reducible assumption | with_reducible refine New.alloc ?_ _ | with_reducible refine New.drew ?_ | with_reducible refine New.drewN ?_ _ | with_reducible refine New.setCell ?_ (by simp <;> omega) _))
  have hb0 : wb.cell? ⟨w.heap.size, 0, none⟩ = some (.int .i64 a.n) := by rw [hwb]; go_simp
  have hb1 : wb.cell? ⟨w.heap.size, 1, none⟩ = some (.slice A a.nx.length c) := by rw [hwb]; go_simp
  obtain ⟨R, hR⟩ : ∃ R, R = LeastKernels a := ⟨_, rfl⟩
  rw [← hR]
  unfold LeastKernels at hR
  have HR := hid hR
  clear hR
  have C1 := ValidAutomaton_any _ a _ (h1.new hnb)
  cases ha : autOk a with
  | false =>
    rw [ha] at C1
    have HE := hid (show R = ([], 1) by rw [HR.out, ha]; rfl)
    go_enter Try.func9, Try.ntmps9
    go_wp2_with fail
    rw [← hwb]
    refine C1.mono ?_
    rintro e w1 ⟨rfl, hn1⟩
    go_wp2
    go_ret2
    rw [HE.out]
    exact ⟨_, rfl, hnb.trans hn1, none, 0, fun _ => default, rfl, by simp, by simp, by simp, by simp⟩
  | true =>
    rw [ha] at C1
    have han := autOk_n ha
    have hal := autOk_l ha
    have HE := hid (show R = (buildR lexLt ((kT a kN).list.filter fun x => decide (clsN x = (rankA a : Int))), 0) by rw [HR.out, ha]; rfl)
    have HA := hid ha
    have HB := hid (fun k => k_bok ha k)
    have HBD := hid (fun (t : Bfs (List Int)) (ht : BOk (Div a.n.toNat) a.nx.length t) => k_bound ha ht)
    have HEND := hid (fun k h => k_end ha k h)
    have HROW := hid (fun (t' : Bfs (List Int)) (h : BOk (Div a.n.toNat) a.nx.length t') k (hk : k < t'.list.length) l (hl' : l ≤ a.nx.length) => h.row (g := kG a) (fun l x y hl'' hx hg => kG_ok ha l x y hl'' hx hg) k hk l hl')
    have HSM := hid (fun x h => div_small ha x h)
    have HINJ := hid (fun x y (hx : Div a.n.toNat x) (hy : Div a.n.toNat y) (e : bytesOf x = bytesOf y) => bytesOf_inj x y (div_small ha x hx) (div_small ha y hy) e)
    have HC1 := hid (fun w1 (hm : New w w1) => all_any _ a w1 (h1.new hm) ha)
    have HRK := hid (fun w1 (hm : New w w1) => rank_any _ a w1 (h1.new hm) ha)
    have HARW := hid (fun l (h : l < a.nx.length) => autOk_row ha l h)
    have HFP := hid (filt_pos ha)
    have hent := enters Try.func53 (by decide) (by simp [Try.f53])
    have HENT := hid hent
    clear hent
    have hent := enters Try.func50 (by decide) (by simp [Try.f50])
    have HENT1 := hid hent
    clear hent
    have hmm := @run_makeMap Try.prog
    obtain ⟨n, hn⟩ : ∃ n : Nat, a.n = (n : Int) := ⟨a.n.toNat, by omega⟩
    have HN := hid hn
    have hnt : a.n.toNat = n := by omega
    rw [hnt] at HC1 HB HBD HROW HSM HINJ
    have hn10 : n ≤ 10 := by omega
    have hn0 : 0 < n := by omega
    have HT0 := hid (show kT a 0 = bStart (tidyOf (iota 0 n)) by unfold kT; rw [bTo_zero, hnt])
    have hil := iota_length 0 n
    obtain ⟨I, hI⟩ : ∃ I, I = iota 0 n := ⟨_, rfl⟩
    have HIB := hid (show ∀ i, i < I.length → -1000 ≤ nth I i ∧ nth I i ≤ 1000 from fun i hi => by
      rw [hI] at hi ⊢
      rw [iota_length] at hi
      rw [nth_iota _ _ _ hi]; omega)
    rw [← hI] at hil HC1 HT0
    have hdv := hid (show Div n (tidyOf I) from ⟨I, hil, rfl⟩)
    have htl : (tidyOf I).length = n := by rw [tidyOf_len, hil]
    have HIL := hid hil
    have HTL := hid htl
    clear ha hI hn hnt han hil htl
    go_enter Try.func9, Try.ntmps9
    go_wp2_with fail
    rw [← hwb]
    clear hwb
    refine C1.mono ?_
    rintro e w1 ⟨rfl, hn1⟩
    replace hb0 := hn1.cell hb0
    replace hb1 := hn1.cell hb1
    have hN1 := hnb.trans hn1
    clear C1 hn1 hnb
    go_wp2_with (first
      | (go_at_call 46; refine (HC1.out _ hN1).mono ?_; rintro e w2 ⟨r0, he, hn2, ho2⟩; obtain ⟨A2, c2, hf2⟩ := ho2.form; rw [HIL.out] at hf2; subst hf2; subst he)
      | (go_at_call 45; refine (numbered_any _ I w2 ho2.at (by rw [HIL.out]; omega) HIB.out).mono ?_; rintro e w3 ⟨r1, he, hn3, ho3⟩; obtain ⟨A3, c3, hf3⟩ := ho3.form; rw [HTL.out] at hf3; subst hf3; subst he))
    have hz2 := hn2.size
    have hz3 := hn3.size
    have hzw := hN1.size
    have hN3 := (hN1.trans hn2).trans hn3
    obtain ⟨wM, hwM⟩ : ∃ wM, wM = (w3.alloc (.cells #[.slice A3 n c3] 42)).alloc (.map #[] 0) := ⟨_, rfl⟩
    have hnM : New w3 wM := by rw [hwM]; exact (by repeat (first | with_reducible exact New.refl _ | with_reducible assumption | with_reducible refine New.alloc ?_ _ | with_reducible refine New.drewN ?_ _ | with_reducible refine New.drew ?_ | with_reducible refine New.trans ?_ (by with_reducible assumption)))
    have hS0 : SMap Try.prog 9 (Div n) wM (w3.heap.size + 1) [] := by
      have := SMap.empty Try.prog 9 (Div n) (w3.alloc (.cells #[.slice A3 n c3] 42))
      simp only [size_alloc] at this
      rw [hwM]; exact this
    have hG0 : GrowRows (w.heap.size + 1) 42 wM (.slice (some ⟨w3.heap.size, 0, none⟩) 1 1) [tidyOf I] := by
      have hn9 : New (w3.alloc (.cells #[.slice A3 n c3] 42)) wM := by rw [hwM]; exact (by repeat (first | with_reducible exact New.refl _ | with_reducible assumption | with_reducible refine New.alloc ?_ _ | with_reducible refine New.drewN ?_ _ | with_reducible refine New.drew ?_ | with_reducible refine New.trans ?_ (by with_reducible assumption)))
      have lw := World.block_lt_of_cell? w1 _ hb0
      dsimp only at lw
      refine ⟨fun _ => .slice A3 n c3, by simpa using ownsRow_new (ownsRow_one (B := w.heap.size + 1) (e := 42) (w := w3) (x := .slice A3 n c3) (by omega)) hn9, fun i hi => ?_, fun i j hij hj => by simp at hj; omega⟩
      have e : i = 0 := by simpa using hi
      subst e
      refine ⟨((ho3.new hnM).widen (by omega) hnM.size), Or.inl (fun e => ?_)⟩
      have h1 := (ho3.block w3.heap.size e).2
      omega
    have hat := ho3.at.new hnM
    have hc00 : wM.cell? ⟨w3.heap.size, 0, none⟩ = some (.slice A3 n c3) := by rw [hwM]; go_simp
    rw [← hwM]
    clear hwM
    have hNM := hN3.trans hnM
    have hzM := hnM.size
    refine (keyOf_any _ _ _ hat (HSM.out _ hdv.out) (by rw [HTL.out]; exact hn0) (by rw [HTL.out]; omega)).mono ?_
    rintro e w4 ⟨rfl, hn4⟩
    obtain ⟨w5, hrun, hg5, hS5⟩ := (hS0.new hn4).put Try.underlying9 (T := 75) (E := 4) Try.underlying75 HINJ.out (fun x hx => by simp at hx) (tidyOf I) hdv.out (by rw [HTL.out]; omega) (by simp) (by simp)
    rw [List.nil_append] at hS5
    obtain ⟨F0, hF0⟩ := (hS0.new hn4).map
    have hG5 := (hG0.new hn4).mapKeep hF0 hg5
    have hN5 : New w w5 := New.grown (hNM.trans hn4) hg5 (fun q hq => by cases hq; omega)
    have lz := World.block_lt_of_cell? w1 _ hb0
    dsimp only at lz
    have hmb : w3.heap.size + 1 ≠ w.heap.size := by omega
    have x0 := hg5.cell (hn4.cell (hnM.cell (hn3.cell (hn2.cell hb0)))) (fun e => hmb (by injection e with e; exact e.symm))
    have x1 := hg5.cell (hn4.cell (hnM.cell (hn3.cell (hn2.cell hb1)))) (fun e => hmb (by injection e with e; exact e.symm))
    obtain ⟨mb, hmbd⟩ : ∃ mb, mb = w3.heap.size + 1 := ⟨_, rfl⟩
    have hmbB : w.heap.size + 1 ≤ mb := by omega
    rw [← hmbd] at hS5 hrun hg5 ⊢
    clear hS0 hG0 hF0 hnM hc00 hat hmb hmbd
    go_wp2_with fail
    clear hrun hmm hg5 hn4 hn2 hn3 ho2 ho3 hN3 hNM hz2 hz3 hzM hb0 hb1 hN1
    obtain ⟨lb, hlb⟩ : ∃ lb, lb = w3.heap.size := ⟨_, rfl⟩
    rw [← hlb] at hG5 ⊢
    clear hlb
    go_loopw [4, 6] (fun lv i wr => ∃ k : Nat, i = .int .i64 k ∧ k ≤ (kT a k).list.length ∧ New w wr ∧ wr.cell? ⟨w.heap.size, 0, none⟩ = some (.int .i64 a.n) ∧ wr.cell? ⟨w.heap.size, 1, none⟩ = some (.slice A a.nx.length c) ∧ GrowRows (w.heap.size + 1) 42 wr lv (kT a k).list ∧ SMap Try.prog 9 (Div n) wr mb (kT a k).list) (fun _ i _ => 1048576 - (intOf i).toNat)
    case atStart => exact ⟨0, rfl, Nat.zero_le _, hN5, x0, x1, by rw [HT0.out]; exact hG5, by rw [HT0.out]; exact hS5⟩
    case round =>
      obtain ⟨k, rfl, hk, hn, y0, y1, hG, hS⟩ := hrel
      clear hG5 hN5 hS5 x0 x1 HT0
      obtain ⟨wo, rfl⟩ : ∃ wo : World, wo = wr := ⟨_, rfl⟩
      have hbok := HB.out k
      have hlen := HBD.out _ hbok
      obtain ⟨B1, cc1, hf1⟩ := hG.form
      subst hf1
      by_cases hlt : k < (kT a k).list.length
      · have b1 : (k : Int) < ((kT a k).list.length : Int) := by omega
        obtain ⟨X, hX⟩ : ∃ X, X = nth (kT a k).list k := ⟨_, rfl⟩
        have HXO := hid (hbok.ok X (by rw [hX]; exact nth_mem _ _ hlt))
        have HXD := hid hX
        clear hX
        go_wp2_with fail
        go_loopw [4, 37] (fun lv x wr => ∃ l : Nat, x = .int .i64 l ∧ l ≤ a.nx.length ∧ New w wr ∧ wr.cell? ⟨w.heap.size, 0, none⟩ = some (.int .i64 a.n) ∧ wr.cell? ⟨w.heap.size, 1, none⟩ = some (.slice A a.nx.length c) ∧ GrowRows (w.heap.size + 1) 42 wr lv (bRow (kG a) k (kT a k) l).list ∧ SMap Try.prog 9 (Div n) wr mb (bRow (kG a) k (kT a k) l).list) (fun _ x _ => a.nx.length - (intOf x).toNat)
        case atStart => exact ⟨0, rfl, Nat.zero_le _, hn, y0, y1, hG, hS⟩
        case round =>
          obtain ⟨l, rfl, hll, hNi, z0, z1, hGi, hSi⟩ := hrel
          clear hG hn hS y0 y1
          obtain ⟨wi, rfl⟩ : ∃ wi : World, wi = wr := ⟨_, rfl⟩
          have hbok2 := HROW.out _ hbok k hlt l hll
          have hlen2 := HBD.out _ hbok2
          have HPRE := hid (bRow_pre' (g := kG a) k (kT a k) l)
          by_cases hltl : l < a.nx.length
          · have b2 : (l : Int) < (a.nx.length : Int) := by omega
            have hk2 : k < (bRow (kG a) k (kT a k) l).list.length := by have := HPRE.out.1; omega
            have HSUCC := hid (bRow_succ (kG a) k (kT a k) l)
            have HNTH := hid (show nth (bRow (kG a) k (kT a k) l).list k = X by rw [(HPRE.out.2 k hlt).1, HXD.out])
            have HOKS := hid hbok2.ok
            obtain ⟨T', hT'⟩ : ∃ T', T' = bRow (kG a) k (kT a k) l := ⟨_, rfl⟩
            rw [← hT'] at hGi hSi hlen2 hk2 HSUCC HNTH HOKS
            clear hT' hbok2
            obtain ⟨g1, cap1, Ax, nx', e1, hxr, _, hox⟩ := hGi.rowAt k hk2
            rw [HNTH.out] at hxr hox
            obtain ⟨hrA, hrB⟩ := HARW.out l hltl
            obtain ⟨_, _, e4, _, hc4⟩ := id hr
            cases e4
            obtain ⟨b4, o4, rv4, hA4, hx4, hr4⟩ := hc4 l hltl
            subst hA4
            obtain ⟨A5, c5, hf5⟩ := hr4.form
            subst hf5
            obtain ⟨RW, hRW⟩ : ∃ RW, RW = nth a.nx l := ⟨_, rfl⟩
            rw [← hRW] at hrA hrB hr4 hx4
            have hRl : RW.length = n := by have := HN.out; omega
            have HRB := hid (show ∀ i, i < RW.length → 0 ≤ nth RW i ∧ nth RW i < (n : Int) from fun i hi => by have := hrB i hi; have := HN.out; omega)
            have HR4 := hid hr4
            have HRW := hid hRW
            rw [hRl] at hx4
            have HRL := hid hRl
            clear hrA hrB hc4 hr4 hRW hRl
            have u4 := hNi.cell hx4
            have hXl : X.length = n := HXO.out.len
            have HXL := hid hXl
            clear hXl
            subst e1
            go_wp2_with fail
            have hGr := Grow.empty wi.heap.size 2 wi (Nat.le_refl _)
            have hna : New wi (wi.alloc (.cells #[] 2)) := (by repeat (first | with_reducible exact New.refl _ | with_reducible assumption | with_reducible refine New.alloc ?_ _ | with_reducible refine New.drew ?_ | with_reducible refine New.drewN ?_ _ | with_reducible refine New.setCell ?_ (by simp <;> omega) _))
            go_loopw [9, 44] (fun ov jv wr => ∃ j : Nat, jv = .int .i64 j ∧ j ≤ n ∧ New wi wr ∧ Grow wi.heap.size 2 wr ov ((RW.take j).map fun t => nth X t.toNat)) (fun _ jv _ => n - (intOf jv).toNat)
            case atStart => exact ⟨0, rfl, Nat.zero_le _, hna, by simpa using hGr⟩
            case round =>
              obtain ⟨j, rfl, hj, hnj, hgo⟩ := hrel
              clear hGr hna
              obtain ⟨wj, rfl⟩ : ∃ wj : World, wj = wr := ⟨_, rfl⟩
              have hcl : ((RW.take j).map fun t => nth X t.toNat).length = j := by rw [List.length_map, List.length_take, HRL.out]; omega
              by_cases hltj : j < n
              · have b3 : (j : Int) < (n : Int) := by omega
                obtain ⟨_, _, e6, _, hc6⟩ := HR4.out
                rw [HRL.out] at e6 hc6
                cases e6
                obtain ⟨b6, o6, hA6, hx6⟩ := hc6 j hltj
                subst hA6
                have hb6 := HRB.out j (by rw [HRL.out]; exact hltj)
                obtain ⟨_, _, e7, _, hc7⟩ := hox.at
                rw [HXL.out] at e7 hc7 hxr
                cases e7
                obtain ⟨Y, hY⟩ : ∃ Y, Y = nth RW j := ⟨_, rfl⟩
                rw [← hY] at hx6 hb6
                have HY := hid hY
                obtain ⟨b7, o7, hA7, hx7⟩ := hc7 Y.toNat (by omega)
                subst hA7
                replace hx6 := (hNi.trans hnj).cell hx6
                replace hx7 := hnj.cell hx7
                replace hxr := hnj.cell hxr
                obtain ⟨Y0, Y1⟩ := hb6
                have hzj := hnj.size
                have hlj : ((RW.take j).map fun t => nth X t.toNat).length < 1099511627776 := by rw [hcl]; omega
                obtain ⟨CL, hCL⟩ : ∃ CL, CL = (RW.take j).map fun t => nth X t.toNat := ⟨_, rfl⟩
                rw [← hCL] at hgo hlj hcl
                have HCL := hid hCL
                have HCLL := hid hcl
                obtain ⟨Z, hZ⟩ : ∃ Z, Z = nth X Y.toNat := ⟨_, rfl⟩
                rw [← hZ] at hx7
                have HZ := hid hZ
                clear hc6 hc7 hY hCL hcl hZ
                go_wp2_with (at_builtin; refine wpList_app rfl _ _ _ rfl Try.underlying42 info_i64 _ _ rfl hgo rfl hlj hzj ?_; intro g8 cap8 w8 ho8 hg8)
                go_roundw
                case rel =>
                  refine ⟨j + 1, by go_num, by omega, New.app (a := wi) hnj hg8 hgo (Nat.le_refl _), ?_⟩
                  rw [take_succ_nth RW j (by rw [HRL.out]; exact hltj), List.map_append, ← HCL.out, ← HY.out]
                  simp only [List.map_cons, List.map_nil]
                  rw [← HZ.out]
                  exact ho8
                case measure => simp [intOf]; omega
              · have ej : j = n := by omega
                have b3 : ¬ (j : Int) < (n : Int) := by omega
                rw [ej, show RW.take n = RW by rw [← HRL.out, List.take_length]] at hgo
                obtain ⟨V, hV⟩ : ∃ V, V = RW.map fun t => nth X t.toNat := ⟨_, rfl⟩
                rw [← hV] at hgo
                have hVl : V.length = n := by rw [hV, List.length_map, HRL.out]
                have HVB := hid (show ∀ i, i < V.length → -1000 ≤ nth V i ∧ nth V i ≤ 1000 from fun i hi => by
                  have h1 := HRB.out i (by rw [HRL.out]; omega)
                  rw [hV, nth_map _ _ _ (by rw [HRL.out]; omega)]
                  have h2 := HXO.out.lt (nth RW i).toNat (by rw [HXL.out]; omega)
                  omega)
                have HG := hid (show kG a l X = some (tidyOf V) by rw [hV, HRW.out]; rfl)
                have hDY : Div n (tidyOf V) := ⟨V, hVl, rfl⟩
                have hYl : (tidyOf V).length = n := hDY.len
                have HDY := hid hDY
                have hoV := hgo.own (by omega)
                have hVl10 : V.length ≤ 1000 := by omega
                have CN := numbered_any _ V wj hoV.at hVl10 HVB.out
                obtain ⟨AV, cV, rfl⟩ := hoV.form
                have HVL := hid hVl
                have hzj := hnj.size
                clear hV hVl hVl10 hDY ej hcl hgo hoV hj
                obtain ⟨Y, hY⟩ : ∃ Y, Y = tidyOf V := ⟨_, rfl⟩
                rw [← hY] at HDY HG hYl CN
                clear hY
                have HYL := hid hYl
                clear hYl
                have CK := fun (v : Value) (wx : World) (hv : IntsAt wx v Y) => keyOf_any v Y wx hv (HSM.out _ HDY.out) (by rw [HYL.out]; exact hn0) (by rw [HYL.out]; omega)
                have HCK := hid CK
                clear CK
                have hNj := hNi.trans hnj
                by_cases hm : Y ∈ T'.list
                · have HS := hid (show bRow (kG a) k (kT a k) (l + 1) = T' by rw [HSUCC.out, bStep_has _ _ _ _ Y (by rw [HNTH.out]; exact HG.out) hm])
                  have HLK := hid (fun (wx : World) (hn : New wi wx) => ((hSi.new hn).look Try.underlying9 (T := 75) (E := 4) Try.underlying75 zero_boolK Y HDY.out (by rw [HYL.out]; omega)).1 hm)
                  clear hm
                  go_wp2_with (first
                    | (go_at_call 45; refine CN.mono ?_; rintro e wn ⟨r9, he, hnn, ho9⟩; obtain ⟨A9, c9, hf9⟩ := ho9.form; rw [HYL.out] at hf9; subst hf9; subst he)
                    | (go_at_call 47; refine (HCK.out _ _ ho9.at).mono ?_; rintro e wc ⟨rfl, hnc⟩; have hNc := (hnj.trans hnn).trans hnc; have hlk := HLK.out wc hNc))
                  go_roundw
                  case rel => exact ⟨l + 1, by go_num, by omega, hNi.trans hNc, hNc.cell z0, hNc.cell z1, by rw [HS.out]; exact hGi.new hNc, by rw [HS.out]; exact hSi.new hNc⟩
                  case measure => simp [intOf]; omega
                · have HS := hid (show bRow (kG a) k (kT a k) (l + 1) = ⟨T'.list ++ [Y], T'.words ++ [nth T'.words k ++ [(l : Int)]]⟩ by rw [HSUCC.out, bStep_new _ _ _ _ Y (by rw [HNTH.out]; exact HG.out) hm])
                  have HLK := hid (fun (wx : World) (hn : New wi wx) => ((hSi.new hn).look Try.underlying9 (T := 75) (E := 4) Try.underlying75 zero_boolK Y HDY.out (by rw [HYL.out]; omega)).2 hm)
                  have HPUT := hid (fun (wx : World) (hn : New wi wx) => (hSi.new hn).put Try.underlying9 (T := 75) (E := 4) Try.underlying75 HINJ.out HOKS.out Y HDY.out (by rw [HYL.out]; omega) hm (by omega))
                  have hRl : T'.list.length < 1099511627776 := by omega
                  have HAPP := hid (show ∀ (wn wc w5 : World) (r9 : Value), New wj wn → New wn wc → OwnInts wj.heap.size wn.heap.size wn r9 Y → wc.grownBy w5 (some mb) →
                      ∃ l1, w5.ownsRow (w.heap.size + 1) 42 1 (.slice (some ⟨g1, 0, none⟩) T'.list.length cap1) T'.list.length l1 ∧
                        Hid (∀ (w8 : World) (g8 cap8 : Nat), SMap Try.prog 9 (Div n) w5 mb (T'.list ++ [Y]) → w8.ownsRow (w.heap.size + 1) 42 1 (.slice (some ⟨g8, 0, none⟩) (T'.list.length + 1) cap8) (T'.list.length + 1) (l1 ++ [r9]) → w5.grownBy w8 (some g1) → ((Value.slice (some ⟨g1, 0, none⟩) T'.list.length cap1).ownBlock = some g8 ∨ w5.heap.size < g8) →
                          GrowRows (w.heap.size + 1) 42 w8 (.slice (some ⟨g8, 0, none⟩) (T'.list.length + 1) cap8) (T'.list ++ [Y]) ∧ New w w8 ∧ SMap Try.prog 9 (Div n) w8 mb (T'.list ++ [Y]) ∧ w8.cell? ⟨w.heap.size, 0, none⟩ = some (.int .i64 a.n) ∧ w8.cell? ⟨w.heap.size, 1, none⟩ = some (.slice (some ⟨b4, o4, none⟩) a.nx.length c)) ∧ New w w5 ∧ w.heap.size + 1 ≤ w5.heap.size from by
                    intro wn wc w5 r9 k1 k2 k3 k4
                    obtain ⟨F, hF⟩ := hSi.map
                    have kc := (hnj.trans k1).trans k2
                    have hF2 := hF.new kc
                    have hs1 := kc.size
                    have hs2 := k4.size
                    have hs3 := k2.size
                    have hzi := World.block_lt_of_cell? wi _ z0
                    dsimp only at hzi
                    have hgb := hGi.block g1 rfl
                    obtain ⟨l1, q1, q2⟩ := GrowRows.appM (w3 := w5) hGi (by omega) (by omega) (fun u xs h => hF2.ownInts k4 (h.new kc)) (fun l h => hF2.ownsRow k4 (ownsRow_new h kc))
                    have n5 : New w w5 := New.grown (hNi.trans kc) k4 (fun q hq => by cases hq; omega)
                    have c0 := k4.cell (kc.cell z0) (fun e => by injection e with e; dsimp only at e; omega)
                    have c1 := k4.cell (kc.cell z1) (fun e => by injection e with e; dsimp only at e; omega)
                    refine ⟨l1, q1, hid (fun w8 g8 cap8 s8 o8 gr8 lo8 => ⟨?_, New.grown n5 gr8 (fun q hq => by cases hq; omega), ?_, gr8.cell c0 (fun e => by injection e with e; dsimp only at e; omega), gr8.cell c1 (fun e => by injection e with e; dsimp only at e; omega)⟩), n5, by omega⟩
                    · exact q2 w8 g8 cap8 r9 Y (hF2.ownInts k4 ((k3.new k2).widen hnj.size (by omega))) o8 gr8 (lo8.imp id Nat.le_of_lt)
                    · obtain ⟨F8, hF8⟩ := s8.map
                      exact s8.kept gr8 (hF8.ne_row q1))
                  clear hm
                  go_wp2_with (first
                    | (go_at_call 45; refine CN.mono ?_; rintro e wn ⟨r9, he, hnn, ho9⟩; obtain ⟨A9, c9, hf9⟩ := ho9.form; rw [HYL.out] at hf9; subst hf9; subst he)
                    | (go_at_call 47; refine (HCK.out _ _ ho9.at).mono ?_; rintro e wc ⟨rfl, hnc⟩; have hNc := (hnj.trans hnn).trans hnc; have hlk := HLK.out wc hNc; obtain ⟨w5, hrun, hg5, hS5⟩ := HPUT.out wc hNc; obtain ⟨l1, hl1, HFN, hN5, hz5⟩ := HAPP.out wn wc w5 _ hnn hnc ho9 hg5)
                    | (at_builtin; refine wpList_appV (w1 := w5) rfl _ _ _ rfl (B := w.heap.size + 1) Try.underlying22 info_ints rfl (by decide) rfl (.slice (some ⟨g1, 0, none⟩) T'.list.length cap1) T'.list.length l1 rfl hl1 rfl hRl hz5 ?_; intro g8 cap8 w8 ho8 hg8 hloc8))
                  obtain ⟨hR8, hN8, hS8, y80, y81⟩ := HFN.out w8 g8 cap8 hS5 ho8 hg8 hloc8
                  go_roundw
                  case rel => exact ⟨l + 1, by go_num, by omega, hN8, y80, y81, by rw [HS.out]; exact hR8, by rw [HS.out]; exact hS8⟩
                  case measure => simp [intOf]; omega
          · have e : l = a.nx.length := by omega
            subst e
            have b2 : ¬ ((a.nx.length : Nat) : Int) < (a.nx.length : Int) := by omega
            have HE1 := hid (show kT a (k + 1) = bRow (kG a) k (kT a k) a.nx.length by unfold kT at hlt ⊢; rw [bTo_succ, if_pos hlt])
            have hpre1 := HPRE.out.1
            go_wp2_with fail
            go_roundw
            case rel => exact ⟨k + 1, by go_num, by rw [HE1.out]; omega, hNi, z0, z1, by rw [HE1.out]; exact hGi, by rw [HE1.out]; exact hSi⟩
            case measure => simp [intOf]; omega
      · have e : k = (kT a k).list.length := by omega
        have HTE := hid (HEND.out k e.symm)
        have b1 : ¬ (k : Int) < ((kT a k).list.length : Int) := by omega
        clear e
        go_wp2_with fail
        refine (HRK.out wo hn).mono ?_
        rintro e w6 ⟨rfl, hn6⟩
        go_wp2_with fail
        have hx0 : 0 < (kT a k).list.length := by
          unfold kT
          exact List.length_pos_of_mem (start_mem _ _)
        obtain ⟨g5, cap5, A5, n5, e5, _, _, _⟩ := hG.rowAt 0 hx0
        have q5 : B1 = some ⟨g5, 0, none⟩ := by injection e5
        subst q5
        clear e5
        obtain ⟨r, hr9⟩ : ∃ r : Int, r = (leastOf a.nx (full a.n) : Nat) := ⟨_, rfl⟩
        rw [← hr9]
        obtain ⟨bx, hbx⟩ : ∃ bx, bx = w6.heap.size := ⟨_, rfl⟩
        have hgb := hG.block g5 rfl
        have hs6 := hn6.size
        obtain ⟨w7, hw7⟩ : ∃ w7, w7 = w6.alloc (.cells #[.int .i64 r] 2) := ⟨_, rfl⟩
        have hn7 : New w6 w7 := by rw [hw7]; exact (by repeat (first | with_reducible exact New.refl _ | with_reducible assumption | with_reducible refine New.alloc ?_ _ | with_reducible refine New.drew ?_ | with_reducible refine New.drewN ?_ _ | with_reducible refine New.setCell ?_ (by simp <;> omega) _))
        have hb7 : w7.cell? ⟨bx, 0, none⟩ = some (.int .i64 r) := by rw [hw7, hbx]; go_simp
        have hbg : bx ≠ g5 := by omega
        rw [← hw7, ← hbx]
        have hp : ∀ w' v x, But (fun q => q = g5) w7 w' → IntsAt w' v x → x ∈ (kT a k).list → Calls Try.prog 50 (#[v] ++ #[.pointer (some ⟨bx, 0, none⟩)]) w' fun e w'' => e = .returned (.bool ((fun x => !decide (clsN x = r)) x)) ∧ New w' w'' := fun w' v x h1 h2 h3 => by
          have d := hbok.ok x h3
          have dl := d.len
          exact LeastKernels1_any bx r v x w' h2 (h1.cell hb7 hbg) (by omega) (by omega) (fun i hi => by have := d.lt i hi; omega)
        have C := DeleteFuncRows_any 50 #[.pointer (some ⟨bx, 0, none⟩)] (fun x => !decide (clsN x = r)) g5 (kT a k).list.length cc1 (kT a k).list w7 ((hG.new hn6).new hn7) (by omega) HENT1.out hp
        obtain ⟨FL, hFL⟩ : ∃ FL, FL = (kT a k).list.filter (fun x => !(fun x => !decide (clsN x = r)) x) := ⟨_, rfl⟩
        rw [← hFL] at C
        have hFE : FL = (kT a kN).list.filter fun x => decide (clsN x = (rankA a : Int)) := by
          rw [hFL, HTE.out, hr9]
          simp only [Bool.not_not]
          rfl
        have HR9 := hid (show R = (buildR lexLt FL, 0) by rw [HE.out, hFE])
        have hf0 : 0 < FL.length := by rw [hFE]; exact HFP.out
        have hf1 : FL.length ≤ 1048576 := by rw [hFL]; exact Nat.le_trans (List.length_filter_le _ _) (by omega)
        have hn7w := (hn.trans hn6).trans hn7
        clear hw7 hFL hFE hp hr9 hG hbok
        refine C.mono ?_
        rintro e w8 ⟨m, rfl, hb8, hG8⟩
        have hn8 : New w w8 := But.new hn7w hb8 (fun q hq => by cases hq; omega)
        have C2 := SortRows_any lexC lex_total 53 #[] g5 m cc1 FL w8 hG8 hf0 hf1 HENT.out (fun w' v1 v2 x y a b => (CompareInts_any v1 v2 x y w' a b).mono fun _ _ ⟨p, q⟩ => ⟨p, 0, #[], by rw [q, Go.Sort.grow_empty]; rfl⟩)
        have HG8 := hid hG8
        clear hG8 C
        go_wp2_with (go_at_call 52; refine C2.mono ?_; rintro e w9 ⟨rfl, hg9, hG9⟩)
        go_ret2
        rw [HR9.out]
        refine ⟨_, rfl, New.grown hn8 hg9 (fun q hq => by cases hq; omega), ?_⟩
        have := hG9.own (by rw [buildR_len]; omega)
        exact this.widen (by omega) (Nat.le_refl _)

end Go.Proofs.Ytoeckejcmojeaaa
