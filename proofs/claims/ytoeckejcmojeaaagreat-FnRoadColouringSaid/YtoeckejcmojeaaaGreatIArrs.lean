/- Parts of the proof that lean on no program: IDel, IArr, IArr2, IPaint. -/
import Derived.Test.YtoeckejcmojeaaaGreatRows
import Derived.Test.YtoeckejcmojeaaaGreatCore
import Derived.Test.YtoeckejcmojeaaaGreatInfos
import Derived.Test.YtoeckejcmojeaaaGreatPlains
import Derived.Test.YtoeckejcmojeaaaGreatMaps
import Derived.Test.YtoeckejcmojeaaaGreatArrs
import Derived.Test.YtoeckejcmojeaaaGreatJoins
import Derived.Test.YtoeckejcmojeaaaGreatITours
import Derived.WalkKit
import Derived.WalkSpells
import Derived.WalkLawsBesides
import Derived.Deep.QuietTactic
import Derived.Deep.OwnRows
import Derived.BigQuiet
import Derived.KernelRfl
import Derived.Shelf.SlicesE.Delete
import Derived.Sort.OwnSortedInts
import Derived.WalkSmall
import Derived.Carry
import Derived.Deep.RegionLaw
import Derived.Laws.EntriesVeiled
namespace Go.Proofs.YtoeckejcmojeaaaGreat
open Go.RowKit

section
def delRen : Go.Shelf.Ren := ⟨fun | 45 => 150 | _ => 0, fun | 0 => 0 | 3 => 3 | 4 => 4 | 22 => 34 | 23 => 2 | _ => 0, fun _ => 0⟩
theorem delLay : Go.Proofs.SlLaysE.n45 Tryz.prog delRen := {
  mixed := by kernel_rfl
  f45 := ⟨Tryz.f150.name, by decide, Tryz.func150.trans (congrArg some (by kernel_rfl))⟩
  t0 := Tryz.underlying0
  a0 := Tryz.isAgg0
  z0 := Tryz.sizeOf0
  v0 := Tryz.zeroValue0
  t3 := Tryz.underlying3
  a3 := Tryz.isAgg3
  z3 := Tryz.sizeOf3
  v3 := Tryz.zeroValue3
  t4 := Tryz.underlying4
  a4 := Tryz.isAgg4
  z4 := Tryz.sizeOf4
  v4 := Tryz.zeroValue4
  t22 := Tryz.underlying34
  a22 := Tryz.isAgg34
  z22 := Tryz.sizeOf34
  v22 := Tryz.zeroValue34
  a23 := Tryz.isAgg2
  z23 := Tryz.sizeOf2 }
/-- slices.Delete takes one number out of a list of the call's own. -/
theorem Delete64_any {B g c : Nat} (xs : List Int) (i : Nat) (w : World) (h : Grow B 2 w (.slice (some ⟨g, 0, none⟩) xs.length c) xs) (hi : i < xs.length) :
    Calls Tryz.prog 150 #[.slice (some ⟨g, 0, none⟩) xs.length c, .int .i64 i, .int .i64 ((i : Int) + 1)] w fun e w' => e = .returned (.slice (some ⟨g, 0, none⟩) (xs.length - 1) c) ∧ w.grownBy w' (some g) ∧ Grow B 2 w' (.slice (some ⟨g, 0, none⟩) (xs.length - 1) c) (xs.eraseIdx i) := by
  rw [show (i : Int) + 1 = ((i + 1 : Nat) : Int) by omega]
  obtain ⟨i0, hi0, hz0, hz1, hz2⟩ := info_parts (P := Tryz.prog) info_i64
  obtain ⟨hl, ⟨h0, _⟩ | ⟨g', cap', cur, hv, hb, hg, hn, hcap, hsz, htake⟩⟩ := id h
  · cases h0
  cases hv
  have hH := Go.holds_of_blockI hg (by rw [Nat.mul_one] at htake; exact htake)
  have hmax : c ≤ 9223372036854775807 := by unfold maxLen at hcap; omega
  refine (Go.Proofs.AnyE.slices_Delete delLay (Value.int .i64) (fun _ => rfl) 0 Tryz.zeroValue2 i0 hi0 hz1 g 0 c i (i + 1) xs.toArray w hH (by simpa using hn) hmax (Nat.le_succ i) (by rw [List.size_toArray]; exact hi)).mono ?_
  rintro e w' ⟨he, q, hw⟩
  obtain ⟨ts, hts⟩ : ∃ ts, ts = xs.take i ++ xs.drop (i + 1) ++ [(0 : Int)] := ⟨_, rfl⟩
  have e1 : (xs.toArray.toList.take i ++ xs.toArray.toList.drop (i + 1) ++ List.replicate (i + 1 - i) (0 : Int)).toArray = ts.toArray := by
    rw [hts, show i + 1 - i = 1 by omega]; rfl
  rw [e1] at hw
  have hlt : ts.length = xs.length := by rw [hts]; simp; omega
  have hw2 : w' = Go.Sort.grow (Go.Sort.putRow (Value.int .i64) (Go.Sort.ahead w q) g 0 ts.toArray) #[] := by rw [hw, Go.Sort.grow_empty]
  have hr := Go.ownsRow_sortedI (n := q) (os := #[]) hlt hb hg hn hcap hsz
  rw [← hw2] at hr
  have hgr : w.grownBy w' (some g) := by rw [hw2]; exact Go.grownBy_sortedI _
  have hle : (xs.eraseIdx i).length = xs.length - 1 := by rw [List.length_eraseIdx, if_pos hi]
  refine ⟨by rw [he]; simp, hgr, ?_⟩
  unfold Grow
  rw [hle]
  refine Go.ownsRow_pop (last := [.int .i64 0]) (by simp [hle]) ?_
  have e2 : ts.map (Value.int .i64) = (xs.eraseIdx i).map (Value.int .i64) ++ [.int .i64 0] := by
    rw [hts, List.map_append, List.eraseIdx_eq_take_drop_succ]; rfl
  rw [← e2, show xs.length - 1 + 1 = xs.length by omega]
  exact hr
end
section
theorem IntsAt.get {w : World} {A : Option Addr} {m c : Nat} {xs : List Int} (h : IntsAt w (.slice A m c) xs) (i : Nat) (hi : i < xs.length) : ∃ b off, A = some ⟨b, off, none⟩ ∧ w.cell? ⟨b, off + i, none⟩ = some (.int .i64 (nth xs i)) := by
  obtain ⟨A', c', e, _, hc⟩ := h
  cases e
  exact hc i hi
set_option maxRecDepth 20000 in
set_option maxHeartbeats 4000000 in
theorem Arr1_any (B b3 b4 b5 : Nat) : ∀ (n : Nat) (xs : List Int) (v vo vn : Value) (XS : List (List Int)) (N : List Int) (w : World), xs.length = n → n ≤ 3 → ArrSt B 34 2 b3 b4 w vo vn XS N →
    Solid (ArrS b3 b4 vo vn) w (fun w => IntsAt w v xs) → Solid (ArrS b3 b4 vo vn) w (fun w => w.cell? ⟨b5, 0, none⟩ = some (.func (.func 149) #[] #[.pointer (some ⟨b3, 0, none⟩), .pointer (some ⟨b4, 0, none⟩), .pointer (some ⟨b5, 0, none⟩)])) →
    B ≤ w.heap.size → N.length + n ≤ 100 → XS.length + arrB n ≤ 10000 →
    Calls Tryz.prog 149 #[v, .pointer (some ⟨b3, 0, none⟩), .pointer (some ⟨b4, 0, none⟩), .pointer (some ⟨b5, 0, none⟩)] w fun e w' => e = .returned (.tuple #[]) ∧ ∃ vo' vn', But (ArrS b3 b4 vo vn) w w' ∧ ArrSt B 34 2 b3 b4 w' vo' vn' (XS ++ (arrF n xs).map (N ++ ·)) N ∧ ∀ k, ArrS b3 b4 vo' vn' k → ArrS b3 b4 vo vn k ∨ w.heap.size ≤ k := by
  intro n
  induction n with
  | zero =>
    intro xs v vo vn XS N w hxl hn3 hst hv hf hB hNl hXl
    obtain ⟨A, c, rfl⟩ := hv.now.form
    rw [hxl]
    obtain ⟨AN, cN, rfl⟩ := hst.now.form
    obtain ⟨AO, cO, rfl⟩ := hst.out.form
    have hNat := (hst.now.own (by omega)).at
    obtain ⟨c3, f3⟩ := id hst.c3
    obtain ⟨c4, f4⟩ := id hst.c4
    have hlt := hid hst.lt
    obtain ⟨l1, hl1, hsp⟩ := hst.push
    have HSP := hid hsp
    have HE := hid (show XS ++ (arrF 0 xs).map (N ++ ·) = XS ++ [N] by simp [arrF])
    have hXl' : XS.length < 1099511627776 := by omega
    clear hsp hv hf hxl
    go_enter Tryz.func149, Tryz.ntmps149
    go_wp2_with fail
    go_region_law
      (first
        | (go_simp; go_at_call 100; refine (Clone64_any _ N _ (hNat.new (by repeat (first | with_reducible exact New.refl _ | with_reducible assumption | with_reducible refine New.alloc ?_ _ | with_reducible refine New.drewN ?_ _ | with_reducible refine New.drew ?_ | with_reducible refine New.trans ?_ (by with_reducible assumption)))) (by omega)).mono ?_; rintro e w1 ⟨r, he, hq1, hg1⟩; obtain ⟨Ar, cr, rfl⟩ := hg1.form; subst he; have hw1 : New w w1 := (by repeat (first | with_reducible exact New.refl _ | with_reducible assumption | with_reducible refine New.alloc ?_ _ | with_reducible refine New.drewN ?_ _ | with_reducible refine New.drew ?_ | with_reducible refine New.trans ?_ (by with_reducible assumption))); have y3 := hw1.cell c3; have y3a := (New.alloc hw1 (.cells #[.slice Ar N.length cr] 34)).cell c3; have hz1 := hw1.size; have hsol := hid ((hg1.own (by omega)).at.solid (S := ArrT B b3 b4 (.slice AO XS.length cO) (.slice AN N.length cN)) (fun k hk hs => by have h1 := (hg1.block k hk).1; simp only [sizes] at h1; rcases hs with hs | hs; omega; have := hlt.out k hs; omega)))
        | (refine step_appV1 rfl _ _ _ rfl (B := B) Tryz.underlying24 info_ints rfl (by decide) (.slice AO XS.length cO) XS.length l1 (.slice Ar N.length cr) rfl _ rfl (ownsRow_new hl1 (by repeat (first | with_reducible exact New.refl _ | with_reducible assumption | with_reducible refine New.alloc ?_ _ | with_reducible refine New.drewN ?_ _ | with_reducible refine New.drew ?_ | with_reducible refine New.trans ?_ (by with_reducible assumption)))) rfl (by go_simp) hXl' (by (try simp only [sizes]) <;> omega) ?_; intro g cap wd hod hgd hloc; obtain ⟨⟨u3, uf3⟩, hBf, hAf, hSf⟩ := HSP.out _ wd g cap _ (by repeat (first | with_reducible exact New.refl _ | with_reducible assumption | with_reducible refine New.alloc ?_ _ | with_reducible refine New.drewN ?_ _ | with_reducible refine New.drew ?_ | with_reducible refine New.trans ?_ (by with_reducible assumption))) (hsol.out.new (by repeat (first | with_reducible exact New.refl _ | with_reducible assumption | with_reducible refine New.alloc ?_ _ | with_reducible refine New.drewN ?_ _ | with_reducible refine New.drew ?_ | with_reducible refine New.trans ?_ (by with_reducible assumption)))) hod hgd hloc))
    all_goals
      clear hgd hod hloc
      go_wp2_with fail
      refine bodyPost_ret (results_none rfl _ _ _) rfl ?_
      exact ⟨rfl, _, _, hBf, by rw [HE.out]; exact hAf, hSf⟩
  | succ n ih =>
    intro xs v vo vn XS N w hxl hn3 hst hv hf hB hNl hXl
    obtain ⟨A, c, rfl⟩ := hv.now.form
    rw [hxl] at hv ⊢
    have IH := hid ih
    have HXL := hid hxl
    have hz9 : ((n : Int) + 1 == 0) = false := by
      simp only [beq_eq_false_iff_ne]; omega
    clear ih hxl
    go_enter Tryz.func149, Tryz.ntmps149
    go_wp2_with fail
    go_loopw [17] (fun i wr => ∃ (k : Nat) (vo' vn' : Value), i = .int .i64 k ∧ k ≤ n + 1 ∧ But (ArrS b3 b4 vo vn) w wr ∧ ArrSt B 34 2 b3 b4 wr vo' vn' (XS ++ (arrUp n xs k).map (N ++ ·)) N ∧ ∀ k, ArrS b3 b4 vo' vn' k → ArrS b3 b4 vo vn k ∨ w.heap.size ≤ k) (fun i _ => n + 1 - (intOf i).toNat)
    case atStart => exact ⟨0, _, _, rfl, Nat.zero_le _, But.refl, by simpa [arrUp] using hst, fun k hk => Or.inl hk⟩
    case round =>
      obtain ⟨k, vo', vn', rfl, hk, hb, hs, hS⟩ := hrel
      obtain ⟨wo, rfl⟩ : ∃ wo : World, wo = wr := ⟨_, rfl⟩
      have hvo := hv.step (S' := ArrS b3 b4 vo' vn') hb hS
      have hfo := hf.step (S' := ArrS b3 b4 vo' vn') hb hS
      have hbs := hb.size
      by_cases hlt : k < n + 1
      · have b1 : (k : Int) < ((n + 1 : Nat) : Int) := by omega
        obtain ⟨X, hX⟩ : ∃ z, z = nth xs k := ⟨_, rfl⟩
        have hxk : k < xs.length := by have := HXL.out; omega
        obtain ⟨ab, ao, rfl, hx1⟩ := hvo.now.get k hxk
        rw [← hX] at hx1
        have HX := hid hX
        obtain ⟨YS, hYS⟩ : ∃ z, z = XS ++ (arrUp n xs k).map (N ++ ·) := ⟨_, rfl⟩
        have hYl : YS.length = XS.length + (arrUp n xs k).length := by rw [hYS]; simp
        have hYb : YS.length + arrB n ≤ 10000 := by
          have h1 := arrUp_len n xs k
          have h2 : (k + 1) * arrB n ≤ (n + 1) * arrB n := Nat.mul_le_mul_right _ hlt
          rw [Nat.succ_mul] at h2
          have h3 : arrB (n + 1) = (n + 1) * arrB n := rfl
          omega
        rw [← hYS] at hs
        have HYS := hid hYS
        clear hYS hYl hX
        by_cases hsk : skipB xs k = true
        · have hk2 : 0 < k ∧ X = nth xs (k - 1) := by
            unfold skipB at hsk
            simp only [Bool.and_eq_true, decide_eq_true_eq] at hsk
            exact ⟨hsk.1, by rw [HX.out]; exact hsk.2⟩
          have HE := hid (arrUp_skip (n := n) hsk)
          obtain ⟨b0', hXp⟩ := hk2
          have b0 : (0 : Int) < (k : Int) := by omega
          have hw1 : IntKind.i64.wrap ((k : Int) - 1) = ((k - 1 : Nat) : Int) := by
            rw [IntWalk.i64_in ((k : Int) - 1) (by omega)]; omega
          obtain ⟨_, _, e2, hx2⟩ := hvo.now.get (k - 1) (by omega)
          cases e2
          rw [← hXp] at hx2
          clear hsk hXp
          go_wp2_with fail
          refine ⟨⟨k + 1, _, _, by go_num, by omega, hb, by rw [HE.out, ← HYS.out]; exact hs, hS⟩, ?_⟩
          simp [intOf]; omega
        · have hsk' : skipB xs k = false := by simpa using hsk
          have HE := hid (show XS ++ (arrUp n xs (k + 1)).map (N ++ ·) = YS ++ (arrF n (xs.eraseIdx k)).map ((N ++ [X]) ++ ·) by
            rw [arrUp_take hsk', List.map_append, ← List.append_assoc, ← HYS.out, List.map_map, ← HX.out]
            congr 1
            apply List.map_congr_left
            intro q _
            simp)
          have hcase : ¬ (0 : Int) < (k : Int) ∨ ((0 : Int) < (k : Int) ∧ X ≠ nth xs (k - 1)) := by
            unfold skipB at hsk'
            simp only [Bool.and_eq_false_iff, decide_eq_false_iff_not] at hsk'
            rcases hsk' with q | q
            · left; omega
            · by_cases hk0 : (0 : Int) < (k : Int)
              · right; exact ⟨hk0, by rw [HX.out]; exact q⟩
              · left; exact hk0
          obtain ⟨Xp, hXp⟩ : ∃ z, z = nth xs (k - 1) := ⟨_, rfl⟩
          obtain ⟨_, _, e2, hx2⟩ := hvo.now.get (k - 1) (by omega)
          cases e2
          rw [← hXp] at hx2 hcase
          clear hXp hsk hsk'
          obtain ⟨AN, cN, rfl⟩ := hs.now.form
          obtain ⟨c4, f4⟩ := id hs.c4
          have hN1 := hid hs.now
          have hwob : B ≤ wo.heap.size := by omega
          have hw1 : IntKind.i64.wrap ((k : Int) - 1) = ((k : Int) - 1) := IntWalk.i64_in _ (by omega)
          have hw2 : IntKind.i64.wrap ((k : Int) + 1) = ((k : Int) + 1) := IntWalk.i64_in _ (by omega)
          have hw3 : IntKind.i64.wrap (((N.length + 1 : Nat) : Int) - 1) = (N.length : Int) := by
            rw [IntWalk.i64_in (((N.length + 1 : Nat) : Int) - 1) (by omega)]; omega
          have hNl2 : N.length < 1099511627776 := by omega
          have HXK := hid hxk
          have hw4 : (N ++ [X]).length = N.length + 1 := by simp
          have HW4 := hid hw4
          clear hw4
          rcases hcase with b0 | ⟨b0, hne⟩
          all_goals first
            | (have hnb : (X == Xp) = false := by simpa using hne
               have j0 : (0 : Int) ≤ (k : Int) - 1 := by omega
               have j1 : (k : Int) - 1 < ((n + 1 : Nat) : Int) := by omega
               have hx2' : wo.cell? ⟨ab, ao + ((k : Int) - 1).toNat, none⟩ = some (.int .i64 Xp) := by rw [show ((k : Int) - 1).toNat = k - 1 by omega]; exact hx2
               clear hne)
            | skip
          all_goals go_wp2_with (at_builtin; refine wpList_appV (w1 := wo) rfl _ _ _ rfl (B := B) Tryz.underlying34 info_i64 rfl (by decide) rfl (.slice AN N.length cN) N.length _ rfl hN1.out rfl hNl2 hwob ?_; intro g1 cap1 wd hod hgd hloc; obtain ⟨⟨u4, uf4⟩, hBm, hAm, hSm⟩ := hs.more rfl (New.refl _) hod hgd (hloc.imp id Nat.le_of_lt))
          all_goals
            obtain ⟨w6, hw6⟩ : ∃ w6, w6 = wd.setCell ⟨b4, 0, none⟩ (.slice (some ⟨g1, 0, none⟩) (N.length + 1) cap1) := ⟨_, rfl⟩
            rw [← hw6] at hBm hAm ⊢
            clear hw6 u4 uf4 hod hgd hloc c4 f4
            have hv6 := hvo.step (S' := ArrS b3 b4 vo' (.slice (some ⟨g1, 0, none⟩) (N.length + 1) cap1)) hBm hSm
            have hf6 := hfo.step (S' := ArrS b3 b4 vo' (.slice (some ⟨g1, 0, none⟩) (N.length + 1) cap1)) hBm hSm
            have hs6 := hBm.size
            have x5 := hf6.now
            have HV := hid hv6
            have HF := hid hf6
            have HA := hid hAm
            have HLT := hid hAm.lt
            clear hv hf hvo hfo hv6 hf6
            go_region_law
              (first
                | (go_simp; go_at_call 100; refine (Clone64_any _ xs _ (HV.out.now.new (by repeat (first | with_reducible exact New.refl _ | with_reducible assumption | with_reducible refine New.alloc ?_ _ | with_reducible refine New.drewN ?_ _ | with_reducible refine New.drew ?_ | with_reducible refine New.trans ?_ (by with_reducible assumption)))) (by have := HXL.out; omega)).mono ?_; rintro e w7 ⟨r, he, hq7, hg7⟩; obtain ⟨gb, _, ⟨cr, hr⟩, hgb, _⟩ := ownsRow_cells hg7 0 (by simp; have := HXL.out; omega); subst hr; subst he; have hw7 : New w6 w7 := (by repeat (first | with_reducible exact New.refl _ | with_reducible assumption | with_reducible refine New.alloc ?_ _ | with_reducible refine New.drewN ?_ _ | with_reducible refine New.drew ?_ | with_reducible refine New.trans ?_ (by with_reducible assumption))); have y5 := (HF.out.new hw7).now; have hz7 := hw7.size)
                | (go_simp; go_at_call 150; (refine (Delete64_any xs k _ (hg7.new (by repeat (first | with_reducible exact New.refl _ | with_reducible assumption | with_reducible refine New.alloc ?_ _ | with_reducible refine New.drewN ?_ _ | with_reducible refine New.drew ?_ | with_reducible refine New.trans ?_ (by with_reducible assumption)))) HXK.out).mono ?_; rintro e w8 ⟨he, hg8, ho8⟩; subst he; have hw8 : New w6 w8 := New.grown hw7 hg8 (fun q hq => by cases hq; exact hgb); have z5 := (HF.out.new hw8).now; have hz8 := hw8.size; have hsol := hid ((ho8.own (by have := HXL.out; rw [List.length_eraseIdx, if_pos HXK.out]; omega)).at.solid (S := ArrS b3 b4 vo' (.slice (some ⟨g1, 0, none⟩) (N.length + 1) cap1)) (fun q hq hs => by have h1 := HLT.out q hs; have h2 : gb = q := Option.some.inj hq; have h3 : w6.heap.size ≤ gb := hgb; omega))))
                | (go_simp; refine (IH.out (xs.eraseIdx k) _ vo' _ YS (N ++ [X]) _ (by rw [List.length_eraseIdx, if_pos HXK.out]; have := HXL.out; omega) (by omega) (HA.out.new hw8) hsol.out (HF.out.new hw8) (by omega) (by rw [HW4.out]; omega) hYb).mono ?_; rintro e w9 ⟨he, vo9, vn9, hb9, hA9, hS9⟩; subst he))
            all_goals
              obtain ⟨g9, _, ⟨c9, hv9⟩, _⟩ := ownsRow_cells hA9.now 0 (by simp)
              subst hv9
              rw [HW4.out] at hA9 hS9
              obtain ⟨q4, qf4⟩ := id hA9.c4
              have hcap9 : (N.length : Int) ≤ (c9 : Int) := by
                have := ownsRow_cap hA9.now; omega
              obtain ⟨hBp, hAp⟩ := hA9.pop rfl
              go_wp2_with fail
              have hBut := (((hb.trans hBm hS).trans (But.of_new hw8 : But (ArrS b3 b4 vo vn) w6 w8) (fun q hq => Or.inl hq)).trans hb9 (fun q hq => (hSm q hq).elim (fun h => hS q h) (fun h => Or.inr (by omega)))).trans hBp (fun q hq => by
                    rcases hS9 q hq with h | h
                    · exact (hSm q h).elim (fun h => hS q h) (fun h => Or.inr (by omega))
                    · exact Or.inr (by omega))
              refine ⟨⟨k + 1, _, _, by go_num, by omega, hBut, by rw [HE.out]; exact hAp, fun q hq => ?_⟩, ?_⟩
              · rcases hS9 q hq with h | h
                · exact (hSm q h).elim (fun h => hS q h) (fun h => Or.inr (by omega))
                · exact Or.inr (by omega)
              · simp [intOf]; omega
      · have e : k = n + 1 := by omega
        subst e
        have b1 : ¬ ((n + 1 : Nat) : Int) < ((n + 1 : Nat) : Int) := by omega
        go_wp2_with fail
        go_end0
        exact ⟨rfl, hb, _, _, hs, hS⟩
end
section
theorem IntsAt.solid_old {S : Nat → Prop} {w w' : World} {v : Value} {xs : List Int} (h : IntsAt w v xs) (hn : New w w') (hS : ∀ k, S k → w.heap.size ≤ k) : Solid S w' (fun w => IntsAt w v xs) := fun _ hb => h.new (But.new hn hb hS)
theorem arrB_le : ∀ n, n ≤ 3 → arrB n ≤ 6 := by decide
set_option maxRecDepth 20000 in
set_option maxHeartbeats 1000000 in
theorem arrangements_any (v : Value) (xs : List Int) (w : World) (h : IntsAt w v xs) (hl : xs.length ≤ 3) :
    Calls Tryz.prog 114 #[v] w fun e w' => ∃ r, e = .returned r ∧ New w w' ∧ Lies RowsAt w.heap.size w'.heap.size w' r (arrF xs.length xs) := by
  obtain ⟨W0, hW0⟩ : ∃ W0, W0 = ((((w.alloc (.cells #[] 34)).alloc (.cells #[] 2)).alloc (.cells #[.slice (some ⟨w.heap.size, 0, none⟩) 0 0] 24)).alloc (.cells #[.slice (some ⟨w.heap.size + 1, 0, none⟩) 0 0] 34)).alloc (.cells #[.func (.func 149) #[] #[.pointer (some ⟨w.heap.size + 1 + 1, 0, none⟩), .pointer (some ⟨w.heap.size + 1 + 1 + 1, 0, none⟩), .pointer (some ⟨w.heap.size + 1 + 1 + 1 + 1, 0, none⟩)]] 178) := ⟨_, rfl⟩
  have hn0 : New w W0 := by rw [hW0]; exact (by repeat (first | with_reducible exact New.refl _ | with_reducible assumption | with_reducible refine New.alloc ?_ _ | with_reducible refine New.drewN ?_ _ | with_reducible refine New.drew ?_ | with_reducible refine New.trans ?_ (by with_reducible assumption)))
  have hz0 : W0.heap.size = w.heap.size + 5 := by rw [hW0]; simp only [size_alloc]
  have hSS : ∀ k, ArrS (w.heap.size + 1 + 1) (w.heap.size + 1 + 1 + 1) (.slice (some ⟨w.heap.size, 0, none⟩) 0 0) (.slice (some ⟨w.heap.size + 1, 0, none⟩) 0 0) k → w.heap.size ≤ k ∧ k < w.heap.size + 4 := by
    intro k hk
    rcases hk with q | q | q | q
    · omega
    · omega
    · have q' : w.heap.size = k := Option.some.inj q
      omega
    · have q' : w.heap.size + 1 = k := Option.some.inj q
      omega
  have hst : ArrSt w.heap.size 34 2 (w.heap.size + 1 + 1) (w.heap.size + 1 + 1 + 1) W0 (.slice (some ⟨w.heap.size, 0, none⟩) 0 0) (.slice (some ⟨w.heap.size + 1, 0, none⟩) 0 0) [] [] := by
    have hnow := Grow.empty w.heap.size 2 (w.alloc (.cells #[] 34)) (by rw [size_alloc]; omega)
    rw [size_alloc] at hnow
    rw [hW0]
    exact ⟨⟨by go_simp, by go_simp⟩, ⟨by go_simp, by go_simp⟩, (GrowS.empty (Nat.le_refl _)).new (by repeat (first | with_reducible exact New.refl _ | with_reducible assumption | with_reducible refine New.alloc ?_ _ | with_reducible refine New.drewN ?_ _ | with_reducible refine New.drew ?_ | with_reducible refine New.trans ?_ (by with_reducible assumption))), hnow.new (by repeat (first | with_reducible exact New.refl _ | with_reducible assumption | with_reducible refine New.alloc ?_ _ | with_reducible refine New.drewN ?_ _ | with_reducible refine New.drew ?_ | with_reducible refine New.trans ?_ (by with_reducible assumption))), by omega, fun q => by have := Option.some.inj q; simp only at this; omega, fun q => by have := Option.some.inj q; simp only at this; omega, fun q => by have := Option.some.inj q; simp only at this; omega, fun q => by have := Option.some.inj q; simp only at this; omega, Or.inl (by simp [Value.ownBlock])⟩
  have hf : Solid (ArrS (w.heap.size + 1 + 1) (w.heap.size + 1 + 1 + 1) (.slice (some ⟨w.heap.size, 0, none⟩) 0 0) (.slice (some ⟨w.heap.size + 1, 0, none⟩) 0 0)) W0 (fun w' => w'.cell? ⟨w.heap.size + 1 + 1 + 1 + 1, 0, none⟩ = some (.func (.func 149) #[] #[.pointer (some ⟨w.heap.size + 1 + 1, 0, none⟩), .pointer (some ⟨w.heap.size + 1 + 1 + 1, 0, none⟩), .pointer (some ⟨w.heap.size + 1 + 1 + 1 + 1, 0, none⟩)])) := by
    refine Solid.cell ?_ (fun q => ?_)
    · rw [hW0]; go_simp
    · have := hSS _ q; simp only at this; omega
  have hb := arrB_le _ hl
  have C := Arr1_any w.heap.size (w.heap.size + 1 + 1) (w.heap.size + 1 + 1 + 1) (w.heap.size + 1 + 1 + 1 + 1) xs.length xs v _ _ [] [] W0 rfl hl hst (h.solid_old hn0 (fun k hk => (hSS k hk).1)) hf (by omega) (by simp; omega) (by simp; omega)
  have hal := arr_len xs.length xs
  go_enter Tryz.func114, Tryz.ntmps114
  go_wp2_with fail
  rw [← hW0]
  refine C.mono ?_
  rintro e w1 ⟨he, vo, vn, hb1, hA, hS⟩
  subst he
  obtain ⟨c3, _⟩ := id hA.c3
  have hn1 : New w w1 := But.new hn0 hb1 (fun k hk => (hSS k hk).1)
  have hL := hA.out.lies (by simp; omega) (fun k hk => Or.inl hk)
  have e1 : ([] : List (List Int)) ++ (arrF xs.length xs).map (([] : List Int) ++ ·) = arrF xs.length xs := by simp
  rw [e1] at hL
  go_wp2_with fail
  go_ret
  exact ⟨_, rfl, hn1, hL⟩
end
section
theorem info_rows : (Tryz.prog.info? 24).map (fun i => (i.zero, i.size, i.bytes)) = some (some (.slice none 0 0), 1, 24) := by kernel_rfl
set_option maxRecDepth 20000 in
set_option maxHeartbeats 4000000 in
theorem newPaintS_any (v : Value) (r : Aut) (w : World) (h : AutAt w v r) (hl : r.nx.length ≤ 7) (hll : ∀ i, i < r.nx.length → (nth r.nx i).length ≤ 3) :
    Calls Tryz.prog 60 #[v] w fun e w' => ∃ rv rc, e = .returned (.agg #[.int .i64 r.n, rv, rc]) ∧ v = .agg #[.int .i64 r.n, rv] ∧ New w w' ∧ RowsAt w' rv r.nx ∧ Solid (fun k => k < w.heap.size) w' (fun w' => ListAt RowsAt w' rc (choicesOf r)) := by
  obtain ⟨rv, rfl, hr⟩ := h
  obtain ⟨A, c, rfl, hl', hc⟩ := id hr
  have HC := hid hc
  have HLL := hid hll
  clear hc hll
  obtain ⟨W0, hW0⟩ : ∃ W0, W0 = ((w.alloc (.cells #[.int .i64 r.n, .slice A r.nx.length c] 47)).alloc (.cells #[.int .i64 0, .slice none 0 0, .slice none 0 0] 95)).alloc (.cells #[.int .i64 r.n, .slice A r.nx.length c, .slice none 0 0] 95) := ⟨_, rfl⟩
  have hn0 : New w W0 := by rw [hW0]; exact (by repeat (first | with_reducible exact New.refl _ | with_reducible assumption | with_reducible refine New.alloc ?_ _ | with_reducible refine New.drewN ?_ _ | with_reducible refine New.drew ?_ | with_reducible refine New.trans ?_ (by with_reducible assumption)))
  have hz0 : w.heap.size + 3 ≤ W0.heap.size := by rw [hW0]; simp only [size_alloc]; omega
  have hP : Box3 W0 (w.heap.size + 1 + 1) (.int .i64 r.n) (.slice A r.nx.length c) (.slice none 0 0) := by rw [hW0]; exact ⟨⟨by go_simp, by go_simp, by go_simp⟩, by go_simp, by go_simp, by go_simp⟩
  have hR : Box3 W0 (w.heap.size + 1) (.int .i64 0) (.slice none 0 0) (.slice none 0 0) := by rw [hW0]; exact ⟨⟨by go_simp, by go_simp, by go_simp⟩, by go_simp, by go_simp, by go_simp⟩
  have hG : GrowS RowsAt (fun k => k < w.heap.size + 3 ∨ (Value.slice none 0 0).ownBlock = some k) (w.heap.size + 3) 24 W0 (.slice none 0 0) ((r.nx.take 0).map arrOf) := GrowS.nil
  go_enter Tryz.func60, Tryz.ntmps60
  go_wp2_with fail
  rw [← hW0]
  clear hW0
  go_loopw [11] (fun i wr => ∃ (k : Nat) (cv : Value), i = .int .i64 k ∧ k ≤ r.nx.length ∧ New w wr ∧ w.heap.size + 3 ≤ wr.heap.size ∧ Box3 wr (w.heap.size + 1 + 1) (.int .i64 r.n) (.slice A r.nx.length c) cv ∧ Box3 wr (w.heap.size + 1) (.int .i64 0) (.slice none 0 0) (.slice none 0 0) ∧
      GrowS RowsAt (fun k => k < w.heap.size + 3 ∨ cv.ownBlock = some k) (w.heap.size + 3) 24 wr cv ((r.nx.take k).map arrOf)) (fun i _ => r.nx.length - (intOf i).toNat)
  case atStart => exact ⟨0, _, rfl, Nat.zero_le _, hn0, hz0, hP, hR, hG⟩
  case round =>
    obtain ⟨k, cv, rfl, hk, hn, hz, hPw, hRw, hGw⟩ := hrel
    clear hn0 hz0 hP hR hG
    obtain ⟨wo, rfl⟩ : ∃ wo : World, wo = wr := ⟨_, rfl⟩
    by_cases hlt : k < r.nx.length
    · have b1 : (k : Int) < (r.nx.length : Int) := by omega
      obtain ⟨xb, xo, xv, rfl, hx, hxv⟩ := HC.out k hlt
      have hlk := HLL.out k hlt
      obtain ⟨X, hX⟩ : ∃ z, z = nth r.nx k := ⟨_, rfl⟩
      rw [← hX] at hxv hlk
      obtain ⟨YS, hYS⟩ : ∃ z, z = (r.nx.take k).map arrOf := ⟨_, rfl⟩
      have hYl : YS.length = k := by rw [hYS]; simp; omega
      have HE := hid (show (r.nx.take (k + 1)).map arrOf = YS ++ [arrOf X] by rw [take_succ_nth _ k hlt, List.map_append, ← hYS, hX]; rfl)
      rw [← hYS] at hGw
      clear hYS hX
      obtain ⟨AO, cO, rfl⟩ := hGw.form
      replace hx := hn.cell hx
      replace hxv := hxv.new hn
      obtain ⟨⟨p0, p1, p2⟩, pf0, pf1, pf2⟩ := id hPw
      have hpl := hPw.lt
      obtain ⟨l1, hl1, hsp⟩ := hGw.appT
      have HSP := hid hsp
      have hblk := hid hGw.block
      have hYl' : YS.length < 1099511627776 := by omega
      have HLK := hid hlk
      clear hsp hlk hYl
      go_wp2_with fail
      go_region_law
        (first
          | (go_simp; go_at_call 114; refine (arrangements_any _ X _ (hxv.new (by repeat (first | with_reducible exact New.refl _ | with_reducible assumption | with_reducible refine New.alloc ?_ _ | with_reducible refine New.drewN ?_ _ | with_reducible refine New.drew ?_ | with_reducible refine New.trans ?_ (by with_reducible assumption)))) HLK.out).mono ?_; rintro e w1 ⟨x, he, hq1, hL1⟩; obtain ⟨Ax, cx, rfl⟩ := hL1.now.form; subst he; have hw1 : New wo w1 := (by repeat (first | with_reducible exact New.refl _ | with_reducible assumption | with_reducible refine New.alloc ?_ _ | with_reducible refine New.drewN ?_ _ | with_reducible refine New.drew ?_ | with_reducible refine New.trans ?_ (by with_reducible assumption))); have y2 := hw1.cell p2; have y2a := (New.alloc hw1 (.cells #[.slice Ax (arrF X.length X).length cx] 24)).cell p2; have hz1 := hw1.size)
          | (refine step_appV1 rfl _ _ _ rfl (B := w.heap.size + 3) Tryz.underlying93 info_rows rfl (by decide) (.slice AO YS.length cO) YS.length l1 (.slice Ax (arrF X.length X).length cx) rfl _ rfl (ownsRow_new hl1 (by repeat (first | with_reducible exact New.refl _ | with_reducible assumption | with_reducible refine New.alloc ?_ _ | with_reducible refine New.drewN ?_ _ | with_reducible refine New.drew ?_ | with_reducible refine New.trans ?_ (by with_reducible assumption)))) rfl (by go_simp) hYl' (by (try simp only [sizes]) <;> omega) ?_; intro g cap wd hod hgd hloc; have hbw : But (fun q => (Value.slice AO YS.length cO).ownBlock = some q) wo wd := But.trans (But.of_new (by repeat (first | with_reducible exact New.refl _ | with_reducible assumption | with_reducible refine New.alloc ?_ _ | with_reducible refine New.drewN ?_ _ | with_reducible refine New.drew ?_ | with_reducible refine New.trans ?_ (by with_reducible assumption)))) (But.of_grown hgd (fun q hq => hq)) (fun q hq => Or.inl hq); have hP2 := hPw.but hbw (fun q => by have := (hblk.out _ q).1; omega); obtain ⟨⟨_, _, u2⟩, _, _, uf2⟩ := id hP2))
      all_goals
        have hS : ∀ q, (q < w.heap.size + 3 ∨ (Value.slice AO YS.length cO).ownBlock = some q) → q < wo.heap.size := fun q hq => hq.elim (fun h => by omega) (fun h => (hblk.out q h).2)
        have hgB : w.heap.size + 3 ≤ g := by
          rcases hloc with q | q
          · exact (hblk.out g q).1
          · (try simp only [sizes] at q); omega
        have hG2 := HSP.out (fun _ => False) (fun q => q < w.heap.size + 3 ∨ (Value.slice (some ⟨g, 0, none⟩) (YS.length + 1) cap).ownBlock = some q) _ wd g cap _ (arrF X.length X) (But.of_new (by repeat (first | with_reducible exact New.refl _ | with_reducible assumption | with_reducible refine New.alloc ?_ _ | with_reducible refine New.drewN ?_ _ | with_reducible refine New.drew ?_ | with_reducible refine New.trans ?_ (by with_reducible assumption)))) (fun q hq => hq.elim) (fun q hq => Or.inr hq)
          (Solid.new (Solid.mono hL1 (fun q hq => Or.inl (hS q hq))) (by repeat (first | with_reducible exact New.refl _ | with_reducible assumption | with_reducible refine New.alloc ?_ _ | with_reducible refine New.drewN ?_ _ | with_reducible refine New.drew ?_ | with_reducible refine New.trans ?_ (by with_reducible assumption)))) hod hgd (fun q hq => hq.elim (fun h => Or.inl (Or.inl h)) (fun h => by
            have h' : g = q := Option.some.inj h
            subst h'
            exact hloc.imp Or.inr id))
        have hR2 := hRw.but hbw (fun q => by have := (hblk.out _ q).1; omega)
        have hn2 : New w wd := But.new hn hbw (fun q hq => by have := (hblk.out q hq).1; omega)
        have hz2 := hbw.size
        clear hgd hod hloc hbw hn
        go_wp2_with fail
        have hbs : But (fun q => q = w.heap.size + 1 + 1) wd (wd.setCell ⟨w.heap.size + 1 + 1, 2, none⟩ (.slice (some ⟨g, 0, none⟩) (YS.length + 1) cap)) := But.setCell _ _ rfl
        have hgn : g ≠ w.heap.size + 1 + 1 := by omega
        refine ⟨⟨k + 1, _, by go_num, by omega, hn2.setCell (p := ⟨w.heap.size + 1 + 1, 2, none⟩) (Nat.le_trans (Nat.le_succ _) (Nat.le_succ _)) _, by rw [size_setCell]; omega, hP2.set2 _, hR2.but hbs (by omega), by
          rw [HE.out]
          exact hG2.step hbs (fun q hq => Or.inl (Or.inl (by omega))) (fun q hq e => hgn (by have h' : g = q := Option.some.inj hq; omega)) (fun q hq => Or.inl hq)⟩, ?_⟩
        simp [intOf]; omega
    · have e : k = r.nx.length := by omega
      subst e
      have b1 : ¬ (r.nx.length : Int) < (r.nx.length : Int) := by omega
      obtain ⟨YS, hYS⟩ : ∃ z, z = (r.nx.take r.nx.length).map arrOf := ⟨_, rfl⟩
      have hYl : YS.length ≤ 9223372036854775807 := by rw [hYS]; simp; omega
      have HE := hid (show choicesOf r = YS by rw [hYS, List.take_length]; rfl)
      rw [← hYS] at hGw
      clear hYS
      obtain ⟨AO, cO, rfl⟩ := hGw.form
      have hL := hGw.lies hYl (fun q hq => Or.inl hq)
      obtain ⟨⟨p0, p1, p2⟩, pf0, pf1, pf2⟩ := id hPw
      obtain ⟨⟨q0, q1, q2⟩, qf0, qf1, qf2⟩ := id hRw
      obtain ⟨⟨g0, g1, g2⟩, _⟩ := ((hRw.set0 (.int .i64 r.n)).set1 (.slice A r.nx.length c)).set2 (.slice AO YS.length cO)
      have hW : Within (w.heap.size + 1) (w.heap.size + 1 + 1) wo (((wo.setCell ⟨w.heap.size + 1, 0, none⟩ (.int .i64 r.n)).setCell ⟨w.heap.size + 1, 1, none⟩ (.slice A r.nx.length c)).setCell ⟨w.heap.size + 1, 2, none⟩ (.slice AO YS.length cO)) := (by repeat (first | with_reducible exact Within.refl _ _ _ | with_reducible refine Within.setCell ?_ (by simp <;> omega) (by simp <;> omega) _))
      go_wp2_with fail
      refine bodyPost_ret (v := .agg #[.int .i64 r.n, .slice A r.nx.length c, .slice AO YS.length cO]) (by simp [results, Tryz.results60, go_sem, g0, g1, g2]) rfl ?_
      have hN := hn.within hW (by omega)
      have hB := But.of_within hW
      exact ⟨_, _, rfl, rfl, hN, hr.new hN, by rw [HE.out]; exact hL.step (hB.mono (fun q hq => Or.inl (by omega))) (fun q hq => Or.inl (Or.inl (by omega)))⟩
theorem newPaint_any (v : Value) (r : Aut) (w : World) (h : AutAt w v r) (hl : r.nx.length ≤ 7) (hll : ∀ i, i < r.nx.length → (nth r.nx i).length ≤ 3) :
    Calls Tryz.prog 60 #[v] w fun e w' => ∃ rv rc, e = .returned (.agg #[.int .i64 r.n, rv, rc]) ∧ New w w' ∧ RowsAt w' rv r.nx ∧ ListAt RowsAt w' rc (choicesOf r) :=
  (newPaintS_any v r w h hl hll).mono fun _e _w' ⟨rv, rc, he, _, hn, hr, hc⟩ => ⟨rv, rc, he, hn, hr, hc.now⟩
end

end Go.Proofs.YtoeckejcmojeaaaGreat
