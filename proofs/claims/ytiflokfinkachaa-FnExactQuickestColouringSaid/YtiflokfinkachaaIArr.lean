/- The program's arrangements of a list. -/
import Derived.Test.YtiflokfinkachaaRows
import Derived.Test.YtiflokfinkachaaCore
import Derived.Test.YtiflokfinkachaaInfos
import Derived.Test.YtiflokfinkachaaPlains
import Derived.Test.YtiflokfinkachaaMaps
import Derived.Test.YtiflokfinkachaaArrs
import Derived.Test.YtiflokfinkachaaJoins
import Derived.Test.YtiflokfinkachaaIClone
import Derived.Test.YtiflokfinkachaaIDel
import Derived.WalkKit
import Derived.WalkSpells
import Derived.WalkLawsBesides
import Derived.Deep.QuietTactic
import Derived.Deep.OwnRows
import Derived.BigQuiet
import Derived.KernelRfl
import Derived.Carry
import Derived.Deep.RegionLaw
namespace Go.Proofs.Ytiflokfinkachaa
open Go.RowKit

theorem IntsAt.get {w : World} {A : Option Addr} {m c : Nat} {xs : List Int} (h : IntsAt w (.slice A m c) xs) (i : Nat) (hi : i < xs.length) : ∃ b off, A = some ⟨b, off, none⟩ ∧ w.cell? ⟨b, off + i, none⟩ = some (.int .i64 (nth xs i)) := by
  obtain ⟨A', c', e, _, hc⟩ := h
  cases e
  exact hc i hi
set_option maxRecDepth 20000 in
set_option maxHeartbeats 4000000 in
theorem Arr1_any (B b3 b4 b5 : Nat) : ∀ (n : Nat) (xs : List Int) (v vo vn : Value) (XS : List (List Int)) (N : List Int) (w : World), xs.length = n → n ≤ 3 → ArrSt B 26 2 b3 b4 w vo vn XS N →
    Solid (ArrS b3 b4 vo vn) w (fun w => IntsAt w v xs) → Solid (ArrS b3 b4 vo vn) w (fun w => w.cell? ⟨b5, 0, none⟩ = some (.func (.func 251) #[] #[.pointer (some ⟨b3, 0, none⟩), .pointer (some ⟨b4, 0, none⟩), .pointer (some ⟨b5, 0, none⟩)])) →
    B ≤ w.heap.size → N.length + n ≤ 100 → XS.length + arrB n ≤ 10000 →
    Calls Try.prog 251 #[v, .pointer (some ⟨b3, 0, none⟩), .pointer (some ⟨b4, 0, none⟩), .pointer (some ⟨b5, 0, none⟩)] w fun e w' => e = .returned (.tuple #[]) ∧ ∃ vo' vn', But (ArrS b3 b4 vo vn) w w' ∧ ArrSt B 26 2 b3 b4 w' vo' vn' (XS ++ (arrF n xs).map (N ++ ·)) N ∧ ∀ k, ArrS b3 b4 vo' vn' k → ArrS b3 b4 vo vn k ∨ w.heap.size ≤ k := by
  intro n
  induction n with
  | zero =>
    intro xs v vo vn XS N w hxl hn3 hst hv hf hB hNl hXl
    obtain ⟨A, c, rfl⟩ := hv.now.form
    rw [hxl]
    obtain ⟨AN, cN, rfl⟩ := hst.now.form
    obtain ⟨AO, cO, rfl⟩ := hst.out.form
    have hNat := (hst.now.own (by omega)).at
    obtain ⟨c3, f3⟩ := id hst.c3
    obtain ⟨c4, f4⟩ := id hst.c4
    have hlt := hid hst.lt
    obtain ⟨l1, hl1, hsp⟩ := hst.push
    have HSP := hid hsp
    have HE := hid (show XS ++ (arrF 0 xs).map (N ++ ·) = XS ++ [N] by simp [arrF])
    have hXl' : XS.length < 1099511627776 := by omega
    clear hsp hv hf hxl
    go_enter Try.func251, Try.ntmps251
    go_wp2_with fail
    go_region_law
      (first
        | (go_simp; go_at_call 87; refine (Clone64_any _ N _ (hNat.new (by repeat (first | with_reducible exact New.refl _ | with_reducible assumption | with_reducible refine New.alloc ?_ _ | with_reducible refine New.drewN ?_ _ | with_reducible refine New.drew ?_ | with_reducible refine New.trans ?_ (by with_reducible assumption)))) (by omega)).mono ?_; rintro e w1 ⟨r, he, hq1, hg1⟩; obtain ⟨Ar, cr, rfl⟩ := hg1.form; subst he; have hw1 : New w w1 := (by repeat (first | with_reducible exact New.refl _ | with_reducible assumption | with_reducible refine New.alloc ?_ _ | with_reducible refine New.drewN ?_ _ | with_reducible refine New.drew ?_ | with_reducible refine New.trans ?_ (by with_reducible assumption))); have y3 := hw1.cell c3; have y3a := (New.alloc hw1 (.cells #[.slice Ar N.length cr] 26)).cell c3; have hz1 := hw1.size; have hsol := hid ((hg1.own (by omega)).at.solid (S := ArrT B b3 b4 (.slice AO XS.length cO) (.slice AN N.length cN)) (fun k hk hs => by have h1 := (hg1.block k hk).1; simp only [sizes] at h1; rcases hs with hs | hs; omega; have := hlt.out k hs; omega)))
        | (refine step_appV1 rfl _ _ _ rfl (B := B) Try.underlying22 info_ints rfl (by decide) (.slice AO XS.length cO) XS.length l1 (.slice Ar N.length cr) rfl _ rfl (ownsRow_new hl1 (by repeat (first | with_reducible exact New.refl _ | with_reducible assumption | with_reducible refine New.alloc ?_ _ | with_reducible refine New.drewN ?_ _ | with_reducible refine New.drew ?_ | with_reducible refine New.trans ?_ (by with_reducible assumption)))) rfl (by go_simp) hXl' (by (try simp only [sizes]) <;> omega) ?_; intro g cap wd hod hgd hloc; obtain ⟨⟨u3, uf3⟩, hBf, hAf, hSf⟩ := HSP.out _ wd g cap _ (by repeat (first | with_reducible exact New.refl _ | with_reducible assumption | with_reducible refine New.alloc ?_ _ | with_reducible refine New.drewN ?_ _ | with_reducible refine New.drew ?_ | with_reducible refine New.trans ?_ (by with_reducible assumption))) (hsol.out.new (by repeat (first | with_reducible exact New.refl _ | with_reducible assumption | with_reducible refine New.alloc ?_ _ | with_reducible refine New.drewN ?_ _ | with_reducible refine New.drew ?_ | with_reducible refine New.trans ?_ (by with_reducible assumption)))) hod hgd hloc))
    all_goals
      clear hgd hod hloc
      go_wp2_with fail
      refine bodyPost_ret (results_none rfl _ _ _) rfl ?_
      exact ⟨rfl, _, _, hBf, by rw [HE.out]; exact hAf, hSf⟩
  | succ n ih =>
    intro xs v vo vn XS N w hxl hn3 hst hv hf hB hNl hXl
    obtain ⟨A, c, rfl⟩ := hv.now.form
    rw [hxl] at hv ⊢
    have IH := hid ih
    have HXL := hid hxl
    have hz9 : ((n : Int) + 1 == 0) = false := by
      simp only [beq_eq_false_iff_ne]; omega
    clear ih hxl
    go_enter Try.func251, Try.ntmps251
    go_wp2_with fail
    go_loopw [17] (fun i wr => ∃ (k : Nat) (vo' vn' : Value), i = .int .i64 k ∧ k ≤ n + 1 ∧ But (ArrS b3 b4 vo vn) w wr ∧ ArrSt B 26 2 b3 b4 wr vo' vn' (XS ++ (arrUp n xs k).map (N ++ ·)) N ∧ ∀ k, ArrS b3 b4 vo' vn' k → ArrS b3 b4 vo vn k ∨ w.heap.size ≤ k) (fun i _ => n + 1 - (intOf i).toNat)
    case atStart => exact ⟨0, _, _, rfl, Nat.zero_le _, But.refl, by simpa [arrUp] using hst, fun k hk => Or.inl hk⟩
    case round =>
      obtain ⟨k, vo', vn', rfl, hk, hb, hs, hS⟩ := hrel
      obtain ⟨wo, rfl⟩ : ∃ wo : World, wo = wr := ⟨_, rfl⟩
      have hvo := hv.step (S' := ArrS b3 b4 vo' vn') hb hS
      have hfo := hf.step (S' := ArrS b3 b4 vo' vn') hb hS
      have hbs := hb.size
      by_cases hlt : k < n + 1
      · have b1 : (k : Int) < ((n + 1 : Nat) : Int) := by omega
        obtain ⟨X, hX⟩ : ∃ z, z = nth xs k := ⟨_, rfl⟩
        have hxk : k < xs.length := by have := HXL.out; omega
        obtain ⟨ab, ao, rfl, hx1⟩ := hvo.now.get k hxk
        rw [← hX] at hx1
        have HX := hid hX
        obtain ⟨YS, hYS⟩ : ∃ z, z = XS ++ (arrUp n xs k).map (N ++ ·) := ⟨_, rfl⟩
        have hYl : YS.length = XS.length + (arrUp n xs k).length := by rw [hYS]; simp
        have hYb : YS.length + arrB n ≤ 10000 := by
          have h1 := arrUp_len n xs k
          have h2 : (k + 1) * arrB n ≤ (n + 1) * arrB n := Nat.mul_le_mul_right _ hlt
          rw [Nat.succ_mul] at h2
          have h3 : arrB (n + 1) = (n + 1) * arrB n := rfl
          omega
        rw [← hYS] at hs
        have HYS := hid hYS
        clear hYS hYl hX
        by_cases hsk : skipB xs k = true
        · have hk2 : 0 < k ∧ X = nth xs (k - 1) := by
            unfold skipB at hsk
            simp only [Bool.and_eq_true, decide_eq_true_eq] at hsk
            exact ⟨hsk.1, by rw [HX.out]; exact hsk.2⟩
          have HE := hid (arrUp_skip (n := n) hsk)
          obtain ⟨b0', hXp⟩ := hk2
          have b0 : (0 : Int) < (k : Int) := by omega
          have hw1 : IntKind.i64.wrap ((k : Int) - 1) = ((k - 1 : Nat) : Int) := by
            rw [IntWalk.i64_in ((k : Int) - 1) (by omega)]; omega
          obtain ⟨_, _, e2, hx2⟩ := hvo.now.get (k - 1) (by omega)
          cases e2
          rw [← hXp] at hx2
          clear hsk hXp
          go_wp2_with fail
          refine ⟨⟨k + 1, _, _, by go_num, by omega, hb, by rw [HE.out, ← HYS.out]; exact hs, hS⟩, ?_⟩
          simp [intOf]; omega
        · have hsk' : skipB xs k = false := by simpa using hsk
          have HE := hid (show XS ++ (arrUp n xs (k + 1)).map (N ++ ·) = YS ++ (arrF n (xs.eraseIdx k)).map ((N ++ [X]) ++ ·) by
            rw [arrUp_take hsk', List.map_append, ← List.append_assoc, ← HYS.out, List.map_map, ← HX.out]
            congr 1
            apply List.map_congr_left
            intro q _
            simp)
          have hcase : ¬ (0 : Int) < (k : Int) ∨ ((0 : Int) < (k : Int) ∧ X ≠ nth xs (k - 1)) := by
            unfold skipB at hsk'
            simp only [Bool.and_eq_false_iff, decide_eq_false_iff_not] at hsk'
            rcases hsk' with q | q
            · left; omega
            · by_cases hk0 : (0 : Int) < (k : Int)
              · right; exact ⟨hk0, by rw [HX.out]; exact q⟩
              · left; exact hk0
          obtain ⟨Xp, hXp⟩ : ∃ z, z = nth xs (k - 1) := ⟨_, rfl⟩
          obtain ⟨_, _, e2, hx2⟩ := hvo.now.get (k - 1) (by omega)
          cases e2
          rw [← hXp] at hx2 hcase
          clear hXp hsk hsk'
          obtain ⟨AN, cN, rfl⟩ := hs.now.form
          obtain ⟨c4, f4⟩ := id hs.c4
          have hN1 := hid hs.now
          have hwob : B ≤ wo.heap.size := by omega
          have hw1 : IntKind.i64.wrap ((k : Int) - 1) = ((k : Int) - 1) := IntWalk.i64_in _ (by omega)
          have hw2 : IntKind.i64.wrap ((k : Int) + 1) = ((k : Int) + 1) := IntWalk.i64_in _ (by omega)
          have hw3 : IntKind.i64.wrap (((N.length + 1 : Nat) : Int) - 1) = (N.length : Int) := by
            rw [IntWalk.i64_in (((N.length + 1 : Nat) : Int) - 1) (by omega)]; omega
          have hNl2 : N.length < 1099511627776 := by omega
          have HXK := hid hxk
          have hw4 : (N ++ [X]).length = N.length + 1 := by simp
          have HW4 := hid hw4
          clear hw4
          rcases hcase with b0 | ⟨b0, hne⟩
          all_goals first
            | (have hnb : (X == Xp) = false := by simpa using hne
               have j0 : (0 : Int) ≤ (k : Int) - 1 := by omega
               have j1 : (k : Int) - 1 < ((n + 1 : Nat) : Int) := by omega
               have hx2' : wo.cell? ⟨ab, ao + ((k : Int) - 1).toNat, none⟩ = some (.int .i64 Xp) := by rw [show ((k : Int) - 1).toNat = k - 1 by omega]; exact hx2
               clear hne)
            | skip
          all_goals go_wp2_with (at_builtin; refine wpList_appV (w1 := wo) rfl _ _ _ rfl (B := B) Try.underlying26 info_i64 rfl (by decide) rfl (.slice AN N.length cN) N.length _ rfl hN1.out rfl hNl2 hwob ?_; intro g1 cap1 wd hod hgd hloc; obtain ⟨⟨u4, uf4⟩, hBm, hAm, hSm⟩ := hs.more rfl (New.refl _) hod hgd (hloc.imp id Nat.le_of_lt))
          all_goals
            obtain ⟨w6, hw6⟩ : ∃ w6, w6 = wd.setCell ⟨b4, 0, none⟩ (.slice (some ⟨g1, 0, none⟩) (N.length + 1) cap1) := ⟨_, rfl⟩
            rw [← hw6] at hBm hAm ⊢
            clear hw6 u4 uf4 hod hgd hloc c4 f4
            have hv6 := hvo.step (S' := ArrS b3 b4 vo' (.slice (some ⟨g1, 0, none⟩) (N.length + 1) cap1)) hBm hSm
            have hf6 := hfo.step (S' := ArrS b3 b4 vo' (.slice (some ⟨g1, 0, none⟩) (N.length + 1) cap1)) hBm hSm
            have hs6 := hBm.size
            have x5 := hf6.now
            have HV := hid hv6
            have HF := hid hf6
            have HA := hid hAm
            have HLT := hid hAm.lt
            clear hv hf hvo hfo hv6 hf6
            go_region_law
              (first
                | (go_simp; go_at_call 87; refine (Clone64_any _ xs _ (HV.out.now.new (by repeat (first | with_reducible exact New.refl _ | with_reducible assumption | with_reducible refine New.alloc ?_ _ | with_reducible refine New.drewN ?_ _ | with_reducible refine New.drew ?_ | with_reducible refine New.trans ?_ (by with_reducible assumption)))) (by have := HXL.out; omega)).mono ?_; rintro e w7 ⟨r, he, hq7, hg7⟩; obtain ⟨gb, _, ⟨cr, hr⟩, hgb, _⟩ := ownsRow_cells hg7 0 (by simp; have := HXL.out; omega); subst hr; subst he; have hw7 : New w6 w7 := (by repeat (first | with_reducible exact New.refl _ | with_reducible assumption | with_reducible refine New.alloc ?_ _ | with_reducible refine New.drewN ?_ _ | with_reducible refine New.drew ?_ | with_reducible refine New.trans ?_ (by with_reducible assumption))); have y5 := (HF.out.new hw7).now; have hz7 := hw7.size)
                | (go_simp; go_at_call 252; (refine (Delete64_any xs k _ (hg7.new (by repeat (first | with_reducible exact New.refl _ | with_reducible assumption | with_reducible refine New.alloc ?_ _ | with_reducible refine New.drewN ?_ _ | with_reducible refine New.drew ?_ | with_reducible refine New.trans ?_ (by with_reducible assumption)))) HXK.out).mono ?_; rintro e w8 ⟨he, hg8, ho8⟩; subst he; have hw8 : New w6 w8 := New.grown hw7 hg8 (fun q hq => by cases hq; exact hgb); have z5 := (HF.out.new hw8).now; have hz8 := hw8.size; have hsol := hid ((ho8.own (by have := HXL.out; rw [List.length_eraseIdx, if_pos HXK.out]; omega)).at.solid (S := ArrS b3 b4 vo' (.slice (some ⟨g1, 0, none⟩) (N.length + 1) cap1)) (fun q hq hs => by have h1 := HLT.out q hs; have h2 : gb = q := Option.some.inj hq; have h3 : w6.heap.size ≤ gb := hgb; omega))))
                | (go_simp; refine (IH.out (xs.eraseIdx k) _ vo' _ YS (N ++ [X]) _ (by rw [List.length_eraseIdx, if_pos HXK.out]; have := HXL.out; omega) (by omega) (HA.out.new hw8) hsol.out (HF.out.new hw8) (by omega) (by rw [HW4.out]; omega) hYb).mono ?_; rintro e w9 ⟨he, vo9, vn9, hb9, hA9, hS9⟩; subst he))
            all_goals
              obtain ⟨g9, _, ⟨c9, hv9⟩, _⟩ := ownsRow_cells hA9.now 0 (by simp)
              subst hv9
              rw [HW4.out] at hA9 hS9
              obtain ⟨q4, qf4⟩ := id hA9.c4
              have hcap9 : (N.length : Int) ≤ (c9 : Int) := by
                have := ownsRow_cap hA9.now; omega
              obtain ⟨hBp, hAp⟩ := hA9.pop rfl
              go_wp2_with fail
              have hBut := (((hb.trans hBm hS).trans (But.of_new hw8 : But (ArrS b3 b4 vo vn) w6 w8) (fun q hq => Or.inl hq)).trans hb9 (fun q hq => (hSm q hq).elim (fun h => hS q h) (fun h => Or.inr (by omega)))).trans hBp (fun q hq => by
                    rcases hS9 q hq with h | h
                    · exact (hSm q h).elim (fun h => hS q h) (fun h => Or.inr (by omega))
                    · exact Or.inr (by omega))
              refine ⟨⟨k + 1, _, _, by go_num, by omega, hBut, by rw [HE.out]; exact hAp, fun q hq => ?_⟩, ?_⟩
              · rcases hS9 q hq with h | h
                · exact (hSm q h).elim (fun h => hS q h) (fun h => Or.inr (by omega))
                · exact Or.inr (by omega)
              · simp [intOf]; omega
      · have e : k = n + 1 := by omega
        subst e
        have b1 : ¬ ((n + 1 : Nat) : Int) < ((n + 1 : Nat) : Int) := by omega
        go_wp2_with fail
        go_end0
        exact ⟨rfl, hb, _, _, hs, hS⟩

end Go.Proofs.Ytiflokfinkachaa
