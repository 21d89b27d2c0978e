/- Parts of the proof that lean on no program: SArr, SChoices, SAt, SRef. -/
import Derived.Test.YtoeckejcmojeaaaGreatRows
import Derived.Test.YtoeckejcmojeaaaGreatCore
import Derived.Test.YtoeckejcmojeaaaGreatArrs
import Derived.Test.YtoeckejcmojeaaaGreatInfos
import Derived.Test.YtoeckejcmojeaaaGreatPlains
import Derived.Test.YtoeckejcmojeaaaGreatMaps
import Derived.Test.YtoeckejcmojeaaaGreatJoins
import Derived.Test.YtoeckejcmojeaaaGreatSOwn
import Derived.Test.YtoeckejcmojeaaaGreatSBase
import Derived.Test.YtoeckejcmojeaaaGreatSRdss
import Derived.WalkKit
import Derived.WalkSpells
import Derived.WalkLawsBesides
import Derived.Deep.QuietTactic
import Derived.Deep.OwnRows
import Derived.BigQuiet
import Derived.KernelRfl
import Derived.Carry
import Derived.Deep.RegionLaw
import Derived.Deep.RegionHeld3
namespace Go.Proofs.YtoeckejcmojeaaaGreat
open Go.RowKit

section
set_option maxHeartbeats 400000 in
theorem l00OwnH_any (v : Value) (xs : List Int) (w : World) (h : IntsAt w v xs) (hl : xs.length ≤ 1048576) :
    Calls Tryz.prog 95 #[v] w fun e w' => ∃ g c, e = .returned (.slice (some ⟨g, 0, none⟩) xs.length c) ∧ New w w' ∧ Grow w.heap.size 2 w' (.slice (some ⟨g, 0, none⟩) xs.length c) xs := by
  go_enter Tryz.func95, Tryz.ntmps95
  go_wp2_with (at_builtin; refine wpList_appAll rfl _ _ _ rfl Tryz.underlying34 info_i64 (.slice (some ⟨w.heap.size, 0, none⟩) 0 0) _ [] xs w.heap.size rfl (Grow.empty w.heap.size 2 w (Nat.le_refl _)) rfl rfl (h.new (by repeat (first | with_reducible exact New.refl _ | with_reducible assumption | with_reducible refine New.alloc ?_ _ | with_reducible refine New.drewN ?_ _ | with_reducible refine New.drew ?_ | with_reducible refine New.trans ?_ (by with_reducible assumption)))) (by simp; omega) (by (try simp only [sizes]) <;> omega) ?_; intro g cap w2 ho2 hg2 hloc)
  go_ret
  have hn : New w w2 := New.grown (by repeat (first | with_reducible exact New.refl _ | with_reducible assumption | with_reducible refine New.alloc ?_ _ | with_reducible refine New.drewN ?_ _ | with_reducible refine New.drew ?_ | with_reducible refine New.trans ?_ (by with_reducible assumption))) hg2 (fun k hk => by simp [Value.ownBlock] at hk; omega)
  simp only [List.length_nil, Nat.zero_add, List.nil_append] at ho2 ⊢
  exact ⟨_, _, rfl, hn, ho2⟩
theorem IntsAt.get' {w : World} {A : Option Addr} {m c : Nat} {xs : List Int} (h : IntsAt w (.slice A m c) xs) (i : Nat) (hi : i < xs.length) : ∃ b off, A = some ⟨b, off, none⟩ ∧ w.cell? ⟨b, off + i, none⟩ = some (.int .i64 (nth xs i)) := by
  obtain ⟨A', c', e, _, hc⟩ := h
  cases e
  exact hc i hi
theorem IntsAt.get'' {w : World} {b o m c : Nat} {xs : List Int} {x : Int} (h : IntsAt w (.slice (some ⟨b, o, none⟩) m c) xs) (i : Nat) (hi : i < xs.length) (hx : x = nth xs i) : w.cell? ⟨b, o + i, none⟩ = some (.int .i64 x) := by
  obtain ⟨b', o', e, h⟩ := h.get' i hi
  cases e
  rw [hx]; exact h
theorem IntsAt.take {w : World} {A : Option Addr} {m c k : Nat} {xs : List Int} (h : IntsAt w (.slice A m c) xs) (hk : k ≤ xs.length) : IntsAt w (.slice A k c) (xs.take k) := by
  obtain ⟨A', c', e, hl, hc⟩ := h
  cases e
  refine ⟨A, c, by simp; omega, by simp; omega, fun i hi => ?_⟩
  have hi' : i < k := by simp at hi; omega
  obtain ⟨b, off, rfl, hx⟩ := hc i (by omega)
  exact ⟨b, off, rfl, by rw [hx, nth_eq _ _ (show i < xs.length by omega), nth_eq _ _ hi]; simp⟩
theorem IntsAt.drop {w : World} {b o n c k : Nat} {xs : List Int} (h : IntsAt w (.slice (some ⟨b, o, none⟩) (n + 1) c) xs) (hl : xs.length = n + 1) (hk : k ≤ n) (hc : n + 1 ≤ c) :
    IntsAt w (.slice (if c = k + 1 then some ⟨b, o, none⟩ else some ⟨b, o + (k + 1), none⟩) (n - k) (c - (k + 1))) (xs.drop (k + 1)) := by
  have hl2 : (xs.drop (k + 1)).length = n - k := by rw [List.length_drop]; omega
  obtain ⟨A', c', e, hml, hx⟩ := h
  injection e with e1 e2 e3
  subst e1
  refine ⟨_, c - (k + 1), by rw [hl2], by omega, fun i hi => ?_⟩
  rw [hl2] at hi
  obtain ⟨b', o', e, hx1⟩ := hx (k + 1 + i) (by omega)
  cases e
  rw [if_neg (by omega)]
  exact ⟨b, o + (k + 1), rfl, by rw [show o + (k + 1) + i = o + (k + 1 + i) by omega, hx1, nth_eq _ _ (show k + 1 + i < xs.length by omega), nth_eq _ _ (show i < (xs.drop (k + 1)).length by omega)]; simp⟩
theorem ownsRow_cap' {w : World} {B m c n : Nat} {e : TypeId} {A : Option Addr} {xs : List Value} (h : w.ownsRow B e 1 (.slice A m c) n xs) : m ≤ c := by
  obtain ⟨_, ⟨h0, _⟩ | ⟨_, _, _, hv, _, _, hcp, _⟩⟩ := h
  · injection h0 with _ h1 h2; omega
  · injection hv with _ h1 h2; omega
theorem eraseIdx_cut (xs : List Int) (k : Nat) : xs.take k ++ xs.drop (k + 1) = xs.eraseIdx k := (List.eraseIdx_eq_take_drop_succ xs k).symm
set_option maxRecDepth 20000 in
set_option maxHeartbeats 4000000 in
theorem l05Arrange_any : ∀ (n : Nat) (xs : List Int) (v : Value) (w : World), xs.length = n → n ≤ 3 → IntsAt w v xs → CapAt v →
    Calls Tryz.prog 153 #[v] w fun e w' => ∃ r, e = .returned r ∧ New w w' ∧ Lies RowsAt w.heap.size w'.heap.size w' r (arrF n xs) := by
  intro n
  induction n with
  | zero =>
    intro xs v w hxl hn3 hv hcap
    obtain ⟨A, c, rfl⟩ := hv.form
    rw [hxl]
    clear hv hcap
    go_enter Tryz.func153, Tryz.ntmps153
    go_wp2_with fail
    go_ret
    refine ⟨_, rfl, (by repeat (first | with_reducible exact New.refl _ | with_reducible assumption | with_reducible refine New.alloc ?_ _ | with_reducible refine New.drewN ?_ _ | with_reducible refine New.drew ?_ | with_reducible refine New.trans ?_ (by with_reducible assumption))), OwnRows.solid (B := w.heap.size) (E := w.heap.size + 1 + 1) ⟨some ⟨w.heap.size + 1, 0, none⟩, 1, fun _ => .slice (some ⟨w.heap.size, 0, none⟩) 0 0, rfl, by simp [arrF], fun a ha => by cases ha; exact ⟨Nat.le_succ _, Nat.lt_succ_self _⟩, fun i hi => ?_, fun i j h1 h2 => by simp [arrF] at h2; omega⟩ (fun k hk => by simp only [size_alloc] at hk; exact hk)⟩
    have hi0 : i = 0 := by simp [arrF] at hi; omega
    subst hi0
    exact ⟨⟨w.heap.size + 1, 0, rfl, by go_simp, by simp [Value.ownBlock]⟩, OwnInts.none' _ (Nat.le_refl _) (by omega)⟩
  | succ n ih =>
    intro xs v w hxl hn3 hv hcap
    obtain ⟨A, c, rfl⟩ := hv.form
    have hcap' := hcap _ _ _ rfl
    have HV := hid hv
    have IH := hid ih
    have HXL := hid hxl
    rw [hxl] at hcap' hv ⊢
    have hz9 : ((n : Int) + 1 == 0) = false := by
      simp only [beq_eq_false_iff_ne]; omega
    clear ih hxl hcap
    go_enter Tryz.func153, Tryz.ntmps153
    go_wp2_with fail
    go_loopw [3, 4] (fun ov i wr => ∃ k : Nat, k ≤ n + 1 ∧ i = .int .i64 k ∧ New w wr ∧ GrowS IntsAt (fun q => q < w.heap.size ∨ ov.ownBlock = some q) w.heap.size 34 wr ov (arrUp n xs k)) (fun _ i _ => n + 1 - (intOf i).toNat)
    case atStart => exact ⟨0, Nat.zero_le _, rfl, (by repeat (first | with_reducible exact New.refl _ | with_reducible assumption | with_reducible refine New.alloc ?_ _ | with_reducible refine New.drewN ?_ _ | with_reducible refine New.drew ?_ | with_reducible refine New.trans ?_ (by with_reducible assumption))), GrowS.empty (Nat.le_refl _)⟩
    case round =>
      obtain ⟨k, hk, rfl, hnk, hGk⟩ := hrel
      obtain ⟨wo, rfl⟩ : ∃ wo : World, wo = wr := ⟨_, rfl⟩
      by_cases hlt : k < n + 1
      · have b1 : (k : Int) < ((n + 1 : Nat) : Int) := by omega
        have hxk : k < xs.length := by have := HXL.out; omega
        obtain ⟨X, hX⟩ : ∃ z, z = nth xs k := ⟨_, rfl⟩
        obtain ⟨ab, ao, rfl, hx1⟩ := IntsAt.get' hv k hxk
        rw [← hX] at hx1
        have HX := hid hX
        replace hx1 := hnk.cell hx1
        have HE0 := hid (IntsAt.get' HV.out)
        by_cases hsk : skipB xs k = true
        · have hk2 : 0 < k ∧ X = nth xs (k - 1) := by
            unfold skipB at hsk
            simp only [Bool.and_eq_true, decide_eq_true_eq] at hsk
            exact ⟨hsk.1, by rw [HX.out]; exact hsk.2⟩
          have HE := hid (arrUp_skip (n := n) hsk)
          obtain ⟨b0', hXp⟩ := hk2
          have b0 : (0 : Int) < (k : Int) := by omega
          have hw1 : IntKind.i64.wrap ((k : Int) - 1) = ((k : Int) - 1) := IntWalk.i64_in _ (by omega)
          have j0 : (0 : Int) ≤ (k : Int) - 1 := by omega
          have j1 : (k : Int) - 1 < ((n + 1 : Nat) : Int) := by omega
          obtain ⟨_, _, e2, hx2⟩ := HE0.out (k - 1) (by omega)
          cases e2
          rw [← hXp] at hx2
          replace hx2 := hnk.cell hx2
          have hdec : decide (0 < k) = true := decide_eq_true b0'
          clear hsk hXp hX
          go_wp2_with fail
          go_quiet (fail)
          all_goals go_wp2_with fail
          all_goals
            refine ⟨⟨k + 1, by omega, by go_num, (by repeat (first | with_reducible exact New.refl _ | with_reducible assumption | with_reducible refine New.alloc ?_ _ | with_reducible refine New.drewN ?_ _ | with_reducible refine New.drew ?_ | with_reducible refine New.trans ?_ (by with_reducible assumption))), by rw [HE.out]; exact hGk.new (by repeat (first | with_reducible exact New.refl _ | with_reducible assumption | with_reducible refine New.alloc ?_ _ | with_reducible refine New.drewN ?_ _ | with_reducible refine New.drew ?_ | with_reducible refine New.trans ?_ (by with_reducible assumption)))⟩, ?_⟩
            simp [intOf]; omega
        · have hsk' : skipB xs k = false := by simpa using hsk
          have HE := hid (show arrUp n xs (k + 1) = arrUp n xs k ++ (arrF n (xs.eraseIdx k)).map (X :: ·) by rw [arrUp_take hsk', ← HX.out])
          have hcase : ¬ (0 : Int) < (k : Int) ∨ ((0 : Int) < (k : Int) ∧ X ≠ nth xs (k - 1)) := by
            unfold skipB at hsk'
            simp only [Bool.and_eq_false_iff, decide_eq_false_iff_not] at hsk'
            rcases hsk' with q | q
            · left; omega
            · by_cases hk0 : (0 : Int) < (k : Int)
              · right; exact ⟨hk0, by rw [HX.out]; exact q⟩
              · left; exact hk0
          obtain ⟨Xp, hXp⟩ : ∃ z, z = nth xs (k - 1) := ⟨_, rfl⟩
          obtain ⟨_, _, e2, hx2⟩ := HE0.out (k - 1) (by omega)
          cases e2
          replace hx2 := hnk.cell hx2
          rw [← hXp] at hx2 hcase
          clear hXp hsk hsk' hX
          have hw1 : IntKind.i64.wrap ((k : Int) - 1) = ((k : Int) - 1) := IntWalk.i64_in _ (by omega)
          have hw2 : IntKind.i64.wrap ((k : Int) + 1) = ((k : Int) + 1) := IntWalk.i64_in _ (by omega)
          have HXK := hid hxk
          have c0 : (k : Int) ≤ (c : Int) := by omega
          have c1 : (k : Int) + 1 ≤ ((n + 1 : Nat) : Int) := by omega
          obtain ⟨YS, hYS⟩ : ∃ z, z = arrUp n xs k := ⟨_, rfl⟩
          rw [← hYS] at hGk HE
          have hYl : YS.length ≤ 1000 := by
            have h1 := arrUp_len n xs k
            have h2 : ∀ n, n ≤ 3 → arrB n ≤ 6 := by decide
            have h3 := h2 n (by omega)
            have h4 : k * arrB n ≤ 3 * 6 := Nat.mul_le_mul (by omega) h3
            rw [hYS]; omega
          clear hYS
          obtain ⟨AO, cO, rfl⟩ := hGk.form
          rcases hcase with b0 | ⟨b0, hne⟩
          all_goals first
            | (have hnb : (X == Xp) = false := by simpa using hne
               have j0 : (0 : Int) ≤ (k : Int) - 1 := by omega
               have j1 : (k : Int) - 1 < ((n + 1 : Nat) : Int) := by omega
               have hdec : decide (0 < k) = true := decide_eq_true (by omega)
               clear hne)
            | (have hdec : decide (0 < k) = false := decide_eq_false (by omega))
          all_goals go_wp2_with fail
          all_goals go_quiet (fail)
          all_goals go_wp2_with fail
          all_goals
            have hV1 := hid ((HV.out.take (k := k) (by omega)).new hnk)
            have hV2 := hid ((IntsAt.drop (k := k) (hv.new hnk) HXL.out (by omega) hcap'))
            obtain ⟨TK, hTK⟩ : ∃ z, z = xs.take k := ⟨_, rfl⟩
            obtain ⟨DR, hDR⟩ : ∃ z, z = xs.drop (k + 1) := ⟨_, rfl⟩
            have hTl : TK.length ≤ 1048576 := by rw [hTK, List.length_take]; omega
            have HTD := hid (show TK ++ DR = xs.eraseIdx k by rw [hTK, hDR, eraseIdx_cut])
            have HLT := hid (show TK.length + DR.length ≤ 1099511627776 by rw [hTK, hDR, List.length_take, List.length_drop]; have := HXL.out; omega)
            have c2 : k ≤ n := by omega
            have c3 : (0 : Int) ≤ (k : Int) + 1 := by omega
            rw [← hTK] at hV1
            rw [← hDR] at hV2
            clear hTK hDR
            go_region_law
              (first
                | (go_simp; go_at_call 95; refine (l00OwnH_any _ TK _ (hV1.out.new (by repeat (first | with_reducible exact New.refl _ | with_reducible assumption | with_reducible refine New.alloc ?_ _ | with_reducible refine New.drewN ?_ _ | with_reducible refine New.drew ?_ | with_reducible refine New.trans ?_ (by with_reducible assumption)))) hTl).mono ?_; rintro e w7 ⟨g7, c7, he, hq7, hg7⟩; subst he; have hw7 : New wo w7 := (by repeat (first | with_reducible exact New.refl _ | with_reducible assumption | with_reducible refine New.alloc ?_ _ | with_reducible refine New.drewN ?_ _ | with_reducible refine New.drew ?_ | with_reducible refine New.trans ?_ (by with_reducible assumption))); have hz7 := hw7.size)
                | (refine step_appAll rfl _ _ _ rfl Tryz.underlying34 info_i64 (.slice (some ⟨g7, 0, none⟩) TK.length c7) _ TK DR g7 rfl (hg7.new (by repeat (first | with_reducible exact New.refl _ | with_reducible assumption | with_reducible refine New.alloc ?_ _ | with_reducible refine New.drewN ?_ _ | with_reducible refine New.drew ?_ | with_reducible refine New.trans ?_ (by with_reducible assumption)))) rfl rfl (hV2.out.new (by repeat (first | with_reducible exact New.refl _ | with_reducible assumption | with_reducible refine New.alloc ?_ _ | with_reducible refine New.drewN ?_ _ | with_reducible refine New.drew ?_ | with_reducible refine New.trans ?_ (by with_reducible assumption)))) HLT.out (by (try simp only [sizes]) <;> omega) ?_; intro g8 cap8 w8 ho8 hg8 hloc8))
          all_goals
            have hn8 : New wo w8 := New.grown hw7 hg8 (fun q hq => (hg7.block q hq).1)
            have hnw8 := hnk.trans hn8
            have ha8 := (ho8.own (by rw [List.length_append]; exact HLT.out)).at
            have hc8 : CapAt (.slice (some ⟨g8, 0, none⟩) (TK.length + DR.length) cap8) := fun A m c e => by injection e with e1 e2 e3; subst e2; subst e3; exact ownsRow_cap' ho8
            rw [HTD.out] at ha8
            have C := IH.out (xs.eraseIdx k) _ w8 (by rw [List.length_eraseIdx, if_pos HXK.out]; have := HXL.out; omega) (by omega) ha8 hc8
            obtain ⟨MS, hMS⟩ : ∃ z, z = arrF n (xs.eraseIdx k) := ⟨_, rfl⟩
            have hML : MS.length ≤ 1000 := by
              have h1 := arr_len n (xs.eraseIdx k)
              have h2 : ∀ n, n ≤ 3 → arrB n ≤ 6 := by decide
              have := h2 n (by omega)
              rw [hMS]; omega
            have HMR := hid (show ∀ j, j < MS.length → (nth MS j).length = n by
              intro j hj
              rw [hMS] at hj ⊢
              exact (arr_row n _ (by rw [List.length_eraseIdx, if_pos HXK.out]; have := HXL.out; omega) _ (nth_mem _ _ hj)).1)
            rw [← hMS] at C HE
            clear hMS hg8 hloc8 ho8 hg7 ha8 hc8 hw7
            go_wp2_with (go_at_call 153; refine C.mono ?_; rintro e w9 ⟨r, he, hn9, hL9⟩; obtain ⟨AM, cM, rfl⟩ := hL9.now.form; subst he)
          all_goals
            have hz8 := hn8.size
            have hz9' := hn9.size
            have hzk := hnk.size
            have hblk := hid hGk.block
            have hG9 : GrowS IntsAt (fun q => q < w.heap.size ∨ (Value.slice AO YS.length cO).ownBlock = some q) w.heap.size 34 w9 (.slice AO YS.length cO) (YS ++ (MS.take 0).map (X :: ·)) := by simpa using (hGk.new (hn8.trans hn9))
            go_loopw [3, 7] (fun ov x wr => ∃ j : Nat, j ≤ MS.length ∧ x = .int .i64 j ∧ But (fun q => (w.heap.size ≤ q ∧ q < w8.heap.size) ∨ w9.heap.size ≤ q) w9 wr ∧ (∀ q, ov.ownBlock = some q → (w.heap.size ≤ q ∧ q < w8.heap.size) ∨ w9.heap.size ≤ q) ∧
                GrowS IntsAt (fun q => q < w.heap.size ∨ ov.ownBlock = some q) w.heap.size 34 wr ov (YS ++ (MS.take j).map (X :: ·))) (fun _ x _ => MS.length - (intOf x).toNat)
            case atStart => exact ⟨0, Nat.zero_le _, rfl, But.refl, fun q hq => Or.inl ⟨(hblk.out q hq).1, by have := (hblk.out q hq).2; omega⟩, hG9⟩
            case round =>
              obtain ⟨j, hj, rfl, hbj, hfj, hGj⟩ := hrel
              clear hG9
              obtain ⟨wj, rfl⟩ : ∃ wj : World, wj = wr := ⟨_, rfl⟩
              have hzj := hbj.size
              have hnj : New w wj := But.new (hnw8.trans hn9) hbj (fun q hq => hq.elim (fun h => h.1) (fun h => by omega))
              have hMj := hL9 wj (hbj.mono (fun q hq => hq.elim (fun h => Or.inl h.2) Or.inr))
              have hxj := hnj.cell (show w.cell? _ = _ from IntsAt.get'' hv k hxk HX.out)
              by_cases hltj : j < MS.length
              · have b3 : (j : Int) < (MS.length : Int) := by omega
                obtain ⟨AM', cM', eM, _, hrows⟩ := hMj
                cases eM
                obtain ⟨mb, mo, yv, rfl, hym, hyv⟩ := hrows j hltj
                obtain ⟨Y, hY⟩ : ∃ z, z = nth MS j := ⟨_, rfl⟩
                rw [← hY] at hyv
                obtain ⟨Ay, cy, rfl⟩ := hyv.form
                obtain ⟨ZS, hZS⟩ : ∃ z, z = YS ++ (MS.take j).map (X :: ·) := ⟨_, rfl⟩
                have hZl : ZS.length < 1099511627776 := by rw [hZS]; simp; omega
                have HE2 := hid (show YS ++ (MS.take (j + 1)).map (X :: ·) = ZS ++ [X :: Y] by rw [take_succ_nth _ j hltj, List.map_append, ← List.append_assoc, ← hZS, hY]; rfl)
                rw [← hZS] at hGj
                have hYl : Y.length ≤ 1000000 := by rw [hY, HMR.out j hltj]; omega
                clear hZS hY hrows
                obtain ⟨DO, dO, rfl⟩ := hGj.form
                obtain ⟨l1, hl1, hsp⟩ := hGj.appT
                have HSP := hid hsp
                have hblj := hid hGj.block
                clear hsp
                go_wp2_with fail
                have hyma := (New.alloc (New.refl wj) (.cells #[.int .i64 X] 2)).cell hym
                go_region_law
                  (first
                    | (refine step_appAll rfl _ _ _ rfl Tryz.underlying34 info_i64 (B := wj.heap.size) (.slice (some ⟨wj.heap.size, 0, none⟩) 1 1) (.slice Ay Y.length cy) [X] Y wj.heap.size rfl (show Grow _ _ _ _ [X] from ownsRow_new (ownsRow_one (w := wj) (x := .int .i64 X) (Nat.le_refl _)) (by repeat (first | with_reducible exact New.refl _ | with_reducible assumption | with_reducible refine New.alloc ?_ _ | with_reducible refine New.drewN ?_ _ | with_reducible refine New.drew ?_ | with_reducible refine New.trans ?_ (by with_reducible assumption)))) rfl rfl (hyv.new (by repeat (first | with_reducible exact New.refl _ | with_reducible assumption | with_reducible refine New.alloc ?_ _ | with_reducible refine New.drewN ?_ _ | with_reducible refine New.drew ?_ | with_reducible refine New.trans ?_ (by with_reducible assumption)))) (by simp; omega) (by (try simp only [sizes]) <;> omega) ?_; intro g10 cap10 w10 ho10 hg10 hloc10; have hn10 : New wj w10 := New.grown (a := wj) (by repeat (first | with_reducible exact New.refl _ | with_reducible assumption | with_reducible refine New.alloc ?_ _ | with_reducible refine New.drewN ?_ _ | with_reducible refine New.drew ?_ | with_reducible refine New.trans ?_ (by with_reducible assumption))) hg10 (fun q hq => by have h' : wj.heap.size = q := Option.some.inj hq; omega); have hz10 := hn10.size)
                    | (refine step_appV1 rfl _ _ _ rfl (B := w.heap.size) Tryz.underlying24 info_ints rfl (by decide) (.slice DO ZS.length dO) ZS.length l1 (.slice (some ⟨g10, 0, none⟩) (1 + Y.length) cap10) rfl _ rfl (ownsRow_new hl1 (by repeat (first | with_reducible exact New.refl _ | with_reducible assumption | with_reducible refine New.alloc ?_ _ | with_reducible refine New.drewN ?_ _ | with_reducible refine New.drew ?_ | with_reducible refine New.trans ?_ (by with_reducible assumption)))) rfl (by go_simp) hZl (by (try simp only [sizes]) <;> omega) ?_; intro g11 cap11 w11 ho11 hg11 hloc11))
                all_goals
                  have hb11 : But (fun q => (Value.slice DO ZS.length dO).ownBlock = some q) wj w11 := But.trans (But.of_new (by repeat (first | with_reducible exact New.refl _ | with_reducible assumption | with_reducible refine New.alloc ?_ _ | with_reducible refine New.drewN ?_ _ | with_reducible refine New.drew ?_ | with_reducible refine New.trans ?_ (by with_reducible assumption)))) (But.of_grown hg11 (fun q hq => hq)) (fun q hq => Or.inl hq)
                  have hsol : Solid (fun q => q < w.heap.size ∨ (Value.slice DO ZS.length dO).ownBlock = some q) w10 (fun w => IntsAt w (.slice (some ⟨g10, 0, none⟩) (1 + Y.length) cap10) (X :: Y)) := by
                    have hown : OwnInts wj.heap.size w10.heap.size w10 (.slice (some ⟨g10, 0, none⟩) (1 + Y.length) cap10) (X :: Y) := Grow.own (show Grow wj.heap.size 2 w10 (.slice (some ⟨g10, 0, none⟩) (1 + Y.length) cap10) (X :: Y) by simpa using ho10) (by simp; omega)
                    exact hown.at.solid (fun q hq hs => by
                      have h1 := (hown.block q hq).1
                      rcases hs with hs | hs
                      · omega
                      · have := (hblj.out q hs).2; omega)
                  have hG11 := HSP.out (fun _ => False) (fun q => q < w.heap.size ∨ (Value.slice (some ⟨g11, 0, none⟩) (ZS.length + 1) cap11).ownBlock = some q) _ w11 g11 cap11 _ (X :: Y) (But.of_new (by repeat (first | with_reducible exact New.refl _ | with_reducible assumption | with_reducible refine New.alloc ?_ _ | with_reducible refine New.drewN ?_ _ | with_reducible refine New.drew ?_ | with_reducible refine New.trans ?_ (by with_reducible assumption)))) (fun q hq => hq.elim) (fun q hq => Or.inr hq) (Solid.new hsol (by repeat (first | with_reducible exact New.refl _ | with_reducible assumption | with_reducible refine New.alloc ?_ _ | with_reducible refine New.drewN ?_ _ | with_reducible refine New.drew ?_ | with_reducible refine New.trans ?_ (by with_reducible assumption)))) ho11 hg11 (fun q hq => hq.elim (fun h => Or.inl (Or.inl h)) (fun h => by
                    have h' : g11 = q := Option.some.inj h
                    subst h'
                    exact hloc11.imp Or.inr id))
                  have hfr : ∀ q, (Value.slice (some ⟨g11, 0, none⟩) (ZS.length + 1) cap11).ownBlock = some q → (w.heap.size ≤ q ∧ q < w8.heap.size) ∨ w9.heap.size ≤ q := fun q hq => by
                    have h' : g11 = q := Option.some.inj hq
                    subst h'
                    rcases hloc11 with h | h
                    · exact hfj g11 h
                    · right; (try simp only [sizes] at h); omega
                  have hb9 := hbj.trans hb11 (fun q hq => Or.inl (hfj q hq))
                  clear hg11 hloc11 ho11 hg10 hloc10 ho10
                all_goals go_wp2_with fail
                all_goals
                  refine ⟨⟨j + 1, by omega, by go_num, hb9, hfr, by rw [HE2.out]; exact hG11⟩, ?_⟩
                  simp [intOf]; omega
              · have e : j = MS.length := by omega
                subst e
                have b3 : ¬ (MS.length : Int) < (MS.length : Int) := by omega
                rw [List.take_length, ← HE.out] at hGj
                obtain ⟨AM', cM', eM, _, _⟩ := hMj
                cases eM
                go_wp2_with fail
                refine ⟨⟨k + 1, by first | omega | (go_num; done), by first | (go_num; done) | omega, by first | exact ⟨hnj, hGj⟩ | exact hGj⟩, ?_⟩
                simp [intOf]; omega
      · have e : k = n + 1 := by omega
        subst e
        have b1 : ¬ ((n + 1 : Nat) : Int) < ((n + 1 : Nat) : Int) := by omega
        have hbd : (arrUp n xs (n + 1)).length ≤ 9223372036854775807 := by
          have h1 := arrUp_len n xs (n + 1)
          have h2 : ∀ n, n ≤ 3 → arrB n ≤ 6 := by decide
          have h3 := h2 n (by omega)
          have h4 : (n + 1) * arrB n ≤ 3 * 6 := Nat.mul_le_mul (by omega) h3
          omega
        have hL := hGk.lies hbd (fun q hq => Or.inl hq)
        go_wp2_with fail
        go_ret
        exact ⟨_, rfl, hnk, hL⟩
end
section
def CapInts (w : World) (v : Value) (xs : List Int) : Prop := IntsAt w v xs ∧ CapAt v
theorem CapInts.new {w w' : World} {v : Value} {xs : List Int} (h : CapInts w v xs) (hn : New w w') : CapInts w' v xs := ⟨h.1.new hn, h.2⟩
/-- Rows, each of which is not longer than its capacity. -/
def CapRows (w : World) (v : Value) (xss : List (List Int)) : Prop := ListAt CapInts w v xss
theorem ListAt.new {α : Type} [Inhabited α] {R : World → Value → α → Prop} (hR : ∀ {w w' : World} {v : Value} {x : α}, R w v x → New w w' → R w' v x) {w w' : World} {v : Value} {xs : List α} (h : ListAt R w v xs) (hn : New w w') : ListAt R w' v xs :=
  let ⟨A, c, e, hl, hx⟩ := h
  ⟨A, c, e, hl, fun i hi => let ⟨b, off, q, h1, h2, h3⟩ := hx i hi; ⟨b, off, q, h1, hn.cell h2, hR h3 hn⟩⟩
theorem CapRows.new {w w' : World} {v : Value} {xss : List (List Int)} (h : CapRows w v xss) (hn : New w w') : CapRows w' v xss := ListAt.new (fun h hn => h.new hn) h hn
theorem CapRows.rows {w : World} {v : Value} {xss : List (List Int)} (h : CapRows w v xss) : RowsAt w v xss :=
  let ⟨A, c, e, hl, hx⟩ := h
  ⟨A, c, e, hl, fun i hi => let ⟨b, off, q, h1, h2, h3⟩ := hx i hi; ⟨b, off, q, h1, h2, h3.1⟩⟩
theorem info_rowsS : (Tryz.prog.info? 24).map (fun i => (i.zero, i.size, i.bytes)) = some (some (.slice none 0 0), 1, 24) := by kernel_rfl
set_option maxRecDepth 20000 in
set_option maxHeartbeats 2000000 in
theorem l05Choices_any (pb : Nat) (rv : Value) (nx : List (List Int)) (w : World) (hp : w.cell? ⟨pb, 1, none⟩ = some rv) (hr : CapRows w rv nx) (hl : nx.length ≤ 7) (hll : ∀ i, i < nx.length → (nth nx i).length ≤ 3) :
    Calls Tryz.prog 119 #[.pointer (some ⟨pb, 0, none⟩)] w fun e w' => ∃ rc, e = .returned rc ∧ New w w' ∧ ListAt RowsAt w' rc (nx.map arrOf) := by
  obtain ⟨A, c, rfl, hl', hc⟩ := hr
  have HC := hid hc
  have HLL := hid hll
  clear hc hll
  have hG : GrowS RowsAt (fun q => q < w.heap.size ∨ (Value.slice (some ⟨w.heap.size, 0, none⟩) 0 0).ownBlock = some q) w.heap.size 24 (w.alloc (.cells #[] 24)) (.slice (some ⟨w.heap.size, 0, none⟩) 0 0) ((nx.take 0).map arrOf) := GrowS.empty (Nat.le_refl _)
  have hn0 : New w (w.alloc (.cells #[] 24)) := (by repeat (first | with_reducible exact New.refl _ | with_reducible assumption | with_reducible refine New.alloc ?_ _ | with_reducible refine New.drewN ?_ _ | with_reducible refine New.drew ?_ | with_reducible refine New.trans ?_ (by with_reducible assumption)))
  go_enter Tryz.func119, Tryz.ntmps119
  go_wp2_with fail
  generalize (w.alloc (.cells #[] 24)) = w0 at hG hn0 ⊢
  go_loopw [3, 4] (fun ov i wr => ∃ k : Nat, k ≤ nx.length ∧ i = .int .i64 k ∧ New w wr ∧ GrowS RowsAt (fun q => q < w.heap.size ∨ ov.ownBlock = some q) w.heap.size 24 wr ov ((nx.take k).map arrOf)) (fun _ i _ => nx.length - (intOf i).toNat)
  case atStart => exact ⟨0, Nat.zero_le _, rfl, hn0, hG⟩
  case round =>
    obtain ⟨k, hk, rfl, hn, hGw⟩ := hrel
    clear hn0 hG
    obtain ⟨wo, rfl⟩ : ∃ wo : World, wo = wr := ⟨_, rfl⟩
    replace hp := hn.cell hp
    obtain ⟨YS, hYS⟩ : ∃ z, z = (nx.take k).map arrOf := ⟨_, rfl⟩
    by_cases hlt : k < nx.length
    · have b1 : (k : Int) < (nx.length : Int) := by omega
      obtain ⟨xb, xo, xv, rfl, hx, hxv, hxc⟩ := HC.out k hlt
      have hlk := HLL.out k hlt
      obtain ⟨X, hX⟩ : ∃ z, z = nth nx k := ⟨_, rfl⟩
      rw [← hX] at hxv hlk
      have hYl' : YS.length < 1099511627776 := by rw [hYS]; simp; omega
      have HE := hid (show (nx.take (k + 1)).map arrOf = YS ++ [arrOf X] by rw [take_succ_nth _ k hlt, List.map_append, ← hYS, hX]; rfl)
      rw [← hYS] at hGw
      clear hYS hX
      obtain ⟨AO, cO, rfl⟩ := hGw.form
      replace hx := hn.cell hx
      obtain ⟨l1, hl1, hsp⟩ := hGw.appT
      have HSP := hid hsp
      have hblk := hid hGw.block
      have hzo := hn.size
      have C := l05Arrange_any X.length X xv wo rfl hlk (hxv.new hn) hxc
      obtain ⟨TT, hTT⟩ : ∃ z, z = arrOf X := ⟨_, rfl⟩
      have HTT := hid hTT
      rw [show arrF X.length X = TT from hTT.symm] at C
      rw [← hTT] at HE
      clear hsp hTT hlk hxc
      go_wp2_with (first
        | (go_at_call 153; refine C.mono ?_; rintro e w1 ⟨r, he, hn1, hL1⟩; obtain ⟨Ax, cx, rfl⟩ := hL1.now.form; subst he; have hz1 := hn1.size)
        | (at_builtin; refine wpList_appV (w1 := w1) rfl _ _ _ rfl (B := w.heap.size) Tryz.underlying93 info_rowsS rfl (by decide) rfl (.slice AO YS.length cO) YS.length l1 rfl (ownsRow_new hl1 hn1) rfl hYl' (by omega) ?_; intro g cap wd hod hgd hloc))
      have hS : ∀ q, (q < w.heap.size ∨ (Value.slice AO YS.length cO).ownBlock = some q) → q < wo.heap.size := fun q hq => hq.elim (fun h => by omega) (fun h => (hblk.out q h).2)
      have hG2 := HSP.out (fun _ => False) (fun q => q < w.heap.size ∨ (Value.slice (some ⟨g, 0, none⟩) (YS.length + 1) cap).ownBlock = some q) w1 wd g cap _ TT (But.of_new hn1) (fun q hq => hq.elim) (fun q hq => Or.inr hq)
        (Solid.mono hL1 (fun q hq => Or.inl (hS q hq))) hod hgd (fun q hq => hq.elim (fun h => Or.inl (Or.inl h)) (fun h => by
          have h' : g = q := Option.some.inj h
          subst h'
          exact hloc.imp Or.inr Nat.le_of_lt))
      have hn2 : New w wd := New.grown (hn.trans hn1) hgd (fun q hq => (hblk.out q hq).1)
      refine ⟨⟨k + 1, by omega, by go_num, hn2, by rw [HE.out]; exact hG2⟩, ?_⟩
      simp [intOf]; omega
    · have e : k = nx.length := by omega
      subst e
      have b1 : ¬ (nx.length : Int) < (nx.length : Int) := by omega
      obtain ⟨AO, cO, rfl⟩ := hGw.form
      have hL := hGw.lies (by simp; omega) (fun q hq => Or.inl hq)
      rw [List.take_length] at hL
      clear hYS
      have hL' := hL.now
      rw [List.length_map] at hL'
      go_wp2_with fail
      go_ret
      exact ⟨_, rfl, hn, hL'⟩
end
section
theorem pick_rows {w : World} {AC : Option Addr} {m cC : Nat} {cs : List (List (List Int))} (h : ListAt RowsAt w (.slice AC m cC) cs) (N : Nat) (hpos : ∀ p, p < cs.length → 0 < (nth cs p).length) :
    ∃ r : Nat → Value, ∀ p, p < cs.length → ∃ cb co ct tb to, AC = some ⟨cb, co, none⟩ ∧ w.cell? ⟨cb, co + p, none⟩ = some (.slice (some ⟨tb, to, none⟩) (nth cs p).length ct) ∧ w.cell? ⟨tb, to + numAt cs N (cs.length - 1 - p) % (nth cs p).length, none⟩ = some (r p) ∧ IntsAt w (r p) (pickAt cs N p) := by
  obtain ⟨A, c, e, hl, hx⟩ := h
  injection e with e1 e2 e3
  subst e1
  have hex : ∀ p, ∃ rv : Value, p < cs.length → ∃ cb co ct tb to, AC = some ⟨cb, co, none⟩ ∧ w.cell? ⟨cb, co + p, none⟩ = some (.slice (some ⟨tb, to, none⟩) (nth cs p).length ct) ∧ w.cell? ⟨tb, to + numAt cs N (cs.length - 1 - p) % (nth cs p).length, none⟩ = some rv ∧ IntsAt w rv (pickAt cs N p) := by
    intro p
    by_cases hp : p < cs.length
    · obtain ⟨cb, co, q, h1, h2, A2, ct, rfl, h3, h4⟩ := hx p hp
      obtain ⟨tb, to, rv, h5, h6, h7⟩ := h4 _ (Nat.mod_lt (numAt cs N (cs.length - 1 - p)) (hpos p hp))
      subst h5
      exact ⟨rv, fun _ => ⟨cb, co, ct, tb, to, h1, h2, h6, h7⟩⟩
    · exact ⟨default, fun h => absurd h hp⟩
  exact Classical.axiomOfChoice hex
set_option maxRecDepth 20000 in
set_option maxHeartbeats 4000000 in
theorem l05At_any (cv : Value) (cs : List (List (List Int))) (L N : Nat) (w : World) (hc : ListAt RowsAt w cv cs) (h1 : 1 ≤ cs.length) (h7 : cs.length ≤ 7) (hL : 1 ≤ L ∧ L ≤ 3)
    (hpos : ∀ p, p < cs.length → 0 < (nth cs p).length) (hrow : ∀ p, p < cs.length → ∀ i, i < (nth cs p).length → (nth (nth cs p) i).length = L) (hlen : ∀ p, p < cs.length → (nth cs p).length ≤ 1000) (hN : N ≤ 4611686018427387904) :
    Calls Tryz.prog 68 #[cv, .int .i64 N] w fun e w' => ∃ r, e = .returned r ∧ New w w' ∧ OwnAut w.heap.size w'.heap.size w' r ⟨cs.length, atRows cs N L⟩ := by
  obtain ⟨AC, cC, rfl, _, _⟩ := id hc
  obtain ⟨r, hr⟩ := pick_rows hc N hpos
  have hrl : ∀ p, p < cs.length → (pickAt cs N p).length = L := fun p hp => hrow p hp _ (Nat.mod_lt _ (hpos p hp))
  have HR := hid hr
  have HRL := hid hrl
  have HPOS := hid hpos
  have HLEN := hid hlen
  have hmk := fun w => run_make_row' (P := Tryz.prog) 24 34 (.slice none 0 0) 24 Tryz.underlying24 info_ints rfl .i64 .i64 cs.length (by omega) (by omega) w
  have hkw : IntKind.i64.wrap ((cs.length : Int) - 1) = (cs.length : Int) - 1 := IntWalk.i64_in _ (by omega)
  clear hr hrl hpos hrow hlen
  obtain ⟨W0, hW0⟩ : ∃ W0, W0 = (w.alloc (.cells #[.int .i64 0, .slice none 0 0] 31)).alloc (.cells (madeCells #[.slice none 0 0] cs.length) 34) := ⟨_, rfl⟩
  have hn0 : New w W0 := by rw [hW0]; exact (by repeat (first | with_reducible exact New.refl _ | with_reducible assumption | with_reducible refine New.alloc ?_ _ | with_reducible refine New.drewN ?_ _ | with_reducible refine New.drew ?_ | with_reducible refine New.trans ?_ (by with_reducible assumption)))
  have hz0 : W0.heap.size = w.heap.size + 2 := by rw [hW0]; simp only [size_alloc]
  have hR0 : Box2 W0 w.heap.size (.int .i64 0) (.slice none 0 0) := by rw [hW0]; exact ⟨by go_simp, by go_simp, by go_simp, by go_simp⟩
  have hrow0 : W0.rowIs (w.heap.size + 1) 34 cs.length (fun p => if cs.length ≤ p + 0 then r p else .slice none 0 0) := by
    rw [hW0]
    have := (World.rowIs_made (w.alloc (.cells #[.int .i64 0, .slice none 0 0] 31)) (.slice none 0 0) cs.length 34)
    rw [size_alloc] at this
    exact this.congr (fun i hi => by rw [if_neg (by omega)])
  go_enter Tryz.func68, Tryz.ntmps68
  go_wp2_with fail
  rw [← hW0]
  clear hW0
  go_loopw [1, 7] (fun num s wr => ∃ j : Nat, j ≤ cs.length ∧ s = .int .i64 ((cs.length : Int) - 1 - j) ∧ num = .int .i64 (numAt cs N j) ∧ But (fun q => q = w.heap.size + 1) W0 wr ∧ wr.rowIs (w.heap.size + 1) 34 cs.length (fun p => if cs.length ≤ p + j then r p else .slice none 0 0)) (fun _ s _ => (intOf s + 1).toNat)
  case atStart => exact ⟨0, Nat.zero_le _, by simp, rfl, But.refl, hrow0⟩
  case round =>
    obtain ⟨j, hj, rfl, rfl, hb, hrw⟩ := hrel
    clear hrow0
    obtain ⟨wo, rfl⟩ : ∃ wo : World, wo = wr := ⟨_, rfl⟩
    have hno : New w wo := But.new hn0 hb (fun q hq => by omega)
    have hzo := hb.size
    have hMN : numAt cs N j ≤ N := by
      clear hj hrw
      induction j with
      | zero => exact Nat.le_refl _
      | succ j ih => exact Nat.le_trans (Nat.div_le_self _ _) ih
    obtain ⟨M, hM⟩ : ∃ M, M = numAt cs N j := ⟨_, rfl⟩
    rw [← hM] at hMN ⊢
    by_cases hlt : j < cs.length
    · obtain ⟨p, hp⟩ : ∃ p, p = cs.length - 1 - j := ⟨_, rfl⟩
      have hs : (cs.length : Int) - 1 - j = (p : Int) := by omega
      have hplt : p < cs.length := by omega
      rw [hs]
      have b2 : (p : Int) < (cs.length : Int) := by omega
      obtain ⟨cb, co, ct, tb, to, rfl, hx, hxr, hxi⟩ := HR.out p hplt
      rw [show cs.length - 1 - p = j by omega, ← hM] at hxr
      obtain ⟨T, hT⟩ : ∃ T, T = nth cs p := ⟨_, rfl⟩
      have hTpos := HPOS.out p hplt
      have hTl := HLEN.out p hplt
      rw [← hT] at hx hxr hTpos hTl
      have HM := hid hM
      have HT := hid hT
      have HP := hid hp
      have hmod : M % T.length < T.length := Nat.mod_lt _ hTpos
      have hrem : Int.tmod (M : Int) (T.length : Int) = ((M % T.length : Nat) : Int) := by rw [Int.tmod_eq_emod_of_nonneg (by omega)]; rfl
      have hquo : Int.tdiv (M : Int) (T.length : Int) = ((M / T.length : Nat) : Int) := by rw [Int.tdiv_eq_ediv_of_nonneg (by omega)]; rfl
      have hmodI : ((M % T.length : Nat) : Int) < (T.length : Int) := by omega
      have hm0 : (0 : Int) ≤ (M : Int) % (T.length : Int) := Int.emod_nonneg _ (by omega)
      have hm1 : (M : Int) % (T.length : Int) < (T.length : Int) := Int.emod_lt_of_pos _ (by omega)
      have hT0 : ¬ T = [] := by rintro rfl; simp at hTpos
      have hmn : ((M : Int) % (T.length : Int)).toNat = M % T.length := Int.toNat_natCast (M % T.length)
      rw [← hmn] at hxr; clear hmn
      have hcb : ¬ w.heap.size + 1 = cb := by have := World.block_lt_of_cell? w _ hx; simp only at this; omega
      have htb : ¬ w.heap.size + 1 = tb := by have := World.block_lt_of_cell? w _ hxr; simp only at this; omega
      replace hx := hno.cell hx
      replace hxr := hno.cell hxr
      have hcell := hrw.cell (i := p) hplt
      have hfr := hrw.frozen p
      have HRW := hid hrw
      have HQUO := hid hquo
      have HXI := hid hxi
      obtain ⟨Ax, cx, hrp⟩ := hxi.form
      rw [HRL.out p hplt] at hrp
      rw [hrp] at hxr
      have HRP := hid hrp
      clear hM hT hp hs hrw hxi hrp
      go_wp2_with fail
      go_region_held3 (fun w' => w'.cell? ⟨cb, co + p, none⟩ = some (.slice (some ⟨tb, to, none⟩) T.length ct) ∧ w'.cell? ⟨tb, to + ((M : Int) % (T.length : Int)).toNat, none⟩ = some (.slice Ax L cx))
        (first | exact ⟨hx, hxr⟩ | go_keep)
        (fail)
      have HN1 := hid (show numAt cs N (j + 1) = M / T.length by show numAt cs N j / (nth cs (cs.length - 1 - j)).length = _; rw [← HM.out, ← HP.out, ← HT.out])
      have HW := hid (show Go.RowKit.wrap64 ((M : Int) / (T.length : Int)) = ((M / T.length : Nat) : Int) by
        obtain ⟨Q, hQ⟩ : ∃ Q, Q = M / T.length := ⟨_, rfl⟩
        have hQM : Q ≤ M := by rw [hQ]; exact Nat.div_le_self _ _
        have e1 : (M : Int) / (T.length : Int) = (Q : Int) := by rw [hQ]; first | rfl | simp
        rw [e1, ← hQ]
        exact IntWalk.wrap64_in _ ⟨by omega, by omega⟩)
      have hq2 : IntKind.i64.wrap ((p : Int) - 1) = (p : Int) - 1 := IntWalk.i64_in _ (by omega)
      have hquo := HQUO.out
      clear hrem hmodI hmod hm0 hm1
      go_wp2_with fail
      refine ⟨⟨j + 1, by omega, ?_, by rw [HN1.out, HW.out], (hb.trans (But.setCell (S := fun q => q = w.heap.size + 1) ⟨w.heap.size + 1, p, none⟩ (.slice Ax L cx) rfl) (fun q hq => Or.inl hq)).trans (But.of_new (S := fun q => q = w.heap.size + 1) ((New.refl _).drew)) (fun q hq => Or.inl hq), ?_⟩, ?_⟩
      · rw [show (p : Int) - 1 = (cs.length : Int) - 1 - ((j + 1 : Nat) : Int) by have := HP.out; omega]
      · refine ((HRW.out.set p (.slice Ax L cx)).congr (fun i hi => ?_)).drew
        have := HP.out
        by_cases e : i = p
        · subst e; rw [if_pos rfl, if_pos (by omega), HRP.out]
        · rw [if_neg e]
          by_cases h2 : cs.length ≤ i + j
          · rw [if_pos h2, if_pos (by omega)]
          · rw [if_neg h2, if_neg (by omega)]
      · simp [intOf] <;> omega
    · have e : j = cs.length := by omega
      subst e
      have b2 : ¬ (0 : Int) ≤ (cs.length : Int) - 1 - (cs.length : Int) := by omega
      have hR1 : Box2 wo w.heap.size (.int .i64 0) (.slice none 0 0) := hR0.block (hb.2.2.2.2 _ hR0.lt (by omega))
      have HLST := hid (fun (w' : World) (hn : New wo w') (p : Nat) (hp : p < cs.length) => (show w'.cell? ⟨w.heap.size + 1, p, none⟩ = some (r p) ∧ IntsAt w' (r p) (pickAt cs N p) from
        ⟨hn.cell (by have := hrw.cell (i := p) hp; rw [if_pos (by omega)] at this; exact this), by obtain ⟨_, _, _, _, _, _, _, _, hxi⟩ := HR.out p hp; exact hxi.new (hno.trans hn)⟩))
      clear hR0 hrw hb hM
      have hG : GrowRows (wo.heap.size + 1) 34 (wo.alloc (.cells #[.int .i64 cs.length, .slice none 0 0] 31)) (.slice none 0 0) ((atRows cs N L).take 0) := GrowRows.nil _ _ _
      have hO : Box2 (wo.alloc (.cells #[.int .i64 cs.length, .slice none 0 0] 31)) wo.heap.size (.int .i64 cs.length) (.slice none 0 0) := ⟨by go_simp, by go_simp, by go_simp, by go_simp⟩
      have hn2 : New wo (wo.alloc (.cells #[.int .i64 cs.length, .slice none 0 0] 31)) := (by repeat (first | with_reducible exact New.refl _ | with_reducible assumption | with_reducible refine New.alloc ?_ _ | with_reducible refine New.drewN ?_ _ | with_reducible refine New.drew ?_ | with_reducible refine New.trans ?_ (by with_reducible assumption)))
      have hz2 : wo.heap.size + 1 ≤ (wo.alloc (.cells #[.int .i64 cs.length, .slice none 0 0] 31)).heap.size := by simp only [size_alloc]; omega
      have hal : (atRows cs N L).length = L := tab_length _ _ _
      go_wp2_with fail
      generalize (wo.alloc (.cells #[.int .i64 cs.length, .slice none 0 0] 31)) = w2 at hG hO hn2 hz2 ⊢
      have hzo2 : w.heap.size + 2 ≤ wo.heap.size := by omega
      clear hmk hkw hz0 hn0 hMN
      go_loopw [10] (fun i wr => ∃ (x : Nat) (v : Value), i = .int .i64 x ∧ x ≤ L ∧ New wo wr ∧ wo.heap.size + 1 ≤ wr.heap.size ∧ Box2 wr wo.heap.size (.int .i64 cs.length) v ∧ GrowRows (wo.heap.size + 1) 34 wr v ((atRows cs N L).take x)) (fun i _ => L - (intOf i).toNat)
      case atStart => exact ⟨0, _, rfl, Nat.zero_le _, hn2, hz2, hO, hG⟩
      case round =>
        obtain ⟨x, v, rfl, hx, hnx, hzx, hOx, hGx⟩ := hrel
        clear hn2 hz2 hO hG
        obtain ⟨wx, rfl⟩ : ∃ wx : World, wx = wr := ⟨_, rfl⟩
        obtain ⟨hl0, hi0⟩ := HLST.out wx hnx 0 h1
        obtain ⟨A0, c0, hr0⟩ := hi0.form
        rw [HRL.out 0 h1] at hr0
        rw [hr0] at hl0
        have m0 : (0 : Int) < (cs.length : Int) := by omega
        have HR0 := hid hr0
        clear hr0 hi0
        by_cases hlx : x < L
        · have b1 : (x : Int) < (L : Int) := by omega
          obtain ⟨XS, hXS⟩ : ∃ z, z = (atRows cs N L).take x := ⟨_, rfl⟩
          have HXL := hid (show XS.length < 1099511627776 by rw [hXS]; simp; omega)
          have HE := hid (show (atRows cs N L).take (x + 1) = XS ++ [(List.range cs.length).map fun p => nth (pickAt cs N p) x] by
            rw [take_succ_nth _ x (by omega), ← hXS]
            unfold atRows
            rw [nth_tab _ _ _ _ hlx])
          rw [← hXS] at hGx
          clear hXS
          obtain ⟨D, d, rfl⟩ := hGx.form
          have hY0 := Grow.empty wx.heap.size 2 wx (Nat.le_refl _)
          have hny0 : New wx (wx.alloc (.cells #[] 2)) := (by repeat (first | with_reducible exact New.refl _ | with_reducible assumption | with_reducible refine New.alloc ?_ _ | with_reducible refine New.drewN ?_ _ | with_reducible refine New.drew ?_ | with_reducible refine New.trans ?_ (by with_reducible assumption)))
          go_wp2_with fail
          generalize (wx.alloc (.cells #[] 2)) = w3 at hY0 hny0 ⊢
          go_loopw [11, 12] (fun ov i wr => ∃ s : Nat, s ≤ cs.length ∧ i = .int .i64 s ∧ New wx wr ∧ Grow wx.heap.size 2 wr ov ((List.range s).map fun p => nth (pickAt cs N p) x)) (fun _ i _ => cs.length - (intOf i).toNat)
          case atStart => exact ⟨0, Nat.zero_le _, rfl, hny0, hY0⟩
          case round =>
            obtain ⟨s, hs, rfl, hns, hYs⟩ := hrel
            clear hY0 hny0
            obtain ⟨ws, rfl⟩ : ∃ ws : World, ws = wr := ⟨_, rfl⟩
            obtain ⟨ZS, hZS⟩ : ∃ z, z = (List.range s).map fun p => nth (pickAt cs N p) x := ⟨_, rfl⟩
            have hZl : ZS.length = s := by rw [hZS]; simp
            rw [← hZS] at hYs
            by_cases hls : s < cs.length
            · have b3 : (s : Int) < (cs.length : Int) := by omega
              have HE2 := hid (show ((List.range (s + 1)).map fun p => nth (pickAt cs N p) x) = ZS ++ [nth (pickAt cs N s) x] by rw [list_range_snoc, ← hZS])
              obtain ⟨hls1, his⟩ := HLST.out ws (hnx.trans hns) s hls
              obtain ⟨As, c9, hrs, _, hcs⟩ := id his
              have hPL := HRL.out s hls
              obtain ⟨sb, so, rfl, hxs⟩ := hcs x (by omega)
              rw [hPL] at hrs
              rw [hrs] at hls1
              have HZL := hid hZl
              have hZlt : ZS.length < 1099511627776 := by omega
              have hzs := hns.size
              obtain ⟨DZ, dZ, rfl⟩ := hYs.form
              clear hZS hcs his hrs hZl hPL
              go_wp2_with (at_builtin; refine wpList_app (w1 := ws) rfl _ _ _ rfl Tryz.underlying34 info_i64 (.slice DZ ZS.length dZ) ZS rfl hYs rfl hZlt hzs ?_; intro g cap w12 ho12 hg12)
              refine ⟨⟨s + 1, by omega, by go_num, New.app hns hg12 hYs (Nat.le_refl _), by rw [HE2.out]; exact ho12⟩, ?_⟩
              simp [intOf]; omega
            · have e : s = cs.length := by omega
              subst e
              have b3 : ¬ (cs.length : Int) < (cs.length : Int) := by omega
              have hown := hYs.own (by omega)
              have HZS := hid hZS
              have hzs := hns.size
              obtain ⟨DZ, dZ, rfl⟩ := hYs.form
              have hOs := hOx.new hns
              obtain ⟨o0, o1, of0, of1⟩ := id hOs
              have hblk := hid hGx.block
              have hXlt := HXL.out
              clear hZS hZl
              go_wp2_with (at_builtin; refine wpList_appRows (w1 := ws) rfl _ _ _ rfl Tryz.underlying24 info_ints (.slice D XS.length d) XS ZS rfl hGx hns hown rfl hXlt hzx ?_; intro g cap w12 ho12 hg12; have hO12 := hOs.grown hg12 (fun q hq => by have := (hblk.out q hq).1; omega); obtain ⟨u0, u1, uf0, uf1⟩ := id hO12)
              have hn12 : New wo w12 := New.grown (hnx.trans hns) hg12 (fun q hq => by have := (hblk.out q hq).1; omega)
              have hW1 := within_setCell w12 ⟨wo.heap.size, 1, none⟩ (.slice (some ⟨g, 0, none⟩) (XS.length + 1) cap)
              have hz12 := hn12.size
              have hz13 := hg12.size
              refine ⟨⟨x + 1, _, by go_num, by omega, hn12.setCell (p := ⟨wo.heap.size, 1, none⟩) (Nat.le_refl _) _, by rw [size_setCell]; omega, hO12.set1 _, by rw [HE.out, ← HZS.out]; exact ho12.within hW1 (Nat.le_refl _)⟩, ?_⟩
              simp [intOf]; omega
        · have e : x = L := by omega
          subst e
          have b1 : ¬ (x : Int) < (x : Int) := by omega
          rw [List.take_of_length_le (by omega)] at hGx
          obtain ⟨D, d, rfl⟩ := hGx.form
          have hOW := hGx.own (by omega)
          rw [hal] at hOW hOx
          have hRx := hR1.new hnx
          obtain ⟨o0, o1, of0, of1⟩ := id hOx
          obtain ⟨q0, q1, qf0, qf1⟩ := id hRx
          obtain ⟨g0, g1, _⟩ := hRx.fill (.int .i64 cs.length) (.slice D x d)
          have HW := hid (Within.fill wx w.heap.size (.int .i64 cs.length) (.slice D x d))
          have hNx := hno.trans hnx
          clear hal hGx
          go_wp2_with fail
          refine bodyPost_ret (v := .agg #[.int .i64 cs.length, .slice D x d]) (by simp [results, Tryz.results68, go_sem, g0, g1]) rfl ?_
          have hNn := hNx.within HW.out (Nat.le_refl _)
          exact ⟨_, rfl, hNn, _, rfl, (hOW.within HW.out (Or.inr (by omega))).widen (by omega) HW.out.2.2.2.1⟩
end
section
/-- Roads whose rows are not longer than their capacities. -/
def CapAut (w : World) (v : Value) (r : Aut) : Prop := ∃ rv, v = .agg #[.int .i64 r.n, rv] ∧ CapRows w rv r.nx
theorem CapAut.at {w : World} {v : Value} {r : Aut} (h : CapAut w v r) : AutAt w v r := let ⟨rv, e, h⟩ := h; ⟨rv, e, h.rows⟩
theorem CapAut.new {w w' : World} {v : Value} {r : Aut} (h : CapAut w v r) (hn : New w w') : CapAut w' v r := let ⟨rv, e, h⟩ := h; ⟨rv, e, h.new hn⟩
theorem choices_small {r : Aut} (hr : RoadsFacts r) (p : Nat) (h : p < (choicesOf r).length) : (nth (choicesOf r) p).length ≤ 1000 := by
  rw [choices_len] at h
  rw [nth_choices _ _ h]
  have h1 := arr_len (nth r.nx p).length (nth r.nx p)
  have h2 : ∀ n, n ≤ 3 → arrB n ≤ 6 := by decide
  have h3 := h2 (nth r.nx p).length (by rw [hr.row p h]; exact hr.l3)
  show (arrF (nth r.nx p).length (nth r.nx p)).length ≤ 1000
  omega
/-- The reference's colouring of right roads with a number. -/
theorem refAt_any (cv : Value) (r : Aut) (N : Nat) (w : World) (hc : ListAt RowsAt w cv (choicesOf r)) (hf : RoadsFacts r) (hN : N ≤ 4611686018427387904) :
    Calls Tryz.prog 68 #[cv, .int .i64 N] w fun e w' => ∃ r2, e = .returned r2 ∧ New w w' ∧ OwnAut w.heap.size w'.heap.size w' r2 ⟨r.nx.length, atRows (choicesOf r) N (nth r.nx 0).length⟩ := by
  have hl := choices_len r
  have h := l05At_any cv (choicesOf r) (nth r.nx 0).length N w hc (by rw [hl]; exact hf.n1) (by rw [hl]; exact hf.n7) ⟨hf.l1, hf.l3⟩ (fun p hp => choices_pos p hp) (fun p hp i hi => choices_row hf p hp i hi) (fun p hp => choices_small hf p hp) hN
  have e : (((choicesOf r).length : Nat) : Int) = ((r.nx.length : Nat) : Int) := by rw [hl]
  rw [e] at h
  exact h
end

end Go.Proofs.YtoeckejcmojeaaaGreat
