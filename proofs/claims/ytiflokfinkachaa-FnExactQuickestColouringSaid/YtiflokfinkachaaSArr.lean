/- The reference's arrangements of a list. -/
import Derived.Test.YtiflokfinkachaaRows
import Derived.Test.YtiflokfinkachaaCore
import Derived.Test.YtiflokfinkachaaArrs
import Derived.Test.YtiflokfinkachaaInfos
import Derived.Test.YtiflokfinkachaaPlains
import Derived.Test.YtiflokfinkachaaMaps
import Derived.Test.YtiflokfinkachaaJoins
import Derived.Test.YtiflokfinkachaaSOwn
import Derived.WalkKit
import Derived.WalkSpells
import Derived.WalkLawsBesides
import Derived.Deep.QuietTactic
import Derived.Deep.OwnRows
import Derived.BigQuiet
import Derived.KernelRfl
import Derived.Carry
import Derived.Deep.RegionLaw
import Derived.Deep.RegionHeld3
namespace Go.Proofs.Ytiflokfinkachaa
open Go.RowKit

/-- A slice is not longer than its capacity. -/
def CapAt (v : Value) : Prop := ∀ A m c, v = .slice A m c → m ≤ c
set_option maxHeartbeats 400000 in
theorem l00OwnH_any (v : Value) (xs : List Int) (w : World) (h : IntsAt w v xs) (hl : xs.length ≤ 1048576) :
    Calls Try.prog 81 #[v] w fun e w' => ∃ g c, e = .returned (.slice (some ⟨g, 0, none⟩) xs.length c) ∧ New w w' ∧ Grow w.heap.size 2 w' (.slice (some ⟨g, 0, none⟩) xs.length c) xs := by
  go_enter Try.func81, Try.ntmps81
  go_wp2_with (at_builtin; refine wpList_appAll rfl _ _ _ rfl Try.underlying26 info_i64 (.slice (some ⟨w.heap.size, 0, none⟩) 0 0) _ [] xs w.heap.size rfl (Grow.empty w.heap.size 2 w (Nat.le_refl _)) rfl rfl (h.new (by repeat (first | with_reducible exact New.refl _ | with_reducible assumption | with_reducible refine New.alloc ?_ _ | with_reducible refine New.drewN ?_ _ | with_reducible refine New.drew ?_ | with_reducible refine New.trans ?_ (by with_reducible assumption)))) (by simp; omega) (by (try simp only [sizes]) <;> omega) ?_; intro g cap w2 ho2 hg2 hloc)
  go_ret
  have hn : New w w2 := New.grown (by repeat (first | with_reducible exact New.refl _ | with_reducible assumption | with_reducible refine New.alloc ?_ _ | with_reducible refine New.drewN ?_ _ | with_reducible refine New.drew ?_ | with_reducible refine New.trans ?_ (by with_reducible assumption))) hg2 (fun k hk => by simp [Value.ownBlock] at hk; omega)
  simp only [List.length_nil, Nat.zero_add, List.nil_append] at ho2 ⊢
  exact ⟨_, _, rfl, hn, ho2⟩
theorem IntsAt.get' {w : World} {A : Option Addr} {m c : Nat} {xs : List Int} (h : IntsAt w (.slice A m c) xs) (i : Nat) (hi : i < xs.length) : ∃ b off, A = some ⟨b, off, none⟩ ∧ w.cell? ⟨b, off + i, none⟩ = some (.int .i64 (nth xs i)) := by
  obtain ⟨A', c', e, _, hc⟩ := h
  cases e
  exact hc i hi
theorem IntsAt.get'' {w : World} {b o m c : Nat} {xs : List Int} {x : Int} (h : IntsAt w (.slice (some ⟨b, o, none⟩) m c) xs) (i : Nat) (hi : i < xs.length) (hx : x = nth xs i) : w.cell? ⟨b, o + i, none⟩ = some (.int .i64 x) := by
  obtain ⟨b', o', e, h⟩ := h.get' i hi
  cases e
  rw [hx]; exact h
theorem IntsAt.take {w : World} {A : Option Addr} {m c k : Nat} {xs : List Int} (h : IntsAt w (.slice A m c) xs) (hk : k ≤ xs.length) : IntsAt w (.slice A k c) (xs.take k) := by
  obtain ⟨A', c', e, hl, hc⟩ := h
  cases e
  refine ⟨A, c, by simp; omega, by simp; omega, fun i hi => ?_⟩
  have hi' : i < k := by simp at hi; omega
  obtain ⟨b, off, rfl, hx⟩ := hc i (by omega)
  exact ⟨b, off, rfl, by rw [hx, nth_eq _ _ (show i < xs.length by omega), nth_eq _ _ hi]; simp⟩
theorem IntsAt.drop {w : World} {b o n c k : Nat} {xs : List Int} (h : IntsAt w (.slice (some ⟨b, o, none⟩) (n + 1) c) xs) (hl : xs.length = n + 1) (hk : k ≤ n) (hc : n + 1 ≤ c) :
    IntsAt w (.slice (if c = k + 1 then some ⟨b, o, none⟩ else some ⟨b, o + (k + 1), none⟩) (n - k) (c - (k + 1))) (xs.drop (k + 1)) := by
  have hl2 : (xs.drop (k + 1)).length = n - k := by rw [List.length_drop]; omega
  obtain ⟨A', c', e, hml, hx⟩ := h
  injection e with e1 e2 e3
  subst e1
  refine ⟨_, c - (k + 1), by rw [hl2], by omega, fun i hi => ?_⟩
  rw [hl2] at hi
  obtain ⟨b', o', e, hx1⟩ := hx (k + 1 + i) (by omega)
  cases e
  rw [if_neg (by omega)]
  exact ⟨b, o + (k + 1), rfl, by rw [show o + (k + 1) + i = o + (k + 1 + i) by omega, hx1, nth_eq _ _ (show k + 1 + i < xs.length by omega), nth_eq _ _ (show i < (xs.drop (k + 1)).length by omega)]; simp⟩
theorem ownsRow_cap' {w : World} {B m c n : Nat} {e : TypeId} {A : Option Addr} {xs : List Value} (h : w.ownsRow B e 1 (.slice A m c) n xs) : m ≤ c := by
  obtain ⟨_, ⟨h0, _⟩ | ⟨_, _, _, hv, _, _, hcp, _⟩⟩ := h
  · injection h0 with _ h1 h2; omega
  · injection hv with _ h1 h2; omega
theorem eraseIdx_cut (xs : List Int) (k : Nat) : xs.take k ++ xs.drop (k + 1) = xs.eraseIdx k := (List.eraseIdx_eq_take_drop_succ xs k).symm
set_option maxRecDepth 20000 in
set_option maxHeartbeats 4000000 in
theorem l05Arrange_any : ∀ (n : Nat) (xs : List Int) (v : Value) (w : World), xs.length = n → n ≤ 3 → IntsAt w v xs → CapAt v →
    Calls Try.prog 203 #[v] w fun e w' => ∃ r, e = .returned r ∧ New w w' ∧ Lies RowsAt w.heap.size w'.heap.size w' r (arrF n xs) := by
  intro n
  induction n with
  | zero =>
    intro xs v w hxl hn3 hv hcap
    obtain ⟨A, c, rfl⟩ := hv.form
    rw [hxl]
    clear hv hcap
    go_enter Try.func203, Try.ntmps203
    go_wp2_with fail
    go_ret
    refine ⟨_, rfl, (by repeat (first | with_reducible exact New.refl _ | with_reducible assumption | with_reducible refine New.alloc ?_ _ | with_reducible refine New.drewN ?_ _ | with_reducible refine New.drew ?_ | with_reducible refine New.trans ?_ (by with_reducible assumption))), OwnRows.solid (B := w.heap.size) (E := w.heap.size + 1 + 1) ⟨some ⟨w.heap.size + 1, 0, none⟩, 1, fun _ => .slice (some ⟨w.heap.size, 0, none⟩) 0 0, rfl, by simp [arrF], fun a ha => by cases ha; exact ⟨Nat.le_succ _, Nat.lt_succ_self _⟩, fun i hi => ?_, fun i j h1 h2 => by simp [arrF] at h2; omega⟩ (fun k hk => by simp only [size_alloc] at hk; exact hk)⟩
    have hi0 : i = 0 := by simp [arrF] at hi; omega
    subst hi0
    exact ⟨⟨w.heap.size + 1, 0, rfl, by go_simp, by simp [Value.ownBlock]⟩, OwnInts.none' _ (Nat.le_refl _) (by omega)⟩
  | succ n ih =>
    intro xs v w hxl hn3 hv hcap
    obtain ⟨A, c, rfl⟩ := hv.form
    have hcap' := hcap _ _ _ rfl
    have HV := hid hv
    have IH := hid ih
    have HXL := hid hxl
    rw [hxl] at hcap' hv ⊢
    have hz9 : ((n : Int) + 1 == 0) = false := by
      simp only [beq_eq_false_iff_ne]; omega
    clear ih hxl hcap
    go_enter Try.func203, Try.ntmps203
    go_wp2_with fail
    go_loopw [3, 4] (fun ov i wr => ∃ k : Nat, k ≤ n + 1 ∧ i = .int .i64 k ∧ New w wr ∧ GrowS IntsAt (fun q => q < w.heap.size ∨ ov.ownBlock = some q) w.heap.size 26 wr ov (arrUp n xs k)) (fun _ i _ => n + 1 - (intOf i).toNat)
    case atStart => exact ⟨0, Nat.zero_le _, rfl, (by repeat (first | with_reducible exact New.refl _ | with_reducible assumption | with_reducible refine New.alloc ?_ _ | with_reducible refine New.drewN ?_ _ | with_reducible refine New.drew ?_ | with_reducible refine New.trans ?_ (by with_reducible assumption))), GrowS.empty (Nat.le_refl _)⟩
    case round =>
      obtain ⟨k, hk, rfl, hnk, hGk⟩ := hrel
      obtain ⟨wo, rfl⟩ : ∃ wo : World, wo = wr := ⟨_, rfl⟩
      by_cases hlt : k < n + 1
      · have b1 : (k : Int) < ((n + 1 : Nat) : Int) := by omega
        have hxk : k < xs.length := by have := HXL.out; omega
        obtain ⟨X, hX⟩ : ∃ z, z = nth xs k := ⟨_, rfl⟩
        obtain ⟨ab, ao, rfl, hx1⟩ := IntsAt.get' hv k hxk
        rw [← hX] at hx1
        have HX := hid hX
        replace hx1 := hnk.cell hx1
        have HE0 := hid (IntsAt.get' HV.out)
        by_cases hsk : skipB xs k = true
        · have hk2 : 0 < k ∧ X = nth xs (k - 1) := by
            unfold skipB at hsk
            simp only [Bool.and_eq_true, decide_eq_true_eq] at hsk
            exact ⟨hsk.1, by rw [HX.out]; exact hsk.2⟩
          have HE := hid (arrUp_skip (n := n) hsk)
          obtain ⟨b0', hXp⟩ := hk2
          have b0 : (0 : Int) < (k : Int) := by omega
          have hw1 : IntKind.i64.wrap ((k : Int) - 1) = ((k : Int) - 1) := IntWalk.i64_in _ (by omega)
          have j0 : (0 : Int) ≤ (k : Int) - 1 := by omega
          have j1 : (k : Int) - 1 < ((n + 1 : Nat) : Int) := by omega
          obtain ⟨_, _, e2, hx2⟩ := HE0.out (k - 1) (by omega)
          cases e2
          rw [← hXp] at hx2
          replace hx2 := hnk.cell hx2
          have hdec : decide (0 < k) = true := decide_eq_true b0'
          clear hsk hXp hX
          go_wp2_with fail
          go_quiet (fail)
          all_goals go_wp2_with fail
          all_goals
            refine ⟨⟨k + 1, by omega, by go_num, (by repeat (first | with_reducible exact New.refl _ | with_reducible assumption | with_reducible refine New.alloc ?_ _ | with_reducible refine New.drewN ?_ _ | with_reducible refine New.drew ?_ | with_reducible refine New.trans ?_ (by with_reducible assumption))), by rw [HE.out]; exact hGk.new (by repeat (first | with_reducible exact New.refl _ | with_reducible assumption | with_reducible refine New.alloc ?_ _ | with_reducible refine New.drewN ?_ _ | with_reducible refine New.drew ?_ | with_reducible refine New.trans ?_ (by with_reducible assumption)))⟩, ?_⟩
            simp [intOf]; omega
        · have hsk' : skipB xs k = false := by simpa using hsk
          have HE := hid (show arrUp n xs (k + 1) = arrUp n xs k ++ (arrF n (xs.eraseIdx k)).map (X :: ·) by rw [arrUp_take hsk', ← HX.out])
          have hcase : ¬ (0 : Int) < (k : Int) ∨ ((0 : Int) < (k : Int) ∧ X ≠ nth xs (k - 1)) := by
            unfold skipB at hsk'
            simp only [Bool.and_eq_false_iff, decide_eq_false_iff_not] at hsk'
            rcases hsk' with q | q
            · left; omega
            · by_cases hk0 : (0 : Int) < (k : Int)
              · right; exact ⟨hk0, by rw [HX.out]; exact q⟩
              · left; exact hk0
          obtain ⟨Xp, hXp⟩ : ∃ z, z = nth xs (k - 1) := ⟨_, rfl⟩
          obtain ⟨_, _, e2, hx2⟩ := HE0.out (k - 1) (by omega)
          cases e2
          replace hx2 := hnk.cell hx2
          rw [← hXp] at hx2 hcase
          clear hXp hsk hsk' hX
          have hw1 : IntKind.i64.wrap ((k : Int) - 1) = ((k : Int) - 1) := IntWalk.i64_in _ (by omega)
          have hw2 : IntKind.i64.wrap ((k : Int) + 1) = ((k : Int) + 1) := IntWalk.i64_in _ (by omega)
          have HXK := hid hxk
          have c0 : (k : Int) ≤ (c : Int) := by omega
          have c1 : (k : Int) + 1 ≤ ((n + 1 : Nat) : Int) := by omega
          obtain ⟨YS, hYS⟩ : ∃ z, z = arrUp n xs k := ⟨_, rfl⟩
          rw [← hYS] at hGk HE
          have hYl : YS.length ≤ 1000 := by
            have h1 := arrUp_len n xs k
            have h2 : ∀ n, n ≤ 3 → arrB n ≤ 6 := by decide
            have h3 := h2 n (by omega)
            have h4 : k * arrB n ≤ 3 * 6 := Nat.mul_le_mul (by omega) h3
            rw [hYS]; omega
          clear hYS
          obtain ⟨AO, cO, rfl⟩ := hGk.form
          rcases hcase with b0 | ⟨b0, hne⟩
          all_goals first
            | (have hnb : (X == Xp) = false := by simpa using hne
               have j0 : (0 : Int) ≤ (k : Int) - 1 := by omega
               have j1 : (k : Int) - 1 < ((n + 1 : Nat) : Int) := by omega
               have hdec : decide (0 < k) = true := decide_eq_true (by omega)
               clear hne)
            | (have hdec : decide (0 < k) = false := decide_eq_false (by omega))
          all_goals go_wp2_with fail
          all_goals go_quiet (fail)
          all_goals go_wp2_with fail
          all_goals
            have hV1 := hid ((HV.out.take (k := k) (by omega)).new hnk)
            have hV2 := hid ((IntsAt.drop (k := k) (hv.new hnk) HXL.out (by omega) hcap'))
            obtain ⟨TK, hTK⟩ : ∃ z, z = xs.take k := ⟨_, rfl⟩
            obtain ⟨DR, hDR⟩ : ∃ z, z = xs.drop (k + 1) := ⟨_, rfl⟩
            have hTl : TK.length ≤ 1048576 := by rw [hTK, List.length_take]; omega
            have HTD := hid (show TK ++ DR = xs.eraseIdx k by rw [hTK, hDR, eraseIdx_cut])
            have HLT := hid (show TK.length + DR.length ≤ 1099511627776 by rw [hTK, hDR, List.length_take, List.length_drop]; have := HXL.out; omega)
            have c2 : k ≤ n := by omega
            have c3 : (0 : Int) ≤ (k : Int) + 1 := by omega
            rw [← hTK] at hV1
            rw [← hDR] at hV2
            clear hTK hDR
            go_region_law
              (first
                | (go_simp; go_at_call 81; refine (l00OwnH_any _ TK _ (hV1.out.new (by repeat (first | with_reducible exact New.refl _ | with_reducible assumption | with_reducible refine New.alloc ?_ _ | with_reducible refine New.drewN ?_ _ | with_reducible refine New.drew ?_ | with_reducible refine New.trans ?_ (by with_reducible assumption)))) hTl).mono ?_; rintro e w7 ⟨g7, c7, he, hq7, hg7⟩; subst he; have hw7 : New wo w7 := (by repeat (first | with_reducible exact New.refl _ | with_reducible assumption | with_reducible refine New.alloc ?_ _ | with_reducible refine New.drewN ?_ _ | with_reducible refine New.drew ?_ | with_reducible refine New.trans ?_ (by with_reducible assumption))); have hz7 := hw7.size)
                | (refine step_appAll rfl _ _ _ rfl Try.underlying26 info_i64 (.slice (some ⟨g7, 0, none⟩) TK.length c7) _ TK DR g7 rfl (hg7.new (by repeat (first | with_reducible exact New.refl _ | with_reducible assumption | with_reducible refine New.alloc ?_ _ | with_reducible refine New.drewN ?_ _ | with_reducible refine New.drew ?_ | with_reducible refine New.trans ?_ (by with_reducible assumption)))) rfl rfl (hV2.out.new (by repeat (first | with_reducible exact New.refl _ | with_reducible assumption | with_reducible refine New.alloc ?_ _ | with_reducible refine New.drewN ?_ _ | with_reducible refine New.drew ?_ | with_reducible refine New.trans ?_ (by with_reducible assumption)))) HLT.out (by (try simp only [sizes]) <;> omega) ?_; intro g8 cap8 w8 ho8 hg8 hloc8))
          all_goals
            have hn8 : New wo w8 := New.grown hw7 hg8 (fun q hq => (hg7.block q hq).1)
            have hnw8 := hnk.trans hn8
            have ha8 := (ho8.own (by rw [List.length_append]; exact HLT.out)).at
            have hc8 : CapAt (.slice (some ⟨g8, 0, none⟩) (TK.length + DR.length) cap8) := fun A m c e => by injection e with e1 e2 e3; subst e2; subst e3; exact ownsRow_cap' ho8
            rw [HTD.out] at ha8
            have C := IH.out (xs.eraseIdx k) _ w8 (by rw [List.length_eraseIdx, if_pos HXK.out]; have := HXL.out; omega) (by omega) ha8 hc8
            obtain ⟨MS, hMS⟩ : ∃ z, z = arrF n (xs.eraseIdx k) := ⟨_, rfl⟩
            have hML : MS.length ≤ 1000 := by
              have h1 := arr_len n (xs.eraseIdx k)
              have h2 : ∀ n, n ≤ 3 → arrB n ≤ 6 := by decide
              have := h2 n (by omega)
              rw [hMS]; omega
            have HMR := hid (show ∀ j, j < MS.length → (nth MS j).length = n by
              intro j hj
              rw [hMS] at hj ⊢
              exact (arr_row n _ (by rw [List.length_eraseIdx, if_pos HXK.out]; have := HXL.out; omega) _ (nth_mem _ _ hj)).1)
            rw [← hMS] at C HE
            clear hMS hg8 hloc8 ho8 hg7 ha8 hc8 hw7
            go_wp2_with (go_at_call 203; refine C.mono ?_; rintro e w9 ⟨r, he, hn9, hL9⟩; obtain ⟨AM, cM, rfl⟩ := hL9.now.form; subst he)
          all_goals
            have hz8 := hn8.size
            have hz9' := hn9.size
            have hzk := hnk.size
            have hblk := hid hGk.block
            have hG9 : GrowS IntsAt (fun q => q < w.heap.size ∨ (Value.slice AO YS.length cO).ownBlock = some q) w.heap.size 26 w9 (.slice AO YS.length cO) (YS ++ (MS.take 0).map (X :: ·)) := by simpa using (hGk.new (hn8.trans hn9))
            go_loopw [3, 7] (fun ov x wr => ∃ j : Nat, j ≤ MS.length ∧ x = .int .i64 j ∧ But (fun q => (w.heap.size ≤ q ∧ q < w8.heap.size) ∨ w9.heap.size ≤ q) w9 wr ∧ (∀ q, ov.ownBlock = some q → (w.heap.size ≤ q ∧ q < w8.heap.size) ∨ w9.heap.size ≤ q) ∧
                GrowS IntsAt (fun q => q < w.heap.size ∨ ov.ownBlock = some q) w.heap.size 26 wr ov (YS ++ (MS.take j).map (X :: ·))) (fun _ x _ => MS.length - (intOf x).toNat)
            case atStart => exact ⟨0, Nat.zero_le _, rfl, But.refl, fun q hq => Or.inl ⟨(hblk.out q hq).1, by have := (hblk.out q hq).2; omega⟩, hG9⟩
            case round =>
              obtain ⟨j, hj, rfl, hbj, hfj, hGj⟩ := hrel
              clear hG9
              obtain ⟨wj, rfl⟩ : ∃ wj : World, wj = wr := ⟨_, rfl⟩
              have hzj := hbj.size
              have hnj : New w wj := But.new (hnw8.trans hn9) hbj (fun q hq => hq.elim (fun h => h.1) (fun h => by omega))
              have hMj := hL9 wj (hbj.mono (fun q hq => hq.elim (fun h => Or.inl h.2) Or.inr))
              have hxj := hnj.cell (show w.cell? _ = _ from IntsAt.get'' hv k hxk HX.out)
              by_cases hltj : j < MS.length
              · have b3 : (j : Int) < (MS.length : Int) := by omega
                obtain ⟨AM', cM', eM, _, hrows⟩ := hMj
                cases eM
                obtain ⟨mb, mo, yv, rfl, hym, hyv⟩ := hrows j hltj
                obtain ⟨Y, hY⟩ : ∃ z, z = nth MS j := ⟨_, rfl⟩
                rw [← hY] at hyv
                obtain ⟨Ay, cy, rfl⟩ := hyv.form
                obtain ⟨ZS, hZS⟩ : ∃ z, z = YS ++ (MS.take j).map (X :: ·) := ⟨_, rfl⟩
                have hZl : ZS.length < 1099511627776 := by rw [hZS]; simp; omega
                have HE2 := hid (show YS ++ (MS.take (j + 1)).map (X :: ·) = ZS ++ [X :: Y] by rw [take_succ_nth _ j hltj, List.map_append, ← List.append_assoc, ← hZS, hY]; rfl)
                rw [← hZS] at hGj
                have hYl : Y.length ≤ 1000000 := by rw [hY, HMR.out j hltj]; omega
                clear hZS hY hrows
                obtain ⟨DO, dO, rfl⟩ := hGj.form
                obtain ⟨l1, hl1, hsp⟩ := hGj.appT
                have HSP := hid hsp
                have hblj := hid hGj.block
                clear hsp
                go_wp2_with fail
                have hyma := (New.alloc (New.refl wj) (.cells #[.int .i64 X] 2)).cell hym
                go_region_law
                  (first
                    | (refine step_appAll rfl _ _ _ rfl Try.underlying26 info_i64 (B := wj.heap.size) (.slice (some ⟨wj.heap.size, 0, none⟩) 1 1) (.slice Ay Y.length cy) [X] Y wj.heap.size rfl (show Grow _ _ _ _ [X] from ownsRow_new (ownsRow_one (w := wj) (x := .int .i64 X) (Nat.le_refl _)) (by repeat (first | with_reducible exact New.refl _ | with_reducible assumption | with_reducible refine New.alloc ?_ _ | with_reducible refine New.drewN ?_ _ | with_reducible refine New.drew ?_ | with_reducible refine New.trans ?_ (by with_reducible assumption)))) rfl rfl (hyv.new (by repeat (first | with_reducible exact New.refl _ | with_reducible assumption | with_reducible refine New.alloc ?_ _ | with_reducible refine New.drewN ?_ _ | with_reducible refine New.drew ?_ | with_reducible refine New.trans ?_ (by with_reducible assumption)))) (by simp; omega) (by (try simp only [sizes]) <;> omega) ?_; intro g10 cap10 w10 ho10 hg10 hloc10; have hn10 : New wj w10 := New.grown (a := wj) (by repeat (first | with_reducible exact New.refl _ | with_reducible assumption | with_reducible refine New.alloc ?_ _ | with_reducible refine New.drewN ?_ _ | with_reducible refine New.drew ?_ | with_reducible refine New.trans ?_ (by with_reducible assumption))) hg10 (fun q hq => by have h' : wj.heap.size = q := Option.some.inj hq; omega); have hz10 := hn10.size)
                    | (refine step_appV1 rfl _ _ _ rfl (B := w.heap.size) Try.underlying22 info_ints rfl (by decide) (.slice DO ZS.length dO) ZS.length l1 (.slice (some ⟨g10, 0, none⟩) (1 + Y.length) cap10) rfl _ rfl (ownsRow_new hl1 (by repeat (first | with_reducible exact New.refl _ | with_reducible assumption | with_reducible refine New.alloc ?_ _ | with_reducible refine New.drewN ?_ _ | with_reducible refine New.drew ?_ | with_reducible refine New.trans ?_ (by with_reducible assumption)))) rfl (by go_simp) hZl (by (try simp only [sizes]) <;> omega) ?_; intro g11 cap11 w11 ho11 hg11 hloc11))
                all_goals
                  have hb11 : But (fun q => (Value.slice DO ZS.length dO).ownBlock = some q) wj w11 := But.trans (But.of_new (by repeat (first | with_reducible exact New.refl _ | with_reducible assumption | with_reducible refine New.alloc ?_ _ | with_reducible refine New.drewN ?_ _ | with_reducible refine New.drew ?_ | with_reducible refine New.trans ?_ (by with_reducible assumption)))) (But.of_grown hg11 (fun q hq => hq)) (fun q hq => Or.inl hq)
                  have hsol : Solid (fun q => q < w.heap.size ∨ (Value.slice DO ZS.length dO).ownBlock = some q) w10 (fun w => IntsAt w (.slice (some ⟨g10, 0, none⟩) (1 + Y.length) cap10) (X :: Y)) := by
                    have hown : OwnInts wj.heap.size w10.heap.size w10 (.slice (some ⟨g10, 0, none⟩) (1 + Y.length) cap10) (X :: Y) := Grow.own (show Grow wj.heap.size 2 w10 (.slice (some ⟨g10, 0, none⟩) (1 + Y.length) cap10) (X :: Y) by simpa using ho10) (by simp; omega)
                    exact hown.at.solid (fun q hq hs => by
                      have h1 := (hown.block q hq).1
                      rcases hs with hs | hs
                      · omega
                      · have := (hblj.out q hs).2; omega)
                  have hG11 := HSP.out (fun _ => False) (fun q => q < w.heap.size ∨ (Value.slice (some ⟨g11, 0, none⟩) (ZS.length + 1) cap11).ownBlock = some q) _ w11 g11 cap11 _ (X :: Y) (But.of_new (by repeat (first | with_reducible exact New.refl _ | with_reducible assumption | with_reducible refine New.alloc ?_ _ | with_reducible refine New.drewN ?_ _ | with_reducible refine New.drew ?_ | with_reducible refine New.trans ?_ (by with_reducible assumption)))) (fun q hq => hq.elim) (fun q hq => Or.inr hq) (Solid.new hsol (by repeat (first | with_reducible exact New.refl _ | with_reducible assumption | with_reducible refine New.alloc ?_ _ | with_reducible refine New.drewN ?_ _ | with_reducible refine New.drew ?_ | with_reducible refine New.trans ?_ (by with_reducible assumption)))) ho11 hg11 (fun q hq => hq.elim (fun h => Or.inl (Or.inl h)) (fun h => by
                    have h' : g11 = q := Option.some.inj h
                    subst h'
                    exact hloc11.imp Or.inr id))
                  have hfr : ∀ q, (Value.slice (some ⟨g11, 0, none⟩) (ZS.length + 1) cap11).ownBlock = some q → (w.heap.size ≤ q ∧ q < w8.heap.size) ∨ w9.heap.size ≤ q := fun q hq => by
                    have h' : g11 = q := Option.some.inj hq
                    subst h'
                    rcases hloc11 with h | h
                    · exact hfj g11 h
                    · right; (try simp only [sizes] at h); omega
                  have hb9 := hbj.trans hb11 (fun q hq => Or.inl (hfj q hq))
                  clear hg11 hloc11 ho11 hg10 hloc10 ho10
                all_goals go_wp2_with fail
                all_goals
                  refine ⟨⟨j + 1, by omega, by go_num, hb9, hfr, by rw [HE2.out]; exact hG11⟩, ?_⟩
                  simp [intOf]; omega
              · have e : j = MS.length := by omega
                subst e
                have b3 : ¬ (MS.length : Int) < (MS.length : Int) := by omega
                rw [List.take_length, ← HE.out] at hGj
                obtain ⟨AM', cM', eM, _, _⟩ := hMj
                cases eM
                go_wp2_with fail
                refine ⟨⟨k + 1, by first | omega | (go_num; done), by first | (go_num; done) | omega, by first | exact ⟨hnj, hGj⟩ | exact hGj⟩, ?_⟩
                simp [intOf]; omega
      · have e : k = n + 1 := by omega
        subst e
        have b1 : ¬ ((n + 1 : Nat) : Int) < ((n + 1 : Nat) : Int) := by omega
        have hbd : (arrUp n xs (n + 1)).length ≤ 9223372036854775807 := by
          have h1 := arrUp_len n xs (n + 1)
          have h2 : ∀ n, n ≤ 3 → arrB n ≤ 6 := by decide
          have h3 := h2 n (by omega)
          have h4 : (n + 1) * arrB n ≤ 3 * 6 := Nat.mul_le_mul (by omega) h3
          omega
        have hL := hGk.lies hbd (fun q hq => Or.inl hq)
        go_wp2_with fail
        go_ret
        exact ⟨_, rfl, hnk, hL⟩

end Go.Proofs.Ytiflokfinkachaa
