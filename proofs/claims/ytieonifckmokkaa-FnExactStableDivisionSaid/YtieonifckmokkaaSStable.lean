/- The reference's stable pairs. -/
import Derived.Test.YtieonifckmokkaaRows
import Derived.Test.YtieonifckmokkaaCore
import Derived.Test.YtieonifckmokkaaInfos
import Derived.Test.YtieonifckmokkaaPlains
import Derived.Test.YtieonifckmokkaaPlainDiv
import Derived.Test.YtieonifckmokkaaPers
import Derived.Test.YtieonifckmokkaaPlainCong
import Derived.Test.YtieonifckmokkaaPlainCnt
import Derived.Test.YtieonifckmokkaaMaps
import Derived.Test.YtieonifckmokkaaSWalks
import Derived.Test.YtieonifckmokkaaArrs
import Derived.Test.YtieonifckmokkaaPlainMerges
import Derived.Test.YtieonifckmokkaaPlainStab
import Derived.Test.YtieonifckmokkaaSBase
import Derived.Test.YtieonifckmokkaaSMerge
import Derived.Test.YtieonifckmokkaaSTable
import Derived.WalkKit
import Derived.WalkSpells
import Derived.WalkLawsBesides
import Derived.Deep.QuietTactic
import Derived.Deep.OwnRows
import Derived.BigQuiet
import Derived.KernelRfl
import Derived.Carry
namespace Go.Proofs.Ytieonifckmokkaa
open Go.RowKit

theorem mwLen_neg (x : List Int × Bool) : mwLen x < 0 ↔ x.2 = false := by
  unfold mwLen
  cases x.2 with
  | true => rw [if_pos rfl]; constructor <;> intro h <;> first | omega | cases h
  | false => simp
theorem two_of_len : ∀ (XS : List Int), XS.length = 2 → ∃ x y, XS = [x, y]
  | [x, y], _ => ⟨x, y, rfl⟩
  | [], h => by simp at h
  | [_], h => by simp at h
  | _ :: _ :: _ :: _, h => by simp at h
theorem mem_setOf {f : Nat} {n : Nat} (hf : f < 2 ^ n) (x : Int) (hx : x ∈ setOf f) : 0 ≤ x ∧ x < n := by
  unfold setOf at hx
  rw [mem_bitsTo] at hx
  refine ⟨hx.1, ?_⟩
  rcases Int.lt_or_le x n with q | q
  · exact q
  · have := testBit_ge (i := x.toNat) hf (by omega)
    rw [hx.2.2] at this; cases this
set_option maxRecDepth 20000 in
set_option maxHeartbeats 300000 in
theorem l02Steady_any (v tv : Value) (a : Aut) (s t : Nat) (w : World) (h : PAut w v a) (ht : RowsAt w tv (tabOf a)) (ha : autOk a = true) (hs : s < a.n.toNat) (htn : t < a.n.toNat) :
    Calls Try.prog 238 #[v, tv, .int .i64 s, .int .i64 t] w fun e w' => e = .returned (.bool (steadyB a.nx s t)) ∧ New w w' := by
  have han := autOk_n ha
  have hlt := pair_lt3 (a := a) (s : Int) (t : Int) ⟨by omega, by omega⟩ ⟨by omega, by omega⟩
  have hbits := pair_w64 s t (by omega) (by omega)
  rw [show (2 ^ s ||| 2 ^ t) = pairOf (s : Int) (t : Int) from rfl] at hbits
  have C1 := l02From_any v a (pairOf s t) w h ha hlt
  have hok := tourOk ha (pairOf s t) hlt
  have hlen := hok.len han.2
  have HSB := hid (show (∀ j, j < (tourOf a.nx (pairOf s t)).sets.length → badF a.nx (nth (tourOf a.nx (pairOf s t)).sets j) = false) → steadyB a.nx s t = true from fun hj => by
    unfold steadyB
    rw [List.all_eq_true]
    intro F hF
    obtain ⟨j, h1, rfl⟩ := mem_nth _ _ hF
    rw [hj j h1]; rfl)
  have HSN := hid (show ∀ j, j < (tourOf a.nx (pairOf s t)).sets.length → badF a.nx (nth (tourOf a.nx (pairOf s t)).sets j) = true → steadyB a.nx s t = false from fun j hj hb => by
    cases q : steadyB a.nx s t with
    | false => rfl
    | true =>
      unfold steadyB at q
      rw [List.all_eq_true] at q
      have := q _ (nth_mem _ _ hj)
      rw [hb] at this; cases this)
  have HLT := hid (fun i (hi : i < (tourOf a.nx (pairOf s t)).sets.length) => hok.lt _ (nth_mem _ _ hi))
  obtain ⟨n, hn⟩ : ∃ n : Nat, a.n.toNat = n := ⟨_, rfl⟩
  have HTAB := hid (show tabOf a = tabTo a.nx n n by unfold tabOf; rw [hn])
  rw [HTAB.out] at ht
  rw [hn] at HLT hs htn
  have hn10 : n ≤ 10 := by omega
  have hsI : (s : Int) < 10 := by omega
  have htI : (t : Int) < 10 := by omega
  obtain ⟨SB, hSB⟩ : ∃ z, z = steadyB a.nx s t := ⟨_, rfl⟩
  rw [← hSB] at HSB HSN ⊢
  obtain ⟨TR, hTR⟩ : ∃ z, z = tourOf a.nx (pairOf (s : Int) (t : Int)) := ⟨_, rfl⟩
  rw [← hTR] at C1 hlen HSB HSN HLT
  obtain ⟨P, hP⟩ : ∃ z, z = pairOf (s : Int) (t : Int) := ⟨_, rfl⟩
  rw [← hP] at hbits C1
  have HT := hid ht
  obtain ⟨AT, cT, rfl⟩ := ht.form
  obtain ⟨pb, rv, rfl, hp0, hp1, hr⟩ := h
  clear ha han hok hSB hTR hP hlt hr ht hp1 hp0
  go_enter Try.func238, Try.ntmps238
  go_wp2_with fail
  refine C1.mono ?_
  rintro e w1 ⟨wv, rfl, hn1, hpw⟩
  obtain ⟨wb, s1, s2, s3, rfl, k0, _, _, hsets, _, _⟩ := hpw
  obtain ⟨AS, cS, rfl, _, hcs⟩ := hsets
  have HCS := hid hcs
  clear hcs C1
  go_wp2_with fail
  go_loopw [10] (fun i wr => ∃ k : Nat, k ≤ TR.sets.length ∧ i = .int .i64 k ∧ New w1 wr ∧ Hid (∀ j, j < k → badF a.nx (nth TR.sets j) = false)) (fun i _ => TR.sets.length - (intOf i).toNat)
  case atStart => exact ⟨0, Nat.zero_le _, rfl, New.refl _, hid (fun j hj => by omega)⟩
  case round =>
    obtain ⟨k, hk, rfl, hnw, hall⟩ := hrel
    obtain ⟨wo, rfl⟩ : ∃ wo : World, wo = wr := ⟨_, rfl⟩
    have x0 := hnw.cell k0
    by_cases hltk : k < TR.sets.length
    · have b1 : (k : Int) < (TR.sets.length : Int) := by omega
      obtain ⟨b, off, rfl, hx⟩ := HCS.out k hltk
      replace hx := hnw.cell hx
      have hFl := HLT.out k hltk
      have HNK := hid (HSN.out k hltk)
      have HNX := hid (show badF a.nx (nth TR.sets k) = false → ∀ j, j < k + 1 → badF a.nx (nth TR.sets j) = false from fun hq j hj => by
        rcases Nat.lt_succ_iff_lt_or_eq.1 hj with q | q
        · exact hall.out j q
        · subst q; exact hq)
      obtain ⟨F, hF⟩ : ∃ F, F = nth TR.sets k := ⟨_, rfl⟩
      rw [← hF] at hx hFl HNK HNX
      have HC := hid (fun w2 => l02Set_any F w2 (lt_10 hFl hn10))
      have hmem := fun x hx => mem_setOf hFl x hx
      have hbf : badF a.nx F = (decide ((setOf F).length = 2) && !(mw a.nx (nth (setOf F) 0).toNat (nth (setOf F) 1).toNat).2) := rfl
      have hsl : (setOf F).length ≤ 10 := bitsTo_len F 10
      obtain ⟨XS, hXS⟩ : ∃ z, z = setOf F := ⟨_, rfl⟩
      rw [← hXS] at HC hmem hbf hsl
      clear hF hXS
      by_cases hl2 : XS.length = 2
      · obtain ⟨x, y, rfl⟩ : ∃ x y, XS = [x, y] := two_of_len XS hl2
        obtain ⟨g1, g2⟩ := hmem x (by simp)
        obtain ⟨g3, g4⟩ := hmem y (by simp)
        have hbf2 : badF a.nx F = !(mw a.nx x.toNat y.toNat).2 := by rw [hbf]; simp [nth]
        obtain ⟨_, _, e, hlT, hcT⟩ := id HT.out
        injection e with e1 e2 e3
        rw [tabTo_len] at hcT
        obtain ⟨tb, to, rv2, hA, hy, hyr⟩ := hcT x.toNat (by omega)
        rw [← e1] at hA
        subst hA
        rw [nth_tabTo _ _ _ _ (by omega)] at hyr
        obtain ⟨A3, c3, rfl, _, hrc⟩ := hyr
        rw [tabRow_len] at hy hrc
        obtain ⟨rb, ro, rfl, hz⟩ := hrc y.toNat (by omega)
        rw [nth_tabRow _ _ _ _ (by omega)] at hz
        have hneg := mwLen_neg (mw a.nx x.toNat y.toNat)
        obtain ⟨ML, hML⟩ : ∃ z, z = mwLen (mw a.nx x.toNat y.toNat) := ⟨_, rfl⟩
        rw [← hML] at hz hneg
        have hlt1 : (tabTo a.nx n n).length = n := tabTo_len _ _ _
        rw [hlt1]
        replace hy := (hn1.trans hnw).cell hy
        replace hz := (hn1.trans hnw).cell hz
        have g2' : x < (n : Int) := by omega
        have g4' : y < (n : Int) := by omega
        clear hcT hrc e1 e2 e3 hbf hmem hML hl2 hlt1 hlT
        cases hb : (mw a.nx x.toNat y.toNat).2 with
        | false =>
          have hML := hneg.2 hb
          have hbf3 : badF a.nx F = true := by rw [hbf2, hb]; rfl
          have HE := hid (HNK.out hbf3)
          clear hneg hb hbf2 hbf3
          go_wp2_with (go_at_call 191; refine (HC.out _).mono ?_; rintro e w2 ⟨r2, rfl, hn2, ho2⟩; obtain ⟨A2, c2, rfl⟩ := ho2.form; obtain ⟨_, _, e9, _, _, hc9⟩ := id ho2; cases e9; obtain ⟨b5, o5, hA5, k5, _⟩ := hc9 0 (by simp); cases hA5; obtain ⟨b6, o6, hA6, k6, _⟩ := hc9 1 (by simp); cases hA6; clear hc9; replace k5 : w2.cell? ⟨b5, o5, none⟩ = some (.int .i64 x) := k5; replace k6 : w2.cell? ⟨b5, o5 + 1, none⟩ = some (.int .i64 y) := k6; have hy2 := hn2.cell hy; have hz2 := hn2.cell hz)
          go_quiet (fail)
          go_wp2_with fail
          go_ret
          rw [HE.out]
          exact ⟨rfl, ((hn1.trans hnw).trans hn2).trans (by repeat (first | with_reducible exact New.refl _ | with_reducible assumption | with_reducible refine New.alloc ?_ _ | with_reducible refine New.drewN ?_ _ | with_reducible refine New.drew ?_ | with_reducible refine New.trans ?_ (by with_reducible assumption)))⟩
        | true =>
          have hML : ¬ ML < 0 := fun q => by rw [hneg.1 q] at hb; cases hb
          have hbf3 : badF a.nx F = false := by rw [hbf2, hb]; rfl
          have HX2 := hid (HNX.out hbf3)
          clear hneg hb hbf2 hbf3
          go_wp2_with (go_at_call 191; refine (HC.out _).mono ?_; rintro e w2 ⟨r2, rfl, hn2, ho2⟩; obtain ⟨A2, c2, rfl⟩ := ho2.form; obtain ⟨_, _, e9, _, _, hc9⟩ := id ho2; cases e9; obtain ⟨b5, o5, hA5, k5, _⟩ := hc9 0 (by simp); cases hA5; obtain ⟨b6, o6, hA6, k6, _⟩ := hc9 1 (by simp); cases hA6; clear hc9; replace k5 : w2.cell? ⟨b5, o5, none⟩ = some (.int .i64 x) := k5; replace k6 : w2.cell? ⟨b5, o5 + 1, none⟩ = some (.int .i64 y) := k6; have hy2 := hn2.cell hy; have hz2 := hn2.cell hz)
          go_quiet (fail)
          go_wp2_with fail
          exact ⟨⟨k + 1, by omega, by go_num, (hnw.trans hn2).trans (by repeat (first | with_reducible exact New.refl _ | with_reducible assumption | with_reducible refine New.alloc ?_ _ | with_reducible refine New.drewN ?_ _ | with_reducible refine New.drew ?_ | with_reducible refine New.trans ?_ (by with_reducible assumption))), HX2⟩, by simp [intOf]; omega⟩
      · have hb2 : ((XS.length : Int) == 2) = false := by simp; omega
        have hbf2 : badF a.nx F = false := by rw [hbf]; simp [hl2]
        have HX2 := hid (HNX.out hbf2)
        clear hbf hmem hbf2 hl2
        go_wp2_with (go_at_call 191; refine (HC.out _).mono ?_; rintro e w2 ⟨r2, rfl, hn2, ho2⟩; obtain ⟨A2, c2, rfl⟩ := ho2.form)
        go_quiet (fail)
        go_wp2_with fail
        exact ⟨⟨k + 1, by omega, by go_num, (hnw.trans hn2).trans (by repeat (first | with_reducible exact New.refl _ | with_reducible assumption | with_reducible refine New.alloc ?_ _ | with_reducible refine New.drewN ?_ _ | with_reducible refine New.drew ?_ | with_reducible refine New.trans ?_ (by with_reducible assumption))), HX2⟩, by simp [intOf]; omega⟩
    · have e : k = TR.sets.length := by omega
      subst e
      have HE := hid (HSB.out hall.out)
      go_wp2_with fail
      go_ret
      rw [HE.out]
      exact ⟨rfl, hn1.trans hnw⟩
theorem OwnInts.two2 (w : World) (x y : Int) (T : TypeId) : OwnInts w.heap.size (w.alloc (.cells #[.int .i64 x, .int .i64 y] T)).heap.size (w.alloc (.cells #[.int .i64 x, .int .i64 y] T)) (.slice (some ⟨w.heap.size, 0, none⟩) 2 2) [x, y] := by
  refine ⟨_, 2, rfl, by simp, fun a e => by cases e; simp only [size_alloc]; exact ⟨Nat.le_refl _, Nat.lt_succ_self _⟩, fun i hi => ⟨_, _, rfl, ?_, ?_⟩⟩
  · have hi' : i < 2 := hi
    unfold World.cell?
    rw [heap_alloc_new]
    match i, hi' with
    | 0, _ => rfl
    | 1, _ => rfl
  · unfold World.frozen?
    rw [heap_alloc_new]
    simp
set_option maxRecDepth 20000 in
set_option maxHeartbeats 400000 in
theorem l02Stable_any (v : Value) (a : Aut) (w : World) (h : PAut w v a) (ha : autOk a = true) :
    Calls Try.prog 201 #[v] w fun e w' => ∃ r, e = .returned r ∧ New w w' ∧ OwnRows w.heap.size w'.heap.size w' r (stOf a) := by
  have han := autOk_n ha
  have C1 := l02Table_any v a w h ha
  obtain ⟨n, hn⟩ : ∃ n : Nat, a.n = (n : Int) := ⟨a.n.toNat, by omega⟩
  have hn10 : n ≤ 10 := by omega
  have hnt : a.n.toNat = n := by omega
  have HS := hid (fun w1 tv (s t : Nat) (hw : New w w1) (ht : RowsAt w1 tv (tabOf a)) (hs : s < n) (htn : t < n) => l02Steady_any v tv a s t w1 (h.new hw) ht ha (by omega) (by omega))
  have HLEN := hid (fun k => stTo_len a.nx n k)
  obtain ⟨pb, rv, rfl, hp0, hp1, hr⟩ := h
  rw [hn] at hp0
  rw [show stOf a = stTo a.nx n n by unfold stOf; rw [hnt]]
  clear ha han hn hnt hr hp1
  go_enter Try.func201, Try.ntmps201
  go_wp2_with fail
  refine C1.mono ?_
  rintro e w1 ⟨tv, rfl, hn1, hot⟩
  have hta := hot.at
  have HT := hid hta
  obtain ⟨AT, cT, rfl⟩ := hta.form
  have z0 := hn1.cell hp0
  have hG0 : GrowRows w1.heap.size 30 (w1.alloc (.cells #[] 30)) (.slice (some ⟨w1.heap.size, 0, none⟩) 0 0) [] := GrowRows.empty _ _ _ (Nat.le_refl _)
  have hn0 : New w1 (w1.alloc (.cells #[] 30)) := (by repeat (first | with_reducible exact New.refl _ | with_reducible assumption | with_reducible refine New.alloc ?_ _ | with_reducible refine New.drewN ?_ _ | with_reducible refine New.drew ?_ | with_reducible refine New.trans ?_ (by with_reducible assumption)))
  clear C1 hot hta
  go_wp2_with fail
  generalize (w1.alloc (.cells #[] 30)) = w0 at hG0 hn0 ⊢
  go_loopw [4, 5] (fun ov i wr => ∃ k : Nat, k ≤ n ∧ i = .int .i64 k ∧ New w1 wr ∧ GrowRows w1.heap.size 30 wr ov (stTo a.nx n k)) (fun _ i _ => n - (intOf i).toNat)
  case atStart => exact ⟨0, Nat.zero_le _, rfl, hn0, by simpa [stTo] using hG0⟩
  case round =>
    obtain ⟨k, hk, rfl, hnw, hGw⟩ := hrel
    clear hn0 hG0
    obtain ⟨wo, rfl⟩ : ∃ wo : World, wo = wr := ⟨_, rfl⟩
    have x0 := hnw.cell z0
    have hzo := hnw.size
    by_cases hlt : k < n
    · have b1 : (k : Int) < (n : Int) := by omega
      have HSU := hid (stTo_succ a.nx n k)
      have HRS := hid (stRow_start a.nx k)
      have hl1 := HLEN.out k
      have hYs : (stTo a.nx n k).length ≤ 100 := by
        have : k * n ≤ 10 * 10 := Nat.mul_le_mul (by omega) hn10
        omega
      obtain ⟨YS, hYS⟩ : ∃ z, z = stTo a.nx n k := ⟨_, rfl⟩
      rw [← hYS] at HSU hGw hYs
      clear hYS hl1
      go_wp2_with fail
      go_loopw [4, 6] (fun ov i wr => ∃ t : Nat, k + 1 ≤ t ∧ t ≤ n ∧ i = .int .i64 t ∧ New w1 wr ∧ GrowRows w1.heap.size 30 wr ov (YS ++ stRow a.nx k t)) (fun _ i _ => n - (intOf i).toNat)
      case atStart => exact ⟨k + 1, Nat.le_refl _, hlt, by go_num, hnw, by rw [HRS.out]; simpa using hGw⟩
      case round =>
        obtain ⟨t, hkt, ht, rfl, hni, hGi⟩ := hrel
        clear hGw x0
        obtain ⟨wi, rfl⟩ : ∃ wi : World, wi = wr := ⟨_, rfl⟩
        have y0 := hni.cell z0
        have hzi := hni.size
        have hrl := stRow_len a.nx k t
        obtain ⟨ZS, hZS⟩ : ∃ z, z = YS ++ stRow a.nx k t := ⟨_, rfl⟩
        have hZl : ZS.length ≤ 110 := by rw [hZS, List.length_append]; omega
        have HZS := hid hZS
        rw [← hZS] at hGi
        clear hZS hrl
        obtain ⟨AO, cO, rfl⟩ := hGi.form
        by_cases hlt2 : t < n
        · have b2 : (t : Int) < (n : Int) := by omega
          have C := HS.out wi _ k t (hn1.trans hni) (HT.out.new hni) hlt hlt2
          cases hb : steadyB a.nx k t with
          | true =>
            have HE := hid (stRow_yes (nx := a.nx) (s := k) (k := t) (by omega) hb)
            rw [hb] at C
            clear hb
            have HGI := hid hGi
            have hXl : ZS.length < 1099511627776 := by omega
            clear hGi
            go_wp2_with (first
              | (go_at_call 238; refine C.mono ?_; rintro e w2 ⟨rfl, hn2⟩; have hz2 := hn2.size)
              | (at_builtin; refine wpList_appRows (w0 := w2) (w1 := w2.alloc (.cells #[.int .i64 k, .int .i64 t] 2)) rfl _ _ _ rfl Try.underlying24 info_ints (.slice AO ZS.length cO) ZS [(k : Int), (t : Int)] rfl (HGI.out.new hn2) (by repeat (first | with_reducible exact New.refl _ | with_reducible assumption | with_reducible refine New.alloc ?_ _ | with_reducible refine New.drewN ?_ _ | with_reducible refine New.drew ?_ | with_reducible refine New.trans ?_ (by with_reducible assumption))) (OwnInts.two2 w2 k t 2) (by simp only [size_alloc]; rfl) hXl (by omega) ?_; intro g9 cap9 w9 ho9 hg9))
            have hn9 : New w1 w9 := ((hni.trans hn2).trans (show New w2 (w2.alloc (.cells #[.int .i64 k, .int .i64 t] 2)) from (by repeat (first | with_reducible exact New.refl _ | with_reducible assumption | with_reducible refine New.alloc ?_ _ | with_reducible refine New.drewN ?_ _ | with_reducible refine New.drew ?_ | with_reducible refine New.trans ?_ (by with_reducible assumption))))).grown hg9 (fun q hq => (HGI.out.block q hq).1)
            exact ⟨⟨t + 1, by omega, by omega, by go_num, hn9, by rw [HE.out, ← List.append_assoc, ← HZS.out]; exact ho9⟩, by simp [intOf]; omega⟩
          | false =>
            have HE := hid (stRow_no (nx := a.nx) (s := k) (k := t) hb)
            rw [hb] at C
            clear hb
            go_wp2_with (go_at_call 238; refine C.mono ?_; rintro e w2 ⟨rfl, hn2⟩)
            exact ⟨⟨t + 1, by omega, by omega, by go_num, hni.trans hn2, by rw [HE.out, ← HZS.out]; exact hGi.new hn2⟩, by simp [intOf]; omega⟩
        · have e : t = n := by omega
          subst e
          go_wp2_with fail
          exact ⟨⟨k + 1, by omega, by go_num, hni, by rw [HSU.out, ← HZS.out]; exact hGi⟩, by simp [intOf]; omega⟩
    · have e : k = n := by omega
      subst e
      have hO := hGw.own (by have := HLEN.out k; have : k * k ≤ 10 * 10 := Nat.mul_le_mul hn10 hn10; omega)
      go_wp2_with fail
      go_ret
      exact ⟨_, rfl, hn1.trans hnw, hO.widen hn1.size (Nat.le_refl _)⟩

end Go.Proofs.Ytieonifckmokkaa
