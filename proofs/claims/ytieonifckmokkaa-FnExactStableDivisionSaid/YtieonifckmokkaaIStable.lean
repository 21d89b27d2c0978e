/- The program's stable pairs. -/
import Derived.Test.YtieonifckmokkaaRows
import Derived.Test.YtieonifckmokkaaCore
import Derived.Test.YtieonifckmokkaaInfos
import Derived.Test.YtieonifckmokkaaPlains
import Derived.Test.YtieonifckmokkaaPlainDiv
import Derived.Test.YtieonifckmokkaaPers
import Derived.Test.YtieonifckmokkaaPlainCong
import Derived.Test.YtieonifckmokkaaPlainCnt
import Derived.Test.YtieonifckmokkaaMaps
import Derived.Test.YtieonifckmokkaaArrs
import Derived.Test.YtieonifckmokkaaPlainMerges
import Derived.Test.YtieonifckmokkaaPlainStab
import Derived.Test.YtieonifckmokkaaIFlk
import Derived.Test.YtieonifckmokkaaITour
import Derived.Test.YtieonifckmokkaaIFirst
import Derived.Test.YtieonifckmokkaaIMerge
import Derived.Test.YtieonifckmokkaaIMerges
import Derived.Test.YtieonifckmokkaaSStable
import Derived.WalkKit
import Derived.WalkSpells
import Derived.WalkLawsBesides
import Derived.Deep.QuietTactic
import Derived.Deep.OwnRows
import Derived.BigQuiet
import Derived.KernelRfl
import Derived.Carry
import Derived.Deep.RegionHeld3
import Derived.Laws.EntriesVeiled
namespace Go.Proofs.Ytieonifckmokkaa
open Go.RowKit

theorem setOf_two : ∀ f : Fin 1024, (setOf f.val).length = 2 → nth (setOf f.val) 0 ≠ nth (setOf f.val) 1 := by decide +kernel
theorem idxOf_neg (p : Nat → Bool) (xs : List Nat) : idxOf p xs < 0 ↔ ∀ x, x ∈ xs → p x = false := by
  unfold idxOf
  cases h : xs.findIdx? p with
  | none =>
    rw [List.findIdx?_eq_none_iff] at h
    simp only [true_iff]
    exact ⟨fun _ => h, fun _ => by decide⟩
  | some i =>
    rw [List.findIdx?_eq_some_iff_getElem] at h
    obtain ⟨hi, h1, _⟩ := h
    constructor
    · intro q; simp at q; omega
    · intro q; rw [q _ (List.getElem_mem hi)] at h1; cases h1
set_option maxRecDepth 20000 in
set_option maxHeartbeats 400000 in
theorem stable11_any (a : Aut) (F mb : Nat) (tv : Value) (w : World) (ha : autOk a = true) (hF : F < 2 ^ a.n.toNat) (hm : w.cell? ⟨mb, 0, none⟩ = some tv) (ht : ListAt (ListAt WordAt) w tv (mwTab a)) :
    Calls Try.prog 206 #[.int .u64 F, .pointer (some ⟨mb, 0, none⟩)] w fun e w' => e = .returned (.bool (badF a.nx F)) ∧ New w w' := by
  have he := fun (w : World) (a : Option Addr) (n c : Nat) => Lib.run_eql_slice_nil (P := Try.prog) w 30 2 a n c 0 0 Try.underlying30
  have han := autOk_n ha
  obtain ⟨n, hn⟩ : ∃ n : Nat, a.n.toNat = n := ⟨_, rfl⟩
  have hn10 : n ≤ 10 := by omega
  have HTAB := hid (show mwTab a = mwTo a.nx n n by unfold mwTab; rw [hn])
  rw [HTAB.out] at ht
  rw [hn] at hF
  have C1 := set_any F w (lt_10 hF hn10)
  have hmem := fun x hx => mem_setOf hF x hx
  have hbf : badF a.nx F = (decide ((setOf F).length = 2) && !(mw a.nx (nth (setOf F) 0).toNat (nth (setOf F) 1).toNat).2) := rfl
  have hsl : (setOf F).length ≤ 10 := bitsTo_len F 10
  have HPOS := hid (fun (s t : Nat) (hs : s < n) (ht : t < n) (hne : s ≠ t) (hb : (mw a.nx s t).2 = true) => mw_pos ha (s := s) (t := t) (by omega) (by omega) hne hb)
  have HSRT := hid (show ∀ x y, setOf F = [x, y] → x ≠ y from fun x y he => by
    have h9 := setOf_two ⟨F, lt_10 hF hn10⟩
    simp only [he] at h9
    exact h9 rfl)
  obtain ⟨XS, hXS⟩ : ∃ z, z = setOf F := ⟨_, rfl⟩
  rw [← hXS] at C1 hmem hbf hsl HSRT
  obtain ⟨AT, cT, rfl, hlT, hcT⟩ := ht
  rw [mwTo_len] at hlT hcT hm
  obtain ⟨BF, hBF⟩ : ∃ z, z = badF a.nx F := ⟨_, rfl⟩
  rw [← hBF] at hbf ⊢
  clear hXS ha han hBF
  by_cases hl2 : XS.length = 2
  · obtain ⟨x, y, rfl⟩ := two_of_len XS hl2
    obtain ⟨g1, g2⟩ := hmem x (by simp)
    obtain ⟨g3, g4⟩ := hmem y (by simp)
    have hne := HSRT.out x y rfl
    have hbf2 : BF = !(mw a.nx x.toNat y.toNat).2 := by rw [hbf]; simp [nth]
    obtain ⟨tb, to, rv2, hA, hy, hyr⟩ := hcT x.toNat (by omega)
    subst hA
    rw [nth_mwTo _ _ _ _ (by omega)] at hyr
    obtain ⟨A3, c3, rfl, _, hrc⟩ := hyr
    rw [mwRow_len] at hy hrc
    obtain ⟨rb, ro, wv, hA4, hz, hwa⟩ := hrc y.toNat (by omega)
    subst hA4
    rw [nth_mwRow _ _ _ _ (by omega)] at hwa
    have hp := HPOS.out x.toNat y.toNat (by omega) (by omega) (by omega)
    obtain ⟨MW, hMW⟩ : ∃ z, z = mw a.nx x.toNat y.toNat := ⟨_, rfl⟩
    rw [← hMW] at hbf2 hp hwa
    obtain ⟨hwi, hwn⟩ := hwa
    obtain ⟨AW, cW, rfl⟩ := hwi.form
    have g2' : x < (n : Int) := by omega
    have g4' : y < (n : Int) := by omega
    clear hcT hrc hbf hmem hMW hl2 hlT HSRT HPOS
    cases hb : MW.2 with
    | false =>
      have hW := hwn hb
      have hBF : BF = true := by rw [hbf2, hb]; rfl
      subst hBF
      rw [hW] at hz
      clear hb hbf2 hwn hp hW hwi
      go_enter Try.func206, Try.ntmps206
      go_wp2_with (go_at_call 90; refine C1.mono ?_; rintro e w2 ⟨r2, rfl, hn2, ho2⟩; obtain ⟨A2, c2, rfl⟩ := ho2.form; obtain ⟨_, _, e8, _, _, hc8⟩ := id ho2; cases e8; obtain ⟨b5, o5, hA5, k5, _⟩ := hc8 0 (by simp); cases hA5; obtain ⟨b6, o6, hA6, k6, _⟩ := hc8 1 (by simp); cases hA6; clear hc8; replace k5 : w2.cell? ⟨b5, o5, none⟩ = some (.int .i64 x) := k5; replace k6 : w2.cell? ⟨b5, o5 + 1, none⟩ = some (.int .i64 y) := k6; have hy2 := hn2.cell hy; have hz2 := hn2.cell hz; have hm2 := hn2.cell hm)
      go_quiet (fail)
      go_wp2_with fail
      go_ret
      exact ⟨rfl, hn2.trans (by repeat (first | with_reducible exact New.refl _ | with_reducible assumption | with_reducible refine New.alloc ?_ _ | with_reducible refine New.drewN ?_ _ | with_reducible refine New.drew ?_ | with_reducible refine New.trans ?_ (by with_reducible assumption)))⟩
    | true =>
      have hpos := hp hb
      have hBF : BF = false := by rw [hbf2, hb]; rfl
      obtain ⟨_, _, e9, _, hc9⟩ := id hwi
      obtain ⟨b9, o9, hA9, _⟩ := hc9 0 (by omega)
      injection e9 with e9
      rw [← e9] at hA9
      subst hA9
      subst hBF
      clear hb hbf2 hwn hp hwi hc9 e9
      go_enter Try.func206, Try.ntmps206
      go_wp2_with (go_at_call 90; refine C1.mono ?_; rintro e w2 ⟨r2, rfl, hn2, ho2⟩; obtain ⟨A2, c2, rfl⟩ := ho2.form; obtain ⟨_, _, e8, _, _, hc8⟩ := id ho2; cases e8; obtain ⟨b5, o5, hA5, k5, _⟩ := hc8 0 (by simp); cases hA5; obtain ⟨b6, o6, hA6, k6, _⟩ := hc8 1 (by simp); cases hA6; clear hc8; replace k5 : w2.cell? ⟨b5, o5, none⟩ = some (.int .i64 x) := k5; replace k6 : w2.cell? ⟨b5, o5 + 1, none⟩ = some (.int .i64 y) := k6; have hy2 := hn2.cell hy; have hz2 := hn2.cell hz; have hm2 := hn2.cell hm)
      go_quiet (fail)
      go_wp2_with fail
      go_ret
      exact ⟨rfl, hn2.trans (by repeat (first | with_reducible exact New.refl _ | with_reducible assumption | with_reducible refine New.alloc ?_ _ | with_reducible refine New.drewN ?_ _ | with_reducible refine New.drew ?_ | with_reducible refine New.trans ?_ (by with_reducible assumption)))⟩
  · have hb2 : ((XS.length : Int) == 2) = false := by simp; omega
    have hbf2 : BF = false := by rw [hbf]; simp [hl2]
    subst hbf2
    clear hbf hmem hl2 hcT
    go_enter Try.func206, Try.ntmps206
    go_wp2_with (go_at_call 90; refine C1.mono ?_; rintro e w2 ⟨r2, rfl, hn2, ho2⟩; obtain ⟨A2, c2, rfl⟩ := ho2.form)
    go_quiet (fail)
    go_wp2_with fail
    go_ret
    exact ⟨rfl, hn2.trans (by repeat (first | with_reducible exact New.refl _ | with_reducible assumption | with_reducible refine New.alloc ?_ _ | with_reducible refine New.drewN ?_ _ | with_reducible refine New.drew ?_ | with_reducible refine New.trans ?_ (by with_reducible assumption)))⟩
theorem tourL_any (v1 : Value) (a : Aut) (f : Nat) (w : World) (h1 : AutAt w v1 a) (ha : autOk a = true) (hf : f < 2 ^ a.n.toNat) :
    Calls Try.prog 76 #[v1, .int .u64 f] w fun e w' => ∃ Al cl mb, e = .returned (.agg #[.slice Al (tourOf a.nx f).sets.length cl, .map (some mb)]) ∧ New w w' ∧ NatsAt .u64 w' (.slice Al (tourOf a.nx f).sets.length cl) (tourOf a.nx f).sets :=
  (tourAt_any v1 a f w h1 ha hf).mono fun _e _w' ⟨lv, mb, he, hn, lv2, mb2, B2, e7, _, hT⟩ => by
    have hlen := (tourOk ha f hf).len (autOk_n ha).2
    have e8 : lv = lv2 := by injection e7 with e7; simpa using (by simpa using e7 : lv = lv2 ∧ _).1
    subst e8
    have hN := hT.nats (by omega)
    obtain ⟨Al, cl, rfl⟩ := hT.form
    exact ⟨Al, cl, mb, he, hn, hN⟩
set_option maxHeartbeats 400000 in
theorem ContainsFuncFlock_any (v : Value) (xs : List Nat) (k : Nat) (cap : Array Value) (p : Nat → Bool) (q : Bool) (w : World) (h : NatsAt .u64 w v xs)
    (hent : ∀ args w, Sem.run Try.prog (callFunc k args) w = .ok (.enter k args) w)
    (hf : ∀ w', New w w' → ∀ i, i < xs.length → Calls Try.prog k (#[.int .u64 (nth xs i : Nat)] ++ cap) w' fun e w'' => e = .returned (.bool (p (nth xs i))) ∧ New w' w'') (hq : q = true ↔ ¬ idxOf p xs < 0) :
    Calls Try.prog 205 #[v, .func (.func k) #[] cap] w fun e w' => e = .returned (.bool q) ∧ New w w' := by
  have C := IndexFuncFlock_any v xs k cap p w h hent hf
  obtain ⟨A, c, rfl, _, _⟩ := h
  obtain ⟨I, hI⟩ : ∃ I, I = idxOf p xs := ⟨_, rfl⟩
  rw [← hI] at C hq
  clear hI
  cases q with
  | true =>
    have h1 : (0 : Int) ≤ I := by have := hq.1 rfl; omega
    clear hq
    go_enter Try.func205, Try.ntmps205
    go_wp2_with fail
    refine C.mono ?_
    rintro e w1 ⟨rfl, hn1⟩
    go_wp2_with fail
    go_ret
    exact ⟨by first | rfl | (refine ret_bool ?_; simp; omega), hn1⟩
  | false =>
    have h1 : ¬ (0 : Int) ≤ I := by
      rcases Int.lt_or_le I 0 with z | z
      · omega
      · have := hq.2 (by omega); cases this
    clear hq
    go_enter Try.func205, Try.ntmps205
    go_wp2_with fail
    refine C.mono ?_
    rintro e w1 ⟨rfl, hn1⟩
    go_wp2_with fail
    go_ret
    exact ⟨by first | rfl | (refine ret_bool ?_; simp; omega), hn1⟩
set_option maxRecDepth 20000 in
set_option maxHeartbeats 400000 in
theorem stable1_any (a : Aut) (s t ab mb : Nat) (A : Option Addr) (c : Nat) (tv : Value) (w : World) (ha : autOk a = true) (hs : s < a.n.toNat) (ht : t < a.n.toNat)
    (h0 : w.cell? ⟨ab, 0, none⟩ = some (.int .i64 a.n)) (h1 : w.cell? ⟨ab, 1, none⟩ = some (.slice A a.nx.length c)) (hr : RowsAt w (.slice A a.nx.length c) a.nx) (hm : w.cell? ⟨mb, 0, none⟩ = some tv) (hT : ∀ w1, New w w1 → ListAt (ListAt WordAt) w1 tv (mwTab a)) :
    Calls Try.prog 204 #[.int .i64 s, .int .i64 t, .pointer (some ⟨ab, 0, none⟩), .pointer (some ⟨mb, 0, none⟩)] w fun e w' => e = .returned (.bool (steadyB a.nx s t)) ∧ New w w' := by
  have han := autOk_n ha
  have hlt := pair_lt3 (a := a) (s : Int) (t : Int) ⟨by omega, by omega⟩ ⟨by omega, by omega⟩
  have haa : AutAt w (.agg #[.int .i64 a.n, .slice A a.nx.length c]) a := ⟨_, rfl, hr⟩
  have HT := hid (fun w1 (hw : New w w1) => tourL_any _ a (pairOf s t) w1 (haa.new hw) ha hlt)
  have hok := tourOk ha (pairOf s t) hlt
  have hlen := hok.len han.2
  have HTL := hid hT
  have HC := hid (fun w1 lv (hw : New w w1) (hl : NatsAt .u64 w1 lv (tourOf a.nx (pairOf s t)).sets) => ContainsFuncFlock_any lv _ 206 #[.pointer (some ⟨mb, 0, none⟩)] (badF a.nx) (!steadyB a.nx s t) w1 hl (enters Try.func206 (by decide) (by simp [Try.f206]))
    (fun w2 hn2 i hi => stable11_any a _ mb tv w2 ha (hok.lt _ (nth_mem _ _ hi)) ((hw.trans hn2).cell hm) (HTL.out w2 (hw.trans hn2))) (by
      rw [idxOf_neg]
      unfold steadyB
      rw [Bool.not_eq_true', ← Bool.not_eq_true, List.all_eq_true]
      constructor
      · intro h q; exact h (fun x hx => by rw [q x hx]; rfl)
      · intro h q; exact h (fun x hx => by have := q x hx; simpa using this)))
  have hbits := pair_u64 s t (by omega) (by omega)
  rw [show (2 ^ s ||| 2 ^ t) = pairOf (s : Int) (t : Int) from rfl] at hbits
  obtain ⟨SB, hSB⟩ : ∃ z, z = steadyB a.nx s t := ⟨_, rfl⟩
  rw [← hSB] at HC ⊢
  obtain ⟨TR, hTR⟩ : ∃ z, z = tourOf a.nx (pairOf (s : Int) (t : Int)) := ⟨_, rfl⟩
  rw [← hTR] at HC HT hlen
  obtain ⟨P, hP⟩ : ∃ z, z = pairOf (s : Int) (t : Int) := ⟨_, rfl⟩
  rw [← hP] at hbits HT
  have hsI : (s : Int) < 10 := by omega
  have htI : (t : Int) < 10 := by omega
  have hs0 : (0 : Int) ≤ (s : Int) := by omega
  have ht0 : (0 : Int) ≤ (t : Int) := by omega
  have hfd := fun (Al : Option Addr) (cl mb : Nat) (w : World) => (show (Instr.field 102 (.agg #[.slice Al TR.sets.length cl, .map (some mb)]) 0).run Try.prog w = .ok (.slice Al TR.sets.length cl) w by kernel_rfl)
  clear hSB hTR hP hok hT han ha hlt haa
  go_enter Try.func204, Try.ntmps204
  go_wp2_with fail
  go_region_held3 (fun w' => w'.cell? ⟨ab, 0, none⟩ = some (.int .i64 a.n) ∧ w'.cell? ⟨ab, 1, none⟩ = some (.slice A a.nx.length c))
    (first | go_keep | exact ⟨h0, h1⟩ | exact ⟨hq1.cell h0, hq1.cell h1⟩ | exact ⟨hq2.cell h0, hq2.cell h1⟩)
    (first
      | (go_at_call 76; refine (HT.out _ (by repeat (first | with_reducible exact New.refl _ | with_reducible assumption | with_reducible refine New.alloc ?_ _ | with_reducible refine New.drewN ?_ _ | with_reducible refine New.drew ?_ | with_reducible refine New.trans ?_ (by with_reducible assumption)))).mono ?_; rintro e w1 ⟨Al, cl, mq, rfl, hr1, hNL⟩; have hq1 : New w w1 := New.trans (by repeat (first | with_reducible exact New.refl _ | with_reducible assumption | with_reducible refine New.alloc ?_ _ | with_reducible refine New.drewN ?_ _ | with_reducible refine New.drew ?_ | with_reducible refine New.trans ?_ (by with_reducible assumption))) hr1)
      | (go_at_call 205; refine (HC.out _ _ hq1 hNL).mono ?_; rintro e w2 ⟨rfl, hr2⟩; have hq2 : New w w2 := hq1.trans hr2))
  all_goals go_wp2
  all_goals go_ret
  all_goals exact ⟨rfl, hq2⟩

end Go.Proofs.Ytieonifckmokkaa
