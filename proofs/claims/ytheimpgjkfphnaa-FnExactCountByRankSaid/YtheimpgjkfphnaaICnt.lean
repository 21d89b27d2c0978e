/- The program's counts of words. -/
import Derived.Test.YtheimpgjkfphnaaRows
import Derived.Test.YtheimpgjkfphnaaBase
import Derived.Test.YtheimpgjkfphnaaAut
import Derived.Test.YtheimpgjkfphnaaApp
import Derived.Test.YtheimpgjkfphnaaAppRows
import Derived.Test.YtheimpgjkfphnaaInfo
import Derived.Test.YtheimpgjkfphnaaPlain1
import Derived.Test.YtheimpgjkfphnaaPlainRun
import Derived.Test.YtheimpgjkfphnaaPlainSet
import Derived.Test.YtheimpgjkfphnaaPlainBits
import Derived.Test.YtheimpgjkfphnaaPlainTour
import Derived.Test.YtheimpgjkfphnaaPlainFirst
import Derived.Test.YtheimpgjkfphnaaPlainRen
import Derived.Test.YtheimpgjkfphnaaPlainCnt
import Derived.Test.YtheimpgjkfphnaaMapV
import Derived.Test.YtheimpgjkfphnaaMapR
import Derived.Test.YtheimpgjkfphnaaTourV
import Derived.Test.YtheimpgjkfphnaaOwnC
import Derived.Test.YtheimpgjkfphnaaI01a
import Derived.Test.YtheimpgjkfphnaaI01b
import Derived.Test.YtheimpgjkfphnaaI01c
import Derived.Test.YtheimpgjkfphnaaIIdx
import Derived.Test.YtheimpgjkfphnaaIFlk
import Derived.Test.YtheimpgjkfphnaaITour
import Derived.Test.YtheimpgjkfphnaaIRen
import Derived.Test.YtheimpgjkfphnaaIFirst
import Derived.Test.YtheimpgjkfphnaaINum
import Derived.WalkKit
import Derived.WalkSpells
import Derived.WalkLawsBesides
import Derived.Deep.QuietTactic
import Derived.Deep.OwnRows
import Derived.BigQuiet
import Derived.KernelRfl
import Derived.Carry
import Derived.Maps.RangeWalk
namespace Go.Proofs.Ytheimpgjkfphnaa
open Go.RowKit

/-- A map of the numbers of words: what is not there is nought. -/
def CMap (w : World) (b : Nat) (S : List Nat) (N : Nat) (val : Nat → Int) : Prop :=
  ∃ s F, s ≤ N ∧ MapAt Try.prog 102 w b s F ∧ (∀ (x : Int) v, F (.int .u64 x) = some v → ∃ G : Nat, x = G ∧ G ∈ S ∧ v = .int .i64 (w64 (val G))) ∧ ∀ G : Nat, F (.int .u64 (G : Nat)) = none → val G = 0
theorem CMap.new {w w' : World} {b N : Nat} {S : List Nat} {val : Nat → Int} (h : CMap w b S N val) (hn : New w w') : CMap w' b S N val :=
  let ⟨s, F, h1, h2, h3, h4⟩ := h; ⟨s, F, h1, h2.new hn, h3, h4⟩
theorem CMap.grown {w w' : World} {b N : Nat} {S : List Nat} {val : Nat → Int} {r : Option Nat} (h : CMap w b S N val) (hg : w.grownBy w' r) (hr : some b ≠ r) : CMap w' b S N val :=
  let ⟨s, F, h1, h2, h3, h4⟩ := h; ⟨s, F, h1, h2.kept hg hr, h3, h4⟩
theorem CMap.congr {w : World} {b N N' : Nat} {S : List Nat} {val val' : Nat → Int} (h : CMap w b S N val) (hN : N ≤ N') (hv : ∀ G, val' G = val G) : CMap w b S N' val' := by
  obtain ⟨s, F, h1, h2, h3, h4⟩ := h
  refine ⟨s, F, by omega, h2, fun x v hx => ?_, fun G hG => by rw [hv]; exact h4 G hG⟩
  obtain ⟨G, e1, e2, e3⟩ := h3 x v hx
  exact ⟨G, e1, e2, by rw [hv]; exact e3⟩
theorem CMap.lt {w : World} {b N : Nat} {S : List Nat} {val : Nat → Int} (h : CMap w b S N val) : b < w.heap.size := let ⟨_, _, _, h2, _⟩ := h; h2.lt
theorem lit_u64 {x y : Int} : (Lit.int .u64 x = Lit.int .u64 y) ↔ x = y := by constructor <;> intro h <;> first | (injection h) | (rw [h])
/-- One more word for a set. -/
theorem CMap.add {w : World} {b N : Nat} {S : List Nat} {val : Nat → Int} (h : CMap w b S N val) (hN : N < 9223372036854775807) (hS : ∀ x, x ∈ S → x < 1024) (G : Nat) (hG : G ∈ S) (c : Int) :
    ∃ z w', (Instr.lookup 99 (.map (some b)) (.int .u64 (G : Nat)) false).run Try.prog w = .ok (.int .i64 z) w ∧ z = w64 (val G) ∧
      (Instr.mapUpdate 99 (.map (some b)) (.int .u64 (G : Nat)) (.int .i64 (Go.RowKit.wrap64 (z + w64 c)))).run Try.prog w = .ok () w' ∧ w.grownBy w' (some b) ∧ CMap w' b S (N + 1) (fun H => if H = G then val G + c else val H) := by
  obtain ⟨s, F, h1, h2, h3, h4⟩ := h
  have hkey := key_flock G (hS G hG)
  have hlk := (h2.look law_flock Try.underlying99 (zero_i64 w) hkey).1
  have hz : ∃ z, (F (.int .u64 (G : Nat))).getD (.int .i64 0) = .int .i64 z ∧ z = w64 (val G) := by
    cases e : F (.int .u64 (G : Nat)) with
    | none => exact ⟨0, rfl, by rw [h4 G e, w64_zero]⟩
    | some v =>
      obtain ⟨G', e1, _, e2⟩ := h3 _ v e
      have : G = G' := by exact_mod_cast e1
      subst this
      exact ⟨_, by rw [e2]; rfl, rfl⟩
  obtain ⟨z, hz1, hz2⟩ := hz
  rw [hz1] at hlk
  obtain ⟨w', hrun, hm, hg⟩ := h2.put_spec (val := .int .i64 (Go.RowKit.wrap64 (z + w64 c))) law_flock Try.underlying99 (by unfold maxLen; omega) hkey
  refine ⟨z, w', hlk, hz2, hrun, hg, _, _, ?_, hm, ?_, ?_⟩
  · split <;> omega
  · intro x v hx
    unfold putF at hx
    by_cases e : Lit.int .u64 x = .int .u64 (G : Nat)
    · rw [if_pos e] at hx
      rw [lit_u64] at e
      cases hx
      exact ⟨G, e, hG, by show Value.int .i64 (Go.RowKit.wrap64 (z + w64 c)) = .int .i64 (w64 (if G = G then val G + c else val G)); rw [if_pos rfl, hz2, w64_add]⟩
    · rw [if_neg e] at hx
      obtain ⟨G', e1, e2, e3⟩ := h3 x v hx
      refine ⟨G', e1, e2, ?_⟩
      show v = .int .i64 (w64 (if G' = G then val G + c else val G'))
      rw [if_neg (fun e4 => e (by rw [e1, e4])), e3]
  · intro H hH
    unfold putF at hH
    by_cases e : H = G
    · subst e; rw [if_pos rfl] at hH; cases hH
    · have e' : Lit.int .u64 (H : Nat) ≠ .int .u64 (G : Nat) := fun e2 => e (by rw [lit_u64] at e2; exact_mod_cast e2)
      rw [if_neg e'] at hH
      show (if H = G then val G + c else val H) = 0
      rw [if_neg e]; exact h4 H hH
/-- Which sets a loop over a map has met. -/
def metB (F : Lit → Option Value) (left : Lit → Bool) (G : Nat) : Bool := (F (.int .u64 (G : Nat))).isSome && !left (.int .u64 (G : Nat))
theorem metB_step (F : Lit → Option Value) (left : Lit → Bool) (x : Nat) (hF : (F (.int .u64 (x : Nat))).isSome = true) :
    metB F (fun z => left z && !z.sameKey (.int .u64 (x : Nat))) = fun G => metB F left G || G == x := by
  funext G
  unfold metB
  have e : (Lit.int .u64 (G : Nat)).sameKey (.int .u64 (x : Nat)) = (G == x) := by
    simp only [Lit.sameKey, true_and]
    rw [Bool.eq_iff_iff]
    simp
    omega
  show ((F (.int .u64 (G : Nat))).isSome && !(left (.int .u64 (G : Nat)) && !(Lit.int .u64 (G : Nat)).sameKey (.int .u64 (x : Nat)))) = _
  rw [e]
  by_cases h : G = x
  · subst h; simp [hF]
  · have : (G == x) = false := by simpa using h
    rw [this]; simp
set_option maxRecDepth 20000 in
set_option maxHeartbeats 4000000 in
theorem counts_any (v1 : Value) (a : Aut) (len : Nat) (w : World) (h1 : AutAt w v1 a) (ha : autOk a = true) (hlen : len ≤ 20) :
    Calls Try.prog 77 #[v1, .int .i64 len] w fun e w' => ∃ b, e = .returned (.map (some b)) ∧ New w w' ∧ w.heap.size ≤ b ∧ CMap w' b (tourOf a.nx (full a.n)).sets (3 ^ len) (cnt a.nx (tourOf a.nx (full a.n)).sets (full a.n) len) := by
  obtain ⟨rv, rfl, hr⟩ := h1
  obtain ⟨A2, c2, rfl⟩ := hr.form
  have h1 : AutAt w (.agg #[.int .i64 a.n, .slice A2 a.nx.length c2]) a := ⟨_, rfl, hr⟩
  have hmm := @run_makeMap Try.prog
  have hal := autOk_l ha
  have han := autOk_n ha
  have hokT := tourOk ha (full a.n) (full_lt a.n)
  have HND := hid hokT.nodup
  have HS10 := hid (show ∀ x, x ∈ (tourOf a.nx (full a.n)).sets → x < 1024 from fun x hx => lt_10 (hokT.lt x hx) (by omega))
  have HLT := hid (show ∀ x, x ∈ (tourOf a.nx (full a.n)).sets → x < 2 ^ a.n.toNat from hokT.lt)
  have HCL := hid (show ∀ F, F ∈ (tourOf a.nx (full a.n)).sets → ∀ l, l < a.nx.length → moved (nth a.nx l) F ∈ (tourOf a.nx (full a.n)).sets from fun F hF l hl => tour_closed ha _ (full_lt a.n) F hF l hl)
  have HFM := hid (show full a.n ∈ (tourOf a.nx (full a.n)).sets from by have := nth_mem _ _ hokT.pos; rwa [tour_first] at this)
  obtain ⟨S, hS⟩ : ∃ S, S = (tourOf a.nx (full a.n)).sets := ⟨_, rfl⟩
  rw [← hS] at HND HS10 HLT HCL HFM ⊢
  have HC1 := hid (fun w1 (hm : New w w1) => all_any _ a w1 (h1.new hm) ha)
  have HC2 := hid (fun v w1 (h : IntsAt w1 v (iota 0 a.n.toNat)) => flockOf_any v _ w1 h (sIota a ha))
  rw [full_iota a.n (by omega)] at HC2
  obtain ⟨f, hf⟩ : ∃ f, f = full a.n := ⟨_, rfl⟩
  rw [← hf] at HC2 HFM ⊢
  have HA := hid ha
  have HCS := hid (fun (F l : Nat) w1 (hm : New w w1) (hF : F ∈ S) (hl : l < a.nx.length) => step_any (.agg #[.int .i64 a.n, .slice A2 a.nx.length c2]) a F (l : Int) w1 (h1.new hm) HA.out ⟨by omega, by omega⟩ (HLT.out F hF))
  have hP3 := Nat.pow_le_pow_right (n := 3) (by decide) hlen
  clear ha hokT hS hf
  go_enter Try.func77, Try.ntmps77
  go_wp2_with fail
  refine (HC1.out _ (by repeat (first | with_reducible exact New.refl _ | with_reducible assumption | with_reducible refine New.alloc ?_ _ | with_reducible refine New.drewN ?_ _ | with_reducible refine New.drew ?_ | with_reducible refine New.trans ?_ (by with_reducible assumption)))).mono ?_
  rintro e w2 ⟨r2, he, hn2, ho2⟩
  obtain ⟨Ar, cr, rfl⟩ := ho2.form
  subst he
  have hs2 := hn2.size
  simp only [size_alloc] at hs2
  have hM0 : MapAt Try.prog 102 w2 (w.heap.size + 1) 0 (fun _ => none) := by
    have := (MapAt.made Try.prog 102 (w.alloc (.cells #[.int .i64 a.n, .slice A2 a.nx.length c2] 26))).new hn2
    simpa only [size_alloc] using this
  have hb2 : Box2 w2 w.heap.size (.int .i64 a.n) (.slice A2 a.nx.length c2) := Box2.new ⟨by go_simp, by go_simp, by go_simp, by go_simp⟩ hn2
  have hnw2 : New w w2 := New.trans (by repeat (first | with_reducible exact New.refl _ | with_reducible assumption | with_reducible refine New.alloc ?_ _ | with_reducible refine New.drewN ?_ _ | with_reducible refine New.drew ?_ | with_reducible refine New.trans ?_ (by with_reducible assumption))) hn2
  have HC2' := HC2.out _ _ ho2.at
  have hf10 := HS10.out f HFM.out
  obtain ⟨w3, hrun, hm3, hg3⟩ := hM0.put_spec (val := .int .i64 1) law_flock Try.underlying99 (by decide) (key_flock f hf10)
  have hs3 := hg3.size
  have hn3 : New w w3 := New.grown hnw2 hg3 (fun k hk => by cases hk; omega)
  have hb3 := hb2.grown hg3 (fun k hk => by cases hk; omega)
  have hC3 : CMap w3 (w.heap.size + 1) S (3 ^ 0) (cnt a.nx S f 0) := by
    refine ⟨_, _, ?_, hm3, ?_, ?_⟩
    · simp
    · intro x v hx
      unfold putF at hx
      by_cases e : Lit.int .u64 x = .int .u64 (f : Nat)
      · rw [if_pos e] at hx
        rw [lit_u64] at e
        cases hx
        exact ⟨f, e, HFM.out, by rw [cnt_zero, if_pos rfl]⟩
      · rw [if_neg e] at hx; cases hx
    · intro G hG
      unfold putF at hG
      by_cases e : G = f
      · subst e; rw [if_pos rfl] at hG; cases hG
      · rw [cnt, if_neg e]
  clear hM0 hm3
  go_wp2_with (go_at_call 117; refine HC2'.mono ?_; rintro e w' ⟨rfl, rfl⟩)
  clear hrun HC2' ho2 hb2 hnw2
  have hbm : w.heap.size + 1 < w3.heap.size := by omega
  obtain ⟨mb, hmb⟩ : ∃ mb, mb = w.heap.size + 1 := ⟨_, rfl⟩
  rw [← hmb] at hC3 ⊢
  have hmb1 : w.heap.size < mb := by omega
  rw [← hmb] at hbm
  clear hmb hg3
  go_loopw [5, 16] (fun m i wr => ∃ (k b : Nat), k ≤ len ∧ i = .int .i64 k ∧ m = .map (some b) ∧ w.heap.size < b ∧ New w wr ∧ Box2 wr w.heap.size (.int .i64 a.n) (.slice A2 a.nx.length c2) ∧ CMap wr b S (3 ^ k) (cnt a.nx S f k)) (fun _ i _ => len - (intOf i).toNat)
  case atStart => exact ⟨0, mb, Nat.zero_le _, rfl, rfl, hmb1, hn3, hb3, hC3⟩
  case round =>
    obtain ⟨k, b, hk, rfl, rfl, hb, hn, hbx, hC⟩ := hrel
    clear hC3 hb3 hn3
    obtain ⟨wo, rfl⟩ : ∃ wo : World, wo = wr := ⟨_, rfl⟩
    by_cases hlt : k < len
    · have b1 : (k : Int) < (len : Int) := by omega
      obtain ⟨s, F, hs1, hm, hF1, hF2⟩ := hC
      have hp3 : 3 ^ (k + 1) = 3 * 3 ^ k := by rw [Nat.pow_succ, Nat.mul_comm]
      have hpk := Nat.pow_le_pow_right (n := 3) (by decide) (show k ≤ 20 by omega)
      have HF1 := hid hF1
      have HF2 := hid hF2
      have HP3 := hid hp3
      have hszo := hn.size
      have hbz := hm.lt
      clear hF1 hF2 hp3
      have hmw : MapAt Try.prog 102 (wo.alloc (.map #[] 0)) b s F := hm.new (by repeat (first | with_reducible exact New.refl _ | with_reducible assumption | with_reducible refine New.alloc ?_ _ | with_reducible refine New.drewN ?_ _ | with_reducible refine New.drew ?_ | with_reducible refine New.trans ?_ (by with_reducible assumption)))
      have hnx0 : CMap (wo.alloc (.map #[] 0)) wo.heap.size S 0 (fun _ => 0) := ⟨0, _, Nat.le_refl _, MapAt.made _ _ _, (fun x v h => by cases h), fun _ _ => rfl⟩
      go_wp2_with (first
        | (at_range; refine wpList_rangeM (wo.alloc (.map #[] 0)) rfl _ 99 rfl 2 law_flock Try.underlying99 rfl hmw ?_; intro w0 left0 hleft0 hrg0 hg0 hs0)
        | fail)
      obtain ⟨rb, hrb⟩ : ∃ rb, rb = (wo.alloc (.map #[] 0)).heap.size := ⟨_, rfl⟩
      rw [← hrb] at hrg0 hs0 ⊢
      rw [size_alloc] at hrb
      have hrb1 : wo.heap.size < rb := by omega
      have hrb2 : rb < wo.heap.size + 2 := by omega
      clear hrb
      go_frame
      have hrg1 := hrg0
      have hn0 : New wo w0 := New.grown (by repeat (first | with_reducible exact New.refl _ | with_reducible assumption | with_reducible refine New.alloc ?_ _ | with_reducible refine New.drewN ?_ _ | with_reducible refine New.drew ?_ | with_reducible refine New.trans ?_ (by with_reducible assumption))) hg0 (fun q hq => by cases hq)
      obtain ⟨nb, hnb⟩ : ∃ nb, nb = wo.heap.size := ⟨_, rfl⟩
      have hst : CMap w0 nb S (3 * (s - s)) (fun G => sumD S (metB F left0) fun X => contrib a.nx (cnt a.nx S f k) X G a.nx.length) := by
        have e : ∀ G, (sumD S (metB F left0) fun X => contrib a.nx (cnt a.nx S f k) X G a.nx.length) = 0 := fun G => by
          rw [sumD_congr S (metB F left0) (fun _ => false) _ (fun X => contrib a.nx (cnt a.nx S f k) X G a.nx.length) (fun X _ => by
            have : metB F left0 X = false := by unfold metB; rw [hleft0 (.int .u64 (X : Nat)) trivial]; cases (F (.int .u64 (X : Nat))).isSome <;> rfl
            rw [this]), sumD_none]
        rw [hnb]
        exact (hnx0.grown hg0 (by simp)).congr (by omega) (fun G => e G)
      have hbx0 := hbx.new hn0
      rw [← hnb] at hbz hszo hrb1 hrb2 ⊢
      have HNB := hid hnb
      clear hnb
      clear hnx0 hmw hm hrg0 hg0 hleft0 hbx
      have HN3 := hid hn
      go_loopw [7] (fun _ wr => ∃ (left : Lit → Bool) (cn : Nat), cn ≤ s ∧ New wo wr ∧ Box2 wr w.heap.size (.int .i64 a.n) (.slice A2 a.nx.length c2) ∧ RangeAt Try.prog 102 wr b rb s F left cn ∧
          CMap wr nb S (3 * (s - cn)) (fun G => sumD S (metB F left) fun X => contrib a.nx (cnt a.nx S f k) X G a.nx.length)) (fun _ wr => wr.rangeLeft b rb)
      case atStart => exact ⟨left0, s, Nat.le_refl _, hn0, hbx0, hrg1, hst⟩
      case round =>
        obtain ⟨left, cn, hcn, hnr, hbr, hrg, hC⟩ := hrel
        clear hst hrg1 hbx0 hn0
        have hnbw : nb < wr.heap.size := hC.lt
        go_wp2_with (first
          | (at_next; refine wpList_nextM wr rfl _ rfl law_flock Try.underlying102 rfl hrg ?_ ?_)
          | fail)
        · intro hc0 hl0
          go_wp2
          go_roundw
          case rel =>
            refine ⟨k + 1, nb, by omega, by go_num, rfl, by omega, HN3.out.trans hnr, hbr, hC.congr (by rw [HP3.out]; omega) fun G => ?_⟩
            show cnt a.nx S f (k + 1) G = _
            rw [cnt]
            refine sumD_congr S _ _ _ _ fun X _ => ?_
            unfold metB
            rw [hl0]
            cases e : F (.int .u64 (X : Nat)) with
            | none => rw [if_pos rfl, if_neg (by simp), contrib_nil _ _ _ _ _ (HF2.out X e)]
            | some v => rw [if_pos rfl, if_pos (by simp)]
          case measure => simp [intOf]; omega
        · intro x v w1 cn1 hwx hlx hFx hrg1 hlt1 hg1 hs1 hen
          obtain ⟨X, rfl, hX, rfl⟩ := HF1.out x v hFx
          have hme := metB_step F left X (by rw [hFx]; rfl)
          have hmf : metB F left X = false := by unfold metB; rw [hlx]; simp
          have HME := hid hme
          have HMF := hid hmf
          have hn1 : New wo w1 := New.grown hnr hg1 (fun q hq => by cases hq; have := HNB.out; omega)
          have hC1 := hC.grown hg1 (by simp; omega)
          have hb1 := hbr.grown hg1 (fun q hq => by cases hq; omega)
          have HX := hid hX
          have HL1 := hid (hrg.left_eq)
          clear hme hmf hC hrg hwx hlx hFx hg1 hX hnr hbr
          obtain ⟨c0, hc0⟩ : ∃ c0, c0 = cnt a.nx S f k X := ⟨_, rfl⟩
          rw [← hc0] at hen ⊢
          have HC0 := hid hc0
          clear hc0
          obtain ⟨y0, y1, _, _⟩ := id hb1
          go_wp2_with (go_at_call 65; refine (letters_any _ a _ (h1.new (HN3.out.trans hn1))).mono ?_; rintro e w7 ⟨rfl, hn7⟩)
          have hC7 := hC1.new hn7
          have hb7 := hb1.new hn7
          have hrg7 := hrg1.new hn7
          have hn7' := hn1.trans hn7
          clear hen hC1 hb1 hrg1 hn1 y0 y1 hn7
          go_loopw [9, 28] (fun _ i wr => ∃ l : Nat, l ≤ a.nx.length ∧ i = .int .i64 l ∧ New wo wr ∧ Box2 wr w.heap.size (.int .i64 a.n) (.slice A2 a.nx.length c2) ∧ RangeAt Try.prog 102 wr b rb s F (fun z => left z && !z.sameKey (.int .u64 (X : Nat))) cn1 ∧
              CMap wr nb S (3 * (s - cn) + l) (fun G => (sumD S (metB F left) fun X => contrib a.nx (cnt a.nx S f k) X G a.nx.length) + contrib a.nx (cnt a.nx S f k) X G l)) (fun _ i _ => a.nx.length - (intOf i).toNat)
          case atStart => exact ⟨0, Nat.zero_le _, rfl, hn7', hb7, hrg7, hC7.congr (by omega) (fun G => by rw [contrib_zero, Int.add_zero])⟩
          case round =>
            obtain ⟨l, hl, rfl, hnr, hbr, hrg, hC⟩ := hrel
            clear hC7 hb7 hrg7 hn7'
            obtain ⟨y0, y1, _, _⟩ := id hbr
            by_cases hltl : l < a.nx.length
            · have b3 : (l : Int) < (a.nx.length : Int) := by omega
              have hmS := HCL.out X HX.out l hltl
              have C := HCS.out X l
              rw [Int.toNat_natCast] at C
              have HCC := hid C
              have HCS1 := hid (contrib_succ a.nx (cnt a.nx S f k) X)
              obtain ⟨to, hto⟩ : ∃ to, to = moved (nth a.nx l) X := ⟨_, rfl⟩
              rw [← hto] at hmS HCC
              have HTO := hid hto
              clear C hto
              have hal2 := hal.2
              go_wp2_with (go_at_call 138; refine (HCC.out _ (HN3.out.trans hnr) HX.out hltl).mono ?_; rintro e w8 ⟨rfl, hn8⟩; obtain ⟨z, w9, hlk, hz, hrun, hg9, hC9⟩ := (hC.new hn8).add (by omega) HS10.out to hmS c0; have HZ := hid hz; clear hz)
              go_roundw
              case rel =>
                have hnb2 : nb < w8.heap.size := (hC.new hn8).lt
                refine ⟨l + 1, by omega, by go_num, New.grown (hnr.trans hn8) hg9 (fun q hq => by cases hq; have := HNB.out; omega), (hbr.new hn8).grown hg9 (fun q hq => by cases hq; omega), (hrg.new hn8).kept hg9 (by simp; omega) (by simp; omega), hC9.congr (by omega) fun G => ?_⟩
                rw [HCS1.out, ← HTO.out, ← HC0.out]
                by_cases e : G = to
                · subst e; simp only [if_true]; rw [Int.add_assoc]
                · rw [if_neg e, if_neg (fun e2 => e e2.symm), Int.add_zero]
              case measure => simp [intOf]; omega
            · have e : l = a.nx.length := by omega
              subst e
              go_wp2
              go_roundw
              case rel =>
                refine ⟨_, cn1, by omega, hnr, hbr, hrg, hC.congr (by omega) fun G => ?_⟩
                show sumD S _ _ = _
                rw [HME.out, sumD_add S (metB F left) _ X HND.out HX.out HMF.out]
              case measure => rw [hrg.left_eq, HL1.out]; exact hlt1
    · have e : k = len := by omega
      subst e
      go_wp2
      go_ret
      exact ⟨b, rfl, hn, by omega, hC⟩
set_option maxHeartbeats 400000 in
theorem CountResets1_any (b2 : Nat) (len : Int) (w : World) (h2 : w.cell? ⟨b2, 0, none⟩ = some (.int .i64 len)) :
    Calls Try.prog 75 #[.pointer (some ⟨b2, 0, none⟩)] w fun e w' => e = .returned (.bool (inB len 0 20)) ∧ New w w' := by
  go_enter Try.func75, Try.ntmps75
  go_wp2_with (go_at_call 76; refine (within_any _ _ _ _).mono ?_; rintro e w2 ⟨rfl, rfl⟩)
  go_ret
  exact ⟨rfl, (by repeat (first | with_reducible exact New.refl _ | with_reducible assumption | with_reducible refine New.alloc ?_ _ | with_reducible refine New.drewN ?_ _ | with_reducible refine New.drew ?_ | with_reducible refine New.trans ?_ (by with_reducible assumption)))⟩
set_option maxRecDepth 20000 in
set_option maxHeartbeats 2000000 in
theorem implCountResets_any (v1 : Value) (a : Aut) (len : Int) (w : World) (h1 : AutAt w v1 a) :
    Calls Try.prog 21 #[v1, .int .i64 len] w fun e w' => e = .returned (.tuple #[.int .i64 (CountResets a len).1, .int .i64 (CountResets a len).2]) ∧ New w w' := by
  obtain ⟨rv, rfl, hr⟩ := h1
  obtain ⟨A, c, rfl⟩ := hr.form
  have h1 : AutAt w (.agg #[.int .i64 a.n, .slice A a.nx.length c]) a := ⟨_, rfl, hr⟩
  obtain ⟨wb, hwb⟩ : ∃ wb, wb = (w.alloc (.cells #[.int .i64 a.n, .slice A a.nx.length c] 26)).alloc (.cells #[.int .i64 len] 2) := ⟨_, rfl⟩
  have hnb : New w wb := by rw [hwb]; exact (by repeat (first | with_reducible exact New.refl _ | with_reducible assumption | with_reducible refine New.alloc ?_ _ | with_reducible refine New.drew ?_ | with_reducible refine New.drewN ?_ _ | with_reducible refine New.setCell ?_ (by simp <;> omega) _))
  have hzb : wb.heap.size = w.heap.size + 2 := by rw [hwb]; simp only [size_alloc]
  have hb0 : wb.cell? ⟨w.heap.size, 0, none⟩ = some (.int .i64 a.n) := by rw [hwb]; go_simp
  have hb1 : wb.cell? ⟨w.heap.size, 1, none⟩ = some (.slice A a.nx.length c) := by rw [hwb]; go_simp
  have hb2 : wb.cell? ⟨w.heap.size + 1, 0, none⟩ = some (.int .i64 len) := by rw [hwb]; go_simp
  have HC : Calls Try.prog 61 #[.agg #[.int .i64 a.n, .slice A a.nx.length c], .func (.func 75) #[] #[.pointer (some ⟨w.heap.size + 1, 0, none⟩)]] wb
      fun e w' => e = .returned (.int .i64 (codeOf (autOk a) (inB len 0 20))) ∧ New wb w' := by
    refine code_any _ a _ _ _ _ (h1.new hnb) (enters Try.func75 (by decide) (by simp [Try.f75])) fun ha w' hw => ?_
    exact CountResets1_any _ _ _ (hw.cell hb2)
  obtain ⟨R, hR⟩ : ∃ R, R = CountResets a len := ⟨_, rfl⟩
  rw [← hR]
  unfold CountResets at hR
  have HR := hid hR
  clear hR
  cases ha : autOk a with
  | false =>
    rw [ha] at HC
    have e : codeOf false (inB len 0 20) = 1 := rfl
    rw [e] at HC
    have HE := hid (show R = (0, 1) by rw [HR.out, ha]; rfl)
    go_enter Try.func21, Try.ntmps21
    go_wp2_with fail
    rw [← hwb]
    refine HC.mono ?_
    rintro e w1 ⟨rfl, hn1⟩
    go_wp2
    go_ret2
    exact ⟨by rw [HE.out]; rfl, (by repeat (first | with_reducible exact New.refl _ | with_reducible assumption | with_reducible refine New.alloc ?_ _ | with_reducible refine New.drewN ?_ _ | with_reducible refine New.drew ?_ | with_reducible refine New.trans ?_ (by with_reducible assumption)))⟩
  | true =>
    rw [ha] at HC
    have HA := hid ha
    cases hs : inB len 0 20 with
    | false =>
      rw [hs] at HC
      have e : codeOf true false = 2 := rfl
      rw [e] at HC
      have HE := hid (show R = (0, 2) by rw [HR.out, ha, hs]; rfl)
      go_enter Try.func21, Try.ntmps21
      go_wp2_with fail
      rw [← hwb]
      refine HC.mono ?_
      rintro e w1 ⟨rfl, hn1⟩
      go_wp2
      go_ret2
      exact ⟨by rw [HE.out]; rfl, (by repeat (first | with_reducible exact New.refl _ | with_reducible assumption | with_reducible refine New.alloc ?_ _ | with_reducible refine New.drewN ?_ _ | with_reducible refine New.drew ?_ | with_reducible refine New.trans ?_ (by with_reducible assumption)))⟩
    | true =>
      rw [hs] at HC
      have e : codeOf true true = 0 := rfl
      rw [e] at HC
      have hs' := (inB_iff _ _ _).1 hs
      obtain ⟨L, hL⟩ : ∃ L : Nat, len = (L : Int) := ⟨len.toNat, by omega⟩
      subst hL
      have HE := hid (show R = (w64 (sumD (tourOf a.nx (full a.n)).sets smallB (cnt a.nx (tourOf a.nx (full a.n)).sets (full a.n) L)), 0) by rw [HR.out, if_pos ha, if_pos hs, Int.toNat_natCast])
      have han := autOk_n ha
      have hokT := tourOk ha (full a.n) (full_lt a.n)
      have HND := hid hokT.nodup
      have HS10 := hid (show ∀ x, x ∈ (tourOf a.nx (full a.n)).sets → x < 1024 from fun x hx => lt_10 (hokT.lt x hx) (by omega))
      have HCN := hid (fun w1 (hm : New w w1) => counts_any _ a L w1 (h1.new hm) ha (by omega))
      obtain ⟨S, hS⟩ : ∃ S, S = (tourOf a.nx (full a.n)).sets := ⟨_, rfl⟩
      rw [← hS] at HND HS10 HCN HE
      obtain ⟨val, hval⟩ : ∃ val, val = cnt a.nx S (full a.n) L := ⟨_, rfl⟩
      rw [← hval] at HCN HE
      clear hs hs' ha hokT hS hval e
      go_enter Try.func21, Try.ntmps21
      go_wp2_with fail
      rw [← hwb]
      refine HC.mono ?_
      rintro e w1 ⟨rfl, hn1⟩
      replace hb0 := hn1.cell hb0
      replace hb1 := hn1.cell hb1
      replace hb2 := hn1.cell hb2
      go_wp2_with fail
      refine (HCN.out _ (hnb.trans hn1)).mono ?_
      rintro e w2 ⟨b, rfl, hn2, hbB, hC⟩
      obtain ⟨s, F, hs1, hm, hF1, hF2⟩ := hC
      have HF1 := hid hF1
      have HF2 := hid hF2
      have hs2 := hn2.size
      have hs1' := hn1.size
      clear hF1 hF2
      go_wp2_with (first
        | (at_range; refine wpList_rangeM w2 rfl _ 99 rfl 2 law_flock Try.underlying99 rfl hm ?_; intro w0 left0 hleft0 hrg0 hg0 hs0)
        | fail)
      obtain ⟨rb, hrb⟩ : ∃ rb, rb = w2.heap.size := ⟨_, rfl⟩
      rw [← hrb] at hrg0 hs0 ⊢
      have hrb1 : w.heap.size ≤ rb := by omega
      have hn0 : New w w0 := New.grown (((hnb.trans hn1).trans hn2)) hg0 (fun q hq => by cases hq)
      have hst : (0 : Int) = w64 (sumD S (fun G => metB F left0 G && smallB G) val) := by
        rw [sumD_congr S _ (fun _ => false) val val (fun X _ => by
          have : metB F left0 X = false := by unfold metB; rw [hleft0 (.int .u64 (X : Nat)) trivial]; cases (F (.int .u64 (X : Nat))).isSome <;> rfl
          rw [this]; rfl), sumD_none, w64_zero]
      clear hrb hm hleft0
      go_frame
      go_loopw [7, 8] (fun q _ wr => ∃ (left : Lit → Bool) (cn : Nat) (z : Int), cn ≤ s ∧ New w wr ∧ q = .int .i64 z ∧ Hid (z = w64 (sumD S (fun G => metB F left G && smallB G) val)) ∧ RangeAt Try.prog 102 wr b rb s F left cn) (fun _ _ wr => wr.rangeLeft b rb)
      case atStart => exact ⟨left0, s, 0, Nat.le_refl _, hn0, rfl, hid hst, hrg0⟩
      case round =>
        obtain ⟨left, cn, z, hcn, hnr, rfl, hz, hrg⟩ := hrel
        clear hst hrg0 hn0
        go_wp2_with (first
          | (at_next; refine wpList_nextM wr rfl _ rfl law_flock Try.underlying102 rfl hrg ?_ ?_)
          | fail)
        · intro hc0 hl0
          have HZ := hid (show z = w64 (sumD S smallB val) by
            rw [hz.out]
            congr 1
            refine sumD_congr S _ _ _ _ fun X _ => ?_
            unfold metB
            rw [hl0]
            cases e : F (.int .u64 (X : Nat)) with
            | none => rw [HF2.out X e]; simp
            | some v => simp)
          clear hz
          go_wp2
          go_ret2
          exact ⟨by rw [HE.out, ← HZ.out]; rfl, hnr⟩
        · intro x v w3 cn1 hwx hlx hFx hrg1 hlt1 hg1 hs3 hen
          obtain ⟨X, rfl, hX, rfl⟩ := HF1.out x v hFx
          have HX := hid hX
          have hX10 := HS10.out X hX
          have HME := hid (metB_step F left X (by rw [hFx]; rfl))
          have HMF := hid (show metB F left X = false by unfold metB; rw [hlx]; simp)
          have hn3 : New w w3 := New.grown hnr hg1 (fun q hq => by cases hq; omega)
          have HL1 := hid (hrg.left_eq)
          have C := isSmall_any X
          clear hrg hwx hlx hFx hg1 hX hnr
          cases hq : smallB X with
          | true =>
            have HQ := hid hq
            rw [hq] at C
            clear hq
            go_wp2_with (go_at_call 78; refine (C _ hX10).mono ?_; rintro e w' ⟨rfl, rfl⟩)
            go_roundw
            case rel =>
              refine ⟨_, cn1, _, by omega, hn3, rfl, hid ?_, hrg1⟩
              rw [hz.out, w64_add, HME.out]
              congr 1
              rw [← sumD_add S (fun G => metB F left G && smallB G) val X HND.out HX.out (by show (metB F left X && smallB X) = false; rw [HMF.out]; rfl)]
              refine sumD_congr S _ _ _ _ fun G _ => ?_
              by_cases e : G = X
              · subst e; simp [HQ.out]
              · have : (G == X) = false := by simpa using e
                simp [this]
            case measure => rw [hrg1.left_eq, HL1.out]; exact hlt1
          | false =>
            have HQ := hid hq
            rw [hq] at C
            clear hq
            go_wp2_with (go_at_call 78; refine (C _ hX10).mono ?_; rintro e w' ⟨rfl, rfl⟩)
            go_roundw
            case rel =>
              refine ⟨_, cn1, _, by omega, hn3, rfl, hid ?_, hrg1⟩
              rw [hz.out, HME.out]
              congr 1
              refine sumD_congr S _ _ _ _ fun G _ => ?_
              by_cases e : G = X
              · subst e; simp [HQ.out]
              · have : (G == X) = false := by simpa using e
                simp [this]
            case measure => rw [hrg1.left_eq, HL1.out]; exact hlt1

end Go.Proofs.Ytheimpgjkfphnaa
