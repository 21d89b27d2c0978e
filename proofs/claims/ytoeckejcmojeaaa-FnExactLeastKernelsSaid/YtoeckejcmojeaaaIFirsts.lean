/- Parts of the proof that lean on no program: IFirst, IFor. -/
import Derived.Test.YtoeckejcmojeaaaRows
import Derived.Test.YtoeckejcmojeaaaCore
import Derived.Test.YtoeckejcmojeaaaInfos
import Derived.Test.YtoeckejcmojeaaaPlains
import Derived.Test.YtoeckejcmojeaaaMaps
import Derived.Test.YtoeckejcmojeaaaIBase
import Derived.Test.YtoeckejcmojeaaaI01c
import Derived.Test.YtoeckejcmojeaaaIIdx
import Derived.Test.YtoeckejcmojeaaaIFlk
import Derived.Test.YtoeckejcmojeaaaITour
import Derived.Test.YtoeckejcmojeaaaIRen
import Derived.WalkKit
import Derived.WalkSpells
import Derived.WalkLawsBesides
import Derived.Deep.QuietTactic
import Derived.Deep.OwnRows
import Derived.BigQuiet
import Derived.KernelRfl
import Derived.Carry
import Derived.Deep.RegionHeld3
namespace Go.Proofs.Ytoeckejcmojeaaa
open Go.RowKit

section
set_option maxHeartbeats 400000 in
theorem IndexFuncFlock_any (v : Value) (xs : List Nat) (k : Nat) (cap : Array Value) (p : Nat → Bool) (w : World) (h : NatsAt .u64 w v xs)
    (hent : ∀ args w, Sem.run Try.prog (callFunc k args) w = .ok (.enter k args) w)
    (hf : ∀ w', New w w' → ∀ i, i < xs.length → Calls Try.prog k (#[.int .u64 (nth xs i : Nat)] ++ cap) w' fun e w'' => e = .returned (.bool (p (nth xs i))) ∧ New w' w'') :
    Calls Try.prog 150 #[v, .func (.func k) #[] cap] w fun e w' => e = .returned (.int .i64 (idxOf p xs)) ∧ New w w' := by
  obtain ⟨A, c, rfl, hl, hc⟩ := h
  have HF := hid hf
  clear hf
  go_enter Try.func150, Try.ntmps150
  go_wp2
  go_loopw [8] (fun i wr => ∃ j : Nat, j ≤ xs.length ∧ i = .int .i64 j ∧ Hid (∀ i, i < j → p (nth xs i) = false) ∧ New w wr) (fun i _ => xs.length - (intOf i).toNat)
  case atStart => exact ⟨0, Nat.zero_le _, rfl, fun j hj => absurd hj (by omega), New.refl _⟩
  case round =>
    obtain ⟨j, hj, rfl, he, hw⟩ := hrel
    by_cases hlt : j < xs.length
    · obtain ⟨b, off, rfl, hx⟩ := hc j hlt
      have b1 : (j : Int) < (xs.length : Int) := by omega
      replace hx := hw.cell hx
      clear hc
      by_cases hq : p (nth xs j) = true
      · go_wp2_with (refine (HF.out _ hw j hlt).mono ?_; rintro e w1 ⟨rfl, hn1⟩)
        go_ret
        exact ⟨ret_int (idxOf_hit p xs j hlt hq he.out).symm, hw.trans hn1⟩
      · have hq' : p (nth xs j) = false := by simpa using hq
        clear hq
        go_wp2_with (refine (HF.out _ hw j hlt).mono ?_; rintro e w1 ⟨rfl, hn1⟩)
        go_roundw
        case rel => exact ⟨j + 1, by omega, by go_num, fun i hi => by
            rcases Nat.lt_succ_iff_lt_or_eq.1 hi with h | h
            · exact he.out i h
            · subst h; exact hq', hw.trans hn1⟩
        case measure => simp [intOf]; omega
    · have e : j = xs.length := by omega
      subst e
      go_wp2
      go_ret
      exact ⟨ret_int (idxOf_none p xs he.out).symm, hw⟩
/-- A tour that a call has made. -/
def TourAt (B : Nat) (w : World) (v : Value) (t : Tour) : Prop := ∃ lv mb B', v = .agg #[lv, .map (some mb)] ∧ B ≤ B' ∧ TLoop Try.prog 90 90 B' B' w lv mb t
theorem TourAt.new {B : Nat} {w w' : World} {v : Value} {t : Tour} (h : TourAt B w v t) (hn : New w w') : TourAt B w' v t := let ⟨lv, mb, B', e, hb, h⟩ := h; ⟨lv, mb, B', e, hb, h.new hn⟩
theorem tourAt_any (v1 : Value) (a : Aut) (f : Nat) (w : World) (h1 : AutAt w v1 a) (ha : autOk a = true) (hf : f < 2 ^ a.n.toNat) :
    Calls Try.prog 127 #[v1, .int .u64 f] w fun e w' => ∃ lv mb, e = .returned (.agg #[lv, .map (some mb)]) ∧ New w w' ∧ TourAt w.heap.size w' (.agg #[lv, .map (some mb)]) (tourOf a.nx f) :=
  (tour_any v1 a f w h1 ha hf).mono fun _e _w' ⟨lv, mb, he, hn, hT⟩ => ⟨lv, mb, he, hn, lv, mb, _, rfl, Nat.le_refl _, hT⟩
set_option maxRecDepth 20000 in
set_option maxHeartbeats 800000 in
theorem firstN_any (v : Value) (a : Aut) (t : Tour) (B k : Nat) (cap : Array Value) (p : Nat → Bool) (w : World) (hT : TourAt B w v t) (hok : TOk a t) (hn10 : a.n ≤ 10)
    (hent : ∀ args w, Sem.run Try.prog (callFunc k args) w = .ok (.enter k args) w)
    (hf : ∀ w', New w w' → ∀ F, F < 2 ^ a.n.toNat → Calls Try.prog k (#[.int .u64 (F : Nat)] ++ cap) w' fun e w'' => e = .returned (.bool (p F)) ∧ New w' w'') :
    Calls Try.prog 128 #[v, .func (.func k) #[] cap] w fun e w' => ∃ r, e = .returned (.tuple #[r, .int .i64 (told (firstWord p t)).2]) ∧ New w w' ∧ OwnInts B w'.heap.size w' r (told (firstWord p t)).1 ∧ ((told (firstWord p t)).2 ≠ 0 → r = .slice none 0 0) := by
  obtain ⟨lv, mb, B', rfl, hB, hT⟩ := hT
  have hlen := hok.len hn10
  obtain ⟨Al, cl, rfl⟩ := hT.form
  have hnats := hT.nats (by omega)
  obtain ⟨A, c, e9, _, hc⟩ := id hnats
  cases e9
  obtain ⟨wb, hwb⟩ : ∃ wb, wb = w.alloc (.cells #[.slice Al t.sets.length cl, .map (some mb)] 145) := ⟨_, rfl⟩
  have hnb : New w wb := by rw [hwb]; exact (by repeat (first | with_reducible exact New.refl _ | with_reducible assumption | with_reducible refine New.alloc ?_ _ | with_reducible refine New.drew ?_ | with_reducible refine New.drewN ?_ _ | with_reducible refine New.setCell ?_ (by simp <;> omega) _))
  have hb0 : wb.cell? ⟨w.heap.size, 0, none⟩ = some (.slice Al t.sets.length cl) := by rw [hwb]; go_simp
  have hb1 : wb.cell? ⟨w.heap.size, 1, none⟩ = some (.map (some mb)) := by rw [hwb]; go_simp
  have HC := hid hc
  have HT := hid hT
  have HOK := hid hok
  have HI := IndexFuncFlock_any _ t.sets k cap p wb (hnats.new hnb) hent (fun w' hw i hi => hf w' (hnb.trans hw) _ (hok.lt _ (nth_mem _ _ hi)))
  clear hc hT hok hf hnats
  cases hfi : t.sets.findIdx? p with
  | none =>
    have e1 : idxOf p t.sets = -1 := by simp [idxOf, hfi]
    have e2 : firstWord p t = ([], false) := by simp [firstWord, hfi]
    rw [e1] at HI
    rw [e2]
    have e3 : told ([], false) = ([], 6) := rfl
    rw [e3]
    clear e1 e2 e3 hfi
    go_enter Try.func128, Try.ntmps128
    go_wp2_with fail
    rw [← hwb]
    refine HI.mono ?_
    rintro e w1 ⟨rfl, hn1⟩
    go_wp2
    go_ret2
    exact ⟨_, rfl, hnb.trans hn1, OwnInts.nil _ _ _, fun _ => rfl⟩
  | some i =>
    have e1 : idxOf p t.sets = i := by simp [idxOf, hfi]
    have e2 : firstWord p t = (nth t.words i, true) := by simp [firstWord, hfi]
    rw [e1] at HI
    rw [e2]
    have e3 : told (nth t.words i, true) = (nth t.words i, 0) := rfl
    rw [e3]
    have hi : i < t.sets.length := by rw [List.findIdx?_eq_some_iff_getElem] at hfi; exact hfi.1
    have hlt := lt_10 (HOK.out.lt _ (nth_mem _ _ hi)) (show a.n.toNat ≤ 10 by omega)
    obtain ⟨Aw, cw, how, hlook⟩ := HT.out.word law_flock Try.underlying143 zero_ints key_flock i hi hlt
    obtain ⟨b, off, rfl, hx⟩ := HC.out i hi
    have b1 : (i : Int) < (t.sets.length : Int) := by omega
    have HOW := hid how
    have HLK := hid hlook
    clear e1 e2 e3 how hlook hi hfi
    go_enter Try.func128, Try.ntmps128
    go_wp2_with fail
    rw [← hwb]
    refine HI.mono ?_
    rintro e w1 ⟨rfl, hn1⟩
    replace hb0 := hn1.cell hb0
    replace hb1 := hn1.cell hb1
    replace hx := (hnb.trans hn1).cell hx
    have hlk := fun n => HLK.out (w1.drewN n) ((hnb.trans hn1).drewN n)
    go_wp2_with fail
    go_quiet (fail)
    go_wp2
    go_ret2
    have hs := (hnb.trans hn1).size
    exact ⟨_, rfl, (hnb.trans hn1).drewN _, (HOW.out.new ((hnb.trans hn1).drewN _)).widen hB hs, fun h => absurd rfl h⟩
theorem first_any (v : Value) (a : Aut) (t : Tour) (B k : Nat) (cap : Array Value) (p : Nat → Bool) (w : World) (hT : TourAt B w v t) (hok : TOk a t) (hn10 : a.n ≤ 10)
    (hent : ∀ args w, Sem.run Try.prog (callFunc k args) w = .ok (.enter k args) w)
    (hf : ∀ w', New w w' → ∀ F, F < 2 ^ a.n.toNat → Calls Try.prog k (#[.int .u64 (F : Nat)] ++ cap) w' fun e w'' => e = .returned (.bool (p F)) ∧ New w' w'') :
    Calls Try.prog 128 #[v, .func (.func k) #[] cap] w fun e w' => ∃ r, e = .returned (.tuple #[r, .int .i64 (told (firstWord p t)).2]) ∧ New w w' ∧ OwnInts B w'.heap.size w' r (told (firstWord p t)).1 :=
  (firstN_any v a t B k cap p w hT hok hn10 hent hf).mono fun _ _ ⟨r, h1, h2, h3, _⟩ => ⟨r, h1, h2, h3⟩
theorem full_iota (n : Int) (_h : 0 ≤ n) : orB (iota 0 n.toNat) = full n := by
  apply Nat.eq_of_testBit_eq
  intro i
  unfold full
  rw [Nat.testBit_two_pow_sub_one, Bool.eq_iff_iff, testBit_orB]
  simp only [decide_eq_true_eq]
  constructor
  · rintro ⟨x, hx, rfl⟩
    rw [mem_iota] at hx; omega
  · intro hi
    exact ⟨(i : Int), by rw [mem_iota]; omega, by omega⟩
theorem sIota (a : Aut) (ha : autOk a = true) : ∀ i, i < (iota 0 a.n.toNat).length → 0 ≤ nth (iota 0 a.n.toNat) i ∧ nth (iota 0 a.n.toNat) i < 10 := fun i hi => by
  have := autOk_n ha
  rw [iota_length] at hi
  rw [nth_iota _ _ _ hi]; omega
end
section
end

end Go.Proofs.Ytoeckejcmojeaaa
