/- The program's GreedyReset. -/
import Derived.Test.YtnhjoiafadapaaaRows
import Derived.Test.YtnhjoiafadapaaaCore
import Derived.Test.YtnhjoiafadapaaaArrs
import Derived.Test.YtnhjoiafadapaaaInfos
import Derived.Test.YtnhjoiafadapaaaPlains
import Derived.Test.YtnhjoiafadapaaaMaps
import Derived.Test.YtnhjoiafadapaaaPlainGreeds
import Derived.Test.YtnhjoiafadapaaaPlainMerges
import Derived.Test.YtnhjoiafadapaaaPlainStab
import Derived.Test.YtnhjoiafadapaaaJoins
import Derived.Test.YtnhjoiafadapaaaIFlk
import Derived.Test.YtnhjoiafadapaaaITour
import Derived.Test.YtnhjoiafadapaaaIFirst
import Derived.Test.YtnhjoiafadapaaaIRen
import Derived.Test.YtnhjoiafadapaaaIMerge
import Derived.Test.YtnhjoiafadapaaaIMerges
import Derived.Test.YtnhjoiafadapaaaIImage
import Derived.Test.YtnhjoiafadapaaaIBase
import Derived.Test.YtnhjoiafadapaaaIAllC
import Derived.WalkKit
import Derived.WalkSpells
import Derived.WalkLawsBesides
import Derived.Deep.QuietTactic
import Derived.Deep.OwnRows
import Derived.BigQuiet
import Derived.KernelRfl
import Derived.Carry
import Derived.Deep.RegionHeld3
import Derived.Deep.RegionLaw
import Derived.Deep.Cut
namespace Go.Proofs.Ytnhjoiafadapaaa
open Go.RowKit

theorem ga_best {a : Aut} (_ha : autOk a = true) {xs : List Int} (_hs : SetIn a xs) (hb : Good a.nx xs) (hl : ¬ xs.length ≤ 1) :
    ∃ i k, i < k ∧ k < xs.length ∧ gaAll a.nx xs xs.length = mw a.nx (nth xs i).toNat (nth xs k).toNat := by
  have hal := nAll_alike hb xs.length (Nat.le_refl _)
  have hgt := gaAll_true hb (by omega) xs.length (by omega) (Nat.le_refl _)
  have hok := nAll_ok (nx := a.nx) (xs := xs) xs.length (Nat.le_refl _)
  rcases hal with ⟨_, q⟩ | ⟨h1, _, h3, _⟩
  · rw [hgt] at q; cases q
  · rcases hok with q | ⟨i, k, hik, hk, e1, e2, e3⟩
    · exact absurd q (Int.not_lt.2 h1)
    · exact ⟨i, k, hik, hk, by rw [h3, e1, e2]⟩
theorem gaRow_succ (nx : List (List Int)) (xs : List Int) (i : Nat) (b : List Int × Bool) (d : Nat) : gaRow nx xs i b (d + 1) = gaStep (gaRow nx xs i b d) (mw nx (nth xs i).toNat (nth xs (i + 1 + d)).toNat) := rfl
theorem gaAll_succ (nx : List (List Int)) (xs : List Int) (i : Nat) : gaAll nx xs (i + 1) = gaRow nx xs i (gaAll nx xs i) (xs.length - (i + 1)) := rfl
/-- The pairs up to a place merge. -/
def GoodTo (nx : List (List Int)) (xs : List Int) (i m : Nat) : Prop := ∀ i' k', i' < k' → k' < xs.length → (i' < i ∨ (i' = i ∧ k' < m)) → (mw nx (nth xs i').toNat (nth xs k').toNat).2 = true
theorem GoodTo.bad {nx : List (List Int)} {xs : List Int} {i k : Nat} (hik : i < k) (hk : k < xs.length) (h : (mw nx (nth xs i).toNat (nth xs k).toNat).2 = false) : goodB nx xs = false := by
  cases hc : goodB nx xs with
  | false => rfl
  | true =>
    rw [goodB_iff] at hc
    rw [hc i k hik hk] at h
    cases h
theorem Grow.mid {B : Nat} {e : TypeId} {w w' : World} (h : New (w.alloc (.cells #[] e)) w') (hB : B ≤ w.heap.size) : Grow B e w' (.slice (some ⟨w.heap.size, 0, none⟩) 0 0) [] := (Grow.empty B e w hB).new h
/-- The best word so far lies there, whatever becomes of some blocks. -/
def BestAt (S : Nat → Prop) (w : World) (v : Value) (b : List Int × Bool) : Prop := Solid S w (fun w => WordAt w v b) ∧ (b.2 = true → 1 ≤ b.1.length)
theorem BestAt.nil {S : Nat → Prop} {w : World} : BestAt S w (.slice none 0 0) ([], false) := ⟨fun _ _ => ⟨⟨none, 0, rfl, by simp, fun i hi => by simp at hi⟩, fun _ => rfl⟩, fun h => by cases h⟩
/-- A slice's length. -/
def lenG : Value → Nat
  | .slice _ n _ => n
  | _ => 0
theorem BestAt.new {S : Nat → Prop} {w w' : World} {v : Value} {b : List Int × Bool} (h : BestAt S w v b) (hn : New w w') : BestAt S w' v b := ⟨h.1.new hn, h.2⟩
theorem BestAt.some {S : Nat → Prop} {w : World} {v : Value} {b : List Int × Bool} (h : BestAt S w v b) (hb : b.2 = true) : ∃ bl o c, v = .slice (some ⟨bl, o, none⟩) b.1.length c := by
  obtain ⟨A, c, rfl, _, hc⟩ := h.1.now.1
  obtain ⟨bl, o, rfl, _⟩ := hc 0 (by have := h.2 hb; omega)
  exact ⟨bl, o, c, rfl⟩
theorem BestAt.none {S : Nat → Prop} {w : World} {v : Value} {b : List Int × Bool} (h : BestAt S w v b) (hb : b.2 = false) : v = .slice none 0 0 := h.1.now.2 hb
set_option maxRecDepth 20000 in
set_option maxHeartbeats 2000000 in
theorem implGreedyReset_any (v1 : Value) (a : Aut) (w : World) (h1 : AutAt w v1 a) :
    Calls Try.prog 11 #[v1] w fun e w' => ∃ r, e = .returned (.tuple #[r, .int .i64 (GreedyReset a).2]) ∧ New w w' ∧ OwnInts w.heap.size w'.heap.size w' r (GreedyReset a).1 := by
  have heq := fun (w : World) (a : Option Addr) (n c : Nat) => Lib.run_eql_slice_nil (P := Try.prog) w 26 2 a n c 0 0 Try.underlying26
  obtain ⟨rv, rfl, hr⟩ := h1
  obtain ⟨A, c, rfl⟩ := hr.form
  have h1 : AutAt w (.agg #[.int .i64 a.n, .slice A a.nx.length c]) a := ⟨_, rfl, hr⟩
  obtain ⟨wb, hwb⟩ : ∃ wb, wb = w.alloc (.cells #[.int .i64 a.n, .slice A a.nx.length c] 29) := ⟨_, rfl⟩
  have hnb : New w wb := by rw [hwb]; exact (by repeat (first | with_reducible exact New.refl _ | with_reducible assumption | with_reducible refine New.alloc ?_ _ | with_reducible refine New.drewN ?_ _ | with_reducible refine New.drew ?_ | with_reducible refine New.trans ?_ (by with_reducible assumption)))
  have hzb : wb.heap.size = w.heap.size + 1 := by rw [hwb]; simp only [size_alloc]
  have hb0 : wb.cell? ⟨w.heap.size, 0, none⟩ = some (.int .i64 a.n) := by rw [hwb]; go_simp
  have hb1 : wb.cell? ⟨w.heap.size, 1, none⟩ = some (.slice A a.nx.length c) := by rw [hwb]; go_simp
  have C1 := ValidAutomaton_any _ a wb (h1.new hnb)
  obtain ⟨R, hR⟩ : ∃ R, R = GreedyReset a := ⟨_, rfl⟩
  rw [← hR]
  unfold GreedyReset at hR
  have HR := hid hR
  clear hR
  cases ha : autOk a with
  | false =>
    rw [ha] at C1
    have HE := hid (show R = ([], 1) by rw [HR.out, ha]; rfl)
    go_enter Try.func11, Try.ntmps11
    go_wp2_with fail
    rw [← hwb]
    go_wp2_with fail
    refine C1.mono ?_
    rintro e w1 ⟨rfl, hn1⟩
    go_wp2
    go_ret2
    rw [HE.out]
    exact ⟨_, rfl, hnb.trans hn1, OwnInts.nil _ _ _⟩
  | true =>
    rw [ha] at C1
    have han := autOk_n ha
    have HAL := hid (SetIn.all ha)
    have HR2 := hid (show R = told (greedyI a.nx a.n.toNat [] (iota 0 a.n.toNat)) by
      rw [HR.out, if_pos ha, greedy_same ha _ _ _ (by rw [iota_length]; exact Nat.le_refl _) (SetIn.all ha)])
    have HA := hid (fun w1 (hw : New w w1) => allC_any _ a w1 (h1.new hw) ha)
    have HM := hid (fun w1 (hw : New w w1) => merges_any _ a w1 (h1.new hw) ha)
    have HI := hid (fun w1 vs v3 xs ws (hw : New w w1) (h2 : IntsAt w1 vs xs) (h3 : IntsAt w1 v3 ws) (hl : letters a ws) (hs : SetIn a xs) (h0 : 0 < xs.length) => imageC_any _ vs v3 a xs ws w1 (h1.new hw) h2 h3 ha hl hs.2 h0 (by have := hs.len han.2; omega))
    obtain ⟨n, hn⟩ : ∃ n : Nat, a.n = (n : Int) := ⟨a.n.toNat, by omega⟩
    have hn10 : n ≤ 10 := by omega
    have hnt : a.n.toNat = n := by omega
    have HT := hid (show mwTab a = mwTo a.nx n n by unfold mwTab; rw [hnt])
    have HOK := hid ha
    have HN := hid hn
    rw [hnt] at HA HR2 HAL
    clear ha han hnt hn
    go_enter Try.func11, Try.ntmps11
    go_wp2_with fail
    rw [← hwb]
    clear hwb
    go_wp2_with fail
    refine C1.mono ?_
    rintro e w1 ⟨rfl, hn1⟩
    have z0 := hn1.cell hb0
    have z1 := hn1.cell hb1
    have hN1 := hnb.trans hn1
    have hz1 := hn1.size
    go_wp2_with fail
    go_cut [4, 5, 6] from 13 (fun tv ov sv wr => ∃ At ct As cs g, tv = .slice At n ct ∧ ov = .slice (some ⟨g, 0, none⟩) 0 0 ∧ sv = .slice As n cs ∧ n ≤ cs ∧ New w wr ∧ wr.cell? ⟨w.heap.size, 0, none⟩ = some (.int .i64 a.n) ∧ wr.cell? ⟨w.heap.size, 1, none⟩ = some (.slice A a.nx.length c) ∧ Grow (w.heap.size + 1) 2 wr (.slice (some ⟨g, 0, none⟩) 0 0) [] ∧ Solid (fun q => q < w.heap.size ∨ g = q) wr (fun w' => ListAt (ListAt WordAt) w' tv (mwTo a.nx n n)) ∧ Solid (fun q => g = q) wr (fun w' => IntsAt w' sv (iota 0 n)))
    case first =>
      have lz := World.block_lt_of_cell? w1 _ z0
      clear hzb hb0 hb1
      dsimp only at lz
      go_region_law (first
        | (go_simp; go_at_call 50; refine (HM.out _ (hN1.trans (by repeat (first | with_reducible exact New.refl _ | with_reducible assumption | with_reducible refine New.alloc ?_ _ | with_reducible refine New.drewN ?_ _ | with_reducible refine New.drew ?_ | with_reducible refine New.trans ?_ (by with_reducible assumption))))).mono ?_; rintro e w2 ⟨tv, he, hn2, hL⟩; subst he; rw [HT.out] at hL; obtain ⟨At, ct, hf, _⟩ := id hL.now; rw [mwTo_len] at hf; subst hf; have hm2 : New w1 w2 := New.trans (by repeat (first | with_reducible exact New.refl _ | with_reducible assumption | with_reducible refine New.alloc ?_ _ | with_reducible refine New.drewN ?_ _ | with_reducible refine New.drew ?_ | with_reducible refine New.trans ?_ (by with_reducible assumption))) hn2; have p0 := hm2.cell z0; have p1 := hm2.cell z1; have lz2 := World.block_lt_of_cell? w2 _ p0; (dsimp only at lz2); have hs2 := hn2.size; (try simp only [sizes] at hs2))
        | (go_simp; go_at_call 51; refine (HA.out _ (hN1.trans (by repeat (first | with_reducible exact New.refl _ | with_reducible assumption | with_reducible refine New.alloc ?_ _ | with_reducible refine New.drewN ?_ _ | with_reducible refine New.drew ?_ | with_reducible refine New.trans ?_ (by with_reducible assumption))))).mono ?_; rintro e w3 ⟨sv, he, hn3, hS, hcp⟩; subst he; obtain ⟨As, cs, hf⟩ := hS.form; rw [iota_length] at hf; subst hf; replace hcp := hcp _ _ _ rfl; have hm3 : New w1 w3 := New.trans (by repeat (first | with_reducible exact New.refl _ | with_reducible assumption | with_reducible refine New.alloc ?_ _ | with_reducible refine New.drewN ?_ _ | with_reducible refine New.drew ?_ | with_reducible refine New.trans ?_ (by with_reducible assumption))) hn3; have hm23 : New w2 w3 := New.trans (by repeat (first | with_reducible exact New.refl _ | with_reducible assumption | with_reducible refine New.alloc ?_ _ | with_reducible refine New.drewN ?_ _ | with_reducible refine New.drew ?_ | with_reducible refine New.trans ?_ (by with_reducible assumption))) hn3; have r0 := hm3.cell z0; have r1 := hm3.cell z1; have lz3 := World.block_lt_of_cell? w3 _ r0; (dsimp only at lz3); have hs3 := hn3.size; (try simp only [sizes] at hs3)))
      all_goals go_wp2_with fail
      all_goals go_meet
      all_goals refine ⟨At, ct, As, cs, _, rfl, rfl, rfl, hcp, ?_⟩
      all_goals (
        have hb := hS.block
        refine ⟨New.trans hN1 (by repeat (first | with_reducible exact New.refl _ | with_reducible assumption | with_reducible refine New.alloc ?_ _ | with_reducible refine New.drewN ?_ _ | with_reducible refine New.drew ?_ | with_reducible refine New.trans ?_ (by with_reducible assumption))), New.cell (w := w3) (by repeat (first | with_reducible exact New.refl _ | with_reducible assumption | with_reducible refine New.alloc ?_ _ | with_reducible refine New.drewN ?_ _ | with_reducible refine New.drew ?_ | with_reducible refine New.trans ?_ (by with_reducible assumption))) r0, New.cell (w := w3) (by repeat (first | with_reducible exact New.refl _ | with_reducible assumption | with_reducible refine New.alloc ?_ _ | with_reducible refine New.drewN ?_ _ | with_reducible refine New.drew ?_ | with_reducible refine New.trans ?_ (by with_reducible assumption))) r1, ?_, ?_, ?_⟩
        · first
            | exact Grow.mid hn3 (by (try simp only [sizes]) <;> omega)
            | exact Grow.mid (hn2.trans hm23) (by (try simp only [sizes]) <;> omega)
            | exact Grow.mid (w := w1) (New.trans (by repeat (first | with_reducible exact New.refl _ | with_reducible assumption | with_reducible refine New.alloc ?_ _ | with_reducible refine New.drewN ?_ _ | with_reducible refine New.drew ?_ | with_reducible refine New.trans ?_ (by with_reducible assumption))) (hn2.trans hm23)) (by (try simp only [sizes]) <;> omega)
            | exact Grow.mid (w := w2) (New.trans (by repeat (first | with_reducible exact New.refl _ | with_reducible assumption | with_reducible refine New.alloc ?_ _ | with_reducible refine New.drewN ?_ _ | with_reducible refine New.drew ?_ | with_reducible refine New.trans ?_ (by with_reducible assumption))) hn3) (by (try simp only [sizes]) <;> omega)
            | exact Grow.mid (New.refl _) (by (try simp only [sizes]) <;> omega)
        · refine Solid.step hL (w' := _) (But.of_new (New.trans hm23 (by repeat (first | with_reducible exact New.refl _ | with_reducible assumption | with_reducible refine New.alloc ?_ _ | with_reducible refine New.drewN ?_ _ | with_reducible refine New.drew ?_ | with_reducible refine New.trans ?_ (by with_reducible assumption))))) (fun q hq => ?_)
          (try simp only [sizes] at *)
          omega
        · refine Solid.new (w := w3) (hS.at.solid (fun q hq hs => ?_)) (by repeat (first | with_reducible exact New.refl _ | with_reducible assumption | with_reducible refine New.alloc ?_ _ | with_reducible refine New.drewN ?_ _ | with_reducible refine New.drew ?_ | with_reducible refine New.trans ?_ (by with_reducible assumption)))
          have h1 := hb q hq
          (try simp only [sizes] at *)
          omega)
    case rest =>
      obtain ⟨At, ct, As, cs, g0, rfl, rfl, rfl, hcs, hn2, x0, x1, hG, hT, hS⟩ := hcut
      have hX0 := hid hG
      have hX1 := hid hT
      have hX2 := hid hS
      have H10 := hid hn10
      clear hzb hb0 hb1 z0 z1 hG hT hS HA HM hn1 hN1 hnb hz1 HT hn10
      go_wp2_with fail
      go_loopw [5, 6] (fun ov sv wr => ∃ (f g c' cS : Nat) (AS : Option Addr) (out xs : List Int), ov = .slice (some ⟨g, 0, none⟩) out.length c' ∧ sv = .slice AS xs.length cS ∧ Hid (xs.length ≤ cS) ∧ New w wr ∧ wr.cell? ⟨w.heap.size, 0, none⟩ = some (.int .i64 a.n) ∧ wr.cell? ⟨w.heap.size, 1, none⟩ = some (.slice A a.nx.length c) ∧ Hid (Grow (w.heap.size + 1) 2 wr (.slice (some ⟨g, 0, none⟩) out.length c') out) ∧ Hid (Solid (fun q => q < w.heap.size ∨ g = q) wr (fun w' => ListAt (ListAt WordAt) w' (.slice At n ct) (mwTo a.nx n n))) ∧ Hid (Solid (fun q => g = q) wr (fun w' => IntsAt w' (.slice AS xs.length cS) xs)) ∧ Hid (SetIn a xs) ∧ Hid (R = told (greedyI a.nx f out xs)) ∧ Hid (xs.length ≤ f) ∧ Hid (out.length + 1024 * xs.length ≤ 10240)) (fun _ sv _ => lenG sv)
      case atStart =>
        refine ⟨n, g0, 0, cs, As, [], iota 0 n, rfl, by rw [iota_length], hid (by rw [iota_length]; exact hcs), hn2, x0, x1, hX0, hX1, ?_, HAL, HR2, hid (by rw [iota_length]; exact Nat.le_refl _), hid (by rw [iota_length]; have := H10.out; simp; omega)⟩
        rw [iota_length]; exact hX2
      case round =>
        obtain ⟨f, g, c', cS, AS, out, xs, rfl, rfl, hcS, hnw, y0, y1, hG, hTT, hSS, hI, hRf, hlf, hol⟩ := hrel
        clear hX0 hX1 hX2 hn2 x0 x1 hcs
        obtain ⟨wo, rfl⟩ : ∃ wo : World, wo = wr := ⟨_, rfl⟩
        have hx10 := hid (hI.out.len (by have := H10.out; have := HN.out; omega))
        by_cases hl : xs.length ≤ 1
        · have b1 : ¬ (1 : Int) < (xs.length : Int) := by omega
          have HE := hid (show R = (out, 0) by rw [hRf.out, greedyI_end hl]; rfl)
          have hO := hG.out.own (by have := hol.out; omega)
          clear hl
          go_wp2_with fail
          go_ret2
          rw [HE.out]
          exact ⟨_, rfl, hnw, hO.widen (by omega) (Nat.le_refl _)⟩
        · have b1 : (1 : Int) < (xs.length : Int) := by omega
          obtain ⟨f', hf'⟩ : ∃ f', f = f' + 1 := ⟨f - 1, by have := hlf.out; omega⟩
          have HS2 := hid (show R = told (if goodB a.nx xs = false then ([], false) else greedyI a.nx f' (out ++ (gaAll a.nx xs xs.length).1) (imgOf a.nx xs (gaAll a.nx xs xs.length).1)) by rw [hRf.out, hf', greedyI_step rfl hl])
          obtain ⟨bs, os, hAS, hxc⟩ : ∃ bs os, AS = some ⟨bs, os, none⟩ ∧ ∀ i, i < xs.length → wo.cell? ⟨bs, os + i, none⟩ = some (.int .i64 (nth xs i)) := by
            obtain ⟨_, _, e8, _, hc8⟩ := hSS.out.now
            cases e8
            obtain ⟨b5, o5, hA5, _⟩ := hc8 0 (by omega)
            refine ⟨b5, o5, hA5, fun i hi => ?_⟩
            obtain ⟨b6, o6, hA6, k6⟩ := hc8 i hi
            rw [hA5] at hA6
            cases hA6
            exact k6
          subst hAS
          obtain ⟨tb, tO, hAt, hTC⟩ : ∃ tb tO, At = some ⟨tb, tO, none⟩ ∧ ∀ s, s < n → ∃ rv, wo.cell? ⟨tb, tO + s, none⟩ = some rv ∧ Solid (fun q => q < w.heap.size ∨ g = q) wo (fun w' => ListAt WordAt w' rv (mwRow a.nx s n)) := by
            have h0 := hI.out.inn 0 (by omega)
            have hn0 : 0 < n := by have := HN.out; omega
            obtain ⟨_, _, e8, hc8⟩ := hTT.out.elem
            rw [mwTo_len] at e8 hc8
            cases e8
            obtain ⟨b5, o5, _, hA5, _⟩ := hc8 0 hn0
            refine ⟨b5, o5, hA5, fun s hs => ?_⟩
            obtain ⟨b6, o6, rv, hA6, k6, _, k7⟩ := hc8 s hs
            rw [hA5] at hA6
            cases hA6
            rw [nth_mwTo _ _ _ _ hs] at k7
            exact ⟨rv, k6, k7⟩
          subst hAt
          have HTC := hid hTC
          clear hTC
          have HXC := hid hxc
          have HL := hid hl
          have HF := hid hf'
          clear hxc hl hf'
          go_wp2_with fail
          go_loopw [7, 26] (fun bv iv wr => ∃ (i : Nat) (B : List Int × Bool), i ≤ xs.length ∧ iv = .int .i64 i ∧ New wo wr ∧ Hid (BestAt (fun q => q < w.heap.size ∨ g = q) wr bv B) ∧ Hid (B = gaAll a.nx xs i) ∧ Hid (GoodTo a.nx xs i 0)) (fun _ iv _ => xs.length - (intOf iv).toNat)
          case atStart => exact ⟨0, ([], false), Nat.zero_le _, rfl, New.refl _, hid BestAt.nil, hid rfl, hid (fun i' k' _ _ h => by omega)⟩
          case round =>
            obtain ⟨i, B, hi, rfl, hni, hB, hBe, hGd⟩ := hrel
            obtain ⟨wi, rfl⟩ : ∃ wi : World, wi = wr := ⟨_, rfl⟩
            by_cases hlt : i < xs.length
            · have b2 : (i : Int) < (xs.length : Int) := by omega
              have kx := hni.cell (HXC.out i hlt)
              obtain ⟨X, hX⟩ : ∃ X, X = nth xs i := ⟨_, rfl⟩
              rw [← hX] at kx
              have HX := hid hX
              have hcS2 := Nat.lt_of_lt_of_le hlt hcS.out
              have hx12 := hx10.out
              have hwr : wrap64 ((i : Int) + 1) = ((i + 1 : Nat) : Int) := by unfold wrap64; omega
              clear hX
              by_cases hc1 : cS = i + 1
              · have hend := hid (show xs.length = i + 1 by have := hcS.out; omega)
                go_wp2_with fail
                go_loopw [7, 36] (fun bv jv wr => jv = .int .i64 0 ∧ New wo wr ∧ Hid (BestAt (fun q => q < w.heap.size ∨ g = q) wr bv B)) (fun _ jv _ => 0)
                case atStart => exact ⟨rfl, hni, hB⟩
                case round =>
                  obtain ⟨rfl, hnj, hB2⟩ := hrel
                  have b3 : ¬ (0 : Int) < ((xs.length - (i + 1) : Nat) : Int) := by have := hend.out; omega
                  go_wp2_with fail
                  go_roundw
                  case rel => exact ⟨i + 1, B, hlt, by go_num, hnj, hB2, hid (by rw [hBe.out, gaAll_succ, show xs.length - (i + 1) = 0 by have := hend.out; omega]; rfl), hid (fun i' k' h1 h2 h3 => hGd.out i' k' h1 h2 (Or.inl (by have := hend.out; omega)))⟩
                  case measure => simp [intOf]; omega
              · go_wp2_with fail
                go_loopw [7, 36] (fun bv jv wr => ∃ (d : Nat) (B : List Int × Bool), i + 1 + d ≤ xs.length ∧ jv = .int .i64 d ∧ New wo wr ∧ Hid (BestAt (fun q => q < w.heap.size ∨ g = q) wr bv B) ∧ Hid (B = gaRow a.nx xs i (gaAll a.nx xs i) d) ∧ Hid (GoodTo a.nx xs i (i + 1 + d))) (fun _ jv _ => xs.length - (i + 1) - (intOf jv).toNat)
                case atStart => exact ⟨0, B, by omega, rfl, hni, hB, hBe, hid (fun i' k' h1 h2 h3 => hGd.out i' k' h1 h2 (Or.inl (by omega)))⟩
                case round =>
                  obtain ⟨d, B2, hd, rfl, hnj, hB2, hBe2, hGd2⟩ := hrel
                  obtain ⟨wj, rfl⟩ : ∃ wj : World, wj = wr := ⟨_, rfl⟩
                  clear kx hwr
                  by_cases hlt2 : i + 1 + d < xs.length
                  · have b3 : (d : Int) < ((xs.length - (i + 1) : Nat) : Int) := by omega
                    have ky : wj.cell? ⟨bs, os + (i + 1) + d, none⟩ = some (.int .i64 (nth xs (i + 1 + d))) := by
                      have := hnj.cell (HXC.out (i + 1 + d) hlt2)
                      rw [show os + (i + 1) + d = os + (i + 1 + d) by omega]; exact this
                    obtain ⟨p0, p1⟩ := hI.out.inn i hlt
                    obtain ⟨q0, q1⟩ := hI.out.inn (i + 1 + d) hlt2
                    have hne := nth_inj hI.out.1 (i := i) (k := i + 1 + d) (by omega) hlt2
                    have hgs := gaRow_succ a.nx xs i (gaAll a.nx xs i) d
                    have hbad := GoodTo.bad (nx := a.nx) (xs := xs) (i := i) (k := i + 1 + d) (by omega) hlt2
                    have hgd3 : (mw a.nx (nth xs i).toNat (nth xs (i + 1 + d)).toNat).2 = true → GoodTo a.nx xs i (i + 1 + (d + 1)) := fun h i' k' h1 h2 h3 => by
                      by_cases e : i' = i ∧ k' = i + 1 + d
                      · rw [e.1, e.2]; exact h
                      · exact hGd2.out i' k' h1 h2 (by omega)
                    rw [← HX.out] at p0 p1 hne hgs hbad hgd3
                    obtain ⟨Y, hY⟩ : ∃ Y, Y = nth xs (i + 1 + d) := ⟨_, rfl⟩
                    rw [← hY] at ky q0 q1 hne hgs hbad hgd3
                    rw [← hBe2.out] at hgs
                    rw [HN.out] at p1 q1
                    have hpos := fun h => mw_pos HOK.out (s := X.toNat) (t := Y.toNat) (by rw [HN.out]; omega) (by rw [HN.out]; omega) (by omega) h
                    obtain ⟨rv, hr, hrs⟩ := HTC.out X.toNat (by omega)
                    obtain ⟨A3, c3, rfl, hrc⟩ := hrs.elem
                    rw [mwRow_len] at hr hrc
                    obtain ⟨rb, ro, wv, rfl, hz, _, hws⟩ := hrc Y.toNat (by omega)
                    rw [nth_mwRow _ _ _ _ (by omega)] at hws
                    replace hr := hnj.cell hr
                    replace hz := hnj.cell hz
                    replace hws := hws.new hnj
                    obtain ⟨MW, hMW⟩ : ∃ z, z = mw a.nx X.toNat Y.toNat := ⟨_, rfl⟩
                    rw [← hMW] at hws hgs hbad hgd3 hpos
                    have HGS := hid hgs
                    clear hMW hrc hrs hY hne hgs
                    cases hb : MW.2 with
                    | false =>
                      have hW := hws.now.2 hb
                      have HE := hid (show R = ([], 6) by rw [HS2.out, if_pos (hbad hb)]; rfl)
                      subst hW
                      clear hb hbad hgd3 hpos hws
                      go_wp2_with fail
                      go_ret2
                      rw [HE.out]
                      exact ⟨_, rfl, hnw.trans hnj, OwnInts.nil _ _ _⟩
                    | true =>
                      have HGD := hid (hgd3 hb)
                      have HWB := hid (show BestAt (fun q => q < w.heap.size ∨ g = q) wj wv MW from ⟨hws, fun _ => hpos hb⟩)
                      obtain ⟨bw, ow, cw, hwv⟩ := HWB.out.some hb
                      subst hwv
                      clear hb hbad hgd3 hpos hws
                      cases hb2 : B2.2 with
                      | false =>
                        have hW := hB2.out.none hb2
                        subst hW
                        have HG2 := hid (show gaRow a.nx xs i (gaAll a.nx xs i) (d + 1) = MW by rw [HGS.out, gaStep, if_pos (Or.inl hb2)])
                        clear hb2
                        go_wp2_with fail
                        go_roundw
                        case rel => exact ⟨d + 1, MW, by omega, by go_num, hnj, HWB, hid HG2.out.symm, HGD⟩
                        case measure => simp [intOf]; omega
                      | true =>
                        obtain ⟨bw2, ow2, cw2, hwv2⟩ := hB2.out.some hb2
                        subst hwv2
                        by_cases hq : MW.1.length < B2.1.length
                        · have HG2 := hid (show gaRow a.nx xs i (gaAll a.nx xs i) (d + 1) = MW by rw [HGS.out, gaStep, if_pos (Or.inr hq)])
                          have b4 : (MW.1.length : Int) < (B2.1.length : Int) := by omega
                          clear hb2 hq
                          go_wp2_with fail
                          go_roundw
                          case rel => exact ⟨d + 1, MW, by omega, by go_num, hnj, HWB, hid HG2.out.symm, HGD⟩
                          case measure => simp [intOf]; omega
                        · have HG2 := hid (show gaRow a.nx xs i (gaAll a.nx xs i) (d + 1) = B2 by rw [HGS.out, gaStep, if_neg (by rw [hb2]; simp; omega)])
                          have b4 : ¬ (MW.1.length : Int) < (B2.1.length : Int) := by omega
                          clear hb2 hq
                          go_wp2_with fail
                          go_roundw
                          case rel => exact ⟨d + 1, B2, by omega, by go_num, hnj, hB2, hid HG2.out.symm, HGD⟩
                          case measure => simp [intOf]; omega
                  · have b3 : ¬ (d : Int) < ((xs.length - (i + 1) : Nat) : Int) := by omega
                    have hde := hid (show xs.length - (i + 1) = d by omega)
                    go_wp2_with fail
                    go_roundw
                    case rel => exact ⟨i + 1, B2, hlt, by go_num, hnj, hB2, hid (by rw [gaAll_succ, hde.out, hBe2.out]), hid (fun i' k' h1 h2 h3 => hGd2.out i' k' h1 h2 (by have := hde.out; omega))⟩
                    case measure => simp [intOf]; omega
            · have he : i = xs.length := by omega
              have b2 : ¬ (i : Int) < (xs.length : Int) := by omega
              have hGood : Good a.nx xs := fun i' k' h1 h2 => hGd.out i' k' h1 h2 (Or.inl (by omega))
              obtain ⟨p, q, hpq, hq, hMe⟩ := ga_best HOK.out hI.out hGood HL.out
              have hB2 := gaAll_true hGood (by have := HL.out; omega) xs.length (by have := HL.out; omega) (Nat.le_refl _)
              have hR3 : R = told (greedyI a.nx f' (out ++ (gaAll a.nx xs xs.length).1) (imgOf a.nx xs (gaAll a.nx xs xs.length).1)) := by rw [HS2.out, if_neg (by rw [(goodB_iff _ _).2 hGood]; simp)]
              have hBe3 : B = gaAll a.nx xs xs.length := by rw [hBe.out, he]
              rw [← hBe3] at hMe hB2 hR3
              obtain ⟨m1, m2⟩ := hI.out.merges HOK.out hpq hq (by rw [← hMe]; exact hB2)
              have hsh := img_shrinks a.nx xs _ p q hpq hq m2
              have hwl := mw_len HOK.out (s := (nth xs p).toNat) (t := (nth xs q).toNat) (by have := hI.out.inn p (by omega); omega) (by have := hI.out.inn q hq; omega)
              rw [← hMe] at m1 hsh hwl
              have HM1 := hid m1
              have HSH := hid hsh
              have HWL := hid hwl
              have HR3 := hid hR3
              have hBw := hB.out.1
              have hlo := hol.out
              have HSI := hid (hI.out.img HOK.out m1)
              have hp0 : 0 < xs.length := by have := HL.out; omega
              obtain ⟨AB, cB, hf⟩ := hBw.now.1.form
              subst hf
              clear hMe hB2 hR3 m1 m2 hsh hpq hq hBe3 hGood he
              have hG2 := hG.out.new hni
              have hgb := hid ((hG2.block g rfl))
              have hT2 := hTT.out.new hni
              have hS2 := hSS.out.new hni
              have hnwi := hnw.trans hni
              have y2 := hni.cell y0
              have y3 := hni.cell y1
              have lz := World.block_lt_of_cell? wi _ y2
              dsimp only at lz
              have hgb1 := hgb.out.1
              go_wp2_with fail
              go_region_law (first
                | (refine step_appAll rfl _ _ _ rfl Try.underlying26 info_i64 (.slice (some ⟨g, 0, none⟩) out.length c') _ out B.1 g rfl (hG2.new (by repeat (first | with_reducible exact New.refl _ | with_reducible assumption | with_reducible refine New.alloc ?_ _ | with_reducible refine New.drewN ?_ _ | with_reducible refine New.drew ?_ | with_reducible refine New.trans ?_ (by with_reducible assumption)))) rfl rfl (hBw.now.1.new (by repeat (first | with_reducible exact New.refl _ | with_reducible assumption | with_reducible refine New.alloc ?_ _ | with_reducible refine New.drewN ?_ _ | with_reducible refine New.drew ?_ | with_reducible refine New.trans ?_ (by with_reducible assumption)))) (by omega) (by (try simp only [sizes]) <;> omega) ?_; intro g8 cap8 w8 ho8 hg8 hloc8; have hb8 : But (fun q => g = q) wi w8 := But.trans (S' := fun q => g = q) (But.of_new (by repeat (first | with_reducible exact New.refl _ | with_reducible assumption | with_reducible refine New.alloc ?_ _ | with_reducible refine New.drewN ?_ _ | with_reducible refine New.drew ?_ | with_reducible refine New.trans ?_ (by with_reducible assumption)))) (But.of_grown hg8 (fun q hq => Option.some.inj hq)) (fun q hq => Or.inl hq); have hS8 := hS2 _ hb8; have hb8b : But (fun q => q < w.heap.size ∨ g = q) wi w8 := But.trans But.refl hb8 (fun q hq => Or.inl (Or.inr hq)); have hB8 := (hBw _ hb8b).1; have hN8 : New w w8 := But.new hnwi hb8 (fun q hq => by have : g = q := hq; omega); have k0 := hb8.cell y2 (fun e => by have : g = w.heap.size := e; omega); have k1 := hb8.cell y3 (fun e => by have : g = w.heap.size := e; omega); have lz8 := World.block_lt_of_cell? w8 _ k0; (dsimp only at lz8))
                | (go_simp; go_at_call 52; refine (HI.out _ _ _ xs B.1 (hN8.trans (by repeat (first | with_reducible exact New.refl _ | with_reducible assumption | with_reducible refine New.alloc ?_ _ | with_reducible refine New.drewN ?_ _ | with_reducible refine New.drew ?_ | with_reducible refine New.trans ?_ (by with_reducible assumption)))) (hS8.new (by repeat (first | with_reducible exact New.refl _ | with_reducible assumption | with_reducible refine New.alloc ?_ _ | with_reducible refine New.drewN ?_ _ | with_reducible refine New.drew ?_ | with_reducible refine New.trans ?_ (by with_reducible assumption)))) (hB8.new (by repeat (first | with_reducible exact New.refl _ | with_reducible assumption | with_reducible refine New.alloc ?_ _ | with_reducible refine New.drewN ?_ _ | with_reducible refine New.drew ?_ | with_reducible refine New.trans ?_ (by with_reducible assumption)))) HM1.out hI.out hp0).mono ?_; rintro e w9 ⟨r, he, hn9, ho9, hcp9⟩; obtain ⟨A9, c9, hf⟩ := ho9.form; subst hf; subst he))
              all_goals go_wp2_with fail
              all_goals (
                have hgb8 := (ho8.block g8 rfl).2
                have hbk9 := ho9.block
                go_roundw
                case rel => exact ⟨u2, u3, .slice (some ⟨g8, 0, none⟩) (out.length + B.1.length) cap8, .slice A9 (imgOf a.nx xs B.1).length c9, ⟨f', g8, cap8, c9, A9, out ++ B.1, by rw [List.length_append], imgOf a.nx xs B.1, rfl, hid (hcp9 _ _ _ rfl), hN8.trans hn9, hn9.cell k0, hn9.cell k1, hid (by rw [List.length_append]; exact ho8.new hn9), hid ((hT2.step (S' := fun q => q < w.heap.size ∨ g8 = q) hb8b (fun q hq => hq.elim (fun h => Or.inl (Or.inl h)) (fun h => hloc8.elim (fun h2 => Or.inl (Or.inr ((Option.some.inj h2).trans h))) (fun h2 => Or.inr (by rw [← h]; exact h2))))).new hn9), hid (ho9.at.solid (fun q hq hs => by have := (hbk9 q hq).1; omega)), HSI, HR3, hid (by have := HSH.out; have := hlf.out; have := HF.out; omega), hid (by have := HSH.out; have := hol.out; have := HWL.out; rw [List.length_append]; omega)⟩, rfl, rfl, rfl, rfl⟩
                case measure => exact HSH.out)

end Go.Proofs.Ytnhjoiafadapaaa
