/- The program's image of a set. -/
import Derived.Test.YtnhjoiafadapaaaRows
import Derived.Test.YtnhjoiafadapaaaCore
import Derived.Test.YtnhjoiafadapaaaInfos
import Derived.Test.YtnhjoiafadapaaaPlains
import Derived.Test.YtnhjoiafadapaaaJoins
import Derived.Test.YtnhjoiafadapaaaPlainReset
import Derived.Test.YtnhjoiafadapaaaPlainGreeds
import Derived.Test.YtnhjoiafadapaaaIClone
import Derived.Test.YtnhjoiafadapaaaISort
import Derived.Test.YtnhjoiafadapaaaArrs
import Derived.Test.YtnhjoiafadapaaaISorted
import Derived.Test.YtnhjoiafadapaaaISortAny
import Derived.Test.YtnhjoiafadapaaaIBase
import Derived.Test.YtnhjoiafadapaaaI01c
import Derived.WalkKit
import Derived.WalkSpells
import Derived.WalkLawsBesides
import Derived.Deep.QuietTactic
import Derived.Deep.OwnRows
import Derived.BigQuiet
import Derived.KernelRfl
namespace Go.Proofs.Ytnhjoiafadapaaa
open Go.RowKit

set_option maxHeartbeats 400000 in
theorem imageC_any (v1 v2 v3 : Value) (a : Aut) (xs ws : List Int) (w : World) (h1 : AutAt w v1 a) (h2 : IntsAt w v2 xs) (h3 : IntsAt w v3 ws) (ha : autOk a = true) (hw : letters a ws)
    (hx : ∀ s, s ∈ xs → 0 ≤ s ∧ s < a.n) (h0 : 0 < xs.length) (hl : xs.length ≤ 12) :
    Calls Try.prog 52 #[v1, v2, v3] w fun e w' => ∃ r, e = .returned r ∧ New w w' ∧ OwnInts w.heap.size w'.heap.size w' r (imgOf a.nx xs ws) ∧ (∀ A m c, r = .slice A m c → m ≤ c) := by
  obtain ⟨rv, rfl, hr⟩ := h1
  obtain ⟨A2, c2, rfl⟩ := hr.form
  obtain ⟨A3, c3, rfl, hl3, hc3⟩ := id h2
  have HA := hid ha
  have HW := hid hw
  have HX := hid hx
  have HC := hid hc3
  clear ha hw hx hc3
  have h1 : AutAt w (.agg #[.int .i64 a.n, .slice A2 a.nx.length c2]) a := ⟨_, rfl, hr⟩
  go_enter Try.func52, Try.ntmps52
  go_wp2_with fail
  go_loopw [7, 13] (fun q i wr => ∃ k : Nat, k ≤ xs.length ∧ i = .int .i64 k ∧ Grow (w.heap.size + 1) 2 wr q ((xs.take k).map fun s => runOf a.nx s ws) ∧ New (w.alloc (.cells #[.int .i64 a.n, .slice A2 a.nx.length c2] 29)) wr) (fun _ i _ => xs.length - (intOf i).toNat)
  case atStart => exact ⟨0, Nat.zero_le _, rfl, by have := Grow.empty (w.heap.size + 1) 2 (w.alloc (.cells #[.int .i64 a.n, .slice A2 a.nx.length c2] 29)) (by (try simp only [sizes]) <;> omega); rw [size_alloc] at this; exact this, (by repeat (first | with_reducible exact New.refl _ | with_reducible assumption | with_reducible refine New.alloc ?_ _ | with_reducible refine New.drew ?_ | with_reducible refine New.drewN ?_ _ | with_reducible refine New.setCell ?_ (by simp <;> omega) _))⟩
  case round =>
    obtain ⟨k, hk, rfl, ho, hn⟩ := hrel
    have hn0 : New w wr := New.trans (by repeat (first | with_reducible exact New.refl _ | with_reducible assumption | with_reducible refine New.alloc ?_ _ | with_reducible refine New.drew ?_ | with_reducible refine New.drewN ?_ _ | with_reducible refine New.setCell ?_ (by simp <;> omega) _)) hn
    have hz0 := hn.size
    simp only [size_alloc] at hz0
    by_cases hlt : k < xs.length
    · have hp0 : wr.cell? ⟨w.heap.size, 0, none⟩ = some (.int .i64 a.n) := hn.cell (by go_simp)
      have hp1 : wr.cell? ⟨w.heap.size, 1, none⟩ = some (.slice A2 a.nx.length c2) := hn.cell (by go_simp)
      obtain ⟨b, off, rfl, hx⟩ := HC.out k hlt
      replace hx := hn0.cell hx
      have hb := HX.out _ (nth_mem xs k hlt)
      have b1 : (k : Int) < (xs.length : Int) := by omega
      obtain ⟨X, hX⟩ : ∃ X, X = nth xs k := ⟨_, rfl⟩
      rw [← hX] at hx hb
      have HXX := hid hX
      clear hX
      go_wp2_with (first
        | (go_at_call 121; refine (at_any _ _ a _ _ _ (h1.new hn0) (h3.new hn0) HA.out HW.out hb).mono ?_; rintro e w1 ⟨rfl, hn1⟩)
        | (at_builtin; refine wpList_app rfl _ _ _ rfl Try.underlying26 info_i64 _ _ rfl (ho.new hn1) rfl (by simp; omega) (by have := hn1.size; omega) ?_; intro g cap w2 ho2 hg2))
      go_roundw
      case rel =>
        refine ⟨k + 1, by omega, by go_num, ?_, (hn.trans hn1).app hg2 (ho.new hn1) (by (try simp only [sizes]) <;> omega)⟩
        rw [take_succ_nth xs k hlt, List.map_append, ← HXX.out]
        simp only [List.map_cons, List.map_nil]
        have hkl : (List.map (fun s => runOf a.nx s ws) (List.take k xs)).length = k := by rw [List.length_map, List.length_take]; omega
        rw [hkl] at ho2
        exact ho2
      case measure => simp [intOf]; omega
    · have e : k = xs.length := by omega
      have b1 : ¬ (k : Int) < (xs.length : Int) := by omega
      rw [e, List.take_length] at ho
      have hO := ho.own (by simp; omega)
      obtain ⟨Y, hY⟩ : ∃ Y, Y = xs.map fun s => runOf a.nx s ws := ⟨_, rfl⟩
      have hYl : Y.length = xs.length := by rw [hY, List.length_map]
      rw [← hY] at hO
      have HY := hid hY
      have hO2 := hid (sortedC_any _ Y _ hO.at (by omega) (by omega))
      obtain ⟨A4, c4, hf⟩ := hO.form
      subst hf
      clear ho hO hY hYl
      go_wp2_with (go_at_call 122; refine hO2.out.mono ?_; rintro e w1 ⟨r, rfl, hn1, ho1, hcp⟩)
      go_ret
      exact ⟨_, rfl, hn0.trans hn1, by rw [imgOf, ← HY.out]; exact ho1.widen hn0.size (Nat.le_refl _), hcp⟩
theorem image_any (v1 v2 v3 : Value) (a : Aut) (xs ws : List Int) (w : World) (h1 : AutAt w v1 a) (h2 : IntsAt w v2 xs) (h3 : IntsAt w v3 ws) (ha : autOk a = true) (hw : letters a ws)
    (hx : ∀ s, s ∈ xs → 0 ≤ s ∧ s < a.n) (h0 : 0 < xs.length) (hl : xs.length ≤ 12) :
    Calls Try.prog 52 #[v1, v2, v3] w fun e w' => ∃ r, e = .returned r ∧ New w w' ∧ OwnInts w.heap.size w'.heap.size w' r (imgOf a.nx xs ws) :=
  (imageC_any v1 v2 v3 a xs ws w h1 h2 h3 ha hw hx h0 hl).mono fun _ _ ⟨r, q1, q2, q3, _⟩ => ⟨r, q1, q2, q3⟩

end Go.Proofs.Ytnhjoiafadapaaa
