/- The program's action of a word. -/
import Derived.Test.YtoeckejcmojeaaaRows
import Derived.Test.YtoeckejcmojeaaaCore
import Derived.Test.YtoeckejcmojeaaaInfos
import Derived.Test.YtoeckejcmojeaaaPlains
import Derived.Test.YtoeckejcmojeaaaIBase
import Derived.WalkKit
import Derived.WalkSpells
import Derived.WalkLawsBesides
import Derived.Deep.QuietTactic
import Derived.Deep.OwnRows
import Derived.BigQuiet
import Derived.KernelRfl
namespace Go.Proofs.Ytoeckejcmojeaaa
open Go.RowKit

set_option maxHeartbeats 400000 in
theorem at_any (v1 v2 : Value) (a : Aut) (s : Int) (ws : List Int) (w : World) (h1 : AutAt w v1 a) (h2 : IntsAt w v2 ws) (ha : autOk a = true) (hw : letters a ws) (hs : 0 ≤ s ∧ s < a.n) :
    Calls Try.prog 134 #[v1, .int .i64 s, v2] w fun e w' => e = .returned (.int .i64 (runOf a.nx s ws)) ∧ New w w' := by
  obtain ⟨rv, rfl, hr⟩ := h1
  obtain ⟨A2, c2, rfl, hl2, hc2⟩ := hr
  obtain ⟨A, c, rfl, hl, hc⟩ := h2
  have HA := hid ha
  have HW := hid hw
  have HS := hid hs
  clear ha hw hs
  have hn0 : New w (w.alloc (.cells #[.int .i64 a.n, .slice A2 a.nx.length c2] 28)) := (by repeat (first | with_reducible exact New.refl _ | with_reducible assumption | with_reducible refine New.alloc ?_ _ | with_reducible refine New.drew ?_ | with_reducible refine New.drewN ?_ _ | with_reducible refine New.setCell ?_ (by simp <;> omega) _))
  go_enter Try.func134, Try.ntmps134
  go_wp2
  go_loopw [1, 11] (fun q i wr => ∃ (k : Nat) (z : Int), k ≤ ws.length ∧ i = .int .i64 k ∧ q = .int .i64 z ∧ Hid (z = runOf a.nx s (ws.take k)) ∧ New (w.alloc (.cells #[.int .i64 a.n, .slice A2 a.nx.length c2] 28)) wr) (fun _ i _ => ws.length - (intOf i).toNat)
  case atStart => exact ⟨0, _, Nat.zero_le _, rfl, rfl, rfl, New.refl _⟩
  case round =>
    obtain ⟨k, z, hk, rfl, rfl, he, hn⟩ := hrel
    by_cases hlt : k < ws.length
    · obtain ⟨b, off, rfl, hx⟩ := hc k hlt
      have kb1 : (k : Int) < (ws.length : Int) := by omega
      have hz : 0 ≤ z ∧ z < a.n := by rw [he.out]; exact runOf_in HA.out ws HW.out s HS.out k (by omega)
      have hL := HW.out k hlt
      obtain ⟨b2, off2, rv, rfl, hx2, hr⟩ := hc2 (nth ws k).toNat (by omega)
      obtain ⟨h1, h2⟩ := autOk_row HA.out (nth ws k).toNat (by omega)
      obtain ⟨A3, c3, rfl, hl3, hc3⟩ := hr
      obtain ⟨b3, off3, rfl, hx3⟩ := hc3 z.toNat (by omega)
      obtain ⟨hz1, hz2⟩ := hz
      obtain ⟨hL1, hL2⟩ := hL
      have kb2 : z < ((nth a.nx (nth ws k).toNat).length : Int) := by omega
      replace hx := (hn0.trans hn).cell hx
      replace hx2 := (hn0.trans hn).cell hx2
      replace hx3 := (hn0.trans hn).cell hx3
      have hp1 : wr.cell? ⟨w.heap.size, 1, none⟩ = some (.slice (some ⟨b2, off2, none⟩) a.nx.length c2) := hn.cell (by go_simp)
      clear hc hc2 hc3 h1 h2
      go_wp2
      go_roundw
      case rel => exact ⟨k + 1, _, by omega, by go_num, rfl, by show _ = _; rw [runOf_take _ _ _ _ hlt, ← he.out]; rfl, hn⟩
      case measure => simp [intOf]; omega
    · have e : k = ws.length := by omega
      subst e
      go_wp2
      go_ret
      exact ⟨ret_int (by rw [he.out, List.take_length]), hn0.trans hn⟩

set_option maxHeartbeats 400000 in
theorem action_any (v1 v2 : Value) (a : Aut) (ws : List Int) (w : World) (h1 : AutAt w v1 a) (h2 : IntsAt w v2 ws) (ha : autOk a = true) (hw : letters a ws) :
    Calls Try.prog 101 #[v1, v2] w fun e w' => ∃ r, e = .returned r ∧ New w w' ∧ OwnInts w.heap.size w'.heap.size w' r (actOf a ws) := by
  obtain ⟨rv, rfl, hr⟩ := h1
  obtain ⟨A2, c2, rfl⟩ := hr.form
  have HA := hid ha
  have HW := hid hw
  clear ha hw
  have h1 : AutAt w (.agg #[.int .i64 a.n, .slice A2 a.nx.length c2]) a := ⟨_, rfl, hr⟩
  go_enter Try.func101, Try.ntmps101
  go_wp2
  go_loopw [5, 10] (fun q i wr => ∃ k : Nat, (k : Int) ≤ a.n ∧ i = .int .i64 k ∧ Grow (w.heap.size + 1) 2 wr q ((iota 0 k).map fun s => runOf a.nx s ws) ∧ New (w.alloc (.cells #[.int .i64 a.n, .slice A2 a.nx.length c2] 28)) wr) (fun _ i _ => a.n.toNat - (intOf i).toNat)
  case atStart => exact ⟨0, by have := autOk_n HA.out; omega, rfl, by have := Grow.empty (w.heap.size + 1) 2 (w.alloc (.cells #[.int .i64 a.n, .slice A2 a.nx.length c2] 28)) (by (try simp only [sizes]) <;> omega); rw [size_alloc] at this; exact this, (by repeat (first | with_reducible exact New.refl _ | with_reducible assumption | with_reducible refine New.alloc ?_ _ | with_reducible refine New.drew ?_ | with_reducible refine New.drewN ?_ _ | with_reducible refine New.setCell ?_ (by simp <;> omega) _))⟩
  case round =>
    obtain ⟨k, hk, rfl, ho, hn⟩ := hrel
    have hn10 := (autOk_n HA.out).2
    have hn0 : New w wr := New.trans (by repeat (first | with_reducible exact New.refl _ | with_reducible assumption | with_reducible refine New.alloc ?_ _ | with_reducible refine New.drew ?_ | with_reducible refine New.drewN ?_ _ | with_reducible refine New.setCell ?_ (by simp <;> omega) _)) hn
    have hz0 := hn.size
    simp only [size_alloc] at hz0
    by_cases hlt : (k : Int) < a.n
    · have hp0 : wr.cell? ⟨w.heap.size, 0, none⟩ = some (.int .i64 a.n) := hn.cell (by go_simp)
      have hp1 : wr.cell? ⟨w.heap.size, 1, none⟩ = some (.slice A2 a.nx.length c2) := hn.cell (by go_simp)
      go_wp2_with (first
        | (go_at_call 134; refine (at_any _ _ a _ _ _ (h1.new hn0) (h2.new hn0) HA.out HW.out ⟨by omega, hlt⟩).mono ?_; rintro e w1 ⟨rfl, hn1⟩)
        | (at_builtin; refine wpList_app rfl _ _ _ rfl Try.underlying42 info_i64 _ _ rfl (ho.new hn1) rfl (by simp [iota]; omega) (by have := hn1.size; omega) ?_; intro g cap w2 ho2 hg2))
      go_roundw
      case rel =>
        refine ⟨k + 1, by omega, by go_num, ?_, (hn.trans hn1).app hg2 (ho.new hn1) (by (try simp only [sizes]) <;> omega)⟩
        rw [iota_snoc, List.map_append]
        simpa using ho2
      case measure => simp [intOf]; omega
    · have e : (k : Int) = a.n := by omega
      go_wp2
      go_ret
      have e2 : (iota 0 k).map (fun s => runOf a.nx s ws) = actOf a ws := by rw [actOf, ← e]; simp
      rw [e2] at ho
      exact ⟨_, rfl, hn0, (ho.own (by simp [actOf, iota_length]; omega)).widen (by omega) (Nat.le_refl _)⟩

def codeOf (ok right : Bool) : Int := if ok = true then (if right = true then 0 else 2) else 1
theorem ActionOf_code (a : Aut) (ws : List Int) : codeOf (autOk a) (wordOk a ws) = (ActionOf a ws).2 := by
  unfold codeOf ActionOf
  split
  · split <;> rfl
  · rfl

end Go.Proofs.Ytoeckejcmojeaaa
