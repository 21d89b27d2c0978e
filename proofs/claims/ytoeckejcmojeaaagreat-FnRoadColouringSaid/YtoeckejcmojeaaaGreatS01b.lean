/- The reference's action of a word. -/
import Derived.Test.YtoeckejcmojeaaaGreatRows
import Derived.Test.YtoeckejcmojeaaaGreatCore
import Derived.Test.YtoeckejcmojeaaaGreatPlains
import Derived.Test.YtoeckejcmojeaaaGreatSBase
import Derived.Test.YtoeckejcmojeaaaGreatInfos
import Derived.WalkKit
import Derived.WalkSpells
import Derived.WalkLawsBesides
import Derived.Deep.QuietTactic
import Derived.Deep.OwnRows
import Derived.BigQuiet
import Derived.KernelRfl
namespace Go.Proofs.YtoeckejcmojeaaaGreat
open Go.RowKit

set_option maxHeartbeats 400000 in
theorem l01To_any (p v : Value) (a : Aut) (s : Int) (ws : List Int) (w : World) (hp : PAut w p a) (h : IntsAt w v ws) (ha : autOk a = true) (hw : letters a ws) (hs : 0 ≤ s ∧ s < a.n) :
    Calls Tryz.prog 96 #[p, .int .i64 s, v] w fun e w' => e = .returned (.int .i64 (runOf a.nx s ws)) ∧ New w w' := by
  obtain ⟨pb, rv, rfl, hp0, hp1, hpr⟩ := hp
  obtain ⟨A2, c2, rfl, hl2, hc2⟩ := hpr
  obtain ⟨A, c, rfl, hl, hc⟩ := h
  have HA := hid ha
  have HW := hid hw
  have HS := hid hs
  clear ha hw hs
  go_enter Tryz.func96, Tryz.ntmps96
  go_wp2
  go_loopw [1, 7] (fun q i wr => ∃ (k : Nat) (z : Int), k ≤ ws.length ∧ i = .int .i64 k ∧ q = .int .i64 z ∧ Hid (z = runOf a.nx s (ws.take k)) ∧ New w wr) (fun _ i _ => ws.length - (intOf i).toNat)
  case atStart => exact ⟨0, _, Nat.zero_le _, rfl, rfl, rfl, New.refl _⟩
  case round =>
    obtain ⟨k, z, hk, rfl, rfl, he, hn⟩ := hrel
    by_cases hlt : k < ws.length
    · obtain ⟨b, off, rfl, hx⟩ := hc k hlt
      have b1 : (k : Int) < (ws.length : Int) := by omega
      have hz : 0 ≤ z ∧ z < a.n := by rw [he.out]; exact runOf_in HA.out ws HW.out s HS.out k (by omega)
      have hL := HW.out k hlt
      obtain ⟨b2, off2, rv, rfl, hx2, hr⟩ := hc2 (nth ws k).toNat (by omega)
      obtain ⟨h1, h2⟩ := autOk_row HA.out (nth ws k).toNat (by omega)
      obtain ⟨A3, c3, rfl, hl3, hc3⟩ := hr
      obtain ⟨b3, off3, rfl, hx3⟩ := hc3 z.toNat (by omega)
      obtain ⟨hz1, hz2⟩ := hz
      obtain ⟨hL1, hL2⟩ := hL
      have b2 : z < ((nth a.nx (nth ws k).toNat).length : Int) := by omega
      replace hx := hn.cell hx
      replace hx2 := hn.cell hx2
      replace hx3 := hn.cell hx3
      replace hp0 := hn.cell hp0
      replace hp1 := hn.cell hp1
      clear hc hc2 hc3 h1 h2
      go_wp2_with fail
      go_quiet (fail)
      go_wp2
      go_roundw
      case rel => exact ⟨k + 1, _, by omega, by go_num, rfl, by show _ = _; rw [runOf_take _ _ _ _ hlt, ← he.out]; rfl, hn.drewN nq⟩
      case measure => simp [intOf]; omega
    · have e : k = ws.length := by omega
      subst e
      go_wp2
      go_ret
      exact ⟨ret_int (by rw [he.out, List.take_length]), hn⟩

end Go.Proofs.YtoeckejcmojeaaaGreat
