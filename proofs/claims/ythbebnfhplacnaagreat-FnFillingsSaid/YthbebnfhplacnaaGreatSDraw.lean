/- The reference's choices out of bytes. -/
import Derived.Test.YthbebnfhplacnaaGreatRows
import Derived.Test.YthbebnfhplacnaaGreatCore
import Derived.Test.YthbebnfhplacnaaGreatPlains
import Derived.Test.YthbebnfhplacnaaGreatMaps
import Derived.Test.YthbebnfhplacnaaGreatArrs
import Derived.WalkKit
import Derived.WalkSpells
import Derived.WalkLawsBesides
import Derived.Deep.QuietTactic
import Derived.Deep.OwnRows
import Derived.BigQuiet
import Derived.KernelRfl
import Derived.Deep.RegionHeld3
namespace Go.Proofs.YthbebnfhplacnaaGreat
open Go.RowKit

/-- Bytes, n of them. -/
def BytesAt (w : World) (v : Value) (n : Nat) : Prop := ∃ A c, v = .slice A n c ∧ n ≤ 9223372036854775807 ∧ ∀ i, i < n → ∃ b off z, A = some ⟨b, off, none⟩ ∧ w.cell? ⟨b, off + i, none⟩ = some (.int .u8 z) ∧ 0 ≤ z ∧ z ≤ 255
theorem BytesAt.but {S : Nat → Prop} {w w' : World} {v : Value} {n : Nat} (h : BytesAt w v n) (hb : But S w w') (hv : 0 < n → ∀ k, k < w.heap.size → v.ownBlock = some k → ¬ S k) : BytesAt w' v n := by
  obtain ⟨A, c, rfl, hl, hc⟩ := h
  refine ⟨A, c, rfl, hl, fun i hi => ?_⟩
  obtain ⟨b, off, z, rfl, hx, hz⟩ := hc i hi
  exact ⟨b, off, z, rfl, hb.cell hx (hv (by omega) b (World.block_lt_of_cell? w _ hx) rfl), hz⟩
theorem BytesAt.new {w w' : World} {v : Value} {n : Nat} (h : BytesAt w v n) (hn : New w w') : BytesAt w' v n := h.but (S := fun _ => False) (But.of_new hn) (fun _ _ _ _ => id)
/-- A source of choices, of which at most K have been taken. -/
def SrcAt (w : World) (sb n K : Nat) : Prop := ∃ (v : Value) (pos seed : Int), Box3 w sb v (.int .i64 pos) (.int .u64 seed) ∧ BytesAt w v n ∧ (0 < n → ∀ k, v.ownBlock = some k → k < sb) ∧ (0 ≤ pos ∧ pos ≤ K) ∧ (0 ≤ seed ∧ seed < 18446744073709551616)
theorem SrcAt.lt {w : World} {sb n K : Nat} (h : SrcAt w sb n K) : sb < w.heap.size := let ⟨_, _, _, h1, _⟩ := h; h1.lt
theorem SrcAt.but {S : Nat → Prop} {w w' : World} {sb n K : Nat} (h : SrcAt w sb n K) (hb : But S w w') (hS : ∀ q, S q → sb < q) : SrcAt w' sb n K := by
  obtain ⟨v, pos, seed, h1, h2, h3, h4⟩ := h
  exact ⟨v, pos, seed, h1.but hb (fun q => by have := hS _ q; omega), h2.but hb (fun h0 k _ e q => by have := hS _ q; have := h3 h0 k e; omega), h3, h4⟩
theorem SrcAt.new {w w' : World} {sb n K : Nat} (h : SrcAt w sb n K) (hn : New w w') : SrcAt w' sb n K := h.but (S := fun _ => False) (But.of_new hn) (fun _ q => q.elim)
theorem SrcAt.mono {w : World} {sb n K K' : Nat} (h : SrcAt w sb n K) (hK : K ≤ K') : SrcAt w sb n K' :=
  let ⟨v, pos, seed, h1, h2, h3, h4, h5⟩ := h; ⟨v, pos, seed, h1, h2, h3, ⟨h4.1, by omega⟩, h5⟩
theorem SrcAt.grown9 {w w' : World} {sb n K B : Nat} {r : Option Nat} (h : SrcAt w sb n K) (hg : w.grownBy w' r) (hr : ∀ q, r = some q → B ≤ q) (hB : sb < B) : SrcAt w' sb n K :=
  h.but (S := fun q => B ≤ q) (But.of_grown hg hr) (fun q hq => by omega)
theorem and255 (X : Int) (h0 : 0 ≤ X) (h1 : X < 18446744073709551616) : ∃ y : Nat, bits .and .u64 X 255 = (y : Int) ∧ y ≤ 255 := by
  obtain ⟨n, rfl⟩ : ∃ n : Nat, X = (n : Int) := ⟨X.toNat, by omega⟩
  refine ⟨n &&& 255, ?_, Nat.and_le_right⟩
  rw [show (255 : Int) = ((255 : Nat) : Int) from rfl, u64_and_nat _ _ (by omega) (by omega)]
theorem u64_range (X : Int) : 0 ≤ IntKind.u64.wrap X ∧ IntKind.u64.wrap X < 18446744073709551616 := by rw [IntKind.wrap_u64]; omega
set_option maxRecDepth 20000 in
set_option maxHeartbeats 2000000 in
theorem next_any (sb n K : Nat) (w : World) (h : SrcAt w sb n K) (hK : K ≤ 1000000000000) :
    Calls Tryz.prog 71 #[.pointer (some ⟨sb, 0, none⟩)] w fun e w' => ∃ x : Int, e = .returned (.int .i64 x) ∧ (0 ≤ x ∧ x ≤ 255) ∧ But (fun q => q = sb) w w' ∧ SrcAt w' sb n (K + 1) := by
  obtain ⟨v, pos, seed, hbx, hby, hv, ⟨hp0, hp1⟩, hs⟩ := h
  obtain ⟨A, c, rfl, hl, hc⟩ := id hby
  obtain ⟨⟨z0, z1, z2⟩, f0, f1, f2⟩ := id hbx
  have hw1 : IntKind.i64.wrap (pos + 1) = pos + 1 := IntWalk.i64_in _ (by omega)
  have HFIN := hid (show ∀ (w' : World) (sd : Int), But (fun q => q = sb) w w' → Box3 w' sb (.slice A n c) (.int .i64 (pos + 1)) (.int .u64 (IntKind.u64.wrap sd)) → SrcAt w' sb n (K + 1) from fun w' sd hb hx =>
    ⟨_, _, _, hx, hby.but hb (fun h0 k _ hk q => by have := hv h0 k hk; omega), hv, ⟨by omega, by omega⟩, u64_range _⟩)
  have HC := hid hc
  clear hc hby hv
  by_cases hlt : pos < (n : Int)
  · obtain ⟨b, off, z, rfl, hx, hz0, hz1⟩ := HC.out pos.toNat (by omega)
    have hle : pos + 1 ≤ (n : Int) := by omega
    replace hx : w.cell? ⟨b, off + pos.toNat, none⟩ = some (.int .u8 z) := hx
    have hwz : IntKind.i64.wrap z = z := IntWalk.i64_in _ (by omega)
    go_enter Tryz.func71, Tryz.ntmps71
    go_wp2_with fail
    go_region_held3 (fun w' => w'.cell? ⟨sb, 1, none⟩ = some (.int .i64 pos) ∧ w'.cell? ⟨sb, 0, none⟩ = some (.slice (some ⟨b, off, none⟩) n c)) (go_keep) (fail)
    go_wp2_with fail
    go_region_held3 (fun w' => w'.cell? ⟨sb, 1, none⟩ = some (.int .i64 pos) ∧ w'.cell? ⟨sb, 0, none⟩ = some (.slice (some ⟨b, off, none⟩) n c) ∧ w'.cell? ⟨b, off + pos.toNat, none⟩ = some (.int .u8 z)) (first | exact ⟨z1, z0, hx⟩ | go_keep) (fail)
    go_wp2_with fail
    have hb3 := ((hbx.set1 (.int .i64 (pos + 1))).set2 (.int .u64 (IntKind.u64.wrap (IntKind.u64.wrap (IntKind.u64.wrap (seed * 6364136223846793005) + z) + 1442695040888963407)))).new (show New _ (((w.setCell ⟨sb, 1, none⟩ (.int .i64 (pos + 1))).setCell ⟨sb, 2, none⟩ (.int .u64 (IntKind.u64.wrap (IntKind.u64.wrap (IntKind.u64.wrap (seed * 6364136223846793005) + z) + 1442695040888963407)))).drew.drew) from (by repeat (first | with_reducible exact New.refl _ | with_reducible assumption | with_reducible refine New.alloc ?_ _ | with_reducible refine New.drewN ?_ _ | with_reducible refine New.drew ?_ | with_reducible refine New.trans ?_ (by with_reducible assumption))))
    have hbt : But (fun q => q = sb) w (((w.setCell ⟨sb, 1, none⟩ (.int .i64 (pos + 1))).setCell ⟨sb, 2, none⟩ (.int .u64 (IntKind.u64.wrap (IntKind.u64.wrap (IntKind.u64.wrap (seed * 6364136223846793005) + z) + 1442695040888963407)))).drew.drew) :=
      ((But.setCell (S := fun q => q = sb) ⟨sb, 1, none⟩ (.int .i64 (pos + 1)) rfl).trans (But.setCell (S := fun q => q = sb) ⟨sb, 2, none⟩ _ rfl) (fun q hq => Or.inl hq)).trans (But.of_new (S := fun q => q = sb) (by repeat (first | with_reducible exact New.refl _ | with_reducible assumption | with_reducible refine New.alloc ?_ _ | with_reducible refine New.drewN ?_ _ | with_reducible refine New.drew ?_ | with_reducible refine New.trans ?_ (by with_reducible assumption)))) (fun q hq => Or.inl hq)
    have hF := HFIN.out _ (IntKind.u64.wrap (IntKind.u64.wrap (seed * 6364136223846793005) + z) + 1442695040888963407) hbt hb3
    obtain ⟨⟨q0, q1, q2⟩, _⟩ := id hb3
    obtain ⟨SD, hSD⟩ : ∃ sdv, sdv = IntKind.u64.wrap (IntKind.u64.wrap (IntKind.u64.wrap (seed * 6364136223846793005) + z) + 1442695040888963407) := ⟨_, rfl⟩
    have hSDr := u64_range (IntKind.u64.wrap (IntKind.u64.wrap (seed * 6364136223846793005) + z) + 1442695040888963407)
    rw [← hSD] at hb3 hbt hF q0 q1 q2 hSDr ⊢
    clear hb3 hSD
    generalize (((w.setCell ⟨sb, 1, none⟩ (.int .i64 (pos + 1))).setCell ⟨sb, 2, none⟩ (.int .u64 SD)).drew.drew) = wx at hbt hF q0 q1 q2 ⊢
    go_region_held3 (fun w' => w'.cell? ⟨sb, 1, none⟩ = some (.int .i64 (pos + 1)) ∧ w'.cell? ⟨sb, 0, none⟩ = some (.slice (some ⟨b, off, none⟩) n c)) (go_keep) (fail)
    go_wp2_with fail
    go_ret
    exact ⟨z, rfl, ⟨hz0, hz1⟩, hbt.trans (But.of_new (S := fun q => q = sb) (by repeat (first | with_reducible exact New.refl _ | with_reducible assumption | with_reducible refine New.alloc ?_ _ | with_reducible refine New.drewN ?_ _ | with_reducible refine New.drew ?_ | with_reducible refine New.trans ?_ (by with_reducible assumption)))) (fun q hq => Or.inl hq), hF.new (by repeat (first | with_reducible exact New.refl _ | with_reducible assumption | with_reducible refine New.alloc ?_ _ | with_reducible refine New.drewN ?_ _ | with_reducible refine New.drew ?_ | with_reducible refine New.trans ?_ (by with_reducible assumption)))⟩
  · have hle : ¬ pos + 1 ≤ (n : Int) := by omega
    go_enter Tryz.func71, Tryz.ntmps71
    go_wp2_with fail
    go_region_held3 (fun w' => w'.cell? ⟨sb, 1, none⟩ = some (.int .i64 pos) ∧ w'.cell? ⟨sb, 0, none⟩ = some (.slice A n c)) (go_keep) (fail)
    go_wp2_with fail
    have hb3 := ((hbx.set1 (.int .i64 (pos + 1))).set2 (.int .u64 (IntKind.u64.wrap (IntKind.u64.wrap (IntKind.u64.wrap (seed * 6364136223846793005)) + 1442695040888963407)))).new (show New _ (((w.setCell ⟨sb, 1, none⟩ (.int .i64 (pos + 1))).setCell ⟨sb, 2, none⟩ (.int .u64 (IntKind.u64.wrap (IntKind.u64.wrap (IntKind.u64.wrap (seed * 6364136223846793005)) + 1442695040888963407)))).drew) from (by repeat (first | with_reducible exact New.refl _ | with_reducible assumption | with_reducible refine New.alloc ?_ _ | with_reducible refine New.drewN ?_ _ | with_reducible refine New.drew ?_ | with_reducible refine New.trans ?_ (by with_reducible assumption))))
    have hbt : But (fun q => q = sb) w (((w.setCell ⟨sb, 1, none⟩ (.int .i64 (pos + 1))).setCell ⟨sb, 2, none⟩ (.int .u64 (IntKind.u64.wrap (IntKind.u64.wrap (IntKind.u64.wrap (seed * 6364136223846793005)) + 1442695040888963407)))).drew) :=
      ((But.setCell (S := fun q => q = sb) ⟨sb, 1, none⟩ (.int .i64 (pos + 1)) rfl).trans (But.setCell (S := fun q => q = sb) ⟨sb, 2, none⟩ _ rfl) (fun q hq => Or.inl hq)).trans (But.of_new (S := fun q => q = sb) (by repeat (first | with_reducible exact New.refl _ | with_reducible assumption | with_reducible refine New.alloc ?_ _ | with_reducible refine New.drewN ?_ _ | with_reducible refine New.drew ?_ | with_reducible refine New.trans ?_ (by with_reducible assumption)))) (fun q hq => Or.inl hq)
    have hF := HFIN.out _ (IntKind.u64.wrap (IntKind.u64.wrap (seed * 6364136223846793005)) + 1442695040888963407) hbt hb3
    obtain ⟨⟨q0, q1, q2⟩, _⟩ := id hb3
    obtain ⟨SD, hSD⟩ : ∃ sdv, sdv = IntKind.u64.wrap (IntKind.u64.wrap (IntKind.u64.wrap (seed * 6364136223846793005)) + 1442695040888963407) := ⟨_, rfl⟩
    have hSDr := u64_range (IntKind.u64.wrap (IntKind.u64.wrap (seed * 6364136223846793005)) + 1442695040888963407)
    rw [← hSD] at hb3 hbt hF q0 q1 q2 hSDr ⊢
    clear hb3 hSD
    generalize (((w.setCell ⟨sb, 1, none⟩ (.int .i64 (pos + 1))).setCell ⟨sb, 2, none⟩ (.int .u64 SD)).drew) = wx at hbt hF q0 q1 q2 ⊢
    have hsh : ∃ y : Nat, bits .and .u64 (SD / 2 ^ 40) 255 = (y : Int) ∧ y ≤ 255 := and255 _ (Int.ediv_nonneg hSDr.1 (by decide)) (by have := Int.ediv_le_self (2 ^ 40) hSDr.1; omega)
    obtain ⟨y, hy, hy1⟩ := hsh
    have hwy : IntKind.i64.wrap (y : Int) = (y : Int) := IntWalk.i64_in _ (by omega)
    go_region_held3 (fun w' => w'.cell? ⟨sb, 1, none⟩ = some (.int .i64 (pos + 1)) ∧ w'.cell? ⟨sb, 0, none⟩ = some (.slice A n c)) (go_keep) (fail)
    go_wp2_with fail
    go_ret
    have hfin : Go.RowKit.wrap64 (bits BinOp.and IntKind.u64 (SD / 1099511627776) 255) = (y : Int) := by
      rw [show (1099511627776 : Int) = 2 ^ 40 from by decide, hy]
      exact IntWalk.wrap64_in _ ⟨by omega, by omega⟩
    exact ⟨(y : Int), ret_int hfin, ⟨by omega, by omega⟩, hbt.trans (But.of_new (S := fun q => q = sb) (by repeat (first | with_reducible exact New.refl _ | with_reducible assumption | with_reducible refine New.alloc ?_ _ | with_reducible refine New.drewN ?_ _ | with_reducible refine New.drew ?_ | with_reducible refine New.trans ?_ (by with_reducible assumption)))) (fun q hq => Or.inl hq), hF.new (by repeat (first | with_reducible exact New.refl _ | with_reducible assumption | with_reducible refine New.alloc ?_ _ | with_reducible refine New.drewN ?_ _ | with_reducible refine New.drew ?_ | with_reducible refine New.trans ?_ (by with_reducible assumption)))⟩
/-- A choice from 0 to m - 1. -/
def Choice (m x : Int) : Prop := 0 ≤ x ∧ (m ≤ 1 → x = 0) ∧ (1 < m → x < m)
set_option maxRecDepth 20000 in
set_option maxHeartbeats 2000000 in
theorem pick_any (sb n K : Nat) (m : Int) (w : World) (h : SrcAt w sb n K) (hK : K ≤ 100000000000) (hm : m ≤ 1000000) :
    Calls Tryz.prog 39 #[.pointer (some ⟨sb, 0, none⟩), .int .i64 m] w fun e w' => ∃ x : Int, e = .returned (.int .i64 x) ∧ Choice m x ∧ But (fun q => q = sb) w w' ∧ SrcAt w' sb n (K + 2) := by
  by_cases h1 : m ≤ 1
  · go_enter Tryz.func39, Tryz.ntmps39
    go_wp2_with fail
    go_ret
    exact ⟨0, rfl, ⟨by omega, fun _ => rfl, fun h => by omega⟩, But.refl, h.mono (by omega)⟩
  · have C1 := next_any sb n K w h (by omega)
    by_cases h2 : 200 < m
    · have HC2 := hid (fun w1 (hs : SrcAt w1 sb n (K + 1)) => next_any sb n (K + 1) w1 hs (by omega))
      go_enter Tryz.func39, Tryz.ntmps39
      go_wp2_with fail
      refine C1.mono ?_
      rintro e w1 ⟨x1, rfl, ⟨x10, x11⟩, hb1, hs1⟩
      have C2 := HC2.out w1 hs1
      have hw1 : IntKind.i64.wrap (x1 * 256) = x1 * 256 := IntWalk.i64_in _ (by omega)
      have hw1' : Go.RowKit.wrap64 (x1 * 256) = x1 * 256 := IntWalk.wrap64_in _ ⟨by omega, by omega⟩
      go_wp2_with fail
      refine C2.mono ?_
      rintro e w2 ⟨x2, rfl, ⟨x20, x21⟩, hb2, hs2⟩
      have hw2 : IntKind.i64.wrap (x1 * 256 + x2) = x1 * 256 + x2 := IntWalk.i64_in _ (by omega)
      have hrem : Int.tmod (x1 * 256 + x2) m = (x1 * 256 + x2) % m := Int.tmod_eq_emod_of_nonneg (by omega)
      have hm0 : (0 : Int) ≤ (x1 * 256 + x2) % m := Int.emod_nonneg _ (by omega)
      have hm1 : (x1 * 256 + x2) % m < m := Int.emod_lt_of_pos _ (by omega)
      have hne : ¬ m = 0 := by omega
      go_wp2_with fail
      go_ret
      exact ⟨_, rfl, ⟨hm0, fun h => by omega, fun _ => hm1⟩, hb1.trans hb2 (fun q hq => Or.inl hq), hs2⟩
    · go_enter Tryz.func39, Tryz.ntmps39
      go_wp2_with fail
      refine C1.mono ?_
      rintro e w1 ⟨x1, rfl, ⟨x10, x11⟩, hb1, hs1⟩
      have hrem : Int.tmod x1 m = x1 % m := Int.tmod_eq_emod_of_nonneg (by omega)
      have hm0 : (0 : Int) ≤ x1 % m := Int.emod_nonneg _ (by omega)
      have hm1 : x1 % m < m := Int.emod_lt_of_pos _ (by omega)
      have hne : ¬ m = 0 := by omega
      go_wp2_with fail
      go_ret
      exact ⟨_, rfl, ⟨hm0, fun h => by omega, fun _ => hm1⟩, hb1, hs1.mono (by omega)⟩
set_option maxHeartbeats 400000 in
theorem one_any (sb n K : Nat) (m : Int) (w : World) (h : SrcAt w sb n K) (hK : K ≤ 100000000000) (hm : m ≤ 1000000) :
    Calls Tryz.prog 48 #[.pointer (some ⟨sb, 0, none⟩), .int .i64 m] w fun e w' => ∃ b : Bool, e = .returned (.bool b) ∧ But (fun q => q = sb) w w' ∧ SrcAt w' sb n (K + 2) := by
  have C := pick_any sb n K m w h hK hm
  go_enter Tryz.func48, Tryz.ntmps48
  go_wp2_with fail
  refine C.mono ?_
  rintro e w1 ⟨x, rfl, _, hb, hs⟩
  go_wp2_with fail
  go_ret
  exact ⟨_, rfl, hb, hs⟩
set_option maxHeartbeats 400000 in
theorem from_any (v : Value) (n : Nat) (w : World) (h : BytesAt w v n) :
    Calls Tryz.prog 19 #[v] w fun e w' => e = .returned (.pointer (some ⟨w.heap.size, 0, none⟩)) ∧ New w w' ∧ SrcAt w' w.heap.size n 0 := by
  obtain ⟨A, c, rfl, hl, hc⟩ := id h
  go_enter Tryz.func19, Tryz.ntmps19
  go_wp2_with fail
  go_ret
  have hn : New w (w.alloc (.cells #[.slice A n c, .int .i64 0, .int .u64 0] 83)) := (by repeat (first | with_reducible exact New.refl _ | with_reducible assumption | with_reducible refine New.alloc ?_ _ | with_reducible refine New.drewN ?_ _ | with_reducible refine New.drew ?_ | with_reducible refine New.trans ?_ (by with_reducible assumption)))
  refine ⟨rfl, hn, _, 0, 0, ⟨⟨by go_simp, by go_simp, by go_simp⟩, by go_simp, by go_simp, by go_simp⟩, h.new hn, fun h0 k hk => ?_, ⟨by omega, by omega⟩, by decide, by decide⟩
  obtain ⟨b, off, z, rfl, hx, _⟩ := hc 0 h0
  have := World.block_lt_of_cell? w _ hx
  have e2 : b = k := Option.some.inj hk
  simp only at this
  omega
/-- The rows' own list is not longer than its capacity. -/
def CapA (r : Value) : Prop := ∀ (k : Int) A m c, r = .agg #[.int .i64 k, .slice A m c] → m ≤ c
theorem CapA.mk {k : Int} {A : Option Addr} {m c : Nat} (h : m ≤ c) : CapA (.agg #[.int .i64 k, .slice A m c]) := fun k' A' m' c' e => by
  injection e with e
  simp at e
  omega

end Go.Proofs.YthbebnfhplacnaaGreat
