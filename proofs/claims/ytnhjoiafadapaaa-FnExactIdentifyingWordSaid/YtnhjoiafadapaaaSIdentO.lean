/- The reference's next states of those of a set that have the same output as a state. -/
import Derived.Test.YtnhjoiafadapaaaRows
import Derived.Test.YtnhjoiafadapaaaCore
import Derived.Test.YtnhjoiafadapaaaInfos
import Derived.Test.YtnhjoiafadapaaaPlains
import Derived.Test.YtnhjoiafadapaaaPlainApart
import Derived.Test.YtnhjoiafadapaaaPlainIdent
import Derived.WalkKit
import Derived.WalkSpells
import Derived.WalkLawsBesides
import Derived.Deep.QuietTactic
import Derived.Deep.OwnRows
import Derived.BigQuiet
import Derived.KernelRfl
namespace Go.Proofs.Ytnhjoiafadapaaa
open Go.RowKit

theorem w64_powO (k : Nat) (h : k < 10) : Go.RowKit.wrap64 ((2 : Int) ^ k) = ((2 ^ k : Nat) : Int) := by
  have := pow10 k h
  rw [cast_pow, wrap64_wrap]
  exact wrap_i64_nat _ (by omega)
set_option maxRecDepth 20000 in
set_option maxHeartbeats 1000000 in
theorem l06Others_any (p : Value) (m : Mach) (s : Int) (F l : Nat) (w : World) (hp : PMach w p m) (ha : machOk m = true) (hs : 0 ≤ s ∧ s < m.n) (hF : F < 1024) (hl : l < m.nx.length) :
    Calls Try.prog 55 #[p, .int .i64 s, .int .i64 F, .int .i64 l] w fun e w' => e = .returned (.tuple #[.int .i64 (oth m l (s, F) : Nat), .bool (!(oth m l (s, F)).testBit (nth (nth m.nx l) s.toNat).toNat)]) ∧ New w w' := by
  obtain ⟨pb, r1, r2, rfl, k0, _, k2, k3, hr1, hr2⟩ := hp
  obtain ⟨A1, c1, rfl, _, hc1⟩ := hr1
  obtain ⟨A2, c2, rfl, _, hc2⟩ := hr2
  have hmn := mach_n ha
  obtain ⟨n, hn⟩ : ∃ n : Nat, m.n = (n : Int) := ⟨m.n.toNat, by omega⟩
  have hn10 : n ≤ 10 := by omega
  have hrw := mach_row ha l hl
  have hom := mach_out ha
  have hq1 := hom.2 l (by rw [hom.1]; exact hl)
  have hol := hom.1
  obtain ⟨s0, s1⟩ := hs
  obtain ⟨b4, o4, rv4, rfl, hx4, hr4⟩ := hc1 l hl
  obtain ⟨A5, c5, rfl, _, hc5⟩ := hr4
  obtain ⟨b5, o5, rfl, hx5⟩ := hc5 s.toNat (by omega)
  obtain ⟨b6, o6, rv6, rfl, hx6, hr6⟩ := hc2 l (by omega)
  obtain ⟨A7, c7, rfl, _, hc7⟩ := hr6
  obtain ⟨b7, o7, rfl, hx7⟩ := hc7 s.toNat (by omega)
  have HX5 := hid (show ∀ i, i < n → w.cell? ⟨b5, o5 + i, none⟩ = some (.int .i64 (nth (nth m.nx l) i)) from fun i hi => by
    obtain ⟨_, _, e, h⟩ := hc5 i (by omega)
    cases e; exact h)
  have HX7 := hid (show ∀ i, i < n → w.cell? ⟨b7, o7 + i, none⟩ = some (.int .i64 (nth (nth m.out l) i)) from fun i hi => by
    obtain ⟨_, _, e, h⟩ := hc7 i (by omega)
    cases e; exact h)
  have HBN := hid (fun i (hi : i < n) => show 0 ≤ nth (nth m.nx l) i ∧ nth (nth m.nx l) i < (n : Int) by have := hrw.2 i (by omega); rw [hn] at this; exact this)
  have g1 : s < ((nth m.nx l).length : Int) := by omega
  have g3 : s < ((nth m.out l).length : Int) := by omega
  have g5 : (l : Int) < (m.out.length : Int) := by omega
  have g4 : (l : Int) < (m.nx.length : Int) := by omega
  have HNl := hid (show ((nth m.nx l).length : Int) = n by rw [hrw.1, hn])
  have HOl := hid (show ((nth m.out l).length : Int) = n by rw [hq1.1, hn])
  have hd : oth m l (s, F) = othB (nth m.nx l) (nth m.out l) (nth (nth m.out l) s.toNat) F n := by unfold oth; rw [hn]; rfl
  obtain ⟨va, hva⟩ : ∃ z, z = nth (nth m.out l) s.toNat := ⟨_, rfl⟩
  obtain ⟨na, hna⟩ : ∃ z, z = nth (nth m.nx l) s.toNat := ⟨_, rfl⟩
  rw [← hva] at hx7 hd
  rw [← hna] at hx5 ⊢
  have hnab := HBN.out s.toNat (by omega)
  rw [← hna] at hnab
  have HLT := hid (fun k (hk : k ≤ n) => show othB (nth m.nx l) (nth m.out l) va F k < 1024 from othB_lt _ _ _ _ 10 _ (fun i hi => by have := HBN.out i (by omega); omega))
  obtain ⟨O, hO⟩ : ∃ O, O = oth m l (s, F) := ⟨_, rfl⟩
  rw [← hO] at hd ⊢
  have HD := hid hd
  rw [hn] at k0
  clear hva hna hO hd hc1 hc2 hc5 hc7 hrw hom hq1 hol hmn hn ha s1
  go_enter Try.func55, Try.ntmps55
  go_wp2_with fail
  go_loopw [10, 11] (fun ov tv wr => ∃ k : Nat, k ≤ n ∧ tv = .int .i64 k ∧ ov = .int .i64 (othB (nth m.nx l) (nth m.out l) va F k : Nat) ∧ New w wr) (fun _ tv _ => n - (intOf tv).toNat)
  case atStart => exact ⟨0, Nat.zero_le _, rfl, rfl, New.refl _⟩
  case round =>
    obtain ⟨k, hk, rfl, rfl, hnw⟩ := hrel
    obtain ⟨wo, rfl⟩ : ∃ wo : World, wo = wr := ⟨_, rfl⟩
    have x0 := hnw.cell k0
    have x2 := hnw.cell k2
    have x3 := hnw.cell k3
    have y4 := hnw.cell hx4
    have y5 := hnw.cell hx5
    have y6 := hnw.cell hx6
    have y7 := hnw.cell hx7
    by_cases hlt : k < n
    · have b1 : (k : Int) < (n : Int) := by omega
      have hsu := othB_succ (nth m.nx l) (nth m.out l) va F k
      have hac := HLT.out k hk
      have t7 := hnw.cell (HX7.out k hlt)
      have t5 := hnw.cell (HX5.out k hlt)
      have hbk := HBN.out k hlt
      have hbit := bit_i64 F k hF
      have gk : (k : Int) < ((nth m.out l).length : Int) := by have := HOl.out; omega
      have gk5 : (k : Int) < ((nth m.nx l).length : Int) := by have := HNl.out; omega
      obtain ⟨vx, hvx⟩ : ∃ z, z = nth (nth m.out l) k := ⟨_, rfl⟩
      obtain ⟨zx, hzx⟩ : ∃ z, z = nth (nth m.nx l) k := ⟨_, rfl⟩
      obtain ⟨ac, hacd⟩ : ∃ z, z = othB (nth m.nx l) (nth m.out l) va F k := ⟨_, rfl⟩
      rw [← hvx] at t7 hsu
      rw [← hzx] at t5 hsu hbk
      rw [← hacd] at hac hsu ⊢
      obtain ⟨z0, z1⟩ := hbk
      have hwk : IntKind.u64.wrap (k : Int) = (k : Int) := wrap_u64_nat k (by omega)
      have hwz : IntKind.u64.wrap zx = zx := by rw [IntKind.wrap_u64]; omega
      have HSU := hid hsu
      clear hvx hzx hacd hsu
      cases hb : F.testBit k with
      | false =>
        rw [hb, if_neg (by simp)] at hbit
        have HS := hid (show othB (nth m.nx l) (nth m.out l) va F (k + 1) = ac by rw [HSU.out, if_neg (by rw [hb]; simp)])
        clear hb
        go_wp2_with fail
        go_quiet (fail)
        go_wp2_with fail
        exact ⟨⟨k + 1, by omega, by go_num, by rw [HS.out], hnw.drewN _⟩, by simp [intOf]; omega⟩
      | true =>
        rw [hb, if_pos rfl] at hbit
        by_cases hveq : vx = va
        · have hq : (vx == va) = true := by simp [hveq]
          have HS := hid (show othB (nth m.nx l) (nth m.out l) va F (k + 1) = ac ||| 2 ^ zx.toNat by rw [HSU.out, if_pos ⟨hb, hveq⟩])
          have hor := or_w64 ac zx.toNat hac (by omega)
          clear hb hveq
          go_wp2_with fail
          go_quiet (fail)
          go_wp2_with fail
          exact ⟨⟨k + 1, by omega, by go_num, by rw [HS.out], hnw.drewN _⟩, by simp [intOf]; omega⟩
        · have hq : (vx == va) = false := by simp [hveq]
          have HS := hid (show othB (nth m.nx l) (nth m.out l) va F (k + 1) = ac by rw [HSU.out, if_neg (fun q => hveq q.2)])
          clear hb hveq
          go_wp2_with fail
          go_quiet (fail)
          go_wp2_with fail
          exact ⟨⟨k + 1, by omega, by go_num, by rw [HS.out], hnw.drewN _⟩, by simp [intOf]; omega⟩
    · have e : k = n := by omega
      have b1 : ¬ (k : Int) < (n : Int) := by omega
      have hac := HLT.out n (Nat.le_refl _)
      rw [e]
      rw [← HD.out] at hac ⊢
      have hwn : IntKind.u64.wrap na = na := by rw [IntKind.wrap_u64]; omega
      have hbit := bit_i64 O na.toNat hac
      obtain ⟨na0, na1⟩ := hnab
      clear e
      cases hb : O.testBit na.toNat with
      | false =>
        rw [hb, if_neg (by simp)] at hbit
        have HBT := hid hb
        clear hb
        go_wp2_with fail
        go_quiet (fail)
        go_wp2_with fail
        go_ret2
        exact ⟨by rw [HBT.out]; rfl, hnw.drewN _⟩
      | true =>
        rw [hb, if_pos rfl] at hbit
        have HBT := hid hb
        clear hb
        go_wp2_with fail
        go_quiet (fail)
        go_wp2_with fail
        go_ret2
        exact ⟨by rw [HBT.out]; rfl, hnw.drewN _⟩

end Go.Proofs.Ytnhjoiafadapaaa
