/- The reference's answer to whether a word directs. -/
import Derived.Test.YtnoajdhofdfafaaRows
import Derived.Test.YtnoajdhofdfafaaBase
import Derived.Test.YtnoajdhofdfafaaAut
import Derived.Test.YtnoajdhofdfafaaMach
import Derived.Test.YtnoajdhofdfafaaCho
import Derived.Test.YtnoajdhofdfafaaApp
import Derived.Test.YtnoajdhofdfafaaInfo
import Derived.Test.YtnoajdhofdfafaaPlain1
import Derived.Test.YtnoajdhofdfafaaPlainRun
import Derived.Test.YtnoajdhofdfafaaPlainSet
import Derived.Test.YtnoajdhofdfafaaPlainBits
import Derived.Test.YtnoajdhofdfafaaPlainPart
import Derived.Test.YtnoajdhofdfafaaPlainCho
import Derived.Test.YtnoajdhofdfafaaS00b
import Derived.Test.YtnoajdhofdfafaaS01a
import Derived.Test.YtnoajdhofdfafaaSFlk
import Derived.Test.YtnoajdhofdfafaaS04a
import Derived.Test.YtnoajdhofdfafaaSCho
import Derived.WalkKit
import Derived.WalkSpells
import Derived.WalkLawsBesides
import Derived.Deep.QuietTactic
import Derived.Deep.OwnRows
import Derived.BigQuiet
import Derived.KernelRfl
namespace Go.Proofs.Ytnoajdhofdfafaa
open Go.RowKit

theorem reachList_len (c : Cho) (ws : List Int) : (reachList c ws).length = c.n.toNat := by simp [reachList]
theorem reachList_succ (c : Cho) (ws : List Int) (k : Nat) (h : k < c.n.toNat) : (reachList c ws).take (k + 1) = (reachList c ws).take k ++ [choRun c.nx (2 ^ k) ws] := by
  rw [take_succ_nth _ k (by rw [reachList_len]; exact h)]
  congr 2
  rw [nth_eq _ _ (by rw [reachList_len]; exact h)]
  simp [reachList]
theorem reachList_lt {c : Cho} (ha : choOk c = true) (ws : List Int) (hw : ∀ i, i < ws.length → 0 ≤ nth ws i ∧ nth ws i < c.nx.length) : ∀ x, x ∈ reachList c ws → x < 1024 := by
  intro x hx
  unfold reachList at hx
  obtain ⟨s, hs, rfl⟩ := List.mem_map.1 hx
  have h1 := (choOk_parts ha).1
  have hs' : s < c.n.toNat := by simpa using hs
  have := choRun_lt ha ws hw (2 ^ s) (Nat.pow_lt_pow_right (by decide) hs') ws.length (Nat.le_refl _)
  rw [List.take_length] at this
  exact lt_10 this (by omega)
theorem w64_pow (k : Nat) (h : k < 10) : Go.RowKit.wrap64 ((2 : Int) ^ k) = ((2 ^ k : Nat) : Int) := by
  have := pow10 k h
  rw [cast_pow, wrap64_wrap, wrap_i64_nat _ (by omega)]
theorem wu64_pow (k : Nat) (h : k < 10) : IntKind.u64.wrap ((2 : Int) ^ k) = ((2 ^ k : Nat) : Int) := by
  have := pow10 k h
  rw [cast_pow, wrap_u64_nat _ (by omega)]
theorem wi64_pow (k : Nat) (h : k < 10) : IntKind.i64.wrap ((2 : Int) ^ k) = ((2 ^ k : Nat) : Int) := by
  have := pow10 k h
  rw [cast_pow, wrap_i64_nat _ (by omega)]
theorem ints_snoc (xs : List Nat) (x : Nat) : ints (xs ++ [x]) = ints xs ++ [(x : Int)] := by simp [ints]
set_option maxRecDepth 20000 in
set_option maxHeartbeats 2000000 in
theorem specDirects_any (v1 v2 : Value) (a : Cho) (ws : List Int) (kind : Int) (w : World) (h1 : ChoAt w v1 a) (h2 : IntsAt w v2 ws) :
    Calls Try.prog 32 #[v1, v2, .int .i64 kind] w fun e w' => e = .returned (.tuple #[.bool (Directs a ws kind).1, .int .i64 (Directs a ws kind).2]) ∧ New w w' := by
  obtain ⟨rv, rfl, hr⟩ := h1
  obtain ⟨A, c, rfl⟩ := hr.form
  obtain ⟨wb, hwb⟩ : ∃ wb, wb = w.alloc (.cells #[.int .i64 a.n, .slice A a.nx.length c] 40) := ⟨_, rfl⟩
  have hp : PCho wb (.pointer (some ⟨w.heap.size, 0, none⟩)) a := by rw [hwb]; exact PCho.box hr _
  have hnb : New w wb := by rw [hwb]; exact (by repeat (first | with_reducible exact New.refl _ | with_reducible assumption | with_reducible refine New.alloc ?_ _ | with_reducible refine New.drew ?_ | with_reducible refine New.drewN ?_ _ | with_reducible refine New.setCell ?_ (by simp <;> omega) _))
  have hb0 : wb.cell? ⟨w.heap.size, 0, none⟩ = some (.int .i64 a.n) := by rw [hwb]; go_simp
  have hb1 : wb.cell? ⟨w.heap.size, 1, none⟩ = some (.slice A a.nx.length c) := by rw [hwb]; go_simp
  have hl := hr.len
  obtain ⟨R, hR⟩ : ∃ R, R = Directs a ws kind := ⟨_, rfl⟩
  rw [← hR]
  unfold Directs at hR
  have HR := hid hR
  clear hR
  have C1 := l04Choices_any _ a _ hp
  cases ha : choOk a with
  | false =>
    rw [ha] at C1
    go_enter Try.func32, Try.ntmps32
    go_wp2_with fail
    rw [← hwb]
    refine C1.mono ?_
    rintro e w1 ⟨rfl, hn1⟩
    go_wp2
    go_ret2
    exact ⟨by rw [HR.out, ha]; rfl, (by repeat (first | with_reducible exact New.refl _ | with_reducible assumption | with_reducible refine New.alloc ?_ _ | with_reducible refine New.drewN ?_ _ | with_reducible refine New.drew ?_ | with_reducible refine New.trans ?_ (by with_reducible assumption)))⟩
  | true =>
    rw [ha] at C1
    obtain ⟨⟨n1, n2⟩, ⟨l1, l2⟩, _⟩ := choOk_parts ha
    have C2 := fun w => l04Shape_any a.n a.nx.length w (by omega)
    have HA := hid ha
    clear ha
    go_enter Try.func32, Try.ntmps32
    go_wp2_with fail
    rw [← hwb]
    refine C1.mono ?_
    rintro e w1 ⟨rfl, hn1⟩
    replace hb0 := hn1.cell hb0
    replace hb1 := hn1.cell hb1
    go_wp2_with fail
    refine (C2 _).mono ?_
    rintro e w2 ⟨rv, he, hn2, hrv⟩
    obtain ⟨A3, c3, rfl⟩ := hrv.form
    subst he
    have hpa : PAut (w2.alloc (.cells #[.int .i64 a.n, .slice A3 (List.replicate a.nx.length ([] : List Int)).length c3] 26)) (.pointer (some ⟨w2.heap.size, 0, none⟩)) ⟨a.n, List.replicate a.nx.length []⟩ := PAut.box (a := ⟨a.n, List.replicate a.nx.length []⟩) hrv _
    rw [List.length_replicate] at hpa
    rw [List.length_replicate]
    have C3 := fun w1 (hm : New (w2.alloc (.cells #[.int .i64 a.n, .slice A3 a.nx.length c3] 26)) w1) => l01Word_any _ _ _ ws w1 (hpa.new hm) (h2.new (by repeat (first | with_reducible exact New.refl _ | with_reducible assumption | with_reducible refine New.alloc ?_ _ | with_reducible refine New.drewN ?_ _ | with_reducible refine New.drew ?_ | with_reducible refine New.trans ?_ (by with_reducible assumption))))
    rw [wordOk_len _ a.shape ws (by simp [Cho.shape])] at C3
    replace hb0 := hn2.cell hb0
    replace hb1 := hn2.cell hb1
    cases hw : wordOk a.shape ws with
    | false =>
      simp only [hw] at C3
      go_wp2_with fail
      refine (C3 _ (by repeat (first | with_reducible exact New.refl _ | with_reducible assumption | with_reducible refine New.alloc ?_ _ | with_reducible refine New.drewN ?_ _ | with_reducible refine New.drew ?_ | with_reducible refine New.trans ?_ (by with_reducible assumption)))).mono ?_
      rintro e w3 ⟨rfl, hn3⟩
      go_wp2
      go_ret2
      exact ⟨by rw [HR.out, HA.out, hw]; rfl, (by repeat (first | with_reducible exact New.refl _ | with_reducible assumption | with_reducible refine New.alloc ?_ _ | with_reducible refine New.drewN ?_ _ | with_reducible refine New.drew ?_ | with_reducible refine New.trans ?_ (by with_reducible assumption)))⟩
    | true =>
      simp only [hw] at C3
      have C4 := fun w => l04Kind_any kind w
      cases hk : inB kind 1 3 with
      | false =>
        simp only [hk] at C4
        go_wp2_with fail
        refine (C3 _ (by repeat (first | with_reducible exact New.refl _ | with_reducible assumption | with_reducible refine New.alloc ?_ _ | with_reducible refine New.drewN ?_ _ | with_reducible refine New.drew ?_ | with_reducible refine New.trans ?_ (by with_reducible assumption)))).mono ?_
        rintro e w3 ⟨rfl, hn3⟩
        go_wp2_with (go_at_call 100; refine (C4 _).mono ?_; rintro e w' ⟨rfl, rfl⟩)
        go_ret2
        exact ⟨by rw [HR.out, HA.out, hw, hk]; rfl, (by repeat (first | with_reducible exact New.refl _ | with_reducible assumption | with_reducible refine New.alloc ?_ _ | with_reducible refine New.drewN ?_ _ | with_reducible refine New.drew ?_ | with_reducible refine New.trans ?_ (by with_reducible assumption)))⟩
      | true =>
        simp only [hk] at C4
        have hlet : ∀ i, i < ws.length → 0 ≤ nth ws i ∧ nth ws i < a.nx.length := fun i hi => by
          have := ((wordOk_iff _ _).1 hw).2 i hi
          simpa [Cho.shape] using this
        obtain ⟨n, hnn⟩ : ∃ n : Nat, n = a.n.toNat := ⟨_, rfl⟩
        have HC5 := hid (fun w1 (hm : New wb w1) (k : Nat) (hk : k < n) => l04By_any _ _ a (2 ^ k) ws w1 (hp.new hm) (h2.new (hnb.trans hm)) HA.out hlet (Nat.pow_lt_pow_right (by decide) (by omega)))
        have HLT := hid (reachList_lt HA.out ws hlet)
        have HLEN := hid (show (reachList a ws).length = n by rw [reachList_len, hnn])
        have HSUCC := hid (fun k (hk : k < n) => reachList_succ a ws k (by omega))
        have HE := hid (show R = (directB (reachList a ws) kind, 0) by rw [HR.out, HA.out, hw, hk]; rfl)
        have hnI : a.n = (n : Int) := by omega
        have hn10 : n ≤ 10 := by omega
        rw [hnI] at hb0 hpa ⊢
        clear hlet hnn
        go_wp2_with fail
        refine (C3 _ ?_).mono ?_
        · rw [hnI]; exact (by repeat (first | with_reducible exact New.refl _ | with_reducible assumption | with_reducible refine New.alloc ?_ _ | with_reducible refine New.drewN ?_ _ | with_reducible refine New.drew ?_ | with_reducible refine New.trans ?_ (by with_reducible assumption)))
        rintro e w3 ⟨rfl, hn3⟩
        have hq3 : New w2 w3 := New.trans (by repeat (first | with_reducible exact New.refl _ | with_reducible assumption | with_reducible refine New.alloc ?_ _ | with_reducible refine New.drew ?_ | with_reducible refine New.drewN ?_ _ | with_reducible refine New.setCell ?_ (by simp <;> omega) _)) hn3
        replace hb0 := hq3.cell hb0
        replace hb1 := hq3.cell hb1
        have hbw : New wb w3 := New.trans hn1 (New.trans (by repeat (first | with_reducible exact New.refl _ | with_reducible assumption | with_reducible refine New.alloc ?_ _ | with_reducible refine New.drew ?_ | with_reducible refine New.drewN ?_ _ | with_reducible refine New.setCell ?_ (by simp <;> omega) _)) (New.trans hn2 hq3))
        clear hn3
        go_wp2_with (go_at_call 100; refine (C4 _).mono ?_; rintro e w' ⟨rfl, rfl⟩)
        obtain ⟨w3, rfl⟩ : ∃ w3 : World, w3 = w' := ⟨_, rfl⟩
        go_loopw [9, 10] (fun o i wr => ∃ k : Nat, k ≤ n ∧ i = .int .i64 k ∧ Grow w3.heap.size 2 wr o (ints ((reachList a ws).take k)) ∧ New w3 wr) (fun _ i _ => n - (intOf i).toNat)
        case atStart => exact ⟨0, Nat.zero_le _, rfl, Grow.empty _ _ _ (Nat.le_refl _), (by repeat (first | with_reducible exact New.refl _ | with_reducible assumption | with_reducible refine New.alloc ?_ _ | with_reducible refine New.drew ?_ | with_reducible refine New.drewN ?_ _ | with_reducible refine New.setCell ?_ (by simp <;> omega) _))⟩
        case round =>
          obtain ⟨k, hk, rfl, ho, hn⟩ := hrel
          replace hb0 := hn.cell hb0
          replace hb1 := hn.cell hb1
          have hkl : (ints ((reachList a ws).take k)).length = k := by rw [ints_len, List.length_take, HLEN.out]; omega
          have HKL := hid hkl
          have hzr := hn.size
          clear hkl
          by_cases hlt : k < n
          · have b1 : (k : Int) < (n : Int) := by omega
            have C := HC5.out _ (hbw.trans hn) k hlt
            rw [← w64_pow k (by omega)] at C
            have HS := hid (HSUCC.out k hlt)
            go_wp2_with (first | (at_builtin; refine wpList_app rfl _ _ _ rfl Try.underlying36 info_i64 _ _ rfl ho rfl (by have := HKL.out; omega) (by omega) ?_; intro g cap w5 ho5 hg5) | (go_at_call 89; refine C.mono ?_; rintro e w' ⟨rfl, rfl⟩))
            go_roundw
            case rel => exact ⟨k + 1, by omega, by go_num, by rw [HS.out, ints_snoc]; exact ho5, hn.app hg5 ho (Nat.le_refl _)⟩
            case measure => simp [intOf]; omega
          · have e : k = n := by omega
            subst e
            have hfull : (reachList a ws).take k = reachList a ws := by rw [List.take_of_length_le (by rw [HLEN.out]; exact Nat.le_refl _)]
            rw [hfull] at ho
            have hat := (ho.own (by rw [ints_len, HLEN.out]; omega)).at
            have C := l04Directed_any _ _ kind _ hat (by rw [HLEN.out]; omega) HLT.out
            go_wp2_with (go_at_call 101; refine C.mono ?_; rintro e w6 ⟨rfl, hn6⟩)
            go_ret2
            exact ⟨by rw [HE.out]; rfl, ((hnb.trans hbw).trans hn).trans hn6⟩

end Go.Proofs.Ytnoajdhofdfafaa
