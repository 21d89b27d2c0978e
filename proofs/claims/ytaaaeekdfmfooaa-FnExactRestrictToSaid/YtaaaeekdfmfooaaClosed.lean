/- Does no letter lead out of a set? -/
import Derived.Test.YtaaaeekdfmfooaaRows
import Derived.Test.YtaaaeekdfmfooaaBase
import Derived.Test.YtaaaeekdfmfooaaAut
import Derived.Test.YtaaaeekdfmfooaaApp
import Derived.Test.YtaaaeekdfmfooaaAppRows
import Derived.Test.YtaaaeekdfmfooaaInfo
import Derived.Test.YtaaaeekdfmfooaaPlain1
import Derived.Test.YtaaaeekdfmfooaaPlainRun
import Derived.Test.YtaaaeekdfmfooaaPlainSet
import Derived.Test.YtaaaeekdfmfooaaPlainRen
import Derived.Test.YtaaaeekdfmfooaaS00b
import Derived.Test.YtaaaeekdfmfooaaS01a
import Derived.Test.YtaaaeekdfmfooaaI01a
import Derived.Test.YtaaaeekdfmfooaaIIdx
import Derived.WalkKit
import Derived.WalkSpells
import Derived.WalkLawsBesides
import Derived.Deep.QuietTactic
import Derived.Deep.OwnRows
import Derived.BigQuiet
import Derived.KernelRfl
namespace Go.Proofs.Ytaaaeekdfmfooaa
open Go.RowKit

def closedB (nx : List (List Int)) (set : List Int) : Bool := nx.all fun row => set.all fun s => hasB set (nth row s.toNat)
theorem closedB_iff (nx : List (List Int)) (set : List Int) : closedB nx set = true ↔ ∀ x, x < nx.length → ∀ i, i < set.length → hasB set (nth (nth nx x) (nth set i).toNat) = true := by
  unfold closedB
  rw [List.all_eq_true]
  constructor
  · intro h x hx i hi
    exact List.all_eq_true.1 (h _ (nth_mem nx x hx)) _ (nth_mem set i hi)
  · intro h row hr
    obtain ⟨x, hx, rfl⟩ := mem_nth nx row hr
    rw [List.all_eq_true]
    intro s hs
    obtain ⟨i, hi, rfl⟩ := mem_nth set s hs
    exact h x hx i hi
theorem closedB_false {nx : List (List Int)} {set : List Int} (x i : Nat) (hx : x < nx.length) (hi : i < set.length) (h : hasB set (nth (nth nx x) (nth set i).toNat) = false) : closedB nx set = false := by
  cases e : closedB nx set with
  | false => rfl
  | true => rw [(closedB_iff nx set).1 e x hx i hi] at h; cases h
set_option maxHeartbeats 1000000 in
theorem l01Closed_any (p v : Value) (a : Aut) (set : List Int) (w : World) (hp : PAut w p a) (h : IntsAt w v set) (ha : autOk a = true) (hs : statesIn a set) :
    Calls Try.prog 63 #[p, v] w fun e w' => e = .returned (.bool (closedB a.nx set)) ∧ New w w' := by
  obtain ⟨pb, rv, rfl, hp0, hp1, hpr⟩ := hp
  obtain ⟨A2, c2, rfl, hl2, hc2⟩ := hpr
  obtain ⟨A, c, rfl, hl, hc⟩ := id h
  have HA := hid ha
  have HS := hid hs
  have HH := hid h
  clear ha hs h
  go_enter Try.func63, Try.ntmps63
  go_wp2
  go_loopw [5] (fun i wr => ∃ s : Nat, s ≤ set.length ∧ i = .int .i64 s ∧ Hid (∀ j, j < s → ∀ x, x < a.nx.length → hasB set (nth (nth a.nx x) (nth set j).toNat) = true) ∧ New w wr) (fun i _ => set.length - (intOf i).toNat)
  case atStart => exact ⟨0, Nat.zero_le _, rfl, fun j hj => absurd hj (by omega), New.refl _⟩
  case round =>
    obtain ⟨s, hs, rfl, h1, hw⟩ := hrel
    by_cases hlt : s < set.length
    · have ks : (s : Int) < (set.length : Int) := by omega
      obtain ⟨wo, rfl⟩ : ∃ wo : World, wo = wr := ⟨_, rfl⟩
      obtain ⟨bs, offs, rfl, hxs⟩ := hc s hlt
      clear hc
      go_wp2
      go_loopw [6] (fun i wr => ∃ x : Nat, x ≤ a.nx.length ∧ i = .int .i64 x ∧ Hid (∀ l, l < x → hasB set (nth (nth a.nx l) (nth set s).toNat) = true) ∧ New w wr) (fun i _ => a.nx.length - (intOf i).toNat)
      case atStart => exact ⟨0, Nat.zero_le _, rfl, fun l hl => absurd hl (by omega), hw⟩
      case round =>
        clear hw
        obtain ⟨x, hx, rfl, h3, hw⟩ := hrel
        replace hxs := hw.cell hxs
        replace hp0 := hw.cell hp0
        replace hp1 := hw.cell hp1
        by_cases hlt3 : x < a.nx.length
        · have kx' : (x : Int) < (a.nx.length : Int) := by omega
          obtain ⟨b2, off2, rv, rfl, hx2, hr⟩ := hc2 x hlt3
          obtain ⟨A3, c3, rfl, hl3', hc3⟩ := hr
          obtain ⟨hrl, hri⟩ := autOk_row HA.out x hlt3
          obtain ⟨o0, o1⟩ := HS.out s hlt
          obtain ⟨b4, off4, rfl, hx4⟩ := hc3 (nth set s).toNat (by omega)
          have k4 : nth set s < ((nth a.nx x).length : Int) := by omega
          replace hx2 := hw.cell hx2
          replace hx4 := hw.cell hx4
          clear hc3 hri hc2 hrl
          cases hq : hasB set (nth (nth a.nx x) (nth set s).toNat) with
          | true =>
            have HQ := hid hq
            have HC := hid (fun w1 (hm : New w w1) => show Calls Try.prog 149 #[.slice (some ⟨bs, offs, none⟩) set.length c, .int .i64 (nth (nth a.nx x) (nth set s).toNat)] w1 (fun e w' => e = .returned (.bool true) ∧ w' = w1) by have := l00Has_any _ set (nth (nth a.nx x) (nth set s).toNat) w1 (HH.out.new hm); rw [HQ.out] at this; exact this)
            clear hq
            go_wp2_with fail
            go_quiet ((go_at_call 149; exact Calls.quiet_of_same (HC.out _ (hw.drewN _))))
            go_wp2
            go_roundw
            case rel => exact ⟨x + 1, by omega, by go_num, fun l hl => by
                rcases Nat.lt_succ_iff_lt_or_eq.1 hl with h | h
                · exact h3.out l h
                · subst h; exact HQ.out, hw.drewN _⟩
            case measure => simp [intOf]; omega
          | false =>
            have HQ := hid hq
            have HC := hid (fun w1 (hm : New w w1) => show Calls Try.prog 149 #[.slice (some ⟨bs, offs, none⟩) set.length c, .int .i64 (nth (nth a.nx x) (nth set s).toNat)] w1 (fun e w' => e = .returned (.bool false) ∧ w' = w1) by have := l00Has_any _ set (nth (nth a.nx x) (nth set s).toNat) w1 (HH.out.new hm); rw [HQ.out] at this; exact this)
            clear hq
            go_wp2_with fail
            go_quiet ((go_at_call 149; exact Calls.quiet_of_same (HC.out _ (hw.drewN _))))
            go_wp2
            go_ret
            exact ⟨ret_bool (closedB_false x s hlt3 hlt HQ.out).symm, hw.drewN _⟩
        · have e : x = a.nx.length := by omega
          subst e
          go_wp2
          go_roundw
          case rel => exact ⟨s + 1, by omega, by go_num, fun j hj => by
              rcases Nat.lt_succ_iff_lt_or_eq.1 hj with h | h
              · exact h1.out j h
              · subst h; exact h3.out, hw⟩
          case measure => simp [intOf]; omega
    · have e : s = set.length := by omega
      subst e
      go_wp2
      go_ret
      exact ⟨ret_bool ((closedB_iff _ _).2 fun x hx i hi => h1.out i hi x hx).symm, hw⟩
set_option maxHeartbeats 400000 in
theorem isClosed1_any (b1 b2 : Nat) (v1 v2 : Value) (set row : List Int) (s : Int) (w : World) (h1 : w.cell? ⟨b1, 0, none⟩ = some v1) (h1i : IntsAt w v1 set) (h2 : w.cell? ⟨b2, 0, none⟩ = some v2) (h2i : IntsAt w v2 row) (hs : 0 ≤ s ∧ s < row.length) :
    Calls Try.prog 152 #[.int .i64 s, .pointer (some ⟨b1, 0, none⟩), .pointer (some ⟨b2, 0, none⟩)] w fun e w' => e = .returned (.bool (!hasB set (nth row s.toNat))) ∧ New w w' := by
  obtain ⟨A, c, rfl, hl, hc⟩ := id h1i
  obtain ⟨A2, c2, rfl, hl2, hc2⟩ := h2i
  obtain ⟨s0, s1⟩ := hs
  obtain ⟨b, off, rfl, hx⟩ := hc2 s.toNat (by omega)
  have HC := hid (fun w1 (hm : New w w1) => Contains64_any _ set (nth row s.toNat) w1 (h1i.new hm))
  clear hc2 hc
  go_enter Try.func152, Try.ntmps152
  go_wp2_with fail
  go_quiet ((go_at_call 153; exact Calls.quiet_of_same (HC.out _ ((New.refl w).drewN _))))
  go_wp2
  go_ret
  exact ⟨rfl, (New.refl w).drewN _⟩
set_option maxHeartbeats 1000000 in
theorem isClosed_any (v1 v2 : Value) (a : Aut) (set : List Int) (w : World) (h1 : AutAt w v1 a) (h2 : IntsAt w v2 set) (ha : autOk a = true) (hs : statesIn a set) :
    Calls Try.prog 69 #[v1, v2] w fun e w' => e = .returned (.bool (closedB a.nx set)) ∧ New w w' := by
  obtain ⟨rv, rfl, hr⟩ := h1
  obtain ⟨A2, c2, rfl, hl2, hc2⟩ := hr
  obtain ⟨A, c, rfl, hl, hc⟩ := id h2
  have HA := hid ha
  have HS := hid hs
  obtain ⟨wb, hwb⟩ : ∃ wb, wb = ((w.alloc (.cells #[.int .i64 a.n, .slice A2 a.nx.length c2] 27)).alloc (.cells #[.slice A set.length c] 25)) := ⟨_, rfl⟩
  have hnb : New w wb := by rw [hwb]; exact (by repeat (first | with_reducible exact New.refl _ | with_reducible assumption | with_reducible refine New.alloc ?_ _ | with_reducible refine New.drew ?_ | with_reducible refine New.drewN ?_ _ | with_reducible refine New.setCell ?_ (by simp <;> omega) _))
  have hzb : wb.heap.size = w.heap.size + 2 := by rw [hwb]; simp only [size_alloc]
  have hb0 : wb.cell? ⟨w.heap.size, 0, none⟩ = some (.int .i64 a.n) := by rw [hwb]; go_simp
  have hb1 : wb.cell? ⟨w.heap.size, 1, none⟩ = some (.slice A2 a.nx.length c2) := by rw [hwb]; go_simp
  have hb2 : wb.cell? ⟨w.heap.size + 1, 0, none⟩ = some (.slice A set.length c) := by rw [hwb]; go_simp
  clear ha hs
  go_enter Try.func69, Try.ntmps69
  go_wp2_with fail
  rw [← hwb]
  clear hwb
  go_loopw [10] (fun i wr => ∃ k : Nat, k ≤ a.nx.length ∧ i = .int .i64 k ∧ Hid (∀ l, l < k → ∀ j, j < set.length → hasB set (nth (nth a.nx l) (nth set j).toNat) = true) ∧ New wb wr) (fun i _ => a.nx.length - (intOf i).toNat)
  case atStart => exact ⟨0, Nat.zero_le _, rfl, fun l hl => absurd hl (by omega), New.refl _⟩
  case round =>
    obtain ⟨k, hk, rfl, h3, hn⟩ := hrel
    by_cases hlt : k < a.nx.length
    · obtain ⟨b2, off2, rv, rfl, hx2, hr2⟩ := hc2 k hlt
      have hz := hn.size
      have kb : (k : Int) < (a.nx.length : Int) := by omega
      replace hx2 := (hnb.trans hn).cell hx2
      replace hb2 := hn.cell hb2
      obtain ⟨A3, c3, rfl⟩ := hr2.form
      have hwr : New wr (wr.alloc (.cells #[.slice A3 (nth a.nx k).length c3] 25)) := (by repeat (first | with_reducible exact New.refl _ | with_reducible assumption | with_reducible refine New.alloc ?_ _ | with_reducible refine New.drew ?_ | with_reducible refine New.drewN ?_ _ | with_reducible refine New.setCell ?_ (by simp <;> omega) _))
      have hq2 : (wr.alloc (.cells #[.slice A3 (nth a.nx k).length c3] 25)).cell? ⟨wr.heap.size, 0, none⟩ = some (.slice A3 (nth a.nx k).length c3) := by go_simp
      have HCC := hid (ContainsFunc64_any (.slice A set.length c) set 152 #[.pointer (some ⟨w.heap.size + 1, 0, none⟩), .pointer (some ⟨wr.heap.size, 0, none⟩)] (fun s => !hasB set (nth (nth a.nx k) s.toNat)) (wr.alloc (.cells #[.slice A3 (nth a.nx k).length c3] 25)) (h2.new (by repeat (first | with_reducible exact New.refl _ | with_reducible assumption | with_reducible refine New.alloc ?_ _ | with_reducible refine New.drewN ?_ _ | with_reducible refine New.drew ?_ | with_reducible refine New.trans ?_ (by with_reducible assumption))))
        (enters Try.func152 (by decide) (by simp [Try.f152])) fun w' hw i hi => isClosed1_any _ _ _ _ set (nth a.nx k) (nth set i) w' (hw.cell (hwr.cell hb2)) (h2.new (by repeat (first | with_reducible exact New.refl _ | with_reducible assumption | with_reducible refine New.alloc ?_ _ | with_reducible refine New.drewN ?_ _ | with_reducible refine New.drew ?_ | with_reducible refine New.trans ?_ (by with_reducible assumption)))) (hw.cell hq2) (hr2.new (by repeat (first | with_reducible exact New.refl _ | with_reducible assumption | with_reducible refine New.alloc ?_ _ | with_reducible refine New.drewN ?_ _ | with_reducible refine New.drew ?_ | with_reducible refine New.trans ?_ (by with_reducible assumption)))) (by
          have h5 := HS.out i hi
          have h6 := (autOk_row HA.out k hlt).1
          omega))
      have hb2a := hwr.cell hb2
      have hne : w.heap.size + 1 ≠ wr.heap.size := by omega
      clear hc2 hc hq2
      cases hq : set.any (fun s => !hasB set (nth (nth a.nx k) s.toNat)) with
      | true =>
        rw [hq] at HCC
        have HQ := hid hq
        clear hq
        go_wp2_with fail
        refine HCC.out.mono ?_
        rintro e w1 ⟨rfl, hn1⟩
        go_wp2
        go_ret
        refine ⟨ret_bool ?_, (by repeat (first | with_reducible exact New.refl _ | with_reducible assumption | with_reducible refine New.alloc ?_ _ | with_reducible refine New.drewN ?_ _ | with_reducible refine New.drew ?_ | with_reducible refine New.trans ?_ (by with_reducible assumption)))⟩
        have h7 := HQ.out
        rw [List.any_eq_true] at h7
        obtain ⟨y, hy, h8⟩ := h7
        obtain ⟨i, hi, rfl⟩ := mem_nth set y hy
        exact (closedB_false k i hlt hi (by simpa using h8)).symm
      | false =>
        rw [hq] at HCC
        have HQ := hid hq
        clear hq
        go_wp2_with fail
        refine HCC.out.mono ?_
        rintro e w1 ⟨rfl, hn1⟩
        go_wp2
        go_roundw
        case rel =>
          refine ⟨k + 1, by omega, by go_num, fun l hl j hj => ?_, (by repeat (first | with_reducible exact New.refl _ | with_reducible assumption | with_reducible refine New.alloc ?_ _ | with_reducible refine New.drewN ?_ _ | with_reducible refine New.drew ?_ | with_reducible refine New.trans ?_ (by with_reducible assumption)))⟩
          rcases Nat.lt_succ_iff_lt_or_eq.1 hl with h | h
          · exact h3.out l h j hj
          · subst h
            have h7 := HQ.out
            rw [List.any_eq_false] at h7
            have := h7 _ (nth_mem set j hj)
            simpa using this
        case measure => simp [intOf]; omega
    · have e : k = a.nx.length := by omega
      subst e
      go_wp2
      go_ret
      exact ⟨ret_bool ((closedB_iff _ _).2 fun x hx i hi => h3.out x hx i hi).symm, (by repeat (first | with_reducible exact New.refl _ | with_reducible assumption | with_reducible refine New.alloc ?_ _ | with_reducible refine New.drewN ?_ _ | with_reducible refine New.drew ?_ | with_reducible refine New.trans ?_ (by with_reducible assumption)))⟩

end Go.Proofs.Ytaaaeekdfmfooaa
