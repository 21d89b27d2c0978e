/- Parts of the proof that lean on no program: LInts, LRoads. -/
import Derived.Test.YthbebnfhplacnaaRows
import Derived.Test.YthbebnfhplacnaaCore
import Derived.Test.YthbebnfhplacnaaInfos
import Derived.WalkKit
import Derived.WalkSpells
import Derived.WalkLawsBesides
import Derived.Deep.QuietTactic
import Derived.Deep.OwnRows
import Derived.BigQuiet
import Derived.KernelRfl
import Derived.Deep.RegionHeld3
namespace Go.Proofs.Ythbebnfhplacnaa
open Go.RowKit

section
/-- What is left of a size once n are taken; -1 if they aren't there. -/
def szB (n : Nat) (left : Int) : Int := if left < n then -1 else left - n
def szRows : List (List Int) → Int → Int
  | [], left => left
  | xs :: r, left => if szB xs.length left < 0 then -1 else szRows r (szB xs.length left)
def szBB (xss : List (List Int)) (left : Int) : Int := if szB xss.length left < 0 then -1 else szRows xss (szB xss.length left)
theorem szB_le (n : Nat) (left : Int) (h : -1 ≤ left) : szB n left ≤ left ∧ -1 ≤ szB n left := by unfold szB; split <;> omega

set_option maxHeartbeats 400000 in
theorem szInt64S_any (v : Value) (xs : List Int) (left : Int) (w : World) (h : IntsAt w v xs) (h1 : left ≤ 1048576) (h0 : -1 ≤ left) :
    Calls Try.prog 34 #[v, .int .i64 left] w fun e w' => e = .returned (.int .i64 (szB xs.length left)) ∧ w' = w := by
  obtain ⟨A, c, rfl, hl, -⟩ := h
  by_cases h : left < xs.length
  · go_enter Try.func34, Try.ntmps34
    go_wp2
    go_ret
    exact ⟨by simp [szB, h], rfl⟩
  · go_enter Try.func34, Try.ntmps34
    go_wp2
    go_ret
    exact ⟨by simp [szB]; omega, rfl⟩

theorem szRows_drop (xss : List (List Int)) (k : Nat) (left : Int) (h : k < xss.length) :
    szRows (xss.drop k) left = if szB (nth xss k).length left < 0 then -1 else szRows (xss.drop (k + 1)) (szB (nth xss k).length left) := by
  rw [List.drop_eq_getElem_cons h, nth_eq xss k h]; rfl

set_option maxHeartbeats 400000 in
theorem szInt64SS_any (v : Value) (xss : List (List Int)) (left : Int) (w : World) (h : RowsAt w v xss) (h1 : left ≤ 1048576) (h0 : -1 ≤ left) :
    Calls Try.prog 13 #[v, .int .i64 left] w fun e w' => e = .returned (.int .i64 (szBB xss left)) ∧ w' = w := by
  obtain ⟨A, c, rfl, hl, hc⟩ := h
  by_cases h : left < xss.length
  · go_enter Try.func13, Try.ntmps13
    go_wp2
    go_ret
    exact ⟨by simp [szBB, szB, h], rfl⟩
  · have hs : szB xss.length left = left - xss.length := by simp [szB, h]
    have HS := hid hs
    clear hs
    go_enter Try.func13, Try.ntmps13
    go_wp2
    go_loop [1, 5] (fun l i => ∃ (k : Nat) (q : Int), k ≤ xss.length ∧ i = .int .i64 k ∧ l = .int .i64 q ∧ 0 ≤ q ∧ q ≤ 1048576 ∧ Hid (szRows xss (left - xss.length) = szRows (xss.drop k) q)) (fun _ i => xss.length - (intOf i).toNat)
    case atStart => exact ⟨0, _, Nat.zero_le _, rfl, rfl, by omega, by omega, rfl⟩
    case round =>
      obtain ⟨k, q, hk, rfl, rfl, hq0, hq1, hs⟩ := hrel
      by_cases hlt : k < xss.length
      · obtain ⟨b, off, rv, rfl, hx, hr⟩ := hc k hlt
        have b1 : (k : Int) < (xss.length : Int) := by omega
        have HD := hid (szRows_drop xss k q hlt)
        have hz := szB_le (nth xss k).length q (by omega)
        have hz1 := hz.1
        have hz2 := hz.2
        clear hz
        by_cases hneg : szB (nth xss k).length q < 0
        · go_wp2_with (go_at_call 34; refine (szInt64S_any _ _ _ _ hr (by omega) (by omega)).mono ?_; rintro e w' ⟨rfl, rfl⟩)
          go_ret
          refine ⟨ret_int ?_, rfl⟩
          rw [szBB, HS.out, hs.out, HD.out, if_neg (by omega), if_pos hneg]
        · go_wp2_with (go_at_call 34; refine (szInt64S_any _ _ _ _ hr (by omega) (by omega)).mono ?_; rintro e w' ⟨rfl, rfl⟩)
          go_round
          case rel => exact ⟨k + 1, _, by omega, by go_num, rfl, by omega, by omega, by show _ = _; rw [hs.out, HD.out, if_neg (by omega)]⟩
          case measure => simp [intOf]; omega
      · have e : k = xss.length := by omega
        subst e
        go_wp2
        go_ret
        refine ⟨ret_int ?_, rfl⟩
        rw [szBB, HS.out, if_neg (by omega), hs.out, List.drop_length]; rfl

set_option maxHeartbeats 400000 in
theorem toInt64S_any (v : Value) (xs : List Int) (w : World) (h1 : IntsAt w v xs) (hb : xs.length ≤ 1048576) :
    Calls Try.prog 47 #[v] w fun e w' => ∃ r, e = .returned r ∧ New w w' ∧ OwnInts w.heap.size w'.heap.size w' r xs := by
  obtain ⟨A, c, rfl, hl1, hc1⟩ := h1
  have hmk := fun w => run_make_row' (P := Try.prog) 26 2 (.int .i64 0) 8 Try.underlying26 info_i64 rfl .i64 .i64 xs.length (by omega) (by omega) w
  go_enter Try.func47, Try.ntmps47
  go_wp2
  go_loopw [4] (fun i wr => ∃ k : Nat, k ≤ xs.length ∧ i = .int .i64 k ∧ wr.rowIs w.heap.size 2 xs.length (fun j => .int .i64 (if j < k then nth xs j else 0)) ∧ New w wr) (fun i _ => xs.length - (intOf i).toNat)
  case atStart => exact ⟨0, Nat.zero_le _, rfl, (World.rowIs_made _ _ _ _).congr (fun i _ => by simp), (New.refl _).alloc _⟩
  case round =>
    obtain ⟨k, hk, rfl, hrow, hw⟩ := hrel
    by_cases hlt : k < xs.length
    · obtain ⟨b, off, rfl, hx⟩ := hc1 k hlt
      replace hx := hw.cell hx
      have b1 : (k : Int) < (xs.length : Int) := by omega
      have hcell := hrow.cell hlt
      have hfr := hrow.frozen k
      have HROW := hid hrow
      clear hrow
      go_wp2
      go_roundw
      case rel => exact ⟨k + 1, by omega, by go_num, (HROW.out.set k _).congr (fun j hj => by
            by_cases e : j = k
            · subst e; simp
            · have : j < k + 1 ↔ j < k := by omega
              simp [e, this]), hw.setCell (Nat.le_refl _) _⟩
      case measure => simp [intOf]; omega
    · have e : k = xs.length := by omega
      subst e
      go_wp2
      go_ret
      refine ⟨_, rfl, hw, some ⟨w.heap.size, 0, none⟩, xs.length, rfl, by omega, fun a ha => ?_, fun i hi => ⟨_, _, rfl, ?_, ?_⟩⟩
      · cases ha; exact ⟨Nat.le_refl _, hrow.lt⟩
      · have := hrow.cell hi
        simpa [hi] using this
      · exact hrow.frozen _

theorem New.of_drew (w w' : World) (h : w' = w.drew) : New w w' := by subst h; exact (New.refl _).drew
set_option maxHeartbeats 400000 in
theorem toInt64SS_any (v : Value) (xss : List (List Int)) (w : World) (h1 : RowsAt w v xss) (hb : xss.length ≤ 1048576) (hbb : ∀ i, i < xss.length → (nth xss i).length ≤ 1048576) :
    Calls Try.prog 20 #[v] w fun e w' => ∃ r, e = .returned r ∧ New w w' ∧ OwnRows w.heap.size w'.heap.size w' r xss := by
  obtain ⟨A, c, rfl, hl1, hc1⟩ := h1
  have hmk := fun w => run_make_row' (P := Try.prog) 22 26 (.slice none 0 0) 24 Try.underlying22 info_ints rfl .i64 .i64 xss.length (by omega) (by omega) w
  go_enter Try.func20, Try.ntmps20
  go_wp2
  go_loopw [4] (fun i wr => ∃ (k : Nat) (rv : Nat → Value), k ≤ xss.length ∧ i = .int .i64 k ∧ wr.rowIs w.heap.size 26 xss.length (fun j => if j < k then rv j else .slice none 0 0) ∧
      (∀ j, j < k → OwnInts (w.heap.size + 1) wr.heap.size wr (rv j) (nth xss j)) ∧ (∀ i j, i < j → j < k → (rv i).ownBlock ≠ (rv j).ownBlock ∨ (rv i).ownBlock = none) ∧ New w wr) (fun i _ => xss.length - (intOf i).toNat)
  case atStart => exact ⟨0, fun _ => default, Nat.zero_le _, rfl, (World.rowIs_made _ _ _ _).congr (fun i _ => by simp), fun j hj => absurd hj (by omega), fun i j _ hj => absurd hj (by omega), (New.refl _).alloc _⟩
  case round =>
    obtain ⟨k, rv, hk, rfl, hrow, hown, hdis, hw⟩ := hrel
    by_cases hlt : k < xss.length
    · obtain ⟨b, off, v, rfl, hx, hr⟩ := hc1 k hlt
      replace hx := hw.cell hx
      replace hr := hr.new hw
      have b1 : (k : Int) < (xss.length : Int) := by omega
      have hcell := hrow.cell hlt
      have hfr := hrow.frozen k
      have hlt' := hrow.lt
      have HROW := hid hrow
      have HOWN := hid hown
      have HDIS := hid hdis
      clear hrow hown hdis
      go_wp2_with (go_at_call 47; refine (toInt64S_any _ _ _ hr (hbb k hlt)).mono ?_; rintro e w1 ⟨r, rfl, hn1, ho1⟩; obtain ⟨A1, c1, rfl⟩ := ho1.form; replace hcell := hn1.cell hcell; replace hfr := (Below.frozen (p := ⟨w.heap.size, k, none⟩) hn1 hlt').trans hfr)
      go_roundw
      case rel =>
        have hrow1 := HROW.out.of_block (w' := w1) (hn1.block _ hlt')
        refine ⟨k + 1, fun j => if j = k then .slice A1 (nth xss k).length c1 else rv j, by omega, by go_num, (hrow1.set k _).congr (fun j hj => ?_), fun j hj => ?_, fun i j hij hj => ?_, (hw.trans hn1).setCell (Nat.le_refl _) _⟩
        · by_cases e : j = k
          · subst e; simp
          · have : j < k + 1 ↔ j < k := by omega
            simp [e, this]
        · have hset : Within w.heap.size (w.heap.size + 1) w1 (w1.setCell ⟨w.heap.size, k, none⟩ (.slice A1 (nth xss k).length c1)) := ⟨rfl, rfl, rfl, by simp [World.setCell], fun i hi ho => Below.heap_setCell _ _ _ _ (by simp; omega)⟩
          have hsz : (w1.setCell ⟨w.heap.size, k, none⟩ (.slice A1 (nth xss k).length c1)).heap.size = w1.heap.size := by simp [World.setCell]
          rw [hsz]
          have := hn1.size
          by_cases e : j = k
          · subst e; simp; exact (ho1.widen (by omega) (Nat.le_refl _)).within hset (by omega)
          · simp [e]; exact (((HOWN.out j (by omega)).widen (Nat.le_refl _) this).new hn1).within hset (by omega)
        · have hi : i ≠ k := by omega
          by_cases e : j = k
          · subst e
            simp [hi]
            cases hrb : (rv i).ownBlock with
            | none => exact Or.inr rfl
            | some g =>
              refine Or.inl fun heq => ?_
              have h2 := (HOWN.out i (by omega)).block g hrb
              have h3 := ho1.block g heq.symm
              omega
          · simp [hi, e]; exact HDIS.out i j hij (by omega)
      case measure => simp [intOf]; omega
    · have e : k = xss.length := by omega
      subst e
      go_wp2
      go_ret
      refine ⟨_, rfl, hw, some ⟨w.heap.size, 0, none⟩, xss.length, rv, rfl, by omega, fun a ha => ?_, fun i hi => ⟨⟨_, _, rfl, ?_, ?_⟩, (hown i hi).widen (by omega) (Nat.le_refl _)⟩, hdis⟩
      · cases ha; exact ⟨Nat.le_refl _, hrow.lt⟩
      · have := hrow.cell hi
        simpa [hi] using this
      · intro e; have := (hown i hi).block _ e; omega

set_option maxHeartbeats 400000 in
theorem eqInt64S_any (v1 v2 : Value) (xs ys : List Int) (w : World) (h1 : IntsAt w v1 xs) (h2 : IntsAt w v2 ys) :
    Calls Try.prog 8 #[v1, v2] w fun e w' => e = .returned (.bool (decide (xs = ys))) ∧ New w w' := by
  obtain ⟨A, c, rfl, hl1, hc1⟩ := h1
  obtain ⟨A2, c2, rfl, hl2, hc2⟩ := h2
  by_cases hlen : xs.length = ys.length
  · have hb : ((xs.length : Int) != ys.length) = false := by simp [hlen]
    have HL := hid hlen
    clear hlen
    go_enter Try.func8, Try.ntmps8
    go_wp2
    go_loopw [5] (fun i wr => ∃ k : Nat, k ≤ xs.length ∧ i = .int .i64 k ∧ Hid (∀ i, i < k → nth xs i = nth ys i) ∧ New w wr) (fun i _ => xs.length - (intOf i).toNat)
    case atStart => exact ⟨0, Nat.zero_le _, rfl, fun i hi => absurd hi (by omega), New.refl _⟩
    case round =>
      obtain ⟨k, hk, rfl, he, hw⟩ := hrel
      by_cases hlt : k < xs.length
      · obtain ⟨b, off, rfl, hx⟩ := hc1 k hlt
        obtain ⟨b2, off2, rfl, hy⟩ := hc2 k (by have := HL.out; omega)
        replace hx := hw.cell hx
        replace hy := hw.cell hy
        have hlt2 : k < ys.length := by have := HL.out; omega
        have b1 : (k : Int) < (xs.length : Int) := by omega
        have b2 : (k : Int) < (ys.length : Int) := by omega
        by_cases hq : nth xs k = nth ys k
        · have hq' : (nth xs k != nth ys k) = false := by simp [hq]
          have HQ := hid hq
          clear hq
          go_wp2_with fail
          go_quiet (fail)
          go_wp2
          go_roundw
          case rel => exact ⟨k + 1, by omega, by go_num, fun i hi => by
              rcases Nat.lt_succ_iff_lt_or_eq.1 hi with h | h
              · exact he.out i h
              · subst h; exact HQ.out, hw.drewN nq⟩
          case measure => simp [intOf]; omega
        · have hq' : (nth xs k != nth ys k) = true := by simp [hq]
          go_wp2_with fail
          go_quiet (fail)
          go_wp2
          go_ret
          have hne : ¬ xs = ys := fun e => hq (by rw [e])
          exact ⟨by simp [hne], hw.drewN nq⟩
      · go_wp2
        go_ret
        have he' : xs = ys := ext_nth xs ys HL.out (fun i hi => he.out i (by omega))
        exact ⟨by simp [he'], hw⟩
  · have hb : ((xs.length : Int) != ys.length) = true := by simp; omega
    go_enter Try.func8, Try.ntmps8
    go_wp2
    go_ret
    have hne : ¬ xs = ys := fun e => hlen (by rw [e])
    exact ⟨by simp [hne], New.refl _⟩

set_option maxHeartbeats 400000 in
theorem eqInt64SS_any (v1 v2 : Value) (xs ys : List (List Int)) (w : World) (h1 : RowsAt w v1 xs) (h2 : RowsAt w v2 ys) :
    Calls Try.prog 32 #[v1, v2] w fun e w' => e = .returned (.bool (decide (xs = ys))) ∧ New w w' := by
  obtain ⟨A, c, rfl, hl1, hc1⟩ := h1
  obtain ⟨A2, c2, rfl, hl2, hc2⟩ := h2
  by_cases hlen : xs.length = ys.length
  · have hb : ((xs.length : Int) != ys.length) = false := by simp [hlen]
    have HL := hid hlen
    clear hlen
    go_enter Try.func32, Try.ntmps32
    go_wp2
    go_loopw [5] (fun i wr => ∃ k : Nat, k ≤ xs.length ∧ i = .int .i64 k ∧ Hid (∀ i, i < k → nth xs i = nth ys i) ∧ New w wr) (fun i _ => xs.length - (intOf i).toNat)
    case atStart => exact ⟨0, Nat.zero_le _, rfl, fun i hi => absurd hi (by omega), New.refl _⟩
    case round =>
      obtain ⟨k, hk, rfl, he, hw⟩ := hrel
      by_cases hlt : k < xs.length
      · obtain ⟨b, off, r1, rfl, hx, hr1⟩ := hc1 k hlt
        obtain ⟨b2, off2, r2, rfl, hy, hr2⟩ := hc2 k (by have := HL.out; omega)
        replace hx := hw.cell hx
        replace hy := hw.cell hy
        replace hr1 := hr1.new hw
        replace hr2 := hr2.new hw
        have hlt2 : k < ys.length := by have := HL.out; omega
        have kb1 : (k : Int) < (xs.length : Int) := by omega
        have kb2 : (k : Int) < (ys.length : Int) := by omega
        by_cases hq : nth xs k = nth ys k
        · have hq' : decide (nth xs k = nth ys k) = true := by simp [hq]
          have HQ := hid hq
          clear hq
          go_wp2_with fail
          go_region_held3 (fun w' => w'.cell? ⟨b, off + k, none⟩ = some r1 ∧ w'.cell? ⟨b2, off2 + k, none⟩ = some r2) (first | go_keep | exact ⟨New.cell hn hx, New.cell hn hy⟩)
            (first | (go_at_call 8; refine (eqInt64S_any _ _ _ _ _ (hr1.new (New.refl _).drew) (hr2.new (New.refl _).drew)).mono ?_; rintro e w' ⟨rfl, hn⟩))
          go_wp2
          go_roundw
          case rel => exact ⟨k + 1, by omega, by go_num, fun i hi => by
              rcases Nat.lt_succ_iff_lt_or_eq.1 hi with h | h
              · exact he.out i h
              · subst h; exact HQ.out, hw.trans ((New.refl _).drew.trans hn)⟩
          case measure => simp [intOf]; omega
        · have hq' : decide (nth xs k = nth ys k) = false := by simp [hq]
          go_wp2_with fail
          go_region_held3 (fun w' => w'.cell? ⟨b, off + k, none⟩ = some r1 ∧ w'.cell? ⟨b2, off2 + k, none⟩ = some r2) (first | go_keep | exact ⟨New.cell hn hx, New.cell hn hy⟩)
            (first | (go_at_call 8; refine (eqInt64S_any _ _ _ _ _ (hr1.new (New.refl _).drew) (hr2.new (New.refl _).drew)).mono ?_; rintro e w' ⟨rfl, hn⟩))
          go_wp2
          go_ret
          have hne : ¬ xs = ys := fun e => hq (by rw [e])
          exact ⟨by simp [hne], hw.trans ((New.refl _).drew.trans hn)⟩
      · go_wp2
        go_ret
        have he' : xs = ys := ext_nth xs ys HL.out (fun i hi => he.out i (by omega))
        exact ⟨by simp [he'], hw⟩
  · have hb : ((xs.length : Int) != ys.length) = true := by simp; omega
    go_enter Try.func32, Try.ntmps32
    go_wp2
    go_ret
    have hne : ¬ xs = ys := fun e => hlen (by rw [e])
    exact ⟨by simp [hne], New.refl _⟩

theorem szB_pos (n : Nat) (left : Int) (h : ¬ szB n left < 0) : szB n left = left - n := by
  unfold szB at h ⊢
  rw [if_neg]
  intro h5
  rw [if_pos h5] at h
  omega
theorem szRows_bound : ∀ (xss : List (List Int)) (left : Int), -1 ≤ left → -1 ≤ szRows xss left ∧ szRows xss left ≤ left
  | [], left, h => ⟨h, Int.le_refl _⟩
  | xs :: r, left, h => by
    have h1 := szB_le xs.length left h
    unfold szRows
    split
    · omega
    · have := szRows_bound r (szB xs.length left) h1.2; omega
theorem szBB_bound (xss : List (List Int)) (left : Int) (h : -1 ≤ left) : -1 ≤ szBB xss left ∧ szBB xss left ≤ left := by
  have h1 := szB_le xss.length left h
  unfold szBB
  split
  · omega
  · have := szRows_bound xss _ h1.2; omega
theorem szRows_len : ∀ (xss : List (List Int)) (left : Int), 0 ≤ left → 0 ≤ szRows xss left → left = szRows xss left + total xss
  | [], left, _, _ => by simp [szRows, total]
  | xs :: r, left, h, h1 => by
    unfold szRows at h1 ⊢
    by_cases h2 : szB xs.length left < 0
    · rw [if_pos h2] at h1; omega
    · rw [if_neg h2] at h1 ⊢
      have := szRows_len r _ (by omega) h1
      have h3 := szB_pos _ _ h2
      simp [total]; omega
/-- A size that is not used up bounds what it has counted. -/
theorem szBB_len (xss : List (List Int)) (left : Int) (_h : 0 ≤ left) (h1 : 0 ≤ szBB xss left) : left = szBB xss left + xss.length + total xss := by
  unfold szBB at h1 ⊢
  by_cases h2 : szB xss.length left < 0
  · rw [if_pos h2] at h1; omega
  · rw [if_neg h2] at h1 ⊢
    have := szRows_len xss _ (by omega) h1
    have h3 := szB_pos _ _ h2
    omega
theorem length_le_total (xss : List (List Int)) (i : Nat) (h : i < xss.length) : (nth xss i).length ≤ total xss := by
  have h1 := total_take_succ xss i h
  have h2 := total_take_le xss (i + 1)
  omega
end
section
end

end Go.Proofs.Ythbebnfhplacnaa
