/- The laws' own small helpers on automata with choices. -/
import Derived.Test.YtnoajdhofdfafaaRows
import Derived.Test.YtnoajdhofdfafaaBase
import Derived.Test.YtnoajdhofdfafaaAut
import Derived.Test.YtnoajdhofdfafaaCho
import Derived.Test.YtnoajdhofdfafaaLInts
import Derived.WalkKit
import Derived.WalkSpells
import Derived.WalkLawsBesides
import Derived.Deep.QuietTactic
import Derived.Deep.OwnRows
import Derived.BigQuiet
import Derived.KernelRfl
import Derived.Deep.RegionHeld3
namespace Go.Proofs.Ytnoajdhofdfafaa
open Go.RowKit

theorem info_rows : (Try.prog.info? 22).map (fun i => (i.zero, i.size, i.bytes)) = some (some (.slice none 0 0), 1, 24) := by kernel_rfl
def szCubes : List (List (List Int)) → Int → Int
  | [], left => left
  | x :: r, left => if szBB x left < 0 then -1 else szCubes r (szBB x left)
def szCube (c : List (List (List Int))) (left : Int) : Int := if szB c.length left < 0 then -1 else szCubes c (szB c.length left)
theorem szCubes_drop (c : List (List (List Int))) (k : Nat) (left : Int) (h : k < c.length) :
    szCubes (c.drop k) left = if szBB (nth c k) left < 0 then -1 else szCubes (c.drop (k + 1)) (szBB (nth c k) left) := by
  rw [List.drop_eq_getElem_cons h, nth_eq c k h]; rfl
theorem szCubes_bound : ∀ (c : List (List (List Int))) (left : Int), -1 ≤ left → -1 ≤ szCubes c left ∧ szCubes c left ≤ left
  | [], left, h => ⟨h, Int.le_refl _⟩
  | x :: r, left, h => by
    have h1 := szBB_bound x left h
    unfold szCubes
    split
    · omega
    · have := szCubes_bound r (szBB x left) h1.1; omega
theorem szCube_bound (c : List (List (List Int))) (left : Int) (h : -1 ≤ left) : -1 ≤ szCube c left ∧ szCube c left ≤ left := by
  have h1 := szB_le c.length left h
  unfold szCube
  split
  · omega
  · have := szCubes_bound c _ h1.2; omega
theorem szCubes_len : ∀ (c : List (List (List Int))) (left : Int), 0 ≤ left → 0 ≤ szCubes c left → szCubes c left + totalCho c ≤ left ∧ ∀ i, i < c.length → (nth c i).length ≤ left
  | [], left, _, _ => ⟨by simp [szCubes, totalCho], fun i hi => by simp at hi⟩
  | x :: r, left, h, h1 => by
    unfold szCubes at h1 ⊢
    by_cases h2 : szBB x left < 0
    · rw [if_pos h2] at h1; omega
    · rw [if_neg h2] at h1 ⊢
      have h3 := szCubes_len r _ (by omega) h1
      have h4 := szBB_len x left h (by omega)
      have h5 := szBB_bound x left (by omega)
      refine ⟨by have := h3.1; simp [totalCho] at this ⊢; omega, fun i hi => ?_⟩
      cases i with
      | zero => show (x.length : Int) ≤ left; omega
      | succ i => have := h3.2 i (by simpa using hi); show ((nth r i).length : Int) ≤ left; omega
/-- A size that is not used up bounds what it has counted. -/
theorem szCube_len (c : List (List (List Int))) (left : Int) (h : 0 ≤ left) (h1 : 0 ≤ szCube c left) : (c.length : Int) ≤ left ∧ totalCho c ≤ left ∧ ∀ i, i < c.length → (nth c i).length ≤ left := by
  unfold szCube at h1
  by_cases h2 : szB c.length left < 0
  · rw [if_pos h2] at h1; omega
  · rw [if_neg h2] at h1
    have h3 := szCubes_len c _ (by omega) h1
    have h4 := szB_pos _ _ h2
    exact ⟨by omega, by omega, fun i hi => by have := h3.2 i hi; omega⟩
def szCho (c : Cho) (left : Int) : Int := szCube c.nx left
theorem szCho_bound (c : Cho) (left : Int) (h : -1 ≤ left) : -1 ≤ szCho c left ∧ szCho c left ≤ left := szCube_bound _ _ h
def ChoSmall (c : Cho) : Prop := c.nx.length ≤ 1048576 ∧ totalCho c.nx ≤ 1048576 ∧ ∀ i, i < c.nx.length → (nth c.nx i).length ≤ 1048576 ∧ ∀ j, j < (nth c.nx i).length → (nth (nth c.nx i) j).length ≤ 1048576
theorem szCho_len (c : Cho) (left : Int) (h : 0 ≤ left ∧ left ≤ 1048576) (h1 : 0 ≤ szCho c left) : ChoSmall c := by
  obtain ⟨h2, h3, h4⟩ := szCube_len c.nx left h.1 h1
  refine ⟨by omega, by omega, fun i hi => ⟨by have := h4 i hi; omega, fun j hj => ?_⟩⟩
  have h5 := length_le_total _ j hj
  have h6 := total_le_totalCho c.nx i hi
  omega
set_option maxHeartbeats 400000 in
theorem szInt64SSS_any (v : Value) (c : List (List (List Int))) (left : Int) (w : World) (h : CubeAt w v c) (h1 : left ≤ 1048576) (h0 : -1 ≤ left) :
    Calls Try.prog 83 #[v, .int .i64 left] w fun e w' => e = .returned (.int .i64 (szCube c left)) ∧ w' = w := by
  obtain ⟨A, cap, rfl, hl, hc⟩ := h
  by_cases h : left < c.length
  · go_enter Try.func83, Try.ntmps83
    go_wp2
    go_ret
    exact ⟨by simp [szCube, szB, h], rfl⟩
  · have hs : szB c.length left = left - c.length := by simp [szB, h]
    have HS := hid hs
    clear hs
    go_enter Try.func83, Try.ntmps83
    go_wp2
    go_loop [1, 5] (fun l i => ∃ (k : Nat) (q : Int), k ≤ c.length ∧ i = .int .i64 k ∧ l = .int .i64 q ∧ 0 ≤ q ∧ q ≤ 1048576 ∧ Hid (szCubes c (left - c.length) = szCubes (c.drop k) q)) (fun _ i => c.length - (intOf i).toNat)
    case atStart => exact ⟨0, _, Nat.zero_le _, rfl, rfl, by omega, by omega, rfl⟩
    case round =>
      obtain ⟨k, q, hk, rfl, rfl, hq0, hq1, hs⟩ := hrel
      by_cases hlt : k < c.length
      · obtain ⟨b, off, rv, rfl, hx, hr⟩ := hc k hlt
        have b1 : (k : Int) < (c.length : Int) := by omega
        have HD := hid (szCubes_drop c k q hlt)
        have hz := szBB_bound (nth c k) q (by omega)
        have hz1 := hz.1
        have hz2 := hz.2
        clear hz
        by_cases hneg : szBB (nth c k) q < 0
        · go_wp2_with (go_at_call 68; refine (szInt64SS_any _ _ _ _ hr (by omega) (by omega)).mono ?_; rintro e w' ⟨rfl, rfl⟩)
          go_ret
          refine ⟨ret_int ?_, rfl⟩
          rw [szCube, HS.out, hs.out, HD.out, if_neg (by omega), if_pos hneg]
        · go_wp2_with (go_at_call 68; refine (szInt64SS_any _ _ _ _ hr (by omega) (by omega)).mono ?_; rintro e w' ⟨rfl, rfl⟩)
          go_round
          case rel => exact ⟨k + 1, _, by omega, by go_num, rfl, by omega, by omega, by show _ = _; rw [hs.out, HD.out, if_neg (by omega)]⟩
          case measure => simp [intOf]; omega
      · have e : k = c.length := by omega
        subst e
        go_wp2
        go_ret
        refine ⟨ret_int ?_, rfl⟩
        rw [szCube, HS.out, if_neg (by omega), hs.out, List.drop_length]; rfl
set_option maxHeartbeats 400000 in
theorem szChoice_any (v : Value) (c : Cho) (left : Int) (w : World) (h : ChoAt w v c) (h1 : left ≤ 1048576) (h0 : -1 ≤ left) :
    Calls Try.prog 22 #[v, .int .i64 left] w fun e w' => e = .returned (.int .i64 (szCho c left)) ∧ New w w' := by
  obtain ⟨rv, rfl, hr⟩ := h
  obtain ⟨A1, c1, rfl⟩ := hr.form
  have hb := szCube_bound c.nx left h0
  unfold szCho
  by_cases hn : szCube c.nx left < 0
  all_goals
    go_enter Try.func22, Try.ntmps22
    go_wp2_with (go_at_call 83; refine (szInt64SSS_any _ _ _ _ (hr.new (by repeat (first | with_reducible exact New.refl _ | with_reducible assumption | with_reducible refine New.alloc ?_ _ | with_reducible refine New.drew ?_ | with_reducible refine New.drewN ?_ _ | with_reducible refine New.setCell ?_ (by simp <;> omega) _))) (by omega) (by omega)).mono ?_; rintro e w' ⟨rfl, rfl⟩)
    go_ret
    exact ⟨ret_int (by omega), (by repeat (first | with_reducible exact New.refl _ | with_reducible assumption | with_reducible refine New.alloc ?_ _ | with_reducible refine New.drew ?_ | with_reducible refine New.drewN ?_ _ | with_reducible refine New.setCell ?_ (by simp <;> omega) _))⟩
set_option maxHeartbeats 1000000 in
theorem toInt64SSS_any (v : Value) (c : List (List (List Int))) (w : World) (h1 : CubeAt w v c) (hb : c.length ≤ 1048576) (hbb : ∀ i, i < c.length → (nth c i).length ≤ 1048576 ∧ ∀ j, j < (nth c i).length → (nth (nth c i) j).length ≤ 1048576) :
    Calls Try.prog 91 #[v] w fun e w' => ∃ r, e = .returned r ∧ New w w' ∧ OwnCube w.heap.size w'.heap.size w' r c := by
  obtain ⟨A, cap, rfl, hl1, hc1⟩ := h1
  have hmk := fun w => run_make_row' (P := Try.prog) 33 22 (.slice none 0 0) 24 Try.underlying33 info_rows rfl .i64 .i64 c.length (by omega) (by omega) w
  have HBB := hid hbb
  clear hbb
  go_enter Try.func91, Try.ntmps91
  go_wp2
  go_loopw [4] (fun i wr => ∃ (k : Nat) (rv : Nat → Value) (M : Nat → Nat), k ≤ c.length ∧ i = .int .i64 k ∧ wr.rowIs w.heap.size 22 c.length (fun j => if j < k then rv j else .slice none 0 0) ∧
      Hid (M 0 = w.heap.size + 1 ∧ M k ≤ wr.heap.size) ∧ Hid (∀ j, j < k → M j ≤ M (j + 1) ∧ OwnRows (M j) (M (j + 1)) wr (rv j) (nth c j)) ∧ New w wr) (fun i _ => c.length - (intOf i).toNat)
  case atStart => exact ⟨0, fun _ => default, fun _ => w.heap.size + 1, Nat.zero_le _, rfl, (World.rowIs_made _ _ _ _).congr (fun i _ => by simp), hid ⟨rfl, (by (try simp only [size_alloc, size_drew, size_drewN, size_setCell]) <;> omega)⟩, hid (fun j hj => absurd hj (by omega)), (New.refl _).alloc _⟩
  case round =>
    obtain ⟨k, rv, M, hk, rfl, hrow, hM, hown, hw⟩ := hrel
    by_cases hlt : k < c.length
    · obtain ⟨b, off, v, rfl, hx, hr⟩ := hc1 k hlt
      replace hx := hw.cell hx
      replace hr := hr.new hw
      have b1 : (k : Int) < (c.length : Int) := by omega
      have hcell := hrow.cell hlt
      have hfr := hrow.frozen k
      have hlt' := hrow.lt
      have HROW := hid hrow
      clear hrow
      go_wp2_with (go_at_call 72; refine (toInt64SS_any _ _ _ hr (HBB.out k hlt).1 (HBB.out k hlt).2).mono ?_; rintro e w1 ⟨r, rfl, hn1, ho1⟩; obtain ⟨A1, c1, rfl⟩ := ho1.form; replace hcell := hn1.cell hcell; replace hfr := (Below.frozen (p := ⟨w.heap.size, k, none⟩) hn1 hlt').trans hfr)
      go_roundw
      case rel =>
        have hrow1 := HROW.out.of_block (w' := w1) (hn1.block _ hlt')
        obtain ⟨hM0, hMk⟩ := hM.out
        have hsz1 := hn1.size
        have hmon := mono_of_step (M := M) (n := k) fun i hi => (hown.out i hi).1
        have hset : Within w.heap.size (w.heap.size + 1) w1 (w1.setCell ⟨w.heap.size, k, none⟩ (.slice A1 (nth c k).length c1)) := ⟨rfl, rfl, rfl, by simp [World.setCell], fun i hi ho => Below.heap_setCell _ _ _ _ (by simp; omega)⟩
        refine ⟨k + 1, fun j => if j = k then .slice A1 (nth c k).length c1 else rv j, fun j => if j = k + 1 then w1.heap.size else M j, by omega, by go_num, (hrow1.set k _).congr (fun j hj => ?_), hid ⟨?_, ?_⟩, hid (fun j hj => ?_), (hw.trans hn1).setCell (Nat.le_refl _) _⟩
        · by_cases e : j = k
          · subst e; simp
          · have : j < k + 1 ↔ j < k := by omega
            simp [e, this]
        · simp; exact hM0
        · simp [World.setCell]
        · have h0k := hmon k 0 (by omega) (Nat.le_refl _)
          by_cases e : j = k
          · subst e
            simp
            exact ⟨by omega, (ho1.widen hMk (Nat.le_refl _)).within hset (by omega)⟩
          · have e2 : j ≠ k + 1 := by omega
            have e3 : ¬ j + 1 = k + 1 := by omega
            have h1 := hown.out j (by omega)
            have h2 := hmon j 0 (by omega) (by omega)
            simp only [if_neg e, if_neg e2, if_neg e3]
            exact ⟨h1.1, (h1.2.new hn1).within hset (by omega)⟩
      case measure => simp [intOf]; omega
    · have e : k = c.length := by omega
      subst e
      go_wp2
      go_ret
      obtain ⟨hM0, hMk⟩ := hM.out
      refine ⟨_, rfl, hw, some ⟨w.heap.size, 0, none⟩, c.length, rv, M, rfl, by omega, fun a ha => ?_, by omega, hMk, fun i hi => ⟨(hown.out i hi).1, ⟨_, _, rfl, ?_⟩, (hown.out i hi).2⟩⟩
      · cases ha; exact ⟨Nat.le_refl _, by show w.heap.size < M 0; omega⟩
      · have := hrow.cell hi
        simpa [hi] using this
set_option maxHeartbeats 400000 in
theorem toChoice_any (v : Value) (a : Cho) (w : World) (h : ChoAt w v a) (hb : ChoSmall a) :
    Calls Try.prog 24 #[v] w fun e w' => ∃ r, e = .returned r ∧ New w w' ∧ OwnCho w.heap.size w'.heap.size w' r a := by
  obtain ⟨rv, rfl, hr⟩ := h
  obtain ⟨A1, c1, rfl⟩ := hr.form
  go_enter Try.func24, Try.ntmps24
  go_wp2_with fail
  refine (toInt64SSS_any _ _ _ (hr.new (by repeat (first | with_reducible exact New.refl _ | with_reducible assumption | with_reducible refine New.alloc ?_ _ | with_reducible refine New.drew ?_ | with_reducible refine New.drewN ?_ _ | with_reducible refine New.setCell ?_ (by simp <;> omega) _))) hb.1 hb.2.2).mono ?_
  rintro e w1 ⟨r, rfl, hn, ho⟩
  obtain ⟨A2, c2, rfl⟩ := ho.form
  obtain ⟨hc_hn, hf_hn⟩ := New.both hn; have hz_hn := New.size hn; try simp only [size_alloc, size_drew, size_drewN, size_setCell] at hz_hn
  have hn0 : New w w1 := New.trans (by repeat (first | with_reducible exact New.refl _ | with_reducible assumption | with_reducible refine New.alloc ?_ _ | with_reducible refine New.drew ?_ | with_reducible refine New.drewN ?_ _ | with_reducible refine New.setCell ?_ (by simp <;> omega) _)) hn
  go_wp2_with fail
  refine bodyPost_ret (v := .agg #[.int .i64 a.n, .slice A2 a.nx.length c2]) (by simp [results, Try.results24, go_sem, hc_hn, hf_hn]) rfl ⟨_, rfl, ?_, _, rfl, ?_⟩
  · exact (by repeat (first | with_reducible exact New.refl _ | with_reducible assumption | with_reducible refine New.alloc ?_ _ | with_reducible refine New.drew ?_ | with_reducible refine New.drewN ?_ _ | with_reducible refine New.setCell ?_ (by simp <;> omega) _))
  · exact ((ho.within (B' := w.heap.size) (E' := w.heap.size + 1 + 1 + 1) (by repeat (first | with_reducible exact Within.refl _ _ _ | with_reducible refine Within.setCell ?_ (by simp <;> omega) (by simp <;> omega) _)) (Or.inr (by (try simp only [size_alloc, size_drew, size_drewN, size_setCell]) <;> omega))).widen (by (try simp only [size_alloc, size_drew, size_drewN, size_setCell]) <;> omega) (by (try simp only [size_alloc, size_drew, size_drewN, size_setCell]) <;> omega))
set_option maxHeartbeats 400000 in
theorem eqInt64SSS_any (v1 v2 : Value) (xs ys : List (List (List Int))) (w : World) (h1 : CubeAt w v1 xs) (h2 : CubeAt w v2 ys) :
    Calls Try.prog 98 #[v1, v2] w fun e w' => e = .returned (.bool (decide (xs = ys))) ∧ New w w' := by
  obtain ⟨A, c, rfl, hl1, hc1⟩ := h1
  obtain ⟨A2, c2, rfl, hl2, hc2⟩ := h2
  by_cases hlen : xs.length = ys.length
  · have hb : ((xs.length : Int) != ys.length) = false := by simp [hlen]
    have HL := hid hlen
    clear hlen
    go_enter Try.func98, Try.ntmps98
    go_wp2
    go_loopw [5] (fun i wr => ∃ k : Nat, k ≤ xs.length ∧ i = .int .i64 k ∧ Hid (∀ i, i < k → nth xs i = nth ys i) ∧ New w wr) (fun i _ => xs.length - (intOf i).toNat)
    case atStart => exact ⟨0, Nat.zero_le _, rfl, fun i hi => absurd hi (by omega), New.refl _⟩
    case round =>
      obtain ⟨k, hk, rfl, he, hw⟩ := hrel
      by_cases hlt : k < xs.length
      · obtain ⟨b, off, r1, rfl, hx, hr1⟩ := hc1 k hlt
        obtain ⟨b2, off2, r2, rfl, hy, hr2⟩ := hc2 k (by have := HL.out; omega)
        replace hx := hw.cell hx
        replace hy := hw.cell hy
        replace hr1 := hr1.new hw
        replace hr2 := hr2.new hw
        have hlt2 : k < ys.length := by have := HL.out; omega
        have kb1 : (k : Int) < (xs.length : Int) := by omega
        have kb2 : (k : Int) < (ys.length : Int) := by omega
        by_cases hq : nth xs k = nth ys k
        · have hq' : decide (nth xs k = nth ys k) = true := by simp [hq]
          have HQ := hid hq
          clear hq
          go_wp2_with fail
          go_region_held3 (fun w' => w'.cell? ⟨b, off + k, none⟩ = some r1 ∧ w'.cell? ⟨b2, off2 + k, none⟩ = some r2) (first | go_keep | exact ⟨New.cell hn hx, New.cell hn hy⟩)
            (first | (go_at_call 80; refine (eqInt64SS_any _ _ _ _ _ (hr1.new (New.refl _).drew) (hr2.new (New.refl _).drew)).mono ?_; rintro e w' ⟨rfl, hn⟩))
          go_wp2
          go_roundw
          case rel => exact ⟨k + 1, by omega, by go_num, fun i hi => by
              rcases Nat.lt_succ_iff_lt_or_eq.1 hi with h | h
              · exact he.out i h
              · subst h; exact HQ.out, hw.trans ((New.refl _).drew.trans hn)⟩
          case measure => simp [intOf]; omega
        · have hq' : decide (nth xs k = nth ys k) = false := by simp [hq]
          go_wp2_with fail
          go_region_held3 (fun w' => w'.cell? ⟨b, off + k, none⟩ = some r1 ∧ w'.cell? ⟨b2, off2 + k, none⟩ = some r2) (first | go_keep | exact ⟨New.cell hn hx, New.cell hn hy⟩)
            (first | (go_at_call 80; refine (eqInt64SS_any _ _ _ _ _ (hr1.new (New.refl _).drew) (hr2.new (New.refl _).drew)).mono ?_; rintro e w' ⟨rfl, hn⟩))
          go_wp2
          go_ret
          have hne : ¬ xs = ys := fun e => hq (by rw [e])
          exact ⟨by simp [hne], hw.trans ((New.refl _).drew.trans hn)⟩
      · go_wp2
        go_ret
        have he' : xs = ys := ext_nth xs ys HL.out (fun i hi => he.out i (by omega))
        exact ⟨by simp [he'], hw⟩
  · have hb : ((xs.length : Int) != ys.length) = true := by simp; omega
    go_enter Try.func98, Try.ntmps98
    go_wp2
    go_ret
    have hne : ¬ xs = ys := fun e => hlen (by rw [e])
    exact ⟨by simp [hne], New.refl _⟩
set_option maxHeartbeats 400000 in
theorem eqChoice_any (v1 v2 : Value) (a b : Cho) (w : World) (h1 : ChoAt w v1 a) (h2 : ChoAt w v2 b) :
    Calls Try.prog 28 #[v1, v2] w fun e w' => e = .returned (.bool (decide (a = b))) ∧ New w w' := by
  obtain ⟨rv, rfl, hr⟩ := h1
  obtain ⟨rv2, rfl, hr2⟩ := h2
  obtain ⟨A1, c1, rfl⟩ := hr.form
  obtain ⟨A2, c2, rfl⟩ := hr2.form
  rw [Cho.ext']
  by_cases h : a.n = b.n
  · have hb : (a.n != b.n) = false := by simp [h]
    have hd : decide (a.n = b.n) = true := by simp [h]
    have H := hid h
    clear h
    by_cases hx : a.nx = b.nx
    · have hd2 : decide (a.nx = b.nx) = true := by simp [hx]
      have HX := hid hx
      clear hx
      go_enter Try.func28, Try.ntmps28
      go_wp2_with (go_at_call 98; refine (eqInt64SSS_any _ _ _ _ _ (hr.new (by repeat (first | with_reducible exact New.refl _ | with_reducible assumption | with_reducible refine New.alloc ?_ _ | with_reducible refine New.drew ?_ | with_reducible refine New.drewN ?_ _ | with_reducible refine New.setCell ?_ (by simp <;> omega) _))) (hr2.new (by repeat (first | with_reducible exact New.refl _ | with_reducible assumption | with_reducible refine New.alloc ?_ _ | with_reducible refine New.drew ?_ | with_reducible refine New.drewN ?_ _ | with_reducible refine New.setCell ?_ (by simp <;> omega) _)))).mono ?_; rintro e w' ⟨rfl, hn⟩)
      go_ret
      exact ⟨by simp [H.out, HX.out], New.trans (by repeat (first | with_reducible exact New.refl _ | with_reducible assumption | with_reducible refine New.alloc ?_ _ | with_reducible refine New.drew ?_ | with_reducible refine New.drewN ?_ _ | with_reducible refine New.setCell ?_ (by simp <;> omega) _)) hn⟩
    · have hd2 : decide (a.nx = b.nx) = false := by simp [hx]
      go_enter Try.func28, Try.ntmps28
      go_wp2_with (go_at_call 98; refine (eqInt64SSS_any _ _ _ _ _ (hr.new (by repeat (first | with_reducible exact New.refl _ | with_reducible assumption | with_reducible refine New.alloc ?_ _ | with_reducible refine New.drew ?_ | with_reducible refine New.drewN ?_ _ | with_reducible refine New.setCell ?_ (by simp <;> omega) _))) (hr2.new (by repeat (first | with_reducible exact New.refl _ | with_reducible assumption | with_reducible refine New.alloc ?_ _ | with_reducible refine New.drew ?_ | with_reducible refine New.drewN ?_ _ | with_reducible refine New.setCell ?_ (by simp <;> omega) _)))).mono ?_; rintro e w' ⟨rfl, hn⟩)
      go_ret
      exact ⟨by simp [H.out, hx], New.trans (by repeat (first | with_reducible exact New.refl _ | with_reducible assumption | with_reducible refine New.alloc ?_ _ | with_reducible refine New.drew ?_ | with_reducible refine New.drewN ?_ _ | with_reducible refine New.setCell ?_ (by simp <;> omega) _)) hn⟩
  · have hb : (a.n != b.n) = true := by simp [h]
    go_enter Try.func28, Try.ntmps28
    go_wp2
    go_ret
    exact ⟨by simp [h], (by repeat (first | with_reducible exact New.refl _ | with_reducible assumption | with_reducible refine New.alloc ?_ _ | with_reducible refine New.drew ?_ | with_reducible refine New.drewN ?_ _ | with_reducible refine New.setCell ?_ (by simp <;> omega) _))⟩

end Go.Proofs.Ytnoajdhofdfafaa
