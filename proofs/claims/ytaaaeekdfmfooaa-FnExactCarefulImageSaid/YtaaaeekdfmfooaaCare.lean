/- Where a word leads a set, if it meets no gap. -/
import Derived.Test.YtaaaeekdfmfooaaRows
import Derived.Test.YtaaaeekdfmfooaaBase
import Derived.Test.YtaaaeekdfmfooaaAut
import Derived.Test.YtaaaeekdfmfooaaApp
import Derived.Test.YtaaaeekdfmfooaaInfo
import Derived.Test.YtaaaeekdfmfooaaPlain1
import Derived.Test.YtaaaeekdfmfooaaPlainRun
import Derived.Test.YtaaaeekdfmfooaaPlainSet
import Derived.Test.YtaaaeekdfmfooaaPlainBits
import Derived.Test.YtaaaeekdfmfooaaPlainPart
import Derived.Test.YtaaaeekdfmfooaaS00b
import Derived.Test.YtaaaeekdfmfooaaS01a
import Derived.Test.YtaaaeekdfmfooaaSFlk
import Derived.Test.YtaaaeekdfmfooaaS04a
import Derived.Test.YtaaaeekdfmfooaaI04a
import Derived.Test.YtaaaeekdfmfooaaIIdx
import Derived.Test.YtaaaeekdfmfooaaIFlk
import Derived.WalkKit
import Derived.WalkSpells
import Derived.WalkLawsBesides
import Derived.Deep.QuietTactic
import Derived.Deep.OwnRows
import Derived.BigQuiet
import Derived.KernelRfl
import Derived.Deep.RegionHeld3
namespace Go.Proofs.Ytaaaeekdfmfooaa
open Go.RowKit

def CarefulImage (p : Aut) (set ws : List Int) : List Int × Int :=
  if partOk p = true then (if (setB set p.n && wordOk p ws) = true then (match prun p.nx (orB set) ws with | some g => (setOf g, 0) | none => ([], 4)) else ([], 2)) else ([], 1)
theorem CarefulImage_len (p : Aut) (set ws : List Int) : (CarefulImage p set ws).1.length ≤ 1048576 := by
  unfold CarefulImage
  split
  · split
    · split
      · rename_i g _; have := bitsTo_len g 10; unfold setOf; simp only; omega
      · simp
    · simp
  · simp
set_option maxHeartbeats 1000000 in
theorem specCarefulImage_any (v1 v2 v3 : Value) (a : Aut) (set ws : List Int) (w : World) (h1 : AutAt w v1 a) (h2 : IntsAt w v2 set) (h3 : IntsAt w v3 ws) :
    Calls Try.prog 26 #[v1, v2, v3] w fun e w' => ∃ r, e = .returned (.tuple #[r, .int .i64 (CarefulImage a set ws).2]) ∧ New w w' ∧ OwnInts w.heap.size w'.heap.size w' r (CarefulImage a set ws).1 := by
  obtain ⟨rv, rfl, hr⟩ := h1
  obtain ⟨A, c, rfl⟩ := hr.form
  obtain ⟨wb, hwb⟩ : ∃ wb, wb = w.alloc (.cells #[.int .i64 a.n, .slice A a.nx.length c] 41) := ⟨_, rfl⟩
  have hp : PAut wb (.pointer (some ⟨w.heap.size, 0, none⟩)) a := by rw [hwb]; exact PAut.box hr _
  have hnb : New w wb := by rw [hwb]; exact (by repeat (first | with_reducible exact New.refl _ | with_reducible assumption | with_reducible refine New.alloc ?_ _ | with_reducible refine New.drew ?_ | with_reducible refine New.drewN ?_ _ | with_reducible refine New.setCell ?_ (by simp <;> omega) _))
  have hzb : wb.heap.size = w.heap.size + 1 := by rw [hwb]; simp only [size_alloc]
  have hb0 : wb.cell? ⟨w.heap.size, 0, none⟩ = some (.int .i64 a.n) := by rw [hwb]; go_simp
  have hb1 : wb.cell? ⟨w.heap.size, 1, none⟩ = some (.slice A a.nx.length c) := by rw [hwb]; go_simp
  have hl := hr.len
  obtain ⟨R, hR⟩ : ∃ R, R = CarefulImage a set ws := ⟨_, rfl⟩
  rw [← hR]
  unfold CarefulImage at hR
  have HR := hid hR
  clear hR
  have C1 := l04Ok_any _ a _ hp
  cases ha : partOk a with
  | false =>
    rw [ha] at C1
    have e : R = ([], 1) := by rw [HR.out, ha]; rfl
    go_enter Try.func26, Try.ntmps26
    go_wp2_with fail
    rw [← hwb]
    refine C1.mono ?_
    rintro e w1 ⟨rfl, hn1⟩
    have hz1 := hn1.size
    go_wp2
    go_ret2
    rw [e]
    exact ⟨_, rfl, (by repeat (first | with_reducible exact New.refl _ | with_reducible assumption | with_reducible refine New.alloc ?_ _ | with_reducible refine New.drewN ?_ _ | with_reducible refine New.drew ?_ | with_reducible refine New.trans ?_ (by with_reducible assumption))), OwnInts.none' _ (by (try simp only [size_alloc, size_drew, size_drewN, size_setCell] at *) <;> omega) (by (try simp only [size_alloc, size_drew, size_drewN, size_setCell] at *) <;> omega)⟩
  | true =>
    rw [ha] at C1
    obtain ⟨⟨n1, n2⟩, ⟨l1, l2⟩, _⟩ := partOk_parts ha
    have C2 := fun w => l04Shape_any a.n a.nx.length w (by omega)
    have HA := hid ha
    clear ha
    go_enter Try.func26, Try.ntmps26
    go_wp2_with fail
    rw [← hwb]
    refine C1.mono ?_
    rintro e w1 ⟨rfl, hn1⟩
    have hz1 := hn1.size
    replace hb0 := hn1.cell hb0
    replace hb1 := hn1.cell hb1
    go_wp2_with fail
    refine (C2 _).mono ?_
    rintro e w2 ⟨rv, he, hn2, hrv⟩
    have hz2 := hn2.size
    obtain ⟨A3, c3, rfl⟩ := hrv.form
    subst he
    have hpa : PAut (w2.alloc (.cells #[.int .i64 a.n, .slice A3 (List.replicate a.nx.length ([] : List Int)).length c3] 27)) (.pointer (some ⟨w2.heap.size, 0, none⟩)) ⟨a.n, List.replicate a.nx.length []⟩ := PAut.box (a := ⟨a.n, List.replicate a.nx.length []⟩) hrv _
    rw [List.length_replicate] at hpa
    rw [List.length_replicate]
    have C2b := fun w1 (hm : New (w2.alloc (.cells #[.int .i64 a.n, .slice A3 a.nx.length c3] 27)) w1) => l01Set_any _ _ _ set w1 (hpa.new hm) (h2.new (by repeat (first | with_reducible exact New.refl _ | with_reducible assumption | with_reducible refine New.alloc ?_ _ | with_reducible refine New.drewN ?_ _ | with_reducible refine New.drew ?_ | with_reducible refine New.trans ?_ (by with_reducible assumption)))) (by show 0 ≤ a.n; omega) (by show a.n ≤ _; omega)
    have C3 := fun w1 (hm : New (w2.alloc (.cells #[.int .i64 a.n, .slice A3 a.nx.length c3] 27)) w1) => l01Word_any _ _ _ ws w1 (hpa.new hm) (h3.new (by repeat (first | with_reducible exact New.refl _ | with_reducible assumption | with_reducible refine New.alloc ?_ _ | with_reducible refine New.drewN ?_ _ | with_reducible refine New.drew ?_ | with_reducible refine New.trans ?_ (by with_reducible assumption))))
    rw [wordOk_len _ a ws (by simp)] at C3
    replace C2b := fun w1 hm => show Calls Try.prog 62 _ w1 fun e w' => e = .returned (.bool (setB set a.n)) ∧ New w1 w' from C2b w1 hm
    cases hs : setB set a.n with
    | false =>
      simp only [hs] at C2b
      have e : R = ([], 2) := by rw [HR.out, HA.out, hs]; rfl
      go_wp2_with fail
      refine (C2b _ (by repeat (first | with_reducible exact New.refl _ | with_reducible assumption | with_reducible refine New.alloc ?_ _ | with_reducible refine New.drewN ?_ _ | with_reducible refine New.drew ?_ | with_reducible refine New.trans ?_ (by with_reducible assumption)))).mono ?_
      rintro e w3 ⟨rfl, hn3⟩
      have hz3 := hn3.size
      go_wp2_with fail
      go_ret2
      rw [e]
      exact ⟨_, rfl, (by repeat (first | with_reducible exact New.refl _ | with_reducible assumption | with_reducible refine New.alloc ?_ _ | with_reducible refine New.drewN ?_ _ | with_reducible refine New.drew ?_ | with_reducible refine New.trans ?_ (by with_reducible assumption))), OwnInts.none' _ (by (try simp only [size_alloc, size_drew, size_drewN, size_setCell] at *) <;> omega) (by (try simp only [size_alloc, size_drew, size_drewN, size_setCell] at *) <;> omega)⟩
    | true =>
      simp only [hs] at C2b
      cases hw : wordOk a ws with
      | false =>
        simp only [hw] at C3
        have e : R = ([], 2) := by rw [HR.out, HA.out, hs, hw]; rfl
        go_wp2_with fail
        refine (C2b _ (by repeat (first | with_reducible exact New.refl _ | with_reducible assumption | with_reducible refine New.alloc ?_ _ | with_reducible refine New.drewN ?_ _ | with_reducible refine New.drew ?_ | with_reducible refine New.trans ?_ (by with_reducible assumption)))).mono ?_
        rintro e w3 ⟨rfl, hn3⟩
        have hz3 := hn3.size
        go_wp2_with fail
        refine (C3 _ (by repeat (first | with_reducible exact New.refl _ | with_reducible assumption | with_reducible refine New.alloc ?_ _ | with_reducible refine New.drewN ?_ _ | with_reducible refine New.drew ?_ | with_reducible refine New.trans ?_ (by with_reducible assumption)))).mono ?_
        rintro e w4 ⟨rfl, hn4⟩
        have hz4 := hn4.size
        go_wp2_with fail
        go_ret2
        rw [e]
        exact ⟨_, rfl, (by repeat (first | with_reducible exact New.refl _ | with_reducible assumption | with_reducible refine New.alloc ?_ _ | with_reducible refine New.drewN ?_ _ | with_reducible refine New.drew ?_ | with_reducible refine New.trans ?_ (by with_reducible assumption))), OwnInts.none' _ (by (try simp only [size_alloc, size_drew, size_drewN, size_setCell] at *) <;> omega) (by (try simp only [size_alloc, size_drew, size_drewN, size_setCell] at *) <;> omega)⟩
      | true =>
        simp only [hw] at C3
        have hs10 : ∀ i, i < set.length → 0 ≤ nth set i ∧ nth set i < 10 := fun i hi => by have := setB_in hs i hi; omega
        have hfl : orB set < 2 ^ a.n.toNat := orB_lt _ _ fun x hx => by
          obtain ⟨i, hi, rfl⟩ := mem_nth _ x hx
          have := setB_in hs i hi; omega
        have hg : ∀ g, prun a.nx (orB set) ws = some g → g < 1024 := fun g hg => by
          have := prun_lt HA.out ws (letters_of hw) _ hfl ws.length (Nat.le_refl _) g (by rw [List.take_length]; exact hg)
          exact lt_10 this (by omega)
        have HG := hid hg
        have HC4 := hid (fun w1 (hm : New wb w1) => l02Bits_any _ set w1 (h2.new (hnb.trans hm)) hs10)
        have HC5 := hid (fun w1 (hm : New wb w1) => l04Moved_any _ _ a (orB set) ws w1 (hp.new hm) (h3.new (hnb.trans hm)) HA.out (letters_of hw) hfl)
        clear hg hfl hs10
        go_wp2_with fail
        refine (C2b _ (by repeat (first | with_reducible exact New.refl _ | with_reducible assumption | with_reducible refine New.alloc ?_ _ | with_reducible refine New.drewN ?_ _ | with_reducible refine New.drew ?_ | with_reducible refine New.trans ?_ (by with_reducible assumption)))).mono ?_
        rintro e w3 ⟨rfl, hn3⟩
        have hz3 := hn3.size
        go_wp2_with fail
        refine (C3 _ (by repeat (first | with_reducible exact New.refl _ | with_reducible assumption | with_reducible refine New.alloc ?_ _ | with_reducible refine New.drewN ?_ _ | with_reducible refine New.drew ?_ | with_reducible refine New.trans ?_ (by with_reducible assumption)))).mono ?_
        rintro e w4 ⟨rfl, hn4⟩
        have hz4 := hn4.size
        go_wp2_with fail
        refine (HC4.out _ (by repeat (first | with_reducible exact New.refl _ | with_reducible assumption | with_reducible refine New.alloc ?_ _ | with_reducible refine New.drewN ?_ _ | with_reducible refine New.drew ?_ | with_reducible refine New.trans ?_ (by with_reducible assumption)))).mono ?_
        rintro e w' ⟨rfl, rfl⟩
        go_wp2_with fail
        refine (HC5.out _ (by repeat (first | with_reducible exact New.refl _ | with_reducible assumption | with_reducible refine New.alloc ?_ _ | with_reducible refine New.drewN ?_ _ | with_reducible refine New.drew ?_ | with_reducible refine New.trans ?_ (by with_reducible assumption)))).mono ?_
        cases hq : prun a.nx (orB set) ws with
        | none =>
          rintro e w' ⟨rfl, rfl⟩
          have e : R = ([], 4) := by rw [HR.out, HA.out, hs, hw, hq]; rfl
          go_wp2
          go_ret2
          rw [e]
          exact ⟨_, rfl, (by repeat (first | with_reducible exact New.refl _ | with_reducible assumption | with_reducible refine New.alloc ?_ _ | with_reducible refine New.drewN ?_ _ | with_reducible refine New.drew ?_ | with_reducible refine New.trans ?_ (by with_reducible assumption))), OwnInts.none' _ (by (try simp only [size_alloc, size_drew, size_drewN, size_setCell] at *) <;> omega) (by (try simp only [size_alloc, size_drew, size_drewN, size_setCell] at *) <;> omega)⟩
        | some g =>
          rintro e w' ⟨rfl, rfl⟩
          have e : R = (setOf g, 0) := by rw [HR.out, HA.out, hs, hw, hq]; rfl
          go_wp2_with fail
          refine (l02Set_any g _ (HG.out g hq)).mono ?_
          rintro e w5 ⟨r, rfl, hn5, ho⟩
          have hz5 := hn5.size
          go_wp2
          go_ret2
          rw [e]
          exact ⟨_, rfl, (by repeat (first | with_reducible exact New.refl _ | with_reducible assumption | with_reducible refine New.alloc ?_ _ | with_reducible refine New.drewN ?_ _ | with_reducible refine New.drew ?_ | with_reducible refine New.trans ?_ (by with_reducible assumption))), ho.widen (by (try simp only [size_alloc, size_drew, size_drewN, size_setCell] at *) <;> omega) (Nat.le_refl _)⟩
set_option maxHeartbeats 1000000 in
theorem implCarefulImage_any (v1 v2 v3 : Value) (a : Aut) (set ws : List Int) (w : World) (h1 : AutAt w v1 a) (h2 : IntsAt w v2 set) (h3 : IntsAt w v3 ws) :
    Calls Try.prog 28 #[v1, v2, v3] w fun e w' => ∃ r, e = .returned (.tuple #[r, .int .i64 (CarefulImage a set ws).2]) ∧ New w w' ∧ OwnInts w.heap.size w'.heap.size w' r (CarefulImage a set ws).1 := by
  obtain ⟨rv, rfl, hr⟩ := h1
  obtain ⟨A, c, rfl⟩ := hr.form
  have h1 : AutAt w (.agg #[.int .i64 a.n, .slice A a.nx.length c]) a := ⟨_, rfl, hr⟩
  obtain ⟨wb, hwb⟩ : ∃ wb, wb = w.alloc (.cells #[.int .i64 a.n, .slice A a.nx.length c] 41) := ⟨_, rfl⟩
  have hnb : New w wb := by rw [hwb]; exact (by repeat (first | with_reducible exact New.refl _ | with_reducible assumption | with_reducible refine New.alloc ?_ _ | with_reducible refine New.drew ?_ | with_reducible refine New.drewN ?_ _ | with_reducible refine New.setCell ?_ (by simp <;> omega) _))
  have hzb : wb.heap.size = w.heap.size + 1 := by rw [hwb]; simp only [size_alloc]
  have hb0 : wb.cell? ⟨w.heap.size, 0, none⟩ = some (.int .i64 a.n) := by rw [hwb]; go_simp
  have hb1 : wb.cell? ⟨w.heap.size, 1, none⟩ = some (.slice A a.nx.length c) := by rw [hwb]; go_simp
  obtain ⟨R, hR⟩ : ∃ R, R = CarefulImage a set ws := ⟨_, rfl⟩
  rw [← hR]
  unfold CarefulImage at hR
  have HR := hid hR
  clear hR
  have C1 := ValidPartial_any _ a _ (h1.new hnb)
  have C2 := fun w1 (hm : New w w1) => PisWord_any _ _ a ws w1 (h1.new hm) (h3.new hm)
  cases ha : partOk a with
  | false =>
    rw [ha] at C1
    have e : R = ([], 1) := by rw [HR.out, ha]; rfl
    go_enter Try.func28, Try.ntmps28
    go_wp2_with fail
    rw [← hwb]
    refine C1.mono ?_
    rintro e w1 ⟨rfl, hn1⟩
    have hz1 := hn1.size
    go_wp2
    go_ret2
    rw [e]
    exact ⟨_, rfl, (by repeat (first | with_reducible exact New.refl _ | with_reducible assumption | with_reducible refine New.alloc ?_ _ | with_reducible refine New.drewN ?_ _ | with_reducible refine New.drew ?_ | with_reducible refine New.trans ?_ (by with_reducible assumption))), OwnInts.nil _ _ _⟩
  | true =>
    rw [ha] at C1
    obtain ⟨⟨n1, n2⟩, _, _⟩ := partOk_parts ha
    have C3 := fun w1 (hm : New w w1) => isSet_any _ set a.n w1 (h2.new hm) (by omega) (by omega)
    have HA := hid ha
    clear ha
    go_enter Try.func28, Try.ntmps28
    go_wp2_with fail
    rw [← hwb]
    refine C1.mono ?_
    rintro e w1 ⟨rfl, hn1⟩
    have hz1 := hn1.size
    replace hb0 := hn1.cell hb0
    replace hb1 := hn1.cell hb1
    cases hs : setB set a.n with
    | false =>
      simp only [hs] at C3
      have e : R = ([], 2) := by rw [HR.out, HA.out, hs]; rfl
      go_wp2_with fail
      refine (C3 _ (by repeat (first | with_reducible exact New.refl _ | with_reducible assumption | with_reducible refine New.alloc ?_ _ | with_reducible refine New.drewN ?_ _ | with_reducible refine New.drew ?_ | with_reducible refine New.trans ?_ (by with_reducible assumption)))).mono ?_
      rintro e w' ⟨rfl, rfl⟩
      go_wp2_with fail
      go_ret2
      rw [e]
      exact ⟨_, rfl, (by repeat (first | with_reducible exact New.refl _ | with_reducible assumption | with_reducible refine New.alloc ?_ _ | with_reducible refine New.drewN ?_ _ | with_reducible refine New.drew ?_ | with_reducible refine New.trans ?_ (by with_reducible assumption))), OwnInts.nil _ _ _⟩
    | true =>
      simp only [hs] at C3
      cases hw : wordOk a ws with
      | false =>
        simp only [hw] at C2
        have e : R = ([], 2) := by rw [HR.out, HA.out, hs, hw]; rfl
        go_wp2_with fail
        refine (C3 _ (by repeat (first | with_reducible exact New.refl _ | with_reducible assumption | with_reducible refine New.alloc ?_ _ | with_reducible refine New.drewN ?_ _ | with_reducible refine New.drew ?_ | with_reducible refine New.trans ?_ (by with_reducible assumption)))).mono ?_
        rintro e w' ⟨rfl, rfl⟩
        go_wp2_with fail
        refine (C2 _ (by repeat (first | with_reducible exact New.refl _ | with_reducible assumption | with_reducible refine New.alloc ?_ _ | with_reducible refine New.drewN ?_ _ | with_reducible refine New.drew ?_ | with_reducible refine New.trans ?_ (by with_reducible assumption)))).mono ?_
        rintro e w4 ⟨rfl, hn4⟩
        have hz4 := hn4.size
        go_wp2_with fail
        go_ret2
        rw [e]
        exact ⟨_, rfl, (by repeat (first | with_reducible exact New.refl _ | with_reducible assumption | with_reducible refine New.alloc ?_ _ | with_reducible refine New.drewN ?_ _ | with_reducible refine New.drew ?_ | with_reducible refine New.trans ?_ (by with_reducible assumption))), OwnInts.nil _ _ _⟩
      | true =>
        simp only [hw] at C2
        have hs10 : ∀ i, i < set.length → 0 ≤ nth set i ∧ nth set i < 10 := fun i hi => by have := setB_in hs i hi; omega
        have hfl : orB set < 2 ^ a.n.toNat := orB_lt _ _ fun x hx => by
          obtain ⟨i, hi, rfl⟩ := mem_nth _ x hx
          have := setB_in hs i hi; omega
        have hg : ∀ g, prun a.nx (orB set) ws = some g → g < 1024 := fun g hg => by
          have := prun_lt HA.out ws (letters_of hw) _ hfl ws.length (Nat.le_refl _) g (by rw [List.take_length]; exact hg)
          exact lt_10 this (by omega)
        have HG := hid hg
        have HC4 := hid (fun w1 (hm : New w w1) => flockOf_any _ set w1 (h2.new hm) hs10)
        have HC5 := hid (fun w1 (hm : New w w1) => Pimage_any _ _ a (orB set) ws w1 (h1.new hm) (h3.new hm) HA.out (letters_of hw) hfl)
        clear hg hfl hs10
        go_wp2_with fail
        refine (C3 _ (by repeat (first | with_reducible exact New.refl _ | with_reducible assumption | with_reducible refine New.alloc ?_ _ | with_reducible refine New.drewN ?_ _ | with_reducible refine New.drew ?_ | with_reducible refine New.trans ?_ (by with_reducible assumption)))).mono ?_
        rintro e w' ⟨rfl, rfl⟩
        go_wp2_with fail
        refine (C2 _ (by repeat (first | with_reducible exact New.refl _ | with_reducible assumption | with_reducible refine New.alloc ?_ _ | with_reducible refine New.drewN ?_ _ | with_reducible refine New.drew ?_ | with_reducible refine New.trans ?_ (by with_reducible assumption)))).mono ?_
        rintro e w2 ⟨rfl, hn2⟩
        have hz2 := hn2.size
        replace hb0 := hn2.cell hb0
        replace hb1 := hn2.cell hb1
        go_wp2_with fail
        cases hq : prun a.nx (orB set) ws with
        | none =>
          rw [hq] at HC5
          have e : R = ([], 4) := by rw [HR.out, HA.out, hs, hw, hq]; rfl
          go_region_held3 (fun w' => w'.cell? ⟨w.heap.size, 0, none⟩ = some (.int .i64 a.n) ∧ w'.cell? ⟨w.heap.size, 1, none⟩ = some (.slice A a.nx.length c))
            (first | go_keep | exact ⟨hn4.cell hb0, hn4.cell hb1⟩)
            (first
              | (go_at_call 83; refine (HC4.out _ (by repeat (first | with_reducible exact New.refl _ | with_reducible assumption | with_reducible refine New.alloc ?_ _ | with_reducible refine New.drewN ?_ _ | with_reducible refine New.drew ?_ | with_reducible refine New.trans ?_ (by with_reducible assumption)))).mono ?_; rintro e w3 ⟨rfl, rfl⟩)
              | (go_at_call 82; refine (HC5.out _ (by repeat (first | with_reducible exact New.refl _ | with_reducible assumption | with_reducible refine New.alloc ?_ _ | with_reducible refine New.drewN ?_ _ | with_reducible refine New.drew ?_ | with_reducible refine New.trans ?_ (by with_reducible assumption)))).mono ?_; rintro e w4 ⟨rfl, hq4⟩; have hn4 : New w2 w4 := New.trans (New.refl _).drew hq4))
          have hz4 := hn4.size
          go_wp2
          go_ret2
          rw [e]
          exact ⟨_, rfl, (by repeat (first | with_reducible exact New.refl _ | with_reducible assumption | with_reducible refine New.alloc ?_ _ | with_reducible refine New.drewN ?_ _ | with_reducible refine New.drew ?_ | with_reducible refine New.trans ?_ (by with_reducible assumption))), OwnInts.nil _ _ _⟩
        | some g =>
          rw [hq] at HC5
          have e : R = (setOf g, 0) := by rw [HR.out, HA.out, hs, hw, hq]; rfl
          go_region_held3 (fun w' => w'.cell? ⟨w.heap.size, 0, none⟩ = some (.int .i64 a.n) ∧ w'.cell? ⟨w.heap.size, 1, none⟩ = some (.slice A a.nx.length c))
            (first | go_keep | exact ⟨hn4.cell hb0, hn4.cell hb1⟩)
            (first
              | (go_at_call 83; refine (HC4.out _ (by repeat (first | with_reducible exact New.refl _ | with_reducible assumption | with_reducible refine New.alloc ?_ _ | with_reducible refine New.drewN ?_ _ | with_reducible refine New.drew ?_ | with_reducible refine New.trans ?_ (by with_reducible assumption)))).mono ?_; rintro e w3 ⟨rfl, rfl⟩)
              | (go_at_call 82; refine (HC5.out _ (by repeat (first | with_reducible exact New.refl _ | with_reducible assumption | with_reducible refine New.alloc ?_ _ | with_reducible refine New.drewN ?_ _ | with_reducible refine New.drew ?_ | with_reducible refine New.trans ?_ (by with_reducible assumption)))).mono ?_; rintro e w4 ⟨rfl, hq4⟩; have hn4 : New w2 w4 := New.trans (New.refl _).drew hq4))
          have hz4 := hn4.size
          go_wp2_with fail
          refine (set_any g _ (HG.out g hq)).mono ?_
          rintro e w5 ⟨r, rfl, hn5, ho⟩
          have hz5 := hn5.size
          go_wp2
          go_ret2
          rw [e]
          exact ⟨_, rfl, (by repeat (first | with_reducible exact New.refl _ | with_reducible assumption | with_reducible refine New.alloc ?_ _ | with_reducible refine New.drewN ?_ _ | with_reducible refine New.drew ?_ | with_reducible refine New.trans ?_ (by with_reducible assumption))), ho.widen (by (try simp only [size_alloc, size_drew, size_drewN, size_setCell] at *) <;> omega) (Nat.le_refl _)⟩

end Go.Proofs.Ytaaaeekdfmfooaa
