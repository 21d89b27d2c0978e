/- The automaton of the states of a closed set. -/
import Derived.Test.YtaaaeekdfmfooaaRows
import Derived.Test.YtaaaeekdfmfooaaBase
import Derived.Test.YtaaaeekdfmfooaaAut
import Derived.Test.YtaaaeekdfmfooaaApp
import Derived.Test.YtaaaeekdfmfooaaAppRows
import Derived.Test.YtaaaeekdfmfooaaAppStep
import Derived.Test.YtaaaeekdfmfooaaInfo
import Derived.Test.YtaaaeekdfmfooaaPlain1
import Derived.Test.YtaaaeekdfmfooaaPlainRun
import Derived.Test.YtaaaeekdfmfooaaPlainSet
import Derived.Test.YtaaaeekdfmfooaaPlainRen
import Derived.Test.YtaaaeekdfmfooaaS00b
import Derived.Test.YtaaaeekdfmfooaaS01a
import Derived.Test.YtaaaeekdfmfooaaS01b
import Derived.Test.YtaaaeekdfmfooaaI01a
import Derived.Test.YtaaaeekdfmfooaaI01b
import Derived.Test.YtaaaeekdfmfooaaI01c
import Derived.Test.YtaaaeekdfmfooaaIIdx
import Derived.Test.YtaaaeekdfmfooaaIRen
import Derived.Test.YtaaaeekdfmfooaaClosed
import Derived.WalkKit
import Derived.WalkSpells
import Derived.WalkLawsBesides
import Derived.Deep.QuietTactic
import Derived.Deep.OwnRows
import Derived.BigQuiet
import Derived.KernelRfl
import Derived.Deep.RegionHeld3
namespace Go.Proofs.Ytaaaeekdfmfooaa
open Go.RowKit

def RestrictTo (a : Aut) (set : List Int) : Aut × Int :=
  if autOk a = true then (if setB set a.n = true then (if set = [] then (⟨0, []⟩, 4) else if closedB a.nx set = true then (renOf a set, 0) else (⟨0, []⟩, 4)) else (⟨0, []⟩, 2)) else (⟨0, []⟩, 1)
set_option maxHeartbeats 400000 in
theorem l01Place_any (v : Value) (xs : List Int) (n : Int) (w : World) (h : IntsAt w v xs) :
    Calls Try.prog 64 #[v, .int .i64 n] w fun e w' => e = .returned (.int .i64 (placeOf xs n)) ∧ w' = w := by
  obtain ⟨A, c, rfl, hl, hc⟩ := h
  go_enter Try.func64, Try.ntmps64
  go_wp2
  go_loop [5] (fun i => ∃ k : Nat, k ≤ xs.length ∧ i = .int .i64 k ∧ Hid (∀ j, j < k → nth xs j ≠ n)) (fun i => xs.length - (intOf i).toNat)
  case atStart => exact ⟨0, Nat.zero_le _, rfl, fun j hj => absurd hj (by omega)⟩
  case round =>
    obtain ⟨k, hk, rfl, he⟩ := hrel
    by_cases hlt : k < xs.length
    · obtain ⟨b, off, rfl, hx⟩ := hc k hlt
      have b1 : (k : Int) < (xs.length : Int) := by omega
      clear hc
      by_cases hq : nth xs k = n
      · have hq' : (nth xs k == n) = true := by simp [hq]
        have HQ := hid hq
        clear hq
        go_wp2
        go_ret
        exact ⟨ret_int (by rw [← idxOf_place]; exact (idxOf_hit _ xs k hlt (by simpa using HQ.out) fun j hj => by simpa using he.out j hj).symm), rfl⟩
      · have hq' : (nth xs k == n) = false := by simp [hq]
        have HQ := hid hq
        clear hq
        go_wp2
        go_round
        case rel => exact ⟨k + 1, by omega, by go_num, fun j hj => by
            rcases Nat.lt_succ_iff_lt_or_eq.1 hj with h | h
            · exact he.out j h
            · subst h; exact HQ.out⟩
        case measure => simp [intOf]; omega
    · have e : k = xs.length := by omega
      subst e
      go_wp2
      go_ret
      exact ⟨ret_int (by rw [← idxOf_place]; exact (idxOf_none _ xs fun j hj => by simpa using he.out j hj).symm), rfl⟩
set_option maxRecDepth 20000 in
set_option maxHeartbeats 2000000 in
theorem specRestrictTo_any (v1 v2 : Value) (a : Aut) (order : List Int) (w : World) (h1 : AutAt w v1 a) (h2 : IntsAt w v2 order) :
    Calls Try.prog 16 #[v1, v2] w fun e w' => ∃ r, e = .returned (.tuple #[r, .int .i64 (RestrictTo a order).2]) ∧ New w w' ∧ OwnAut w.heap.size w'.heap.size w' r (RestrictTo a order).1 := by
  obtain ⟨rv, rfl, hr⟩ := h1
  obtain ⟨A2, c2, rfl, hl2, hc2⟩ := id hr
  obtain ⟨A, c, rfl, hl, hc⟩ := id h2
  obtain ⟨wb, hwb⟩ : ∃ wb, wb = (w.alloc (.cells #[.int .i64 a.n, .slice A2 a.nx.length c2] 27)).alloc (.cells #[.int .i64 0, .slice none 0 0] 27) := ⟨_, rfl⟩
  have hp : PAut wb (.pointer (some ⟨w.heap.size, 0, none⟩)) a := by rw [hwb]; exact (PAut.box hr _).new ((New.refl _).alloc _)
  have hnb : New w wb := by rw [hwb]; exact (by repeat (first | with_reducible exact New.refl _ | with_reducible assumption | with_reducible refine New.alloc ?_ _ | with_reducible refine New.drew ?_ | with_reducible refine New.drewN ?_ _ | with_reducible refine New.setCell ?_ (by simp <;> omega) _))
  have hzb : w.heap.size + 2 = wb.heap.size := by rw [hwb]; simp only [size_alloc]
  have hb1 : wb.cell? ⟨w.heap.size, 1, none⟩ = some (.slice A2 a.nx.length c2) := by rw [hwb]; go_simp
  have hb : Box2 wb (w.heap.size + 1) (.int .i64 0) (.slice none 0 0) := by rw [hwb]; exact ⟨by go_simp, by go_simp, by go_simp, by go_simp⟩
  obtain ⟨R, hR⟩ : ∃ R, R = RestrictTo a order := ⟨_, rfl⟩
  rw [← hR]
  unfold RestrictTo at hR
  have HR := hid hR
  clear hR
  have C1 := l01Ok_any _ a _ hp
  cases ha : autOk a with
  | false =>
    rw [ha] at C1
    go_enter Try.func16, Try.ntmps16
    go_wp2_with fail
    rw [← hwb]
    refine C1.mono ?_
    rintro e w1 ⟨rfl, hn1⟩
    obtain ⟨x0, x1, x2, x3⟩ := hb.new hn1
    go_wp2_with fail
    obtain ⟨g0, g1, _, _⟩ := (hb.new hn1).fill (.int .i64 0) (.slice none 0 0)
    refine bodyPost_ret (v := .tuple #[.agg #[.int .i64 0, .slice none 0 0], .int .i64 1]) (by simp [results, Try.results16, go_sem, g0, g1]) rfl ?_
    have e : R = (⟨0, []⟩, 1) := by rw [HR.out, ha]; rfl
    rw [e]
    exact ⟨_, rfl, New.fill (by repeat (first | with_reducible exact New.refl _ | with_reducible assumption | with_reducible refine New.alloc ?_ _ | with_reducible refine New.drewN ?_ _ | with_reducible refine New.drew ?_ | with_reducible refine New.trans ?_ (by with_reducible assumption))) (by omega) _ _, _, rfl, none, 0, fun _ => default, rfl, by simp, by simp, by simp, by simp⟩
  | true =>
  rw [ha] at C1
  have hn10 := autOk_n ha
  have hal := autOk_l ha
  have HA := hid ha
  clear ha
  have C2 := fun w1 (hm : New wb w1) => l01Set_any _ _ a order w1 (hp.new hm) (h2.new (hnb.trans hm)) (by omega) (by omega)
  cases hs : setB order a.n with
  | false =>
    simp only [hs] at C2
    go_enter Try.func16, Try.ntmps16
    go_wp2_with fail
    rw [← hwb]
    refine C1.mono ?_
    rintro e w1 ⟨rfl, hn1⟩
    go_wp2_with fail
    refine (C2 _ hn1).mono ?_
    rintro e w2 ⟨rfl, hn2⟩
    have hn12 := hn1.trans hn2
    obtain ⟨x0, x1, x2, x3⟩ := hb.new hn12
    go_wp2_with fail
    obtain ⟨g0, g1, _, _⟩ := (hb.new hn12).fill (.int .i64 0) (.slice none 0 0)
    refine bodyPost_ret (v := .tuple #[.agg #[.int .i64 0, .slice none 0 0], .int .i64 2]) (by simp [results, Try.results16, go_sem, g0, g1]) rfl ?_
    have e : R = (⟨0, []⟩, 2) := by rw [HR.out, HA.out, hs]; rfl
    rw [e]
    exact ⟨_, rfl, New.fill (by repeat (first | with_reducible exact New.refl _ | with_reducible assumption | with_reducible refine New.alloc ?_ _ | with_reducible refine New.drewN ?_ _ | with_reducible refine New.drew ?_ | with_reducible refine New.trans ?_ (by with_reducible assumption))) (by omega) _ _, _, rfl, none, 0, fun _ => default, rfl, by simp, by simp, by simp, by simp⟩
  | true =>
  simp only [hs] at C2
  have ho : statesIn a order := fun i hi => setB_in hs i hi
  have hol : order.length ≤ 10 := by have := setB_len hs (by omega); omega
  have HO := hid ho
  have HN := hid hol
  have C3 := fun w1 (hm : New wb w1) => l01Closed_any _ _ a order w1 (hp.new hm) (h2.new (hnb.trans hm)) HA.out ho
  by_cases he : order.length = 0
  · have he' : ((order.length : Int) == 0) = true := by simp [he]
    have e0 : order = [] := List.length_eq_zero_iff.1 he
    have E0 := hid e0
    clear he e0
    go_enter Try.func16, Try.ntmps16
    go_wp2_with fail
    rw [← hwb]
    refine C1.mono ?_
    rintro e w1 ⟨rfl, hn1⟩
    go_wp2_with fail
    refine (C2 _ hn1).mono ?_
    rintro e w2 ⟨rfl, hn2⟩
    have hn12 := hn1.trans hn2
    obtain ⟨x0, x1, x2, x3⟩ := hb.new hn12
    go_wp2_with fail
    obtain ⟨g0, g1, _, _⟩ := (hb.new hn12).fill (.int .i64 0) (.slice none 0 0)
    refine bodyPost_ret (v := .tuple #[.agg #[.int .i64 0, .slice none 0 0], .int .i64 4]) (by simp [results, Try.results16, go_sem, g0, g1]) rfl ?_
    have e : R = (⟨0, []⟩, 4) := by rw [HR.out, HA.out, hs, E0.out]; rfl
    rw [e]
    exact ⟨_, rfl, New.fill (by repeat (first | with_reducible exact New.refl _ | with_reducible assumption | with_reducible refine New.alloc ?_ _ | with_reducible refine New.drewN ?_ _ | with_reducible refine New.drew ?_ | with_reducible refine New.trans ?_ (by with_reducible assumption))) (by omega) _ _, _, rfl, none, 0, fun _ => default, rfl, by simp, by simp, by simp, by simp⟩
  have he' : ((order.length : Int) == 0) = false := by rw [beq_eq_false_iff_ne]; omega
  have e0 : order ≠ [] := fun e => he (by rw [e]; rfl)
  have HE0 := hid e0
  clear he e0
  cases hcl : closedB a.nx order with
  | false =>
    simp only [hcl] at C3
    go_enter Try.func16, Try.ntmps16
    go_wp2_with fail
    rw [← hwb]
    refine C1.mono ?_
    rintro e w1 ⟨rfl, hn1⟩
    go_wp2_with fail
    refine (C2 _ hn1).mono ?_
    rintro e w2 ⟨rfl, hn2⟩
    have hn12 := hn1.trans hn2
    go_wp2_with fail
    refine (C3 _ hn12).mono ?_
    rintro e w3 ⟨rfl, hn3⟩
    have hn13 := hn12.trans hn3
    obtain ⟨x0, x1, x2, x3⟩ := hb.new hn13
    go_wp2_with fail
    obtain ⟨g0, g1, _, _⟩ := (hb.new hn13).fill (.int .i64 0) (.slice none 0 0)
    refine bodyPost_ret (v := .tuple #[.agg #[.int .i64 0, .slice none 0 0], .int .i64 4]) (by simp [results, Try.results16, go_sem, g0, g1]) rfl ?_
    have e : R = (⟨0, []⟩, 4) := by rw [HR.out, HA.out, hs, if_pos rfl, if_pos rfl, if_neg HE0.out, hcl]; rfl
    rw [e]
    exact ⟨_, rfl, New.fill (by repeat (first | with_reducible exact New.refl _ | with_reducible assumption | with_reducible refine New.alloc ?_ _ | with_reducible refine New.drewN ?_ _ | with_reducible refine New.drew ?_ | with_reducible refine New.trans ?_ (by with_reducible assumption))) (by omega) _ _, _, rfl, none, 0, fun _ => default, rfl, by simp, by simp, by simp, by simp⟩
  | true =>
  simp only [hcl] at C3
  have e : R = (renOf a order, 0) := by rw [HR.out, HA.out, hs, if_pos rfl, if_pos rfl, if_neg HE0.out, hcl]; rfl
  rw [e]
  clear e HR hs hcl ho hol
  go_enter Try.func16, Try.ntmps16
  go_wp2_with fail
  rw [← hwb]
  clear hwb
  refine C1.mono ?_
  rintro e w1 ⟨rfl, hn1⟩
  go_wp2_with fail
  refine (C2 _ hn1).mono ?_
  rintro e w2 ⟨rfl, hn2⟩
  have hn12 := hn1.trans hn2
  go_wp2_with fail
  refine (C3 _ hn12).mono ?_
  rintro e w3 ⟨rfl, hn3⟩
  have hn13 := hn12.trans hn3
  have hz3 := hn13.size
  obtain ⟨wc, hwc⟩ : ∃ wc, wc = w3.alloc (.cells #[.int .i64 order.length, .slice none 0 0] 27) := ⟨_, rfl⟩
  have hbo : Box2 wc w3.heap.size (.int .i64 order.length) (.slice none 0 0) := by rw [hwc]; exact ⟨by go_simp, by go_simp, by go_simp, by go_simp⟩
  have hn4 : New w3 wc := by rw [hwc]; exact (by repeat (first | with_reducible exact New.refl _ | with_reducible assumption | with_reducible refine New.alloc ?_ _ | with_reducible refine New.drew ?_ | with_reducible refine New.drewN ?_ _ | with_reducible refine New.setCell ?_ (by simp <;> omega) _))
  have hz4 : wc.heap.size = w3.heap.size + 1 := by rw [hwc]; simp only [size_alloc]
  have hnc : New w wc := (hnb.trans hn13).trans hn4
  have hbr := hb.new (hn13.trans hn4)
  have hba := (hn13.trans hn4).cell hb1
  clear C1 C2 C3
  go_wp2_with fail
  rw [← hwc]
  clear hwc hb1 hp
  go_loopw [7] (fun i wr => ∃ (k : Nat) (v : Value), k ≤ a.nx.length ∧ i = .int .i64 k ∧ New w wr ∧ wr.cell? ⟨w.heap.size, 1, none⟩ = some (.slice A2 a.nx.length c2) ∧ Box2 wr (w.heap.size + 1) (.int .i64 0) (.slice none 0 0) ∧
      Box2 wr w3.heap.size (.int .i64 order.length) v ∧ w3.heap.size + 1 ≤ wr.heap.size ∧ GrowRows (w3.heap.size + 1) 25 wr v ((a.nx.take k).map fun row => renRow order row)) (fun i _ => a.nx.length - (intOf i).toNat)
  case atStart => exact ⟨0, _, Nat.zero_le _, rfl, hnc, hba, hbr, hbo, by omega, by simpa using GrowRows.nil _ _ _⟩
  case round =>
    clear hb hba hbr hbo hnc hn1 hn2 hn3 hn4 hn12 hz4
    obtain ⟨k, v, hk, rfl, hn, hba, hbr, hbo, hsz, hg⟩ := hrel
    obtain ⟨wo, rfl⟩ : ∃ wo : World, wo = wr := ⟨_, rfl⟩
    obtain ⟨z0, z1, zf0, zf1⟩ := id hbo
    by_cases hlt : k < a.nx.length
    · obtain ⟨b2, off2, rv, rfl, hx2, hr2⟩ := hc2 k hlt
      obtain ⟨A3, c3, rfl, hl3, hc3⟩ := hr2
      have b1 : (k : Int) < (a.nx.length : Int) := by omega
      obtain ⟨r1, r2⟩ := autOk_row HA.out k hlt
      replace hx2 := hn.cell hx2
      have hkl : ((a.nx.take k).map fun row => renRow order row).length = k := by simp; omega
      have HR2 := hid r2
      have HR1 := hid r1
      have HG := hid hg
      have hal2 := hal.2
      obtain ⟨Av, cv, rfl⟩ := hg.form
      rw [hkl] at HG z1 hbo
      clear hc2 r1 r2 hg
      go_wp2
      go_loopw [8, 9] (fun o i wr => ∃ j : Nat, j ≤ order.length ∧ i = .int .i64 j ∧ Grow wo.heap.size 2 wr o ((order.take j).map fun s => placeOf order (nth (nth a.nx k) s.toNat)) ∧ New wo wr) (fun _ i _ => order.length - (intOf i).toNat)
      case atStart => exact ⟨0, Nat.zero_le _, rfl, Grow.empty _ _ _ (Nat.le_refl _), (by repeat (first | with_reducible exact New.refl _ | with_reducible assumption | with_reducible refine New.alloc ?_ _ | with_reducible refine New.drew ?_ | with_reducible refine New.drewN ?_ _ | with_reducible refine New.setCell ?_ (by simp <;> omega) _))⟩
      case round =>
        obtain ⟨j, hj, rfl, hgo, hq2⟩ := hrel
        by_cases hltj : j < order.length
        · obtain ⟨b, off, rfl, hx⟩ := hc j hltj
          have b3 : (j : Int) < (order.length : Int) := by omega
          obtain ⟨o0, o1⟩ := HO.out j hltj
          obtain ⟨b4, off4, rfl, hx4⟩ := hc3 (nth order j).toNat (by have := HR1.out; omega)
          have k4 : nth order j < ((nth a.nx k).length : Int) := by have := HR1.out; omega
          have hnn := hn.trans hq2
          replace hx := hn.cell hx
          replace hx4 := hn.cell hx4
          have y1 := hq2.cell hx
          have y2 := hq2.cell hx2
          have y3 := hq2.cell hx4
          have y4 := hq2.cell hba
          have hzr := hq2.size
          have hlj : ((order.take j).map fun s => placeOf order (nth (nth a.nx k) s.toNat)).length = j := by simp; omega
          have HNN := HN.out
          have HC := hid (fun w1 (hm : New w w1) => l01Place_any _ order (nth (nth a.nx k) (nth order j).toNat) w1 (h2.new hm))
          clear hc hc3
          go_wp2_with fail
          go_region_held3 (fun w' => w'.cell? ⟨w.heap.size, 1, none⟩ = some (.slice (some ⟨b2, off2, none⟩) a.nx.length c2) ∧ w'.cell? ⟨b, off + j, none⟩ = some (.int .i64 (nth order j)) ∧ w'.cell? ⟨b2, off2 + k, none⟩ = some (.slice (some ⟨b4, off4, none⟩) (nth a.nx k).length c3) ∧ w'.cell? ⟨b4, off4 + (nth order j).toNat, none⟩ = some (.int .i64 (nth (nth a.nx k) (nth order j).toNat)))
            (first | go_keep | exact ⟨hq5.cell hba, hq5.cell hx, hq5.cell hx2, hq5.cell hx4⟩)
            (first
              | (go_at_call 64; refine (HC.out _ (by repeat (first | with_reducible exact New.refl _ | with_reducible assumption | with_reducible refine New.alloc ?_ _ | with_reducible refine New.drewN ?_ _ | with_reducible refine New.drew ?_ | with_reducible refine New.trans ?_ (by with_reducible assumption)))).mono ?_; rintro e w' ⟨rfl, rfl⟩)
              | (refine step_app1 rfl _ _ _ rfl Try.underlying25 info_i64 _ ((order.take j).map fun s => placeOf order (nth (nth a.nx k) s.toNat)) (placeOf order (nth (nth a.nx k) (nth order j).toNat)) wr.heap.size rfl (hgo.new (by repeat (first | with_reducible exact New.refl _ | with_reducible assumption | with_reducible refine New.alloc ?_ _ | with_reducible refine New.drewN ?_ _ | with_reducible refine New.drew ?_ | with_reducible refine New.trans ?_ (by with_reducible assumption)))) rfl (by go_simp) (by omega) (by (try simp only [size_alloc, size_drew, size_drewN, size_setCell]) <;> omega) ?_; intro g cap w5 ho2 hg2; have hq5 : New wo w5 := New.app (a := wo) (by repeat (first | with_reducible exact New.refl _ | with_reducible assumption | with_reducible refine New.alloc ?_ _ | with_reducible refine New.drewN ?_ _ | with_reducible refine New.drew ?_ | with_reducible refine New.trans ?_ (by with_reducible assumption))) hg2 (hgo.new (by repeat (first | with_reducible exact New.refl _ | with_reducible assumption | with_reducible refine New.alloc ?_ _ | with_reducible refine New.drewN ?_ _ | with_reducible refine New.drew ?_ | with_reducible refine New.trans ?_ (by with_reducible assumption)))) (Nat.le_refl _)))
          go_wp2
          go_roundw
          case rel => exact ⟨j + 1, by omega, by go_num, by rw [take_succ_nth order j hltj, List.map_append]; rw [hlj] at ho2; exact ho2, hq5⟩
          case measure => simp [intOf]; omega
        · have e : j = order.length := by omega
          subst e
          rw [List.take_length] at hgo
          have hzr := hq2.size
          obtain ⟨w0', w1', wf0', wf1'⟩ := hbo.new hq2
          have hgo' : OwnInts wo.heap.size wr.heap.size wr _ (renRow order (nth a.nx k)) := hgo.own (by have := HN.out; simp; omega)
          obtain ⟨Ao, co, hof⟩ := hgo'.form
          rw [hof] at hgo'
          have HGO := hid hgo'
          have hkl' := hkl
          clear hgo hgo' z0 z1 zf0 zf1
          subst hof
          go_wp2_with (at_builtin; refine wpList_appRows rfl _ _ _ rfl Try.underlying22 info_ints (.slice Av k cv) ((a.nx.take k).map fun row => renRow order row) (renRow order (nth a.nx k)) rfl HG.out hq2 HGO.out rfl (by omega) (by omega) ?_; intro g cap w5 ho3 hg3; have hbo3 := (hbo.new hq2).grown hg3 (fun q hq => by have := HG.out.block q hq; omega); obtain ⟨x0', x1', xf0', xf1'⟩ := id hbo3)
          go_roundw
          case rel =>
            have hW := within_setCell w5 ⟨w3.heap.size, 1, none⟩ (.slice (some ⟨g, 0, none⟩) (k + 1) cap)
            have hn3 : New w w5 := New.grown (hn.trans hq2) hg3 (fun q hq => by have := HG.out.block q hq; omega)
            have hs3 := hg3.size
            rw [hkl'] at ho3
            have hzw := hnb.size
            refine ⟨k + 1, _, by omega, by go_num, hn3.setCell (by show w.heap.size ≤ w3.heap.size; omega) _, ?_, ?_, hbo3.set1 _, (by (try simp only [size_alloc, size_drew, size_drewN, size_setCell]) <;> omega), ?_⟩
            · rw [World.cell?_setCell_other]
              · rw [hg3.cell_far _ (by show w.heap.size < wr.heap.size; omega) (fun q => by have := HG.out.block _ q.symm; simp at this; omega)]
                exact hq2.cell hba
              · intro e; simp at e <;> omega
            · exact ((hbr.new hq2).grown hg3 (fun q hq => by have := HG.out.block q hq; omega)).other _ (by simp; omega) _
            · rw [take_succ_nth a.nx k hlt, List.map_append]
              exact ho3.within hW (by simp)
          case measure => simp [intOf]; omega
    · have e : k = a.nx.length := by omega
      subst e
      rw [List.take_length] at hg
      obtain ⟨v0, v1, vf0, vf1⟩ := id hbr
      obtain ⟨Av, cv, rfl⟩ := hg.form
      rw [List.length_map] at hg z1
      rw [List.length_map] at hbo
      have HG := hid hg
      clear hg
      have hzw := hnb.size
      go_wp2_with fail
      obtain ⟨g0, g1, _, _⟩ := hbr.fill (.int .i64 order.length) (.slice Av a.nx.length cv)
      refine bodyPost_ret (v := .tuple #[.agg #[.int .i64 order.length, .slice Av a.nx.length cv], .int .i64 0]) (by simp [results, Try.results16, go_sem, g0, g1]) rfl ?_
      have hW := Within.fill wo (w.heap.size + 1) (.int .i64 order.length) (.slice Av a.nx.length cv)
      have hO := (HG.out.within hW (by omega)).own (by simp; omega)
      exact ⟨_, rfl, New.fill hn (by omega) _ _, _, rfl, hO.widen (by omega) (Nat.le_refl _)⟩
set_option maxHeartbeats 400000 in
theorem RestrictTo1_any (b1 b2 : Nat) (v2 : Value) (a : Aut) (set : List Int) (w : World) (h1 : w.cell? ⟨b1, 0, none⟩ = some v2) (hi : IntsAt w v2 set) (h2 : w.cell? ⟨b2, 0, none⟩ = some (.int .i64 a.n)) (h0 : 0 ≤ a.n) (h3 : a.n ≤ 1048576) :
    Calls Try.prog 67 #[.pointer (some ⟨b1, 0, none⟩), .pointer (some ⟨b2, 0, none⟩)] w fun e w' => e = .returned (.bool (setB set a.n)) ∧ New w w' := by
  go_enter Try.func67, Try.ntmps67
  go_wp2_with (go_at_call 68; refine (isSet_any _ set a.n _ hi h0 h3).mono ?_; rintro e w' ⟨rfl, rfl⟩)
  go_ret
  exact ⟨rfl, New.refl _⟩
set_option maxHeartbeats 1000000 in
theorem implRestrictTo_any (v1 v2 : Value) (a : Aut) (order : List Int) (w : World) (h1 : AutAt w v1 a) (h2 : IntsAt w v2 order) :
    Calls Try.prog 19 #[v1, v2] w fun e w' => ∃ r, e = .returned (.tuple #[r, .int .i64 (RestrictTo a order).2]) ∧ New w w' ∧ OwnAut w.heap.size w'.heap.size w' r (RestrictTo a order).1 := by
  obtain ⟨rv, rfl, hr⟩ := h1
  obtain ⟨A2, c2, rfl⟩ := hr.form
  obtain ⟨A, c, rfl⟩ := h2.form
  have h1 : AutAt w (.agg #[.int .i64 a.n, .slice A2 a.nx.length c2]) a := ⟨_, rfl, hr⟩
  obtain ⟨wb, hwb⟩ : ∃ wb, wb = ((w.alloc (.cells #[.int .i64 a.n, .slice A2 a.nx.length c2] 27)).alloc (.cells #[.slice A order.length c] 25)).alloc (.cells #[.int .i64 0, .slice none 0 0] 27) := ⟨_, rfl⟩
  have hnb : New w wb := by rw [hwb]; exact (by repeat (first | with_reducible exact New.refl _ | with_reducible assumption | with_reducible refine New.alloc ?_ _ | with_reducible refine New.drew ?_ | with_reducible refine New.drewN ?_ _ | with_reducible refine New.setCell ?_ (by simp <;> omega) _))
  have hzb : w.heap.size + 3 = wb.heap.size := by rw [hwb]; simp only [size_alloc]
  have hb0 : wb.cell? ⟨w.heap.size, 0, none⟩ = some (.int .i64 a.n) := by rw [hwb]; go_simp
  have hb1 : wb.cell? ⟨w.heap.size, 1, none⟩ = some (.slice A2 a.nx.length c2) := by rw [hwb]; go_simp
  have hb2 : wb.cell? ⟨w.heap.size + 1, 0, none⟩ = some (.slice A order.length c) := by rw [hwb]; go_simp
  have hb : Box2 wb (w.heap.size + 1 + 1) (.int .i64 0) (.slice none 0 0) := by rw [hwb]; exact ⟨by go_simp, by go_simp, by go_simp, by go_simp⟩
  have HC : Calls Try.prog 66 #[.agg #[.int .i64 a.n, .slice A2 a.nx.length c2], .func (.func 67) #[] #[.pointer (some ⟨w.heap.size + 1, 0, none⟩), .pointer (some ⟨w.heap.size, 0, none⟩)]] wb
      fun e w' => e = .returned (.int .i64 (codeOf (autOk a) (setB order a.n))) ∧ New wb w' := by
    refine code_any _ a _ _ _ _ (h1.new hnb) (enters Try.func67 (by decide) (by simp [Try.f67])) fun ha w' hw => ?_
    have := autOk_n ha
    exact RestrictTo1_any _ _ _ a order _ (hw.cell hb2) (h2.new (by repeat (first | with_reducible exact New.refl _ | with_reducible assumption | with_reducible refine New.alloc ?_ _ | with_reducible refine New.drewN ?_ _ | with_reducible refine New.drew ?_ | with_reducible refine New.trans ?_ (by with_reducible assumption)))) (hw.cell hb0) (by omega) (by omega)
  obtain ⟨R, hR⟩ : ∃ R, R = RestrictTo a order := ⟨_, rfl⟩
  rw [← hR]
  unfold RestrictTo at hR
  have HR := hid hR
  clear hR
  go_enter Try.func19, Try.ntmps19
  go_wp2_with fail
  rw [← hwb]
  refine HC.mono ?_
  rintro e w1 ⟨rfl, hn1⟩
  have hz1 := hn1.size
  replace hb0 := hn1.cell hb0
  replace hb1 := hn1.cell hb1
  replace hb2 := hn1.cell hb2
  replace hb := hb.new hn1
  obtain ⟨x0, x1, x2, x3⟩ := id hb
  clear hwb HC
  cases ha : autOk a with
  | false =>
    have e : codeOf false (setB order a.n) = 1 := rfl
    rw [e]
    go_wp2
    obtain ⟨g0, g1, _, _⟩ := hb.fill (.int .i64 0) (.slice none 0 0)
    refine bodyPost_ret (v := .tuple #[.agg #[.int .i64 0, .slice none 0 0], .int .i64 1]) (by simp [results, Try.results19, go_sem, g0, g1]) rfl ?_
    have e2 : R = (⟨0, []⟩, 1) := by rw [HR.out, ha]; rfl
    rw [e2]
    exact ⟨_, rfl, New.fill (by repeat (first | with_reducible exact New.refl _ | with_reducible assumption | with_reducible refine New.alloc ?_ _ | with_reducible refine New.drewN ?_ _ | with_reducible refine New.drew ?_ | with_reducible refine New.trans ?_ (by with_reducible assumption))) (by omega) _ _, _, rfl, none, 0, fun _ => default, rfl, by simp, by simp, by simp, by simp⟩
  | true =>
  have hn10 := autOk_n ha
  cases hs : setB order a.n with
  | false =>
    have e : codeOf true false = 2 := rfl
    rw [e]
    go_wp2
    obtain ⟨g0, g1, _, _⟩ := hb.fill (.int .i64 0) (.slice none 0 0)
    refine bodyPost_ret (v := .tuple #[.agg #[.int .i64 0, .slice none 0 0], .int .i64 2]) (by simp [results, Try.results19, go_sem, g0, g1]) rfl ?_
    have e2 : R = (⟨0, []⟩, 2) := by rw [HR.out, ha, hs]; rfl
    rw [e2]
    exact ⟨_, rfl, New.fill (by repeat (first | with_reducible exact New.refl _ | with_reducible assumption | with_reducible refine New.alloc ?_ _ | with_reducible refine New.drewN ?_ _ | with_reducible refine New.drew ?_ | with_reducible refine New.trans ?_ (by with_reducible assumption))) (by omega) _ _, _, rfl, none, 0, fun _ => default, rfl, by simp, by simp, by simp, by simp⟩
  | true =>
  have ho : statesIn a order := fun i hi => setB_in hs i hi
  have hol : order.length ≤ 10 := by have := setB_len hs (by omega); omega
  have e : codeOf true true = 0 := rfl
  rw [e]
  clear e
  by_cases he : order.length = 0
  · have he' : ((order.length : Int) == 0) = true := by simp [he]
    have e0 : order = [] := List.length_eq_zero_iff.1 he
    have HE := hid e0
    clear he e0
    go_wp2
    obtain ⟨g0, g1, _, _⟩ := hb.fill (.int .i64 0) (.slice none 0 0)
    refine bodyPost_ret (v := .tuple #[.agg #[.int .i64 0, .slice none 0 0], .int .i64 4]) (by simp [results, Try.results19, go_sem, g0, g1]) rfl ?_
    have e2 : R = (⟨0, []⟩, 4) := by rw [HR.out, ha, hs, HE.out]; rfl
    rw [e2]
    exact ⟨_, rfl, New.fill (by repeat (first | with_reducible exact New.refl _ | with_reducible assumption | with_reducible refine New.alloc ?_ _ | with_reducible refine New.drewN ?_ _ | with_reducible refine New.drew ?_ | with_reducible refine New.trans ?_ (by with_reducible assumption))) (by omega) _ _, _, rfl, none, 0, fun _ => default, rfl, by simp, by simp, by simp, by simp⟩
  have he' : ((order.length : Int) == 0) = false := by rw [beq_eq_false_iff_ne]; omega
  have e0 : order ≠ [] := fun e => he (by rw [e]; rfl)
  have HE0 := hid e0
  clear he e0
  have C3 := isClosed_any _ _ a order w1 (h1.new (by repeat (first | with_reducible exact New.refl _ | with_reducible assumption | with_reducible refine New.alloc ?_ _ | with_reducible refine New.drewN ?_ _ | with_reducible refine New.drew ?_ | with_reducible refine New.trans ?_ (by with_reducible assumption)))) (h2.new (by repeat (first | with_reducible exact New.refl _ | with_reducible assumption | with_reducible refine New.alloc ?_ _ | with_reducible refine New.drewN ?_ _ | with_reducible refine New.drew ?_ | with_reducible refine New.trans ?_ (by with_reducible assumption)))) ha ho
  cases hcl : closedB a.nx order with
  | false =>
    rw [hcl] at C3
    go_wp2_with fail
    refine C3.mono ?_
    rintro e w2 ⟨rfl, hn2⟩
    obtain ⟨y0, y1, y2, y3⟩ := hb.new hn2
    go_wp2
    obtain ⟨g0, g1, _, _⟩ := (hb.new hn2).fill (.int .i64 0) (.slice none 0 0)
    refine bodyPost_ret (v := .tuple #[.agg #[.int .i64 0, .slice none 0 0], .int .i64 4]) (by simp [results, Try.results19, go_sem, g0, g1]) rfl ?_
    have e2 : R = (⟨0, []⟩, 4) := by rw [HR.out, ha, hs, if_pos rfl, if_pos rfl, if_neg HE0.out, hcl]; rfl
    rw [e2]
    exact ⟨_, rfl, New.fill (by repeat (first | with_reducible exact New.refl _ | with_reducible assumption | with_reducible refine New.alloc ?_ _ | with_reducible refine New.drewN ?_ _ | with_reducible refine New.drew ?_ | with_reducible refine New.trans ?_ (by with_reducible assumption))) (by omega) _ _, _, rfl, none, 0, fun _ => default, rfl, by simp, by simp, by simp, by simp⟩
  | true =>
    rw [hcl] at C3
    have e2 : R = (renOf a order, 0) := by rw [HR.out, ha, hs, if_pos rfl, if_pos rfl, if_neg HE0.out, hcl]; rfl
    go_wp2_with fail
    refine C3.mono ?_
    rintro e w2 ⟨rfl, hn2⟩
    have hz2 := hn2.size
    replace hb0 := hn2.cell hb0
    replace hb1 := hn2.cell hb1
    replace hb2 := hn2.cell hb2
    go_wp2_with fail
    refine (renumbered_any _ _ a order w2 (h1.new (by repeat (first | with_reducible exact New.refl _ | with_reducible assumption | with_reducible refine New.alloc ?_ _ | with_reducible refine New.drewN ?_ _ | with_reducible refine New.drew ?_ | with_reducible refine New.trans ?_ (by with_reducible assumption)))) (h2.new (by repeat (first | with_reducible exact New.refl _ | with_reducible assumption | with_reducible refine New.alloc ?_ _ | with_reducible refine New.drewN ?_ _ | with_reducible refine New.drew ?_ | with_reducible refine New.trans ?_ (by with_reducible assumption)))) ha ho hol).mono ?_
    rintro e w3 ⟨r, he, hn3, hor⟩
    obtain ⟨rr, rfl, hrr⟩ := hor
    obtain ⟨Ar, cr, rfl⟩ := hrr.form
    have hrn : (renOf a order).n = (order.length : Int) := rfl
    rw [hrn] at he
    obtain ⟨L, hL⟩ : ∃ L, L = (renOf a order).nx.length := ⟨_, rfl⟩
    rw [← hL] at he
    subst he
    have HLL := hid hL
    clear hL hrn
    have hb3 := (hb.new hn2).new hn3
    obtain ⟨y0, y1, y2, y3⟩ := id hb3
    go_wp2
    obtain ⟨g0, g1, _, _⟩ := hb3.fill (.int .i64 order.length) (.slice Ar L cr)
    refine bodyPost_ret (v := .tuple #[.agg #[.int .i64 order.length, .slice Ar L cr], .int .i64 0]) (by simp [results, Try.results19, go_sem, g0, g1]) rfl ?_
    rw [e2, HLL.out]
    have hW := Within.fill w3 (w.heap.size + 1 + 1) (.int .i64 order.length) (.slice Ar (renOf a order).nx.length cr)
    have ho2 := hrr.within hW (Or.inr (by show w.heap.size + 1 + 1 + 1 ≤ w2.heap.size; omega))
    exact ⟨_, rfl, New.fill (by repeat (first | with_reducible exact New.refl _ | with_reducible assumption | with_reducible refine New.alloc ?_ _ | with_reducible refine New.drewN ?_ _ | with_reducible refine New.drew ?_ | with_reducible refine New.trans ?_ (by with_reducible assumption))) (by omega) _ _, _, rfl, ho2.widen (by show w.heap.size ≤ w2.heap.size; omega) hW.2.2.2.1⟩

end Go.Proofs.Ytaaaeekdfmfooaa
