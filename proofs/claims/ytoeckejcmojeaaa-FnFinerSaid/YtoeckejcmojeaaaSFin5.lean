/- Two automata with choices are drawn, the one with fewer choices. -/
import Derived.Test.YtoeckejcmojeaaaRows
import Derived.Test.YtoeckejcmojeaaaCore
import Derived.Test.YtoeckejcmojeaaaInfos
import Derived.Test.YtoeckejcmojeaaaPlains
import Derived.Test.YtoeckejcmojeaaaPlainCho
import Derived.Test.YtoeckejcmojeaaaArrs
import Derived.Test.YtoeckejcmojeaaaSDraw
import Derived.Test.YtoeckejcmojeaaaDrawT
import Derived.Test.YtoeckejcmojeaaaRowsC
import Derived.Test.YtoeckejcmojeaaaSOwn
import Derived.Test.YtoeckejcmojeaaaSCho
import Derived.Test.YtoeckejcmojeaaaCubeG
import Derived.Test.YtoeckejcmojeaaaSFin1
import Derived.Test.YtoeckejcmojeaaaSFin3
import Derived.Test.YtoeckejcmojeaaaSFin4
import Derived.WalkKit
import Derived.WalkSpells
import Derived.WalkLawsBesides
import Derived.Deep.QuietTactic
import Derived.Deep.OwnRows
import Derived.BigQuiet
import Derived.KernelRfl
import Derived.Carry
import Derived.Deep.RegionHeld3
import Derived.Deep.RegionLaw
namespace Go.Proofs.Ytoeckejcmojeaaa
open Go.RowKit

set_option maxHeartbeats 1000000 in
theorem P6Choice_any (v : Value) (n : Nat) (w : World) (h : BytesAt w v n) :
    Calls Try.prog 16 #[v] w fun e w' => ∃ r c, e = .returned r ∧ New w w' ∧ ChoAt w' r c ∧ choOk c = true ∧ c.n ≤ 4 := by
  obtain ⟨wb, hwb⟩ : ∃ wb, wb = w.alloc (.cells #[.int .i64 0, .slice none 0 0] 39) := ⟨_, rfl⟩
  have hnb : New w wb := by rw [hwb]; exact (by repeat (first | with_reducible exact New.refl _ | with_reducible assumption | with_reducible refine New.alloc ?_ _ | with_reducible refine New.drewN ?_ _ | with_reducible refine New.drew ?_ | with_reducible refine New.trans ?_ (by with_reducible assumption)))
  have hR : Box2 wb w.heap.size (.int .i64 0) (.slice none 0 0) := by rw [hwb]; exact ⟨by go_simp, by go_simp, by go_simp, by go_simp⟩
  have C1 := from_any v n wb (h.new hnb)
  have hwl : w.heap.size < wb.heap.size := hR.lt
  go_enter Try.func16, Try.ntmps16
  go_wp2_with fail
  rw [← hwb]
  clear hwb
  go_wp2_with fail
  refine C1.mono ?_
  rintro e w1 ⟨rfl, hn1, hs1⟩
  obtain ⟨sb, hsb⟩ : ∃ sb, sb = wb.heap.size := ⟨_, rfl⟩
  rw [← hsb] at hs1 hwl ⊢
  have HSB := hid hsb
  clear hsb C1
  have hR1 := hR.new hn1
  have C2 := l04DrawChoice_any sb n 0 4 w1 hs1 (by omega) (by decide)
  go_wp2_with fail
  refine C2.mono ?_
  rintro e w2 ⟨r2, c, rfl, hW2, _, ⟨rv, rfl, hG2⟩, hok, hc4⟩
  have hR2 := hR1.within hW2 (Or.inl hwl)
  have hsbw := HSB.out
  have hN2 : New wb w2 := hn1.within hW2 (by omega)
  obtain ⟨A, cap, rfl⟩ := hG2.form
  obtain ⟨q0, q1, qf0, qf1⟩ := id hR2
  obtain ⟨g0, g1, _⟩ := hR2.fill (.int .i64 c.n) (.slice A c.nx.length cap)
  have HW := hid (Within.fill w2 w.heap.size (.int .i64 c.n) (.slice A c.nx.length cap))
  have hz1 := hn1.size
  have hlen := (choOk_parts hok).2.1
  have HOK := hid hok
  clear hok
  go_wp2_with fail
  refine bodyPost_ret (v := .agg #[.int .i64 c.n, .slice A c.nx.length cap]) (by simp [results, Try.results16, go_sem, g0, g1]) rfl ?_
  have hfin : New w ((w2.setCell ⟨w.heap.size, 0, none⟩ (.int .i64 c.n)).setCell ⟨w.heap.size, 1, none⟩ (.slice A c.nx.length cap)) := (hnb.trans hN2).within HW.out (Nat.le_refl _)
  have hat := (hG2.within keeps_own HW.out (by omega)).at (fun _ _ _ _ _ h => h.at) (by omega)
  first
    | exact ⟨_, c, rfl, hfin, ⟨_, rfl, hat⟩, HOK.out, hc4⟩
    | exact ⟨_, rfl, hfin, c, ⟨_, rfl, hat⟩, HOK.out, hc4⟩
/-- The one has fewer choices, up to some place. -/
def FinAt (CS : List (List (List Int))) (D : List (List (List Int))) (k x : Nat) : Prop :=
  CS.length = D.length ∧ ∀ l, l < D.length → (nth CS l).length = (nth D l).length ∧ ∀ s, s < (nth D l).length →
    (nth (nth CS l) s = nth (nth D l) s ∨ (1 < (nth (nth D l) s).length ∧ nth (nth CS l) s = (nth (nth D l) s).drop 1)) ∧ ((k < l ∨ (l = k ∧ x ≤ s)) → nth (nth CS l) s = nth (nth D l) s)
theorem FinAt.start (D : List (List (List Int))) : FinAt D D 0 0 := ⟨rfl, fun _l _ => ⟨rfl, fun _s _ => ⟨Or.inl rfl, fun _ => rfl⟩⟩⟩
theorem FinAt.next {CS D : List (List (List Int))} {k x : Nat} (h : FinAt CS D k x) : FinAt CS D k (x + 1) :=
  ⟨h.1, fun l hl => ⟨(h.2 l hl).1, fun s hs => ⟨((h.2 l hl).2 s hs).1, fun q => ((h.2 l hl).2 s hs).2 (by omega)⟩⟩⟩
theorem FinAt.row {CS D : List (List (List Int))} {k x : Nat} (h : FinAt CS D k x) : FinAt CS D (k + 1) 0 :=
  ⟨h.1, fun l hl => ⟨(h.2 l hl).1, fun s hs => ⟨((h.2 l hl).2 s hs).1, fun q => ((h.2 l hl).2 s hs).2 (by omega)⟩⟩⟩
theorem FinAt.put {CS D : List (List (List Int))} {k x : Nat} (h : FinAt CS D k x) (hk : k < D.length) (hx : x < (nth D k).length) (hl : 1 < (nth (nth D k) x).length) :
    FinAt (CS.set k ((nth CS k).set x ((nth (nth D k) x).drop 1))) D k (x + 1) := by
  obtain ⟨h1, h2⟩ := h
  refine ⟨by simpa using h1, fun l hl' => ?_⟩
  rw [nth_set _ _ _ _ (by omega)]
  obtain ⟨q1, q2⟩ := h2 l hl'
  by_cases e : l = k
  · subst e
    rw [if_pos rfl]
    refine ⟨by simpa using q1, fun s hs => ?_⟩
    rw [nth_set _ _ _ _ (by omega)]
    obtain ⟨p1, p2⟩ := q2 s hs
    by_cases e2 : s = x
    · subst e2
      rw [if_pos rfl]
      exact ⟨Or.inr ⟨hl, rfl⟩, fun q => by omega⟩
    · rw [if_neg e2]
      exact ⟨p1, fun q => p2 (by omega)⟩
  · rw [if_neg e]
    exact ⟨q1, fun s hs => ⟨((q2 s hs).1), fun q => (q2 s hs).2 (by omega)⟩⟩
theorem OwnInts.drop1 {B E n c : Nat} {b o : Nat} {w : World} {xs : List Int} (h : OwnInts B E w (.slice (some ⟨b, o, none⟩) n c) xs) (hl : 1 < xs.length) : OwnInts B E w (.slice (some ⟨b, o + 1, none⟩) (xs.length - 1) (c - 1)) (xs.drop 1) := by
  obtain ⟨A, c', e, hl2, ha, hc⟩ := h
  cases e
  refine ⟨some ⟨b, o + 1, none⟩, c - 1, by simp, by simp; omega, fun a e => by injection e with e; subst e; exact ha ⟨b, o, none⟩ rfl, fun i hi => ?_⟩
  rw [List.length_drop] at hi
  obtain ⟨b', off, e, hx, hf⟩ := hc (i + 1) (by omega)
  cases e
  refine ⟨b, o + 1, rfl, ?_, ?_⟩
  · rw [show o + 1 + i = o + (i + 1) by omega, hx]
    congr 2
    rw [nth_eq _ _ (by omega), nth_eq _ _ (by simp; omega)]
    simp
  · rw [show o + 1 + i = o + (i + 1) by omega]; exact hf
/-- One place of a list of lists of lists, and what becomes of the whole where the list there loses its first element. -/
theorem GrowCube.slot {B n cap : Nat} {e : TypeId} {A : Option Addr} {w : World} {c : List (List (List Int))} (h : GrowCube RowF B e w (.slice A n cap) c) (k : Nat) (hk : k < c.length) (x : Nat) (hx : x < (nth c k).length) :
    ∃ cb rb rc so, A = some ⟨cb, 0, none⟩ ∧ w.cell? ⟨cb, k, none⟩ = some (.slice (some ⟨rb, 0, none⟩) (nth c k).length rc) ∧ B ≤ cb ∧ B ≤ rb ∧ w.cell? ⟨rb, x, none⟩ = some so ∧ w.frozen? ⟨rb, x, none⟩ = false ∧ w.cell? ⟨rb, 0, none⟩ ≠ none ∧ (∀ z, w.cell? ⟨rb, 0, none⟩ ≠ some (.int .i64 z)) ∧ IntsAt w so (nth (nth c k) x) ∧ CapAt so ∧
      (1 < (nth (nth c k) x).length → ∃ b2 o2 c2, so = .slice (some ⟨b2, o2, none⟩) (nth (nth c k) x).length c2 ∧
        GrowCube RowF B e (w.setCell ⟨rb, x, none⟩ (.slice (some ⟨b2, o2 + 1, none⟩) ((nth (nth c k) x).length - 1) (c2 - 1))) (.slice A n cap) (c.set k ((nth c k).set x ((nth (nth c k) x).drop 1)))) := by
  have hblk := h.block
  obtain ⟨cb, ccap, rr, L, U, hv, hcell, ⟨hL, hU⟩, hRF, hupd⟩ := h.row keeps_rowF k hk
  have hAC : A = some ⟨cb, 0, none⟩ := by injection hv
  subst hAC
  obtain ⟨rb, rc, so, hrr, hrb, hcx, hfx, hOx, hCx, hput⟩ := hRF.put x hx
  obtain ⟨rb0, rc0, so0, hrr0, _, hc0, _, hO0, _⟩ := hRF.put 0 (by omega)
  have e1 : rb0 = rb := by rw [hrr] at hrr0; injection hrr0 with e1; injection e1 with e1; injection e1 with e1; exact e1.symm
  subst e1
  subst hrr
  refine ⟨cb, rb0, rc, so, rfl, hcell, (hblk cb rfl).1, by omega, hcx, hfx, by rw [hc0]; simp, fun z => ?_, hOx.at, hCx, fun hl => ?_⟩
  · obtain ⟨A9, c9, rfl⟩ := hO0.form
    rw [hc0]; simp
  · obtain ⟨A9, c9, rfl⟩ := hOx.form
    obtain ⟨A8, c8, e8, _, _, hc8⟩ := id hOx
    cases e8
    obtain ⟨b2, o2, rfl, _⟩ := hc8 0 (by omega)
    refine ⟨b2, o2, c9, rfl, ?_⟩
    obtain ⟨q1, q2⟩ := hput (.slice (some ⟨b2, o2 + 1, none⟩) ((nth (nth c k) x).length - 1) (c9 - 1)) ((nth (nth c k) x).drop 1) (hOx.drop1 hl) (Or.inl rfl) (fun A m c e => by
      injection e with e2 e3 e4
      have := hCx _ _ _ rfl
      omega)
    exact hupd _ _ q1 q2
set_option maxRecDepth 20000 in
set_option maxHeartbeats 4000000 in
theorem P6Finer_any (v vc : Value) (n : Nat) (d : Cho) (w : World) (h : BytesAt w v n) (hv : ChoAt w vc d) (hd : choOk d = true) :
    Calls Try.prog 17 #[v, vc] w fun e w' => ∃ r CS, e = .returned r ∧ New w w' ∧ ChoAt w' r ⟨d.n, CS⟩ ∧ FinAt CS d.nx d.nx.length 0 := by
  obtain ⟨rv, rfl, hcu⟩ := hv
  obtain ⟨A, cA, rfl⟩ := hcu.form
  obtain ⟨wb, hwb⟩ : ∃ wb, wb = (w.alloc (.cells #[.int .i64 d.n, .slice A d.nx.length cA] 39)).alloc (.cells #[.int .i64 0, .slice none 0 0] 39) := ⟨_, rfl⟩
  have hnb : New w wb := by rw [hwb]; exact (by repeat (first | with_reducible exact New.refl _ | with_reducible assumption | with_reducible refine New.alloc ?_ _ | with_reducible refine New.drewN ?_ _ | with_reducible refine New.drew ?_ | with_reducible refine New.trans ?_ (by with_reducible assumption)))
  have hzb : wb.heap.size = w.heap.size + 2 := by rw [hwb]; simp only [size_alloc]
  have hp : PCho wb (.pointer (some ⟨w.heap.size, 0, none⟩)) d := by
    refine ⟨w.heap.size, _, rfl, ?_, ?_, hcu.new hnb⟩
    · rw [hwb]; go_simp
    · rw [hwb]; go_simp
  have hR : Box2 wb (w.heap.size + 1) (.int .i64 0) (.slice none 0 0) := by rw [hwb]; exact ⟨by go_simp, by go_simp, by go_simp, by go_simp⟩
  have C1 := from_any v n wb (h.new hnb)
  have HO := hid (fun (w1 : World) (sb K1 : Nat) (m : Int) (hs : SrcAt w1 sb n K1) (hk : K1 ≤ 2000000000) (hm : m ≤ 1000000) => one_any sb n K1 m w1 hs (by omega) hm)
  obtain ⟨hdn, hdl, hdr⟩ := choOk_parts hd
  have HDR := hid hdr
  have HZB := hid hzb
  have HD := hid hd
  clear hdr hd hcu h hzb
  go_enter Try.func17, Try.ntmps17
  go_wp2_with fail
  rw [← hwb]
  clear hwb
  go_wp2_with fail
  refine C1.mono ?_
  rintro e w1 ⟨rfl, hn1, hs1⟩
  obtain ⟨sb, hsb⟩ : ∃ sb, sb = wb.heap.size := ⟨_, rfl⟩
  rw [← hsb] at hs1 ⊢
  have HSB := hid hsb
  clear hsb C1
  have hR1 := hR.new hn1
  have C2 := l04OwnChoice_any _ d w1 (hp.new hn1) HD.out
  go_wp2_with fail
  refine C2.mono ?_
  rintro e w2 ⟨rv2, rfl, hn2, hG2⟩
  obtain ⟨AC, cC, rfl⟩ := hG2.form
  have hR2 := hR1.new hn2
  have hs2 := hs1.new hn2
  have hz1 : sb < w1.heap.size := hs1.lt
  have hz2 := hn2.size
  have hN2 : New w w2 := (hnb.trans hn1).trans hn2
  clear C2 hR hR1 hs1 hp hnb hn1
  have hn4 : New w2 (w2.alloc (.cells #[.int .i64 d.n, .slice AC d.nx.length cC] 39)) := (by repeat (first | with_reducible exact New.refl _ | with_reducible assumption | with_reducible refine New.alloc ?_ _ | with_reducible refine New.drewN ?_ _ | with_reducible refine New.drew ?_ | with_reducible refine New.trans ?_ (by with_reducible assumption)))
  have hO4 : Box2 (w2.alloc (.cells #[.int .i64 d.n, .slice AC d.nx.length cC] 39)) w2.heap.size (.int .i64 d.n) (.slice AC d.nx.length cC) := ⟨by go_simp, by go_simp, by go_simp, by go_simp⟩
  go_wp2_with fail
  have hs4 := hs2.new hn4
  have hR4 := hR2.new hn4
  have hG4 := hG2.new keeps_rowF hn4
  have hN4 := hN2.trans hn4
  have hz4 : w2.heap.size < (w2.alloc (.cells #[.int .i64 d.n, .slice AC d.nx.length cC] 39)).heap.size := by simp only [size_alloc]; omega
  obtain ⟨ob, hob⟩ : ∃ ob, ob = w2.heap.size := ⟨_, rfl⟩
  generalize (w2.alloc (.cells #[.int .i64 d.n, .slice AC d.nx.length cC] 39)) = w4 at hs4 hR4 hG4 hN4 hO4 hz4 ⊢
  rw [← hob] at hO4 ⊢
  have hsbw : w.heap.size + 2 = sb := by have := HZB.out; have := HSB.out; omega
  have HSW := hid hsbw
  have hsb1 : w.heap.size + 1 < w1.heap.size := by omega
  have hobs : sb < ob := by omega
  obtain ⟨B1, hB1⟩ : ∃ B1, B1 = w1.heap.size := ⟨_, rfl⟩
  rw [← hB1] at hG4 hz1 hsb1
  clear hn4 hs2 hR2 hG2 hN2 hz4 hob hn2 hz2 hsbw hB1
  go_loopw [7] (fun i wr => ∃ (k : Nat) (CS : List (List (List Int))), i = .int .i64 k ∧ k ≤ d.nx.length ∧ New w wr ∧ SrcAt wr sb n (100 + 40 * k) ∧ Box2 wr (w.heap.size + 1) (.int .i64 0) (.slice none 0 0) ∧ Box2 wr ob (.int .i64 d.n) (.slice AC d.nx.length cC) ∧ GrowCube RowF B1 22 wr (.slice AC d.nx.length cC) CS ∧ Hid (FinAt CS d.nx k 0)) (fun i _ => d.nx.length - (intOf i).toNat)
  case atStart => exact ⟨0, d.nx, rfl, Nat.zero_le _, hN4, hs4.mono (by omega), hR4, hO4, hG4, hid (FinAt.start _)⟩
  case round =>
    obtain ⟨k, CS, rfl, hk, hN, hs, hR, hO, hG, hF⟩ := hrel
    clear hN4 hs4 hR4 hO4 hG4
    obtain ⟨wo, rfl⟩ : ∃ wo : World, wo = wr := ⟨_, rfl⟩
    obtain ⟨z0, z1, zf0, zf1⟩ := id hO
    by_cases hlt : k < d.nx.length
    · have b1 : (k : Int) < (d.nx.length : Int) := by omega
      have hrow := (HDR.out k hlt).1
      obtain ⟨RN, hRN⟩ : ∃ RN, RN = (nth d.nx k).length := ⟨_, rfl⟩
      have HRN := hid hRN
      rw [← hRN] at hrow
      have hRN10 : RN ≤ 10 := by omega
      clear hRN hrow
      go_wp2_with fail
      go_loopw [8] (fun i wr => ∃ (x : Nat) (CS : List (List (List Int))), i = .int .i64 x ∧ x ≤ RN ∧ New w wr ∧ SrcAt wr sb n (100 + 40 * k + 2 * x) ∧ Box2 wr (w.heap.size + 1) (.int .i64 0) (.slice none 0 0) ∧ Box2 wr ob (.int .i64 d.n) (.slice AC d.nx.length cC) ∧ GrowCube RowF B1 22 wr (.slice AC d.nx.length cC) CS ∧ Hid (FinAt CS d.nx k x)) (fun i _ => RN - (intOf i).toNat)
      case atStart => exact ⟨0, CS, rfl, Nat.zero_le _, hN, hs, hR, hO, hG, hF⟩
      case round =>
        clear hN hs hR hO hG hF z0 z1 zf0 zf1
        obtain ⟨x, CS, rfl, hx, hN, hs, hR, hO, hG, hF⟩ := hrel
        obtain ⟨wi, rfl⟩ : ∃ wi : World, wi = wr := ⟨_, rfl⟩
        obtain ⟨z0, z1, zf0, zf1⟩ := id hO
        have HCL := hid hF.out.1
        have HRL := hid (show (nth CS k).length = RN by rw [HRN.out]; exact (hF.out.2 k hlt).1)
        have hRFk := hG.row keeps_rowF k (by rw [HCL.out]; exact hlt)
        obtain ⟨cb, ccap, rr, L, U, hv, hcell, _, hRF, _⟩ := hRFk
        have hAC : AC = some ⟨cb, 0, none⟩ := by injection hv
        subst hAC
        clear hv
        obtain ⟨rb, rc, rvv, hrr, hrest⟩ := id hRF
        subst hrr
        rw [HRL.out] at hcell
        clear hRF hrest rvv
        by_cases hlx : x < RN
        · have b2 : (x : Int) < (RN : Int) := by omega
          have hxl : x < (nth CS k).length := by rw [HRL.out]; exact hlx
          have hEX := ((hF.out.2 k hlt).2 x (by rw [← HRN.out]; exact hlx)).2 (Or.inr ⟨rfl, Nat.le_refl _⟩)
          obtain ⟨cb', rb', rc', so, hA', hcell', _, _, hcx, _, _, _, hat, _, _⟩ := hG.slot k (by rw [HCL.out]; exact hlt) x hxl
          have e0 : cb' = cb := by injection hA' with e; injection e with e; exact e.symm
          subst e0
          rw [HRL.out, hcell] at hcell'
          have e1 : rb = rb' := by injection hcell' with e; injection e with e; injection e with e; injection e
          subst e1
          clear hcell' hA'
          rw [hEX] at hat
          obtain ⟨A0, c0, rfl⟩ := hat.form
          obtain ⟨X, hX⟩ : ∃ X, X = nth (nth d.nx k) x := ⟨_, rfl⟩
          rw [← hX] at hcx
          have HX := hid hX
          have HEX := hid hEX
          clear hX hEX hat
          by_cases hXl : 1 < X.length
          · have b3 : (1 : Int) < (X.length : Int) := by omega
            go_wp2_with fail
            refine (HO.out wi sb _ 2 hs (by omega) (by omega)).mono ?_
            rintro e w5 ⟨b, rfl, hb5, hs5⟩
            have hG5 := hG.within keeps_rowF hb5.within1 (by omega)
            have hO5 := hO.within hb5.within1 (Or.inr (by omega))
            have hR5 := hR.within hb5.within1 (Or.inl (by have := HSW.out; omega))
            have hN5 := hN.within hb5.within1 (by have := HSW.out; omega)
            clear z0 z1 zf0 zf1 hcell hcx hG hO hR hN hs
            cases b with
            | false =>
              go_wp2_with fail
              go_roundw
              case rel => exact ⟨x + 1, CS, by go_num, by omega, hN5, hs5.mono (by omega), hR5, hO5, hG5, hid hF.out.next⟩
              case measure => simp [intOf]; omega
            | true =>
              obtain ⟨z0, z1, zf0, zf1⟩ := id hO5
              obtain ⟨cb2, rb2, rc2, so, hA2, hcell, hcbB, hrbB, hcx, hfx, hne0, hni, _, hCx, hdrop⟩ := hG5.slot k (by rw [HCL.out]; exact hlt) x hxl
              have e0 : cb2 = cb' := by injection hA2 with e; injection e with e; exact e.symm
              subst e0
              clear hA2
              rw [HRL.out] at hcell
              rw [HEX.out, ← HX.out] at hdrop
              obtain ⟨s2, o2, c2, rfl, hGn⟩ := hdrop hXl
              have hcap := hCx _ _ _ rfl
              have hrob : rb2 ≠ ob := fun e => hni d.n (by rw [e]; exact z0)
              have HGN := hid hGn
              have HPUT := hid (hF.out.put hlt (by rw [← HRN.out]; exact hlx) (by rw [← HX.out]; exact hXl))
              rw [← HX.out] at HPUT
              have hk1 : (1 : Int) ≤ (X.length : Int) := by omega
              have hk2 : (X.length : Int) ≤ (c2 : Int) := by omega
              have hk3 : ¬ c2 = 1 := by omega
              have hk4 : (1 : Int) < (c2 : Int) := by omega
              have hk5 : (1 : Int) ≤ (c2 : Int) := by omega
              have hk6 : 1 < c2 := by omega
              have HS5 := hid hs5
              have HO5 := hid hO5
              have HR5 := hid hR5
              have HN5 := hid hN5
              have HSB1 := hid hsb1
              obtain ⟨wF, hwF⟩ : ∃ wF, wF = w5.setCell ⟨rb2, x, none⟩ (.slice (some ⟨s2, o2 + 1, none⟩) (X.length - 1) (c2 - 1)) := ⟨_, rfl⟩
              have HGF := hid (show GrowCube RowF B1 22 wF (.slice (some ⟨cb2, 0, none⟩) d.nx.length cC) (CS.set k ((nth CS k).set x (X.drop 1))) by rw [hwF]; exact HGN.out)
              have HSF := hid (show SrcAt wF sb n (100 + 40 * k + 2 * x + 2) by rw [hwF]; exact hs5.but (But.setCell (S := fun q => q = rb2) ⟨rb2, x, none⟩ _ rfl) (fun q hq => by omega))
              have HRF := hid (show Box2 wF (w.heap.size + 1) (.int .i64 0) (.slice none 0 0) by rw [hwF]; exact hR5.other ⟨rb2, x, none⟩ (by show rb2 ≠ _; omega) _)
              have HOF := hid (show Box2 wF ob (.int .i64 d.n) (.slice (some ⟨cb2, 0, none⟩) d.nx.length cC) by rw [hwF]; exact hO5.other ⟨rb2, x, none⟩ hrob _)
              have HNF := hid (show New w wF by rw [hwF]; exact hN5.setCell (by show w.heap.size ≤ rb2; omega) _)
              have HWF := hid hwF
              clear hCx hGn hdrop hne0 hni hs5 hO5 hR5 hN5 hG5 zf0 zf1 hwF
              go_wp2_with fail
              go_region_law (fail)
              all_goals go_wp2
              all_goals go_roundw
              all_goals first
                | (simp [intOf]; omega)
                | (rw [← HWF.out]
                   exact ⟨x + 1, CS.set k ((nth CS k).set x (X.drop 1)), by go_num, by omega, HNF.out.trans (by repeat (first | with_reducible exact New.refl _ | with_reducible assumption | with_reducible refine New.alloc ?_ _ | with_reducible refine New.drewN ?_ _ | with_reducible refine New.drew ?_ | with_reducible refine New.trans ?_ (by with_reducible assumption))), (HSF.out.new (by repeat (first | with_reducible exact New.refl _ | with_reducible assumption | with_reducible refine New.alloc ?_ _ | with_reducible refine New.drewN ?_ _ | with_reducible refine New.drew ?_ | with_reducible refine New.trans ?_ (by with_reducible assumption)))).mono (by omega), HRF.out.new (by repeat (first | with_reducible exact New.refl _ | with_reducible assumption | with_reducible refine New.alloc ?_ _ | with_reducible refine New.drewN ?_ _ | with_reducible refine New.drew ?_ | with_reducible refine New.trans ?_ (by with_reducible assumption))), HOF.out.new (by repeat (first | with_reducible exact New.refl _ | with_reducible assumption | with_reducible refine New.alloc ?_ _ | with_reducible refine New.drewN ?_ _ | with_reducible refine New.drew ?_ | with_reducible refine New.trans ?_ (by with_reducible assumption))), HGF.out.new keeps_rowF (by repeat (first | with_reducible exact New.refl _ | with_reducible assumption | with_reducible refine New.alloc ?_ _ | with_reducible refine New.drewN ?_ _ | with_reducible refine New.drew ?_ | with_reducible refine New.trans ?_ (by with_reducible assumption))), hid HPUT.out⟩)
          · have b3 : ¬ (1 : Int) < (X.length : Int) := by omega
            go_wp2_with fail
            go_roundw
            case rel => exact ⟨x + 1, CS, by go_num, by omega, hN, hs.mono (by omega), hR, hO, hG, hid hF.out.next⟩
            case measure => simp [intOf]; omega
        · have e : x = RN := by omega
          subst e
          have b2 : ¬ (x : Int) < (x : Int) := by omega
          go_wp2_with fail
          go_roundw
          case rel => exact ⟨k + 1, CS, by go_num, by omega, hN, hs.mono (by omega), hR, hO, hG, hid hF.out.row⟩
          case measure => simp [intOf]; omega
    · have e : k = d.nx.length := by omega
      have b1 : ¬ (k : Int) < (d.nx.length : Int) := by omega
      obtain ⟨q0, q1, qf0, qf1⟩ := id hR
      obtain ⟨g0, g1, _⟩ := hR.fill (.int .i64 d.n) (.slice AC d.nx.length cC)
      have HW := hid (Within.fill wo (w.heap.size + 1) (.int .i64 d.n) (.slice AC d.nx.length cC))
      have HKE := hid e
      clear e
      go_wp2_with fail
      refine bodyPost_ret (v := .agg #[.int .i64 d.n, .slice AC d.nx.length cC]) (by simp [results, Try.results17, go_sem, g0, g1]) rfl ?_
      have hfin := hN.within HW.out (by omega)
      have hat := (hG.within keeps_rowF HW.out (by omega)).at (fun _ _ _ _ _ h => h.at) (by have := hF.out.1; omega)
      have hF2 := hF.out
      rw [HKE.out] at hF2
      first
        | exact ⟨_, CS, rfl, hfin, ⟨_, rfl, hat⟩, hF2⟩
        | exact ⟨_, rfl, hfin, CS, ⟨_, rfl, hat⟩, hF2⟩

end Go.Proofs.Ytoeckejcmojeaaa
