/- The program reads roads. -/
import Derived.Test.YthbebnfhplacnaaDoorRows
import Derived.Test.YthbebnfhplacnaaDoorCore
import Derived.Test.YthbebnfhplacnaaDoorInfos
import Derived.Test.YthbebnfhplacnaaDoorPlains
import Derived.Test.YthbebnfhplacnaaDoorJoins
import Derived.Test.YthbebnfhplacnaaDoorPlainText
import Derived.Test.YthbebnfhplacnaaDoorShelfText
import Derived.Test.YthbebnfhplacnaaDoorIBase
import Derived.Test.YthbebnfhplacnaaDoorIRdss
import Derived.Test.YthbebnfhplacnaaDoorTText1
import Derived.Test.YthbebnfhplacnaaDoorTText2
import Derived.Test.YthbebnfhplacnaaDoorMaps
import Derived.Test.YthbebnfhplacnaaDoorArrs
import Derived.WalkKit
import Derived.WalkSpells
import Derived.WalkLawsBesides
import Derived.Deep.QuietTactic
import Derived.Deep.OwnRows
import Derived.BigQuiet
import Derived.KernelRfl
import Derived.Deep.RegionHeld3
import Derived.Deep.RegionLaw
import Derived.Carry
namespace Go.Proofs.YthbebnfhplacnaaDoor
open Go.RowKit

theorem Box2.butT {S : Nat → Prop} {w w' : World} {b : Nat} {u v : Value} (h : Box2 w b u v) (hb : But S w w') (hS : ¬ S b) : Box2 w' b u v :=
  ⟨hb.cell h.1 hS, hb.cell h.2.1 hS, by rw [hb.frozen h.1 hS]; exact h.2.2.1, by rw [hb.frozen h.2.1 hS]; exact h.2.2.2⟩
theorem toList_data (a : ByteArray) : a.toList = a.data.toList := by
  have := ByteArray.toList_eq a
  simpa using this
/-- What has been read of the first lines. -/
def rowsTo (DL : List (List UInt8)) (i : Nat) : List (List Int) := ((DL.take i).filter fun x => !x.isEmpty).map numsI
theorem rowsTo_zero (DL : List (List UInt8)) : rowsTo DL 0 = [] := by simp [rowsTo]
theorem rowsTo_skip {DL : List (List UInt8)} {i : Nat} (hi : i < DL.length) (h : DL[i] = []) : rowsTo DL (i + 1) = rowsTo DL i := by
  unfold rowsTo
  rw [List.take_succ_eq_append_getElem hi, h]
  simp
theorem rowsTo_more {DL : List (List UInt8)} {i : Nat} (hi : i < DL.length) (h : DL[i] ≠ []) : rowsTo DL (i + 1) = rowsTo DL i ++ [numsI DL[i]] := by
  unfold rowsTo
  rw [List.take_succ_eq_append_getElem hi, List.filter_append, List.map_append]
  have : (!(DL[i]).isEmpty) = true := by simpa using h
  rw [List.filter_cons, if_pos this]
  rfl
theorem rowsTo_len (DL : List (List UInt8)) (i : Nat) : (rowsTo DL i).length ≤ i := by
  unfold rowsTo
  rw [List.length_map]
  have := List.length_filter_le (fun x : List UInt8 => !x.isEmpty) (DL.take i)
  rw [List.length_take] at this
  omega
set_option maxRecDepth 20000 in
set_option maxHeartbeats 2000000 in
theorem implReadRoads_any (s : ByteArray) (w : World) (hv : LibVars w) (hl : s.size ≤ 1048576) :
    Calls Tryd.prog 5 #[.string s] w fun e w' => ∃ q, e = .returned (.tuple #[q, .int .i64 (readI s.data.toList).2]) ∧ New w w' ∧ OwnAut w.heap.size w'.heap.size w' q (readI s.data.toList).1 := by
  have hsz := size_data s
  obtain ⟨R, hRR⟩ : ∃ R, R = readI s.data.toList := ⟨_, rfl⟩
  rw [← hRR]
  unfold readI at hRR
  have HR := hid hRR
  clear hRR
  obtain ⟨wb, hwb⟩ : ∃ wb, wb = w.alloc (.cells #[.int .i64 0, .slice none 0 0] 24) := ⟨_, rfl⟩
  have hnb : New w wb := by rw [hwb]; exact (by repeat (first | with_reducible exact New.refl _ | with_reducible assumption | with_reducible refine New.alloc ?_ _ | with_reducible refine New.drewN ?_ _ | with_reducible refine New.drew ?_ | with_reducible refine New.trans ?_ (by with_reducible assumption)))
  have hR : Box2 wb w.heap.size (.int .i64 0) (.slice none 0 0) := by rw [hwb]; exact ⟨by go_simp, by go_simp, by go_simp, by go_simp⟩
  have KEY := hid (fun (w1 : World) (z : Int) (hn : New w w1) => (show ∃ q, (Ending.returned (.tuple #[.agg #[.int .i64 0, .slice none 0 0], .int .i64 z])) = .returned (.tuple #[q, .int .i64 z]) ∧ New w w1 ∧ OwnAut w.heap.size w1.heap.size w1 q (⟨0, []⟩ : Aut) from
    ⟨_, rfl, hn, _, rfl, none, 0, fun _ => default, rfl, by simp, by simp, by simp, by simp⟩))
  by_cases h2 : 2000 < s.size
  · have h2' : (2000 : Int) < (s.size : Int) := by omega
    have HE := hid (show R = (⟨0, []⟩, 2) by rw [HR.out, if_pos (by omega)])
    clear hsz
    obtain ⟨x0, x1, xf0, xf1⟩ := id hR
    go_enter Tryd.func5, Tryd.ntmps5
    go_wp2_with fail
    rw [← hwb]
    clear hwb
    refine bodyPost_ret (v := .tuple #[.agg #[.int .i64 0, .slice none 0 0], .int .i64 2]) (by simp [results, Tryd.results5, go_sem, x0, x1]) rfl ?_
    rw [HE.out]
    exact KEY.out wb 2 hnb
  have h2' : ¬ (2000 : Int) < (s.size : Int) := by omega
  obtain ⟨hp1, hp2⟩ := split_parts s ⟨#[10]⟩ 10 rfl
  have HCS := hid (fun w1 (h1 : LibVars w1) => strings_Split_at s ⟨#[10]⟩ w1 h1 (by omega) (Nat.le_refl _))
  have hwl := splitC_len 10 s.data.toList
  have hws := hid (splitC_small 10 s.data.toList)
  have HE0 := hid (show R = if roadsOk ⟨((rowsTo (splitC 10 s.data.toList) (splitC 10 s.data.toList).length).length : Int), rowsTo (splitC 10 s.data.toList) (splitC 10 s.data.toList).length⟩ = true ∧ textR (rowsTo (splitC 10 s.data.toList) (splitC 10 s.data.toList).length) = s.data.toList then (⟨((rowsTo (splitC 10 s.data.toList) (splitC 10 s.data.toList).length).length : Int), rowsTo (splitC 10 s.data.toList) (splitC 10 s.data.toList).length⟩, 0) else (⟨0, []⟩, 5) by
    rw [HR.out, if_neg (by omega)]
    unfold rowsTo
    rw [List.take_length])
  obtain ⟨WS, hWS⟩ : ∃ z, z = Go.Lib.splitB ⟨#[10]⟩ 0 (Go.Lib.countB s ⟨#[10]⟩) s := ⟨_, rfl⟩
  rw [← hWS] at hp1 hp2 HCS
  rw [hp2] at HCS
  obtain ⟨DL, hDL⟩ : ∃ z, z = splitC 10 s.data.toList := ⟨_, rfl⟩
  rw [← hDL] at hp1 hwl hws HE0
  have hWl : WS.length = DL.length := by rw [← hp1, List.length_map]
  have HWD := hid (fun i (hi : i < WS.length) (hj : i < DL.length) => (show (WS[i]).data.toList = DL[i] from by
    have h3 : (WS.map fun x : ByteArray => x.data.toList)[i]? = DL[i]? := by rw [hp1]
    rw [List.getElem?_map, List.getElem?_eq_getElem hi, List.getElem?_eq_getElem hj] at h3
    simpa using h3))
  have HSM := hid (fun i (hi : i < WS.length) => (show (WS[i]).size ≤ 2000 from by
    have h3 := hws.out (WS[i]).data.toList (by rw [← hp1]; exact List.mem_map.2 ⟨_, List.getElem_mem hi, rfl⟩)
    have h4 := size_data (WS[i])
    omega))
  obtain ⟨KW, hKW⟩ : ∃ z, z = WS.length := ⟨_, rfl⟩
  rw [← hKW] at HCS
  have HKW := hid hKW
  have HWL := hid hWl
  have hkw : KW ≤ 2001 := by omega
  have HRL := hid (fun i => rowsTo_len DL i)
  have HSZ := hid hsz
  clear hWS hp1 hp2 hws hwl hDL hWl hKW h2 HR hsz
  obtain ⟨rb, hrb⟩ : ∃ z, z = wb.heap.size := ⟨_, rfl⟩
  have hzb : wb.heap.size = w.heap.size + 1 := by rw [hwb]; simp only [size_alloc]
  have HRB := hid (show rb = w.heap.size + 1 by omega)
  obtain ⟨x0, x1, xf0, xf1⟩ := id hR
  go_enter Tryd.func5, Tryd.ntmps5
  go_wp2_with fail
  rw [← hwb]
  clear hwb
  have HNB := hid hnb
  have hn2 : New wb (wb.alloc (.cells #[.int .i64 0, .slice none 0 0] 24)) := (by repeat (first | with_reducible exact New.refl _ | with_reducible assumption | with_reducible refine New.alloc ?_ _ | with_reducible refine New.drewN ?_ _ | with_reducible refine New.drew ?_ | with_reducible refine New.trans ?_ (by with_reducible assumption)))
  have hB2 : Box2 (wb.alloc (.cells #[.int .i64 0, .slice none 0 0] 24)) rb (.int .i64 0) (.slice none 0 0) := by rw [hrb]; exact ⟨by go_simp, by go_simp, by go_simp, by go_simp⟩
  have hz2 : (wb.alloc (.cells #[.int .i64 0, .slice none 0 0] 24)).heap.size = rb + 1 := by rw [hrb]; simp only [size_alloc]
  have HZ2 := hid hz2
  have hR2 := hR.new hn2
  clear hrb hzb hz2 x0 x1 xf0 xf1
  go_wp2_with fail
  rw [show w.heap.size + 1 = rb from HRB.out.symm]
  generalize (wb.alloc (.cells #[.int .i64 0, .slice none 0 0] 24)) = w2 at hn2 hB2 HZ2 hR2 ⊢
  refine (HCS.out w2 (hv.new (HNB.out.trans hn2))).mono ?_
  rintro e w3 ⟨rfl, hw3⟩
  have hn3 : New w2 w3 := by rw [hw3]; exact (by repeat (first | with_reducible exact New.refl _ | with_reducible assumption | with_reducible refine New.alloc ?_ _ | with_reducible refine New.drewN ?_ _ | with_reducible refine New.drew ?_ | with_reducible refine New.trans ?_ (by with_reducible assumption)))
  obtain ⟨sb, hsb⟩ : ∃ z, z = w2.heap.size := ⟨_, rfl⟩
  have hs3 : StrsAt w3 sb WS := by rw [hw3, hsb]; exact StrsAt.made _ _ _
  have hz3 : w3.heap.size = sb + 1 := by rw [hw3, hsb]; simp only [size_alloc]
  have HSB := hid (show sb = rb + 1 by rw [hsb]; exact HZ2.out)
  have HZ3 := hid hz3
  have hB3 := hB2.new hn3
  have hR3 := hR2.new hn3
  have HN3 := hid (HNB.out.trans (hn2.trans hn3))
  rw [← hsb]
  clear hw3 hsb hz3 hB2 hR2 hn3 hn2 hnb hR
  have hsep : w.heap.size < rb ∧ rb < sb ∧ sb < w3.heap.size := by have := HRB.out; have := HSB.out; have := HZ3.out; omega
  go_wp2_with fail
  go_loopw [15] (fun iv wr => ∃ (i : Nat) (v : Value), i ≤ KW ∧ iv = .int .i64 i ∧ But (fun q => q = rb) w3 wr ∧ Box2 wr rb (.int .i64 0) v ∧ GrowRows w3.heap.size 32 wr v (rowsTo DL i)) (fun iv _ => KW - (intOf iv).toNat)
  case atStart => exact ⟨0, _, Nat.zero_le _, rfl, But.refl, hB3, by rw [rowsTo_zero]; exact GrowRows.nil _ _ _⟩
  case round =>
    obtain ⟨i, v, hi, rfl, hb, hB, hG⟩ := hrel
    clear hB3
    obtain ⟨wo, rfl⟩ : ∃ wo : World, wo = wr := ⟨_, rfl⟩
    have hzo := hb.size
    have hNo : New w wo := But.new HN3.out hb (fun q hq => by omega)
    have hvo := hv.new hNo
    obtain ⟨Av, cv, rfl⟩ := hG.form
    have hrl := HRL.out i
    by_cases hlt : i < KW
    · have b1 : (i : Int) < (KW : Int) := by omega
      have hiW : i < WS.length := by rw [← HKW.out]; exact hlt
      have hiD : i < DL.length := by rw [← HWL.out]; exact hiW
      have hx := hb.cell (hs3 i hiW) (by show ¬ sb = rb; omega)
      have hXd := HWD.out i hiW hiD
      have hXs := HSM.out i hiW
      obtain ⟨X, hX⟩ : ∃ X, X = WS[i] := ⟨_, rfl⟩
      rw [← hX] at hx hXd hXs
      clear hX
      by_cases hem : DL[i] = []
      · have HE := hid (rowsTo_skip hiD hem)
        have hq : (X.toList == (⟨#[]⟩ : ByteArray).toList) = true := by rw [toList_data, toList_data, hXd, hem]; rfl
        have hq2 : X = (⟨#[]⟩ : ByteArray) := by
          have : X.data.toList = (⟨#[]⟩ : ByteArray).data.toList := by rw [hXd, hem]
          cases X with | mk d => simp at this; subst this; rfl
        subst hq2
        clear hXd hem hq
        go_wp2_with fail
        exact ⟨⟨i + 1, _, by omega, by go_num, hb, hB, by rw [HE.out]; exact hG⟩, by simp [intOf]; omega⟩
      · have HE := hid (rowsTo_more hiD hem)
        have hq : X.toList.isEmpty = false := by
          rw [toList_data, hXd]
          cases e : DL[i] with
          | nil => exact absurd e hem
          | cons a l => rfl
        have HXD := hid hXd
        clear hXd hem
        obtain ⟨y0, y1, yf0, yf1⟩ := id hB
        have CN := hid (fun (w5 : World) (h5 : New wo w5) => numbersBehind_any X w5 (hvo.new h5) hXs)
        have y1d : wo.drew.cell? ⟨rb, 1, none⟩ = some (.slice Av (rowsTo DL i).length cv) := y1
        have hrbo : rb < wo.heap.size := hB.lt
        have HG := hid hG
        have hblk := hid hG.block
        clear hG
        go_wp2_with fail
        go_region_law (first
          | (go_simp; go_at_call 13; refine (CN.out _ (New.refl _).drew).mono ?_; rintro e w5 ⟨r5, he, hr5, ho5⟩; obtain ⟨A5, c5, rfl⟩ := ho5.form; subst he; have hq5 : New wo w5 := New.trans (New.refl _).drew hr5; have y5 := hq5.cell y1; have s5 := hr5.size; have l5 : rb < w5.heap.size := World.block_lt_of_cell? _ _ y5)
          | (refine step_appRows1 (w0 := wo) rfl _ _ _ rfl Tryd.underlying22 info_ints (.slice Av (rowsTo DL i).length cv) _ (rowsTo DL i) (numsI X.data.toList) _ rfl HG.out (hq5.trans (by repeat (first | with_reducible exact New.refl _ | with_reducible assumption | with_reducible refine New.alloc ?_ _ | with_reducible refine New.drew ?_ | with_reducible refine New.drewN ?_ _ | with_reducible refine New.setCell ?_ (by simp <;> omega) _))) ((ho5.new (by repeat (first | with_reducible exact New.refl _ | with_reducible assumption | with_reducible refine New.alloc ?_ _ | with_reducible refine New.drew ?_ | with_reducible refine New.drewN ?_ _ | with_reducible refine New.setCell ?_ (by simp <;> omega) _))).widen (by have := s5; (try simp only [sizes] at this); (try simp only [sizes]); omega) (by (try simp only [sizes]) <;> omega)) rfl (cell_box1 _ _ _) (by omega) hzo ?_; intro g cap w6 ho6 hg6; have hB6 := ((hB.new hq5).new ((New.refl _).alloc _)).grown hg6 (fun q hq => by have := hblk.out q hq; omega); obtain ⟨x0', x1', xf0', xf1'⟩ := id hB6))
        all_goals go_wp2_with fail
        all_goals refine ⟨⟨i + 1, _, by omega, by go_num, ?_, hB6.set1 _, ?_⟩, by simp [intOf]; omega⟩
        all_goals first
          | (rw [HE.out, ← HXD.out]; exact ho6.within (within_setCell w6 ⟨rb, 1, none⟩ (.slice (some ⟨g, 0, none⟩) ((rowsTo DL i).length + 1) cap)) (by show rb + 1 ≤ w3.heap.size; omega))
          | exact ((hb.trans (But.of_new (S := fun q => q = rb) (hq5.trans ((New.refl _).alloc _))) (fun q hq => Or.inl hq)).trans (But.of_grown (S := fun q => w3.heap.size ≤ q) hg6 (fun q hq => (hblk.out q hq).1)) (fun q hq => Or.inr hq)).trans (But.setCell (S := fun q => q = rb) ⟨rb, 1, none⟩ _ rfl) (fun q hq => Or.inl hq)
    · have HI := hid (show i = DL.length by have := HKW.out; have := HWL.out; omega)
      have b1 : ¬ (i : Int) < (KW : Int) := by omega
      obtain ⟨y0, y1, yf0, yf1⟩ := id hB
      have hRo := hR3.butT hb (by show ¬ w.heap.size = rb; omega)
      have HE1 := hid (show R = if roadsOk ⟨((rowsTo DL i).length : Int), rowsTo DL i⟩ = true ∧ textR (rowsTo DL i) = s.data.toList then (⟨((rowsTo DL i).length : Int), rowsTo DL i⟩, 0) else (⟨0, []⟩, 5) by rw [HE0.out, HI.out])
      have hO := hG.own (by omega)
      obtain ⟨RS, hRS⟩ : ∃ z, z = rowsTo DL i := ⟨_, rfl⟩
      rw [← hRS] at HE1 hO hG y1 hB hrl
      clear hRS
      have CSZ := hid (fun w5 => sizeRows_any Av RS.length cv w5 (by omega))
      obtain ⟨wc, hwc⟩ : ∃ z, z = wo.setCell ⟨rb, 0, none⟩ (.int .i64 RS.length) := ⟨_, rfl⟩
      have hBc : Box2 wc rb (.int .i64 RS.length) (.slice Av RS.length cv) := by rw [hwc]; exact hB.set0 _
      have hWc : Within rb (rb + 1) wo wc := by rw [hwc]; exact within_setCell wo ⟨rb, 0, none⟩ _
      have hOc := hO.within hWc (Or.inr (by show rb + 1 ≤ w3.heap.size; omega))
      have hNc : New w wc := hNo.within hWc (by omega)
      have hRc := hRo.within hWc (Or.inl (by omega))
      have HAc := hid (show ∀ w5, New wc w5 → AutAt w5 (.agg #[.int .i64 RS.length, .slice Av RS.length cv]) ⟨(RS.length : Int), RS⟩ from fun w5 h5 => ⟨_, rfl, hOc.at.new h5⟩)
      have CV := hid (fun w5 (h5 : New wc w5) => ValidRoads_any _ _ w5 (HAc.out w5 h5))
      obtain ⟨z0, z1, zf0, zf1⟩ := id hBc
      obtain ⟨q0, q1, qf0, qf1⟩ := id hBc
      rw [hwc] at q0 q1
      have HFIN0 := hid (show ∀ w5, New wc w5 → Box2 w5 w.heap.size (.int .i64 0) (.slice none 0 0) ∧ New w w5 from fun w5 h5 => ⟨hRc.new h5, hNc.trans h5⟩)
      have HFIN1 := hid (show ∀ w5, New wc w5 → OwnRows w3.heap.size w5.heap.size ((w5.setCell ⟨w.heap.size, 0, none⟩ (.int .i64 RS.length)).setCell ⟨w.heap.size, 1, none⟩ (.slice Av RS.length cv)) (.slice Av RS.length cv) RS ∧ w3.heap.size ≤ w5.heap.size from fun w5 h5 =>
        ⟨((hOc.new h5).within (Within.fill w5 w.heap.size _ _) (Or.inr (by omega))).widen (Nat.le_refl _) (Nat.le_trans hWc.2.2.2.1 h5.size), by have := hWc.2.2.2.1; have := h5.size; omega⟩)
      cases hok : roadsOk ⟨(RS.length : Int), RS⟩ with
      | false =>
        rw [hok] at CV
        have HE2 := hid (show R = (⟨0, []⟩, 5) by rw [HE1.out, if_neg (by rw [hok]; simp)])
        clear hok
        go_wp2_with (first
          | (go_at_call 14; refine (CSZ.out _).mono ?_; rintro e w' ⟨rfl, hww⟩; rw [hww]; clear hww w')
          | (go_at_call 15; rw [← hwc]; refine (CV.out wc (New.refl _)).mono ?_; rintro e w5 ⟨rfl, hn5⟩; obtain ⟨hR5, hN5⟩ := HFIN0.out w5 hn5; obtain ⟨t0, t1, tf0, tf1⟩ := id hR5; obtain ⟨g0, g1, _, _⟩ := hR5.fill (.int .i64 0) (.slice none 0 0)))
        refine bodyPost_ret (v := .tuple #[.agg #[.int .i64 0, .slice none 0 0], .int .i64 5]) (by simp [results, Tryd.results5, go_sem, g0, g1]) rfl ?_
        rw [HE2.out]
        exact KEY.out _ 5 (New.fill hN5 (Nat.le_refl _) _ _)
      | true =>
        rw [hok] at CV
        have HOK := hid hok
        have CT := hid (fun w5 (h5 : New wc w5) => implRoadsText_any _ _ w5 (HAc.out w5 h5) hok)
        by_cases hsame : textR RS = s.data.toList
        · have HE2 := hid (show R = (⟨(RS.length : Int), RS⟩, 0) by rw [HE1.out, if_pos ⟨hok, hsame⟩])
          have HSAME := hid hsame
          clear hok hsame
          go_wp2_with (first
            | (go_at_call 14; refine (CSZ.out _).mono ?_; rintro e w' ⟨rfl, hww⟩; rw [hww]; clear hww w')
            | (go_at_call 15; rw [← hwc]; refine (CV.out wc (New.refl _)).mono ?_; rintro e w5 ⟨rfl, hn5⟩; have z05 := hn5.cell z0; have z15 := hn5.cell z1)
            | (go_at_call 16; refine (CT.out w5 hn5).mono ?_; rintro e w6 ⟨TX, rfl, hTX, hn6⟩; have hq : TX.toList = s.toList := (by rw [toList_data, toList_data, hTX]; exact HSAME.out); have z06 := hn6.cell z05; have z16 := hn6.cell z15; obtain ⟨hR6, hN6⟩ := HFIN0.out w6 (hn5.trans hn6); obtain ⟨t0, t1, tf0, tf1⟩ := id hR6; obtain ⟨g0, g1, _, _⟩ := hR6.fill (.int .i64 RS.length) (.slice Av RS.length cv); clear hTX))
          refine bodyPost_ret (v := .tuple #[.agg #[.int .i64 RS.length, .slice Av RS.length cv], .int .i64 0]) (by simp [results, Tryd.results5, go_sem, g0, g1]) rfl ?_
          rw [HE2.out]
          obtain ⟨hO6, hz6⟩ := HFIN1.out w6 (hn5.trans hn6)
          refine ⟨_, rfl, New.fill hN6 (Nat.le_refl _) _ _, _, rfl, hO6.widen (by omega) (Within.fill w6 w.heap.size _ _).2.2.2.1⟩
        · have HE2 := hid (show R = (⟨0, []⟩, 5) by rw [HE1.out, if_neg (fun q => hsame q.2)])
          have HSAME := hid (show (textR RS == s.data.toList) = false by simpa using hsame)
          clear hok hsame
          go_wp2_with (first
            | (go_at_call 14; refine (CSZ.out _).mono ?_; rintro e w' ⟨rfl, hww⟩; rw [hww]; clear hww w')
            | (go_at_call 15; rw [← hwc]; refine (CV.out wc (New.refl _)).mono ?_; rintro e w5 ⟨rfl, hn5⟩; have z05 := hn5.cell z0; have z15 := hn5.cell z1)
            | (go_at_call 16; refine (CT.out w5 hn5).mono ?_; rintro e w6 ⟨TX, rfl, hTX, hn6⟩; have hq : (TX.toList == s.toList) = false := (by rw [toList_data, toList_data, hTX]; exact HSAME.out); obtain ⟨hR6, hN6⟩ := HFIN0.out w6 (hn5.trans hn6); obtain ⟨t0, t1, tf0, tf1⟩ := id hR6; obtain ⟨g0, g1, _, _⟩ := hR6.fill (.int .i64 0) (.slice none 0 0); clear hTX))
          refine bodyPost_ret (v := .tuple #[.agg #[.int .i64 0, .slice none 0 0], .int .i64 5]) (by simp [results, Tryd.results5, go_sem, g0, g1]) rfl ?_
          rw [HE2.out]
          exact KEY.out _ 5 (New.fill hN6 (Nat.le_refl _) _ _)

end Go.Proofs.YthbebnfhplacnaaDoor
