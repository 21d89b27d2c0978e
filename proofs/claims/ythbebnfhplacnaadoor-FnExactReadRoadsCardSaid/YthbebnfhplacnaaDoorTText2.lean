/- The program reads numbers and roads. -/
import Derived.Test.YthbebnfhplacnaaDoorRows
import Derived.Test.YthbebnfhplacnaaDoorCore
import Derived.Test.YthbebnfhplacnaaDoorInfos
import Derived.Test.YthbebnfhplacnaaDoorPlains
import Derived.Test.YthbebnfhplacnaaDoorJoins
import Derived.Test.YthbebnfhplacnaaDoorPlainText
import Derived.Test.YthbebnfhplacnaaDoorShelfText
import Derived.Test.YthbebnfhplacnaaDoorIBase
import Derived.Test.YthbebnfhplacnaaDoorIRdss
import Derived.Test.YthbebnfhplacnaaDoorTText1
import Derived.Test.YthbebnfhplacnaaDoorMaps
import Derived.WalkKit
import Derived.WalkSpells
import Derived.WalkLawsBesides
import Derived.Deep.QuietTactic
import Derived.Deep.OwnRows
import Derived.BigQuiet
import Derived.KernelRfl
import Derived.Deep.RegionHeld3
import Derived.Deep.RegionLaw
namespace Go.Proofs.YthbebnfhplacnaaDoor
open Go.RowKit

theorem LibVars.new {w w' : World} (h : LibVars w) (hn : New w w') : LibVars w' :=
  let ⟨⟨m, h1⟩, ⟨t, p, h2⟩, u, q, h3⟩ := h; ⟨⟨m, hn.cell h1⟩, ⟨t, p, hn.cell h2⟩, u, q, hn.cell h3⟩
/-- The parts of a text, as values that lie one behind the other. -/
def StrsAt (w : World) (b : Nat) (ws : List ByteArray) : Prop := ∀ i (hi : i < ws.length), w.cell? ⟨b, i, none⟩ = some (.string ws[i])
theorem StrsAt.new {w w' : World} {b : Nat} {ws : List ByteArray} (h : StrsAt w b ws) (hn : New w w') : StrsAt w' b ws := fun i hi => hn.cell (h i hi)
theorem StrsAt.made (w : World) (ws : List ByteArray) (e : TypeId) : StrsAt (w.alloc (.cells (ws.map Value.string).toArray e)) w.heap.size ws := fun i hi => by
  unfold World.cell?
  rw [heap_alloc_new]
  simp [hi]
theorem split_parts (s sep : ByteArray) (c : UInt8) (hs : sep.data.toList = [c]) : (Go.Lib.splitB sep 0 (Go.Lib.countB s sep) s).map (·.data.toList) = splitC c s.data.toList ∧ Go.Lib.countB s sep + 1 = (Go.Lib.splitB sep 0 (Go.Lib.countB s sep) s).length := by
  have e : (Go.Lib.splitB sep 0 (Go.Lib.countB s sep) s).map (·.data.toList) = splitC c s.data.toList := by
    rw [Go.Lib.splitB_data, hs]
    show Go.Lib.splitK [c] 0 (Go.Lib.count s.data.toList sep.data.toList) s.data.toList = _
    rw [hs, splitK_c c _ _ (Nat.le_refl _)]
  refine ⟨e, ?_⟩
  rw [← List.length_map (f := fun x : ByteArray => x.data.toList), e]
  show Go.Lib.count s.data.toList sep.data.toList + 1 = _
  rw [hs, countC]
theorem splitC_small (c : UInt8) : ∀ (l : List UInt8) (x : List UInt8), x ∈ splitC c l → x.length ≤ l.length
  | [], x, h => by simp [splitC] at h; simp [h]
  | b :: l, x, h => by
    have ih := splitC_small c l
    unfold splitC at h
    split at h
    · rcases List.mem_cons.1 h with h | h
      · simp [h]
      · have := ih x h; simp; omega
    · split at h
      · simp at h; simp [h]
      · rename_i h' t e
        rcases List.mem_cons.1 h with h | h
        · have := ih h' (by rw [e]; simp)
          simp [h]; omega
        · have := ih x (by rw [e]; simp [h])
          simp; omega
theorem splitC_len (c : UInt8) : ∀ l : List UInt8, (splitC c l).length ≤ l.length + 1
  | [] => by simp [splitC]
  | b :: l => by
    have ih := splitC_len c l
    unfold splitC
    split
    · simp; omega
    · split
      · simp
      · rename_i h t e
        rw [e] at ih
        simp at ih ⊢; omega
set_option maxHeartbeats 2000000 in
theorem numbersBehind_any (s : ByteArray) (w : World) (hv : LibVars w) (hl : s.size ≤ 2000) :
    Calls Tryd.prog 13 #[.string s] w fun e w' => ∃ r, e = .returned r ∧ New w w' ∧ OwnInts w.heap.size w'.heap.size w' r (numsI s.data.toList) := by
  obtain ⟨hp1, hp2⟩ := split_parts s ⟨#[32]⟩ 32 rfl
  have HCS := hid (fun w1 (h1 : LibVars w1) => strings_Split_at s ⟨#[32]⟩ w1 h1 (by omega) (Nat.le_refl _))
  have hwl := splitC_len 32 s.data.toList
  have hws := hid (splitC_small 32 s.data.toList)
  have hsz := size_data s
  obtain ⟨WS, hWS⟩ : ∃ z, z = Go.Lib.splitB ⟨#[32]⟩ 0 (Go.Lib.countB s ⟨#[32]⟩) s := ⟨_, rfl⟩
  rw [← hWS] at hp1 hp2 HCS
  rw [hp2] at HCS
  have hWl : WS.length ≤ 2001 := by
    rw [← List.length_map (f := fun x : ByteArray => x.data.toList), hp1]; omega
  have hWl0 : 1 ≤ WS.length := by omega
  have HNI := hid (show numsI s.data.toList = (WS.tail).map fun x => numI x.data.toList by
    unfold numsI
    rw [← hp1, ← List.map_tail, List.map_map]; rfl)
  have HSM := hid (fun (x : ByteArray) (hx : x ∈ WS) => (show x.size ≤ 1000000 from by
    have := hws.out x.data.toList (by rw [← hp1]; exact List.mem_map.2 ⟨x, hx, rfl⟩)
    have := size_data x
    omega))
  obtain ⟨M, hM⟩ : ∃ M, WS.length = M + 1 := ⟨WS.length - 1, by omega⟩
  rw [hM] at HCS
  have HM := hid hM
  have hM2 : M ≤ 2000 := by omega
  clear hWS hp1 hp2 hws hwl hsz hWl hWl0 hM
  have hY0 := Grow.empty w.heap.size 2 w (Nat.le_refl _)
  have hnY : New w (w.alloc (.cells #[] 2)) := (by repeat (first | with_reducible exact New.refl _ | with_reducible assumption | with_reducible refine New.alloc ?_ _ | with_reducible refine New.drewN ?_ _ | with_reducible refine New.drew ?_ | with_reducible refine New.trans ?_ (by with_reducible assumption)))
  have CS := HCS.out _ (hv.new hnY)
  rcases Nat.eq_zero_or_pos M with e0 | e0
  · subst e0
    have HN0 := hid (show numsI s.data.toList = [] by
      have : WS.tail = [] := List.eq_nil_of_length_eq_zero (by rw [List.length_tail, HM.out])
      rw [HNI.out, this]; rfl)
    have hO0 := hY0.own (by simp)
    go_enter Tryd.func13, Tryd.ntmps13
    go_wp2_with (go_at_call 12; refine CS.mono ?_; rintro e w1 ⟨rfl, hw1⟩; have hn1 : New w w1 := (by rw [hw1]; exact (by repeat (first | with_reducible exact New.refl _ | with_reducible assumption | with_reducible refine New.alloc ?_ _ | with_reducible refine New.drewN ?_ _ | with_reducible refine New.drew ?_ | with_reducible refine New.trans ?_ (by with_reducible assumption)))); have ho1 : OwnInts w.heap.size w1.heap.size w1 (.slice (some ⟨w.heap.size, 0, none⟩) 0 0) [] := (by rw [hw1]; exact (hO0.new (by repeat (first | with_reducible exact New.refl _ | with_reducible assumption | with_reducible refine New.alloc ?_ _ | with_reducible refine New.drewN ?_ _ | with_reducible refine New.drew ?_ | with_reducible refine New.trans ?_ (by with_reducible assumption)))).widen (Nat.le_refl _) (by (try simp only [sizes]) <;> omega)); clear hw1)
    go_loopw [3, 13] (fun ov iv wr => ov = .slice (some ⟨w.heap.size, 0, none⟩) 0 0 ∧ iv = .int .i64 0 ∧ wr = w1) (fun _ _ _ => 0)
    case atStart => exact ⟨rfl, rfl, rfl⟩
    case round =>
      obtain ⟨rfl, rfl, hwr⟩ := hrel
      obtain rfl : w1 = wr := hwr.symm
      clear hwr
      go_wp2_with fail
      go_ret
      rw [HN0.out]
      exact ⟨_, rfl, hn1, ho1⟩
  · have hM0 : ¬ M = 0 := by omega
    obtain ⟨sb, hsb⟩ : ∃ z, z = (w.alloc (.cells #[] 2)).heap.size := ⟨_, rfl⟩
    have hsb2 : sb = w.heap.size + 1 := by rw [hsb]; simp only [size_alloc]
    rw [← hsb] at CS
    have HSB := hid hsb2
    have hwsb : w.heap.size < sb := by omega
    have HMADE := hid (show StrsAt ((w.alloc (.cells #[] 2)).alloc (.cells (WS.map Value.string).toArray 9)) sb WS by rw [hsb]; exact StrsAt.made _ _ _)
    clear hsb hsb2
    go_enter Tryd.func13, Tryd.ntmps13
    go_wp2_with (go_at_call 12; refine CS.mono ?_; rintro e w1 ⟨rfl, hw1⟩; have hn1 : New w w1 := (by rw [hw1]; exact (by repeat (first | with_reducible exact New.refl _ | with_reducible assumption | with_reducible refine New.alloc ?_ _ | with_reducible refine New.drewN ?_ _ | with_reducible refine New.drew ?_ | with_reducible refine New.trans ?_ (by with_reducible assumption)))); have hs1 : StrsAt w1 sb WS := (by rw [hw1]; exact HMADE.out); have hG1 : Grow w.heap.size 2 w1 (.slice (some ⟨w.heap.size, 0, none⟩) 0 0) [] := (by rw [hw1]; exact hY0.new (by repeat (first | with_reducible exact New.refl _ | with_reducible assumption | with_reducible refine New.alloc ?_ _ | with_reducible refine New.drewN ?_ _ | with_reducible refine New.drew ?_ | with_reducible refine New.trans ?_ (by with_reducible assumption)))); clear hw1)
    have hlw := hs1
    have hsbw : sb < w1.heap.size := World.block_lt_of_cell? w1 _ (hs1 0 (by rw [HM.out]; omega))
    go_loopw [3, 13] (fun ov iv wr => ∃ i : Nat, i ≤ M ∧ iv = .int .i64 i ∧ New w wr ∧ StrsAt wr sb WS ∧ Grow w.heap.size 2 wr ov ((WS.tail.take i).map fun x => numI x.data.toList) ∧ Hid (∀ q, ov.ownBlock = some q → q ≠ sb)) (fun _ iv _ => M - (intOf iv).toNat)
    case atStart => exact ⟨0, Nat.zero_le _, rfl, hn1, hs1, hG1, hid (fun q hq => by cases hq; show w.heap.size ≠ sb; omega)⟩
    case round =>
      obtain ⟨i, hi, rfl, hn, hs, hG, HNB⟩ := hrel
      clear hs1 hG1 hn1 hlw
      obtain ⟨wo, rfl⟩ : ∃ wo : World, wo = wr := ⟨_, rfl⟩
      by_cases hlt : i < M
      · have b1 : (i : Int) < (M : Int) := by omega
        have hi1 : i + 1 < WS.length := by rw [HM.out]; omega
        have hx := hs (i + 1) hi1
        have hsbo := hid (show sb < wo.heap.size from World.block_lt_of_cell? wo _ hx)
        have hzo := hn.size
        obtain ⟨X, hX⟩ : ∃ X, X = WS[i + 1] := ⟨_, rfl⟩
        rw [← hX, Nat.add_comm i 1] at hx
        have hXs := HSM.out X (by rw [hX]; exact List.getElem_mem _)
        have HT := hid (show (WS.tail.take (i + 1)).map (fun x => numI x.data.toList) = (WS.tail.take i).map (fun x => numI x.data.toList) ++ [numI X.data.toList] by
          have hti : i < WS.tail.length := by rw [List.length_tail]; omega
          rw [List.take_succ_eq_append_getElem hti, List.map_append]
          congr 1
          rw [hX]
          simp)
        have hlen := hid (show ((WS.tail.take i).map fun x => numI x.data.toList).length = i by
          rw [List.length_map, List.length_take, List.length_tail, HM.out]; omega)
        obtain ⟨L, hL⟩ : ∃ L, L = (WS.tail.take i).map fun x => numI x.data.toList := ⟨_, rfl⟩
        rw [← hL] at hG HT hlen
        have hL2 : L.length ≤ 2001 := by have := hlen.out; omega
        have CP := hid (fun (w2 : World) (h2 : New wo w2) => strconv_ParseInt_at X hXs w2 (hv.new (hn.trans h2)))
        obtain ⟨AG, cG, rfl⟩ := hG.form
        obtain ⟨V, hV⟩ : ∃ V, V = numI X.data.toList := ⟨_, rfl⟩
        have CP2 := hid (fun (w2 : World) (h2 : New wo w2) => (show Calls Tryd.prog 23 #[.string X, .int .i64 10, .int .i64 64] w2 fun e w' => ∃ ev, e = .returned (.tuple #[.int .i64 V, ev]) ∧ New w2 w' from by rw [hV]; exact CP.out w2 h2))
        rw [← hV] at HT
        clear hX hL hV CP
        go_wp2_with (first
          | (go_at_call 23; refine (CP2.out _ (New.refl _)).mono ?_; rintro e w2 ⟨ev, rfl, hn2⟩; have hz2 : w.heap.size ≤ w2.heap.size := (hn.trans hn2).size; have hG2 := hG.new hn2)
          | (at_builtin; refine wpList_appV rfl _ _ _ rfl (B := w.heap.size) Tryd.underlying32 info_i64 rfl (by decide) rfl (.slice AG L.length cG) L.length _ rfl hG2 rfl (by omega) hz2 ?_; intro g9 cap9 w9 ho9 hg9 hl9))
        refine ⟨⟨i + 1, by omega, by go_num, New.app (a := w) (hn.trans hn2) hg9 hG2 (Nat.le_refl _), ?_, by rw [HT.out]; unfold Grow; simpa using ho9, hid ?_⟩, by simp [intOf]; omega⟩
        rotate_left
        · intro q hq
          have eq : g9 = q := by simpa [Value.ownBlock] using hq
          subst eq
          rcases hl9 with k | k
          · exact HNB.out _ k
          · have := hsbo.out; have := hn2.size; omega
        intro j hj
        exact hg9.cell (hn2.cell (hs j hj)) (fun e => by
          exact HNB.out sb e.symm rfl)
      · have e : i = M := by omega
        have HE := hid e
        have b1 : ¬ (i : Int) < (M : Int) := by omega
        clear e
        have hlen := hid (show ((WS.tail.take i).map fun x => numI x.data.toList).length ≤ 2001 by
          rw [List.length_map, List.length_take]; omega)
        go_wp2_with fail
        go_ret
        refine ⟨_, rfl, hn, ?_⟩
        rw [HNI.out]
        have ho := hG.own (by have := hlen.out; omega)
        have e2 : WS.tail.take i = WS.tail := by
          rw [List.take_of_length_le]
          rw [List.length_tail, HM.out, HE.out]; omega
        rw [e2] at ho
        exact ho

end Go.Proofs.YthbebnfhplacnaaDoor
