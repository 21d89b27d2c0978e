/- The reference cuts texts, and reads numbers. -/
import Derived.Test.YthbebnfhplacnaaDoorRows
import Derived.Test.YthbebnfhplacnaaDoorCore
import Derived.Test.YthbebnfhplacnaaDoorInfos
import Derived.Test.YthbebnfhplacnaaDoorPlains
import Derived.Test.YthbebnfhplacnaaDoorJoins
import Derived.Test.YthbebnfhplacnaaDoorPlainText
import Derived.Test.YthbebnfhplacnaaDoorShelfText
import Derived.Test.YthbebnfhplacnaaDoorTText1
import Derived.Test.YthbebnfhplacnaaDoorTText2
import Derived.Test.YthbebnfhplacnaaDoorMaps
import Derived.WalkKit
import Derived.WalkSpells
import Derived.WalkLawsBesides
import Derived.Deep.QuietTactic
import Derived.Deep.OwnRows
import Derived.BigQuiet
import Derived.KernelRfl
import Derived.Deep.RegionHeld3
import Derived.Deep.RegionLaw
namespace Go.Proofs.YthbebnfhplacnaaDoor
open Go.RowKit

theorem info_str : (Tryd.prog.info? 9).map (fun i => (i.zero, i.size, i.bytes)) = some (some (.string ByteArray.empty), 1, 16) := by kernel_rfl
def GrowT (B : Nat) (w : World) (v : Value) (ws : List ByteArray) : Prop := w.ownsRow B 9 1 v ws.length (ws.map Value.string)
theorem GrowT.empty (w : World) : GrowT w.heap.size (w.alloc (.cells #[] 9)) (.slice (some ⟨w.heap.size, 0, none⟩) 0 0) [] := by
  have := World.ownsRow_made (w := w) (base := w.heap.size) (e := 9) (size := 1) #[] 0 (Nat.le_refl _) (by simp) (by simp)
  exact this
theorem GrowT.new {B : Nat} {w w' : World} {v : Value} {ws : List ByteArray} (h : GrowT B w v ws) (hn : New w w') : GrowT B w' v ws := ownsRow_new h hn
theorem GrowT.block {B : Nat} {w : World} {v : Value} {ws : List ByteArray} (h : GrowT B w v ws) : ∀ k, v.ownBlock = some k → B ≤ k ∧ k < w.heap.size := World.ownsRow.lt h
theorem GrowT.form {B : Nat} {w : World} {v : Value} {ws : List ByteArray} (h : GrowT B w v ws) : ∃ A c, v = .slice A ws.length c := ownsRow_form h
theorem GrowT.strs {B : Nat} {w : World} {v : Value} {ws : List ByteArray} (h : GrowT B w v ws) (h0 : 0 < ws.length) : ∃ b c, v = .slice (some ⟨b, 0, none⟩) ws.length c ∧ B ≤ b ∧ b < w.heap.size ∧ StrsAt w b ws := by
  obtain ⟨b, hb, ⟨c, e⟩, h1, h2, _, _⟩ := ownsRow_cells h 0 (by simpa using h0)
  refine ⟨b, c, e, h1, h2, fun i hi => ?_⟩
  obtain ⟨b', hb', _, _, _, h3, _⟩ := ownsRow_cells h i (by simpa using hi)
  have e2 : b' = b := by rw [hb] at hb'; injection hb' with hb'; exact hb'.symm
  subst e2
  simpa using h3
set_option maxHeartbeats 1000000 in
theorem l01Split_any (s : ByteArray) (c : UInt8) (w : World) (hl : s.size ≤ 100000) :
    Calls Tryd.prog 9 #[.string s, .int .u8 (c.toNat : Int)] w fun e w' => ∃ r ws, e = .returned r ∧ New w w' ∧ GrowT w.heap.size w' r ws ∧ ws.map (·.data.toList) = splitC c s.data.toList := by
  have hsz := size_data s
  obtain ⟨L, hL⟩ : ∃ L, L = s.data.toList := ⟨_, rfl⟩
  have hLs : L.length = s.size := by rw [hL]; exact hsz.symm
  have HLS := hid hLs
  have hcb : c.toNat < 256 := c.toNat_lt
  obtain ⟨cn, hcn⟩ : ∃ cn : Nat, cn = c.toNat := ⟨_, rfl⟩
  have HIX := hid (show ∀ (i : Nat) (hi : i < L.length) (w1 : World), (Instr.index 9 (.string s) (.int .i64 i)).run Tryd.prog w1 = .ok (.int .u8 ((L[i]).toNat : Int)) w1 from fun i hi w1 => by
    have hi' : i < s.size := by omega
    rw [run_index_string (h := Tryd.underlying9), dif_pos ⟨by omega, by omega⟩]
    subst hL
    rfl)
  have HSL := hid (show ∀ (f i : Nat), f ≤ i → i ≤ L.length → (s.extract f i).data.toList = (L.drop f).take (i - f) from fun f i _ _ => by rw [Go.Lib.extract_data, ← hL])
  have hn : s.size ≤ 100000 := hl
  have hC := hid hcn
  rw [← hL, ← hcn]
  clear hsz hL hLs hcn
  have hY0 := GrowT.empty w
  have hnY : New w (w.alloc (.cells #[] 9)) := (by repeat (first | with_reducible exact New.refl _ | with_reducible assumption | with_reducible refine New.alloc ?_ _ | with_reducible refine New.drewN ?_ _ | with_reducible refine New.drew ?_ | with_reducible refine New.trans ?_ (by with_reducible assumption)))
  go_enter Tryd.func9, Tryd.ntmps9
  go_wp2_with fail
  go_loopw [5, 6, 7] (fun ov fv iv wr => ∃ (i f : Nat) (D : List ByteArray), i ≤ s.size ∧ f ≤ i ∧ iv = .int .i64 i ∧ fv = .int .i64 f ∧ D.length ≤ i ∧ New w wr ∧ GrowT w.heap.size wr ov D ∧ Hid (splitC c L = D.map (·.data.toList) ++ splitC c (L.drop f) ∧ c ∉ (L.drop f).take (i - f))) (fun _ _ iv _ => s.size - (intOf iv).toNat)
  case atStart => exact ⟨0, 0, [], Nat.zero_le _, Nat.le_refl _, rfl, rfl, Nat.zero_le _, hnY, hY0, hid ⟨by simp, by simp⟩⟩
  case round =>
    obtain ⟨i, f, D, hi, hf, rfl, rfl, hDl, hN, hG, hD⟩ := hrel
    clear hY0 hnY
    obtain ⟨wo, rfl⟩ : ∃ wo : World, wo = wr := ⟨_, rfl⟩
    obtain ⟨AG, cG, rfl⟩ := hG.form
    have hzo := hN.size
    by_cases hlt : i < s.size
    · have b1 : (i : Int) < (s.size : Int) := by omega
      have hiL : i < L.length := by rw [HLS.out]; exact hlt
      have hx := HIX.out i hiL
      have HB := hid (show L.drop f = (L.drop f).take (i - f) ++ L[i] :: L.drop (i + 1) by
        have h1 : (L.drop f).drop (i - f) = L.drop i := by rw [List.drop_drop]; congr 1; omega
        have h2 : L.drop i = L[i] :: L.drop (i + 1) := List.drop_eq_getElem_cons hiL
        rw [← h2, ← h1, List.take_append_drop])
      obtain ⟨B, hB⟩ : ∃ B, B = L[i] := ⟨_, rfl⟩
      rw [← hB] at hx HB
      obtain ⟨bn, hbn⟩ : ∃ bn : Nat, bn = B.toNat := ⟨_, rfl⟩
      have hbb : bn < 256 := by rw [hbn]; exact B.toNat_lt
      rw [← hbn] at hx
      by_cases hq : B = c
      · have hbc : bn = cn := by rw [hbn, hC.out, hq]
        subst hbc
        have HS := hid (show splitC c L = (D ++ [s.extract f i]).map (·.data.toList) ++ splitC c (L.drop (i + 1)) by
          rw [hD.out.1]
          conv => lhs; rw [HB.out, hq]
          rw [splitC_cons _ hD.out.2, List.map_append, List.append_assoc]
          congr 1
          show _ = (s.extract f i).data.toList :: _
          rw [HSL.out f i hf (by omega)]
          rfl)
        clear hB hbn hq HB
        go_wp2_with (at_builtin; refine wpList_appV rfl _ _ _ rfl (B := w.heap.size) Tryd.underlying30 info_str rfl (by decide) rfl (.slice AG D.length cG) D.length _ rfl hG rfl (by omega) hzo ?_; intro g9 cap9 w9 ho9 hg9 hl9)
        refine ⟨⟨i + 1, i + 1, D ++ [s.extract f i], by omega, Nat.le_refl _, by go_num, by go_num, by simp; omega, New.grown hN hg9 (fun q hq => (hG.block q hq).1), by unfold GrowT; simpa using ho9, hid ⟨HS.out, by simp⟩⟩, by simp [intOf]; omega⟩
      · have hne : ((bn : Int) == (cn : Int)) = false := by
          have h1 : bn ≠ cn := fun e => hq (by rw [hbn, hC.out] at e; exact UInt8.toNat_inj.1 e)
          have h2 : (bn : Int) ≠ (cn : Int) := by omega
          exact beq_false_of_ne h2
        have HS := hid (show c ∉ (L.drop f).take (i + 1 - f) by
          have e : (L.drop f).take (i + 1 - f) = (L.drop f).take (i - f) ++ [B] := by
            have hl2 : ((L.drop f).take (i - f)).length = i - f := by rw [List.length_take, List.length_drop]; omega
            conv => lhs; rw [HB.out]
            rw [List.take_append, hl2, show i + 1 - f - (i - f) = 1 by omega]
            rw [List.take_of_length_le (by omega)]
            rfl
          rw [e]
          intro hm
          rcases List.mem_append.1 hm with hm | hm
          · exact hD.out.2 hm
          · rw [List.mem_singleton] at hm; exact hq hm.symm)
        clear hB hbn hq HB
        go_wp2_with fail
        exact ⟨⟨i + 1, f, D, by omega, by omega, by go_num, rfl, by omega, hN, hG, hid ⟨hD.out.1, HS.out⟩⟩, by simp [intOf]; omega⟩
    · have e : i = s.size := by omega
      subst e
      have b1 : ¬ (s.size : Int) < (s.size : Int) := by omega
      have HS := hid (show splitC c L = (D ++ [s.extract f s.size]).map (·.data.toList) by
        have hno := hD.out.2
        have h1 : (L.drop f).take (s.size - f) = L.drop f := List.take_of_length_le (by rw [List.length_drop, HLS.out]; exact Nat.le_refl _)
        rw [h1] at hno
        rw [hD.out.1, splitC_none hno, List.map_append]
        congr 1
        show _ = [(s.extract f s.size).data.toList]
        rw [HSL.out f s.size hf (by rw [HLS.out]; exact Nat.le_refl _), h1])
      go_wp2_with (at_builtin; refine wpList_appV rfl _ _ _ rfl (B := w.heap.size) Tryd.underlying30 info_str rfl (by decide) rfl (.slice AG D.length cG) D.length _ rfl hG rfl (by omega) hzo ?_; intro g9 cap9 w9 ho9 hg9 hl9)
      go_ret
      exact ⟨_, rfl, New.grown hN hg9 (fun q hq => (hG.block q hq).1), D ++ [s.extract f s.size], by unfold GrowT; simpa using ho9, HS.out.symm⟩

end Go.Proofs.YthbebnfhplacnaaDoor
