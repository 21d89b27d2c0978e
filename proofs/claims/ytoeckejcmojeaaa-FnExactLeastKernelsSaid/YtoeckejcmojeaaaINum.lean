/- The program's divisions with their classes numbered in order; the kernel of a word. -/
import Derived.Test.YtoeckejcmojeaaaRows
import Derived.Test.YtoeckejcmojeaaaCore
import Derived.Test.YtoeckejcmojeaaaInfos
import Derived.Test.YtoeckejcmojeaaaMaps
import Derived.Test.YtoeckejcmojeaaaPlains
import Derived.Test.YtoeckejcmojeaaaPers
import Derived.Test.YtoeckejcmojeaaaIBase
import Derived.Test.YtoeckejcmojeaaaI01c
import Derived.WalkKit
import Derived.WalkSpells
import Derived.WalkLawsBesides
import Derived.Deep.QuietTactic
import Derived.Deep.OwnRows
import Derived.BigQuiet
import Derived.KernelRfl
import Derived.Carry
namespace Go.Proofs.Ytoeckejcmojeaaa
open Go.RowKit

/-- What the map of numbers holds. -/
def numF (acc : List Int) : Lit → Option Value
  | .int .i64 x => if hasB acc x = true then some (.int .i64 (placeOf acc x)) else none
  | _ => none
theorem numF_put (acc : List Int) (x : Int) (h : hasB acc x = false) (kl : Lit) : putF (numF acc) (.int .i64 x) (.int .i64 (acc.length : Nat)) kl = numF (acc ++ [x]) kl := by
  have hx : x ∉ acc := by rw [← hasB_iff, h]; simp
  unfold putF
  by_cases e : kl = .int .i64 x
  · subst e
    rw [if_pos rfl]
    simp only [numF]
    rw [if_pos ((hasB_iff _ _).2 (by simp)), placeOf_new _ _ hx]
  · rw [if_neg e]
    cases kl with
    | int q y =>
      cases q with
      | i64 =>
        have hne : y ≠ x := fun h => e (by rw [h])
        simp only [numF]
        have h1 : hasB (acc ++ [x]) y = hasB acc y := by rw [Bool.eq_iff_iff, hasB_iff, hasB_iff]; simp [hne]
        rw [h1]
        by_cases h2 : hasB acc y = true
        · rw [if_pos h2, if_pos h2, placeOf_left _ _ _ ((hasB_iff _ _).1 h2)]
        · rw [if_neg h2, if_neg h2]
      | _ => rfl
    | _ => rfl
theorem MapAt.len {P : Program} {K : TypeId} {w : World} {b s : Nat} {F : Lit → Option Value} (h : MapAt P K w b s F) {t e : TypeId} (ht : P.underlying t = some (.map K e)) (ty : TypeId) : Sem.run P (Builtin.len_ #[t] ty #[.map (some b)]) w = .ok (.int .i64 (s : Nat)) w := by
  obtain ⟨D, h1, h2, _⟩ := h
  have := h1.len ht ty
  rw [h2] at this
  exact this
theorem zero_i64 (w : World) : (zeroValue 2).run Try.prog w = .ok (.int .i64 0) w := by kernel_rfl
set_option maxRecDepth 20000 in
set_option maxHeartbeats 1000000 in
theorem numbered_any (v : Value) (xs : List Int) (w : World) (h : IntsAt w v xs) (hl : xs.length ≤ 1000) (hb : ∀ i, i < xs.length → -1000 ≤ nth xs i ∧ nth xs i ≤ 1000) :
    Calls Try.prog 45 #[v] w fun e w' => ∃ r, e = .returned r ∧ New w w' ∧ OwnInts w.heap.size w'.heap.size w' r (tidyOf xs) := by
  obtain ⟨A, c, rfl, hl', hc⟩ := h
  have hmm := @run_makeMap Try.prog
  have HB := hid hb
  clear hb
  have law : Go.Maps.Keyed Try.prog 2 := Go.Maps.int_keyed Try.underlying2
  go_enter Try.func45, Try.ntmps45
  go_wp2
  go_loopw [3, 13] (fun o i wr => ∃ k : Nat, k ≤ xs.length ∧ i = .int .i64 k ∧ MapAt Try.prog 2 wr (w.heap.size + 1) (firsts (xs.take k)).length (numF (firsts (xs.take k))) ∧ Grow w.heap.size 2 wr o (tidyTo xs k) ∧ o.ownBlock ≠ some (w.heap.size + 1) ∧ New w wr) (fun _ i _ => xs.length - (intOf i).toNat)
  case atStart =>
    have h1 := MapAt.made Try.prog 2 (w.alloc (.cells #[] 2))
    simp only [size_alloc] at h1
    refine ⟨0, Nat.zero_le _, rfl, h1.eqF fun kl _ => ?_, (Grow.empty _ _ _ (Nat.le_refl _)).new (by repeat (first | with_reducible exact New.refl _ | with_reducible assumption | with_reducible refine New.alloc ?_ _ | with_reducible refine New.drew ?_ | with_reducible refine New.drewN ?_ _ | with_reducible refine New.setCell ?_ (by simp <;> omega) _)), by simp [Value.ownBlock], (by repeat (first | with_reducible exact New.refl _ | with_reducible assumption | with_reducible refine New.alloc ?_ _ | with_reducible refine New.drew ?_ | with_reducible refine New.drewN ?_ _ | with_reducible refine New.setCell ?_ (by simp <;> omega) _))⟩
    cases kl with
    | int q y => cases q <;> simp [numF, firsts, hasB]
    | _ => rfl
  case round =>
    obtain ⟨k, hk, rfl, hm, ho, hob, hn⟩ := hrel
    by_cases hlt : k < xs.length
    · have b1 : (k : Int) < (xs.length : Int) := by omega
      obtain ⟨b, off, rfl, hx⟩ := hc k hlt
      have hkx := hx
      replace hx := hn.cell hx
      have hbx := HB.out k hlt
      have hkey : keyOf Try.prog 2 (.int .i64 (nth xs k)) = some (.int .i64 (nth xs k)) := Go.Maps.keyOf_int_mk Try.underlying2 (by simp [Lit.wf, IntKind.min, IntKind.max, IntKind.bits, IntKind.signed]; omega)
      have hlk := (hm.look law Try.underlying119 (zero_i64 wr) hkey).2
      have hfl := firsts_len (xs.take k)
      rw [List.length_take, Nat.min_eq_left hk] at hfl
      have HT := hid (tidyTo_succ xs k)
      have HF := hid (firsts_take xs k hlt)
      have HGL := hid (tidyTo_len xs k)
      have hzw := hn.size
      have hmlt := hm.lt
      obtain ⟨acc, hacc⟩ : ∃ acc, acc = firsts (xs.take k) := ⟨_, rfl⟩
      rw [← hacc] at hm hlk hfl HF
      clear hc hacc
      obtain ⟨Ao, co, rfl⟩ := ho.form
      have hob' := ho.block
      cases hh : hasB acc (nth xs k) with
      | true =>
        have hv : numF acc (.int .i64 (nth xs k)) = some (.int .i64 (placeOf acc (nth xs k))) := by simp only [numF]; rw [if_pos hh]
        have hlk2 := (hm.look law Try.underlying119 (zero_i64 wr) hkey).1
        rw [hv] at hlk hlk2
        have hF : firsts (xs.take (k + 1)) = acc := by rw [HF.out, addNew, if_pos hh]
        have HF2 := hid hF
        replace hlk : (Instr.lookup 119 (.map (some (w.heap.size + 1))) (.int .i64 (nth xs k)) true).run Try.prog wr = .ok (.tuple #[.int .i64 (placeOf acc (nth xs k)), .bool true]) wr := hlk
        replace hlk2 : (Instr.lookup 119 (.map (some (w.heap.size + 1))) (.int .i64 (nth xs k)) false).run Try.prog wr = .ok (.int .i64 (placeOf acc (nth xs k))) wr := hlk2
        clear hh hF hv
        go_wp2_with (at_builtin; refine wpList_appV rfl _ _ _ rfl (B := w.heap.size) Try.underlying42 info_i64 rfl (by decide) rfl (.slice Ao (tidyTo xs k).length co) (tidyTo xs k).length _ rfl ho rfl (by have := HGL.out; omega) (by omega) ?_; intro g cap w2 ho2 hg2 hloc2)
        go_roundw
        case rel =>
          refine ⟨k + 1, by omega, by go_num, ?_, ?_, ?_, New.grown hn hg2 (fun q hq => (hob' q hq).1)⟩
          · rw [HF2.out]; exact hm.kept hg2 (fun e => hob e.symm)
          · rw [HT.out, HF2.out]
            have : Grow w.heap.size 2 w2 (.slice (some ⟨g, 0, none⟩) ((tidyTo xs k).length + 1) cap) (tidyTo xs k ++ [placeOf acc (nth xs k)]) := by simpa [Grow] using ho2
            exact this
          · intro e
            simp [Value.ownBlock] at e
            rcases hloc2 with h | h
            · rw [e] at h; exact hob h
            · omega
        case measure => simp [intOf]; omega
      | false =>
        have hx' : nth xs k ∉ acc := by rw [← hasB_iff, hh]; simp
        have hv : numF acc (.int .i64 (nth xs k)) = none := by simp only [numF]; rw [if_neg (by rw [hh]; simp)]
        rw [hv] at hlk
        have hF : firsts (xs.take (k + 1)) = acc ++ [nth xs k] := by rw [HF.out, addNew, if_neg (by rw [hh]; simp)]
        have HF2 := hid hF
        have hP := placeOf_new acc _ hx'
        have HP := hid hP
        replace hlk : (Instr.lookup 119 (.map (some (w.heap.size + 1))) (.int .i64 (nth xs k)) true).run Try.prog wr = .ok (.tuple #[.int .i64 0, .bool false]) wr := hlk
        obtain ⟨w5, hrun, hm5, hg5⟩ := hm.put_spec (val := .int .i64 (acc.length : Nat)) law Try.underlying119 (by unfold maxLen; omega) hkey
        rw [hv] at hm5
        replace hm5 : MapAt Try.prog 2 w5 (w.heap.size + 1) (acc.length + 1) (numF (acc ++ [nth xs k])) := MapAt.eqF hm5 fun kl _ => numF_put acc (nth xs k) hh kl
        have hlk5 := (hm5.look law Try.underlying119 (zero_i64 w5) hkey).1
        have hv5 : numF (acc ++ [nth xs k]) (.int .i64 (nth xs k)) = some (.int .i64 (acc.length : Nat)) := by simp only [numF]; rw [if_pos ((hasB_iff _ _).2 (by simp)), hP]
        rw [hv5] at hlk5
        replace hlk5 : (Instr.lookup 119 (.map (some (w.heap.size + 1))) (.int .i64 (nth xs k)) false).run Try.prog w5 = .ok (.int .i64 (acc.length : Nat)) w5 := hlk5
        have ho5 : Grow w.heap.size 2 w5 (.slice Ao (tidyTo xs k).length co) (tidyTo xs k) := hm.ownsRow hg5 ho
        have hn5 : New w w5 := New.grown hn hg5 (fun q hq => by cases hq; omega)
        have hs5 := hg5.size
        have hob5 := ho5.block
        have hlen := hm.len Try.underlying119 3
        clear hh hF hv hP hv5 hm
        go_wp2_with (first
          | (at_builtin; refine wpList_appV rfl _ _ _ rfl (B := w.heap.size) Try.underlying42 info_i64 rfl (by decide) rfl (.slice Ao (tidyTo xs k).length co) (tidyTo xs k).length _ rfl ho5 rfl (by have := HGL.out; omega) (by omega) ?_; intro g cap w2 ho2 hg2 hloc2))
        go_roundw
        case rel =>
          refine ⟨k + 1, by omega, by go_num, ?_, ?_, ?_, New.grown hn5 hg2 (fun q hq => (hob5 q hq).1)⟩
          · rw [HF2.out, List.length_append]; exact hm5.kept hg2 (fun e => hob e.symm)
          · rw [HT.out, HF2.out, HP.out]
            have : Grow w.heap.size 2 w2 (.slice (some ⟨g, 0, none⟩) ((tidyTo xs k).length + 1) cap) (tidyTo xs k ++ [(acc.length : Int)]) := by simpa [Grow] using ho2
            exact this
          · intro e
            simp [Value.ownBlock] at e
            rcases hloc2 with h | h
            · rw [e] at h; exact hob h
            · omega
        case measure => simp [intOf]; omega
    · have e : k = xs.length := by omega
      subst e
      go_wp2
      go_ret
      exact ⟨_, rfl, hn, ho.own (by rw [tidyTo_len]; omega)⟩

end Go.Proofs.Ytoeckejcmojeaaa
