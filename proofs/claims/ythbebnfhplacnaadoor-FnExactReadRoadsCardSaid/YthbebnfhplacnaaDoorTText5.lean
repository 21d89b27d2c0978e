/- The reference reads a number. -/
import Derived.Test.YthbebnfhplacnaaDoorRows
import Derived.Test.YthbebnfhplacnaaDoorCore
import Derived.Test.YthbebnfhplacnaaDoorInfos
import Derived.Test.YthbebnfhplacnaaDoorPlains
import Derived.Test.YthbebnfhplacnaaDoorJoins
import Derived.Test.YthbebnfhplacnaaDoorPlainText
import Derived.Test.YthbebnfhplacnaaDoorShelfText
import Derived.Test.YthbebnfhplacnaaDoorTText1
import Derived.Test.YthbebnfhplacnaaDoorTText2
import Derived.Test.YthbebnfhplacnaaDoorTText4
import Derived.Test.YthbebnfhplacnaaDoorMaps
import Derived.WalkKit
import Derived.WalkSpells
import Derived.WalkLawsBesides
import Derived.Deep.QuietTactic
import Derived.Deep.OwnRows
import Derived.BigQuiet
import Derived.KernelRfl
import Derived.Deep.RegionHeld3
import Derived.Deep.RegionLaw
namespace Go.Proofs.YthbebnfhplacnaaDoor
open Go.RowKit

def numR (w : List UInt8) : Int × Bool := match numS w with
  | some n => (n, true)
  | none => (0, false)
def foldN (L : List UInt8) : Int := L.foldl (fun n b => n * 10 + ((b.toNat : Int) - 48)) 0
def digB (b : UInt8) : Prop := 48 ≤ b.toNat ∧ b.toNat ≤ 57
theorem foldN_snoc (L : List UInt8) (b : UInt8) : foldN (L ++ [b]) = foldN L * 10 + ((b.toNat : Int) - 48) := by
  unfold foldN; rw [List.foldl_append]; rfl
theorem foldN_take {L : List UInt8} {i : Nat} (hi : i < L.length) : foldN (L.take (i + 1)) = foldN (L.take i) * 10 + (((L[i]).toNat : Int) - 48) := by
  rw [List.take_succ_eq_append_getElem hi, foldN_snoc]
theorem foldN_bound (L : List UInt8) : ∀ i, i ≤ L.length → i ≤ 9 → (∀ b, b ∈ L.take i → digB b) → 0 ≤ foldN (L.take i) ∧ foldN (L.take i) < (10 : Int) ^ i
  | 0, _, _, _ => by simp [foldN]
  | i + 1, h1, h2, h3 => by
    have hi : i < L.length := by omega
    have h3' := h3
    rw [List.take_succ_eq_append_getElem hi] at h3'
    have ih := foldN_bound L i (by omega) (by omega) (fun b hb => h3' b (List.mem_append_left _ hb))
    have hd := h3' (L[i]) (List.mem_append_right _ (List.mem_singleton.2 rfl))
    rw [foldN_take hi, Int.pow_succ]
    unfold digB at hd
    omega
theorem foldN_small (L : List UInt8) (i : Nat) (h1 : i ≤ L.length) (h2 : i ≤ 8) (h3 : ∀ b, b ∈ L.take i → digB b) : 0 ≤ foldN (L.take i) ∧ foldN (L.take i) < 100000000 := by
  have h := foldN_bound L i h1 (by omega) h3
  have h4 : (10 : Int) ^ i ≤ 100000000 := by
    rcases (show i = 0 ∨ i = 1 ∨ i = 2 ∨ i = 3 ∨ i = 4 ∨ i = 5 ∨ i = 6 ∨ i = 7 ∨ i = 8 by omega) with e | e | e | e | e | e | e | e | e <;> rw [e] <;> decide
  omega
theorem numR_short {L : List UInt8} (h : L.length < 1 ∨ 9 < L.length ∨ (L.head? = some 48 ∧ 1 < L.length)) : numR L = (0, false) := by
  unfold numR numS; rw [if_pos h]
theorem numR_bad {L : List UInt8} {b : UInt8} (hm : b ∈ L) (hb : ¬ digB b) : numR L = (0, false) := by
  unfold numR numS
  split
  · rename_i n e
    split at e
    · cases e
    · rw [if_neg (fun q => hb (by have := List.all_eq_true.1 q b hm; simpa [digB] using this))] at e; cases e
  · rfl
theorem numR_good {L : List UInt8} (h : ¬ (L.length < 1 ∨ 9 < L.length ∨ (L.head? = some 48 ∧ 1 < L.length))) (hd : ∀ b, b ∈ L → digB b) : numR L = (foldN L, true) := by
  unfold numR numS
  rw [if_neg h, if_pos (List.all_eq_true.2 (fun b hb => by have := hd b hb; simpa [digB] using this))]
  rfl
set_option maxHeartbeats 1000000 in
theorem l01Number_any (s : ByteArray) (w : World) (hl : s.size ≤ 100000) :
    Calls Tryd.prog 20 #[.string s] w fun e w' => e = .returned (.tuple #[.int .i64 (numR s.data.toList).1, .bool (numR s.data.toList).2]) ∧ New w w' := by
  have hsz := size_data s
  obtain ⟨L, hL⟩ : ∃ L, L = s.data.toList := ⟨_, rfl⟩
  have hLs : L.length = s.size := by rw [hL]; exact hsz.symm
  have HLS := hid hLs
  have HIX := hid (show ∀ (i : Nat) (hi : i < L.length) (w1 : World), (Instr.index 9 (.string s) (.int .i64 i)).run Tryd.prog w1 = .ok (.int .u8 ((L[i]).toNat : Int)) w1 from fun i hi w1 => by
    have hi' : i < s.size := by omega
    rw [run_index_string (h := Tryd.underlying9), dif_pos ⟨by omega, by omega⟩]
    subst hL
    rfl)
  rw [← hL]
  clear hsz hL
  by_cases h1 : s.size < 1
  · have b1 : (s.size : Int) < 1 := by omega
    have HE := hid (numR_short (L := L) (Or.inl (by omega)))
    clear hLs
    go_enter Tryd.func20, Tryd.ntmps20
    go_wp2_with fail
    go_ret2
    rw [HE.out]
    exact ⟨rfl, New.refl _⟩
  have b1 : ¬ (s.size : Int) < 1 := by omega
  by_cases h9 : 9 < s.size
  · have b9 : (9 : Int) < (s.size : Int) := by omega
    have HE := hid (numR_short (L := L) (Or.inr (Or.inl (by omega))))
    clear hLs
    go_enter Tryd.func20, Tryd.ntmps20
    go_wp2_with fail
    go_ret2
    rw [HE.out]
    exact ⟨rfl, New.refl _⟩
  have b9 : ¬ (9 : Int) < (s.size : Int) := by omega
  have h0 : 0 < L.length := by omega
  have hx0 : ∀ w1 : World, (Instr.index 9 (.string s) (.int .i64 0)).run Tryd.prog w1 = .ok (.int .u8 ((L[0]).toNat : Int)) w1 := HIX.out 0 h0
  have HH := hid (show L.head? = some L[0] by cases L with | nil => simp at h0 | cons a l => rfl)
  obtain ⟨B0, hB0⟩ : ∃ B, B = L[0] := ⟨_, rfl⟩
  rw [← hB0] at hx0 HH
  obtain ⟨n0, hn0⟩ : ∃ n : Nat, n = B0.toNat := ⟨_, rfl⟩
  rw [← hn0] at hx0
  have HN0 := hid hn0
  clear hB0 hn0
  by_cases hz : n0 = 48
  · subst hz
    by_cases h2 : 1 < s.size
    · have b2 : (1 : Int) < (s.size : Int) := by omega
      have HE := hid (numR_short (L := L) (Or.inr (Or.inr ⟨by rw [HH.out]; congr 1; exact UInt8.toNat_inj.1 HN0.out.symm, by omega⟩)))
      clear hLs
      go_enter Tryd.func20, Tryd.ntmps20
      go_wp2_with fail
      go_ret2
      rw [HE.out]
      exact ⟨rfl, New.refl _⟩
    · skip
      have b2 : ¬ (1 : Int) < (s.size : Int) := by omega
      have HG := hid (show ¬ (L.length < 1 ∨ 9 < L.length ∨ (L.head? = some 48 ∧ 1 < L.length)) by rw [hLs]; omega)
      clear hLs
      go_enter Tryd.func20, Tryd.ntmps20
      go_wp2_with fail
      go_loopw [4, 5] (fun nv iv wr => ∃ i : Nat, i ≤ s.size ∧ iv = .int .i64 i ∧ nv = .int .i64 (foldN (L.take i)) ∧ wr = w ∧ Hid (∀ b, b ∈ L.take i → digB b)) (fun _ iv _ => s.size - (intOf iv).toNat)
      case atStart => exact ⟨0, Nat.zero_le _, rfl, rfl, rfl, hid (by simp)⟩
      case round =>
        obtain ⟨i, hi, rfl, rfl, hwr, HD⟩ := hrel
        obtain rfl : w = wr := hwr.symm
        clear hwr
        by_cases hlt : i < s.size
        · have c1 : (i : Int) < (s.size : Int) := by omega
          have hiL : i < L.length := by rw [HLS.out]; exact hlt
          have hx := HIX.out i hiL
          have HM := hid (show L[i] ∈ L from List.getElem_mem hiL)
          have HT := hid (foldN_take hiL)
          have HS := hid (foldN_small L i (by omega) (by omega) HD.out)
          have HTK := hid (show L.take (i + 1) = L.take i ++ [L[i]] from List.take_succ_eq_append_getElem hiL)
          obtain ⟨B, hB⟩ : ∃ B, B = L[i] := ⟨_, rfl⟩
          rw [← hB] at hx HM HT HTK
          obtain ⟨bn, hbn⟩ : ∃ bn : Nat, bn = B.toNat := ⟨_, rfl⟩
          rw [← hbn] at hx HT
          have HBN := hid hbn
          clear hB hbn
          by_cases hd1 : bn < 48
          · have d1 : (bn : Int) < 48 := by omega
            have HE := hid (numR_bad HM.out (fun q => by unfold digB at q; have := HBN.out; omega))
            go_wp2_with fail
            go_ret2
            rw [HE.out]
            exact ⟨rfl, New.refl _⟩
          have d1 : ¬ (bn : Int) < 48 := by omega
          by_cases hd2 : 57 < bn
          · have d2 : (57 : Int) < (bn : Int) := by omega
            have HE := hid (numR_bad HM.out (fun q => by unfold digB at q; have := HBN.out; omega))
            go_wp2_with fail
            go_ret2
            rw [HE.out]
            exact ⟨rfl, New.refl _⟩
          have d2 : ¬ (57 : Int) < (bn : Int) := by omega
          obtain ⟨F, hF⟩ : ∃ F, F = foldN (L.take i) := ⟨_, rfl⟩
          rw [← hF] at HT HS ⊢
          have hF0 := HS.out.1
          have hF1 := HS.out.2
          have HBd := hid (show digB B from by unfold digB; have := HBN.out; omega)
          clear hF
          go_wp2_with fail
          refine ⟨⟨i + 1, by omega, by go_num, ?_, (by first | rfl | trivial), hid ?_⟩, by simp [intOf]; omega⟩
          · rw [HT.out]
          · intro b hb
            rw [HTK.out] at hb
            rcases List.mem_append.1 hb with hb | hb
            · exact HD.out b hb
            · rw [List.mem_singleton] at hb; rw [hb]; exact HBd.out
        · have e : i = s.size := by omega
          have HI := hid (show L.take i = L by rw [List.take_of_length_le (by rw [HLS.out]; omega)])
          have c1 : ¬ (i : Int) < (s.size : Int) := by omega
          have HE := hid (numR_good HG.out (fun b hb => HD.out b (by rw [HI.out]; exact hb)))
          clear e
          go_wp2_with fail
          go_ret2
          rw [HE.out, HI.out]
          exact ⟨rfl, New.refl _⟩
  · skip
    have hz' : ((n0 : Int) == 48) = false := beq_false_of_ne (by omega)
    have HG := hid (show ¬ (L.length < 1 ∨ 9 < L.length ∨ (L.head? = some 48 ∧ 1 < L.length)) by
      rw [hLs, HH.out]
      rintro (q | q | ⟨q, _⟩)
      · omega
      · omega
      · have := HN0.out
        simp at q
        rw [q] at this
        exact hz this)
    clear hLs
    go_enter Tryd.func20, Tryd.ntmps20
    go_wp2_with fail
    go_loopw [4, 5] (fun nv iv wr => ∃ i : Nat, i ≤ s.size ∧ iv = .int .i64 i ∧ nv = .int .i64 (foldN (L.take i)) ∧ wr = w ∧ Hid (∀ b, b ∈ L.take i → digB b)) (fun _ iv _ => s.size - (intOf iv).toNat)
    case atStart => exact ⟨0, Nat.zero_le _, rfl, rfl, rfl, hid (by simp)⟩
    case round =>
      obtain ⟨i, hi, rfl, rfl, hwr, HD⟩ := hrel
      obtain rfl : w = wr := hwr.symm
      clear hwr
      by_cases hlt : i < s.size
      · have c1 : (i : Int) < (s.size : Int) := by omega
        have hiL : i < L.length := by rw [HLS.out]; exact hlt
        have hx := HIX.out i hiL
        have HM := hid (show L[i] ∈ L from List.getElem_mem hiL)
        have HT := hid (foldN_take hiL)
        have HS := hid (foldN_small L i (by omega) (by omega) HD.out)
        have HTK := hid (show L.take (i + 1) = L.take i ++ [L[i]] from List.take_succ_eq_append_getElem hiL)
        obtain ⟨B, hB⟩ : ∃ B, B = L[i] := ⟨_, rfl⟩
        rw [← hB] at hx HM HT HTK
        obtain ⟨bn, hbn⟩ : ∃ bn : Nat, bn = B.toNat := ⟨_, rfl⟩
        rw [← hbn] at hx HT
        have HBN := hid hbn
        clear hB hbn
        by_cases hd1 : bn < 48
        · have d1 : (bn : Int) < 48 := by omega
          have HE := hid (numR_bad HM.out (fun q => by unfold digB at q; have := HBN.out; omega))
          go_wp2_with fail
          go_ret2
          rw [HE.out]
          exact ⟨rfl, New.refl _⟩
        have d1 : ¬ (bn : Int) < 48 := by omega
        by_cases hd2 : 57 < bn
        · have d2 : (57 : Int) < (bn : Int) := by omega
          have HE := hid (numR_bad HM.out (fun q => by unfold digB at q; have := HBN.out; omega))
          go_wp2_with fail
          go_ret2
          rw [HE.out]
          exact ⟨rfl, New.refl _⟩
        have d2 : ¬ (57 : Int) < (bn : Int) := by omega
        obtain ⟨F, hF⟩ : ∃ F, F = foldN (L.take i) := ⟨_, rfl⟩
        rw [← hF] at HT HS ⊢
        have hF0 := HS.out.1
        have hF1 := HS.out.2
        have HBd := hid (show digB B from by unfold digB; have := HBN.out; omega)
        clear hF
        go_wp2_with fail
        refine ⟨⟨i + 1, by omega, by go_num, ?_, (by first | rfl | trivial), hid ?_⟩, by simp [intOf]; omega⟩
        · rw [HT.out]
        · intro b hb
          rw [HTK.out] at hb
          rcases List.mem_append.1 hb with hb | hb
          · exact HD.out b hb
          · rw [List.mem_singleton] at hb; rw [hb]; exact HBd.out
      · have e : i = s.size := by omega
        have HI := hid (show L.take i = L by rw [List.take_of_length_le (by rw [HLS.out]; omega)])
        have c1 : ¬ (i : Int) < (s.size : Int) := by omega
        have HE := hid (numR_good HG.out (fun b hb => HD.out b (by rw [HI.out]; exact hb)))
        clear e
        go_wp2_with fail
        go_ret2
        rw [HE.out, HI.out]
        exact ⟨rfl, New.refl _⟩

end Go.Proofs.YthbebnfhplacnaaDoor
