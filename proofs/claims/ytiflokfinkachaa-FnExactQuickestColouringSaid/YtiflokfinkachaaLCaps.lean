/- The laws' own copies of roads: no row is longer than its capacity. -/
import Derived.Test.YtiflokfinkachaaRows
import Derived.Test.YtiflokfinkachaaCore
import Derived.Test.YtiflokfinkachaaLLaws
import Derived.Test.YtiflokfinkachaaSArr
import Derived.Test.YtiflokfinkachaaSChoices
import Derived.Test.YtiflokfinkachaaSRef
import Derived.WalkKit
import Derived.WalkSpells
import Derived.WalkLawsBesides
import Derived.Deep.QuietTactic
import Derived.Deep.OwnRows
import Derived.BigQuiet
import Derived.KernelRfl
namespace Go.Proofs.Ytiflokfinkachaa
open Go.RowKit

/-- Each row of the table is a slice that isn't longer than its capacity. -/
def Caps (w : World) (v : Value) : Prop := ∀ b off n c, v = .slice (some ⟨b, off, none⟩) n c → ∀ i, i < n → ∃ rv, w.cell? ⟨b, off + i, none⟩ = some rv ∧ CapAt rv
theorem Caps.within {B E B' E' : Nat} {w w' : World} {v : Value} {xss : List (List Int)} (h : Caps w v) (ho : OwnRows B E w v xss) (hw : Within B' E' w w') (hd : E ≤ B' ∨ E' ≤ B) : Caps w' v := by
  intro b off n c e i hi
  obtain ⟨rv, h1, h2⟩ := h b off n c e i hi
  obtain ⟨A, c', _, e', _, ha, _⟩ := ho
  rw [e'] at e
  injection e with e1 _ _
  have := ha _ e1
  exact ⟨rv, hw.cell h1 (by simp only at this ⊢; omega), h2⟩
theorem Caps.rows {B E : Nat} {w : World} {v : Value} {xss : List (List Int)} (ho : OwnRows B E w v xss) (h : Caps w v) : CapRows w v xss := by
  obtain ⟨A, c, rv, rfl, hl, ha, hc, _⟩ := ho
  refine ⟨A, c, rfl, by omega, fun i hi => ?_⟩
  obtain ⟨⟨b, off, rfl, hx, _⟩, hr⟩ := hc i hi
  obtain ⟨q, h1, h2⟩ := h b off _ _ rfl i hi
  rw [hx] at h1
  cases h1
  exact ⟨b, off, rv i, rfl, hx, hr.at, h2⟩
set_option maxHeartbeats 400000 in
theorem toInt64SC_any (v : Value) (xs : List Int) (w : World) (h1 : IntsAt w v xs) (hb : xs.length ≤ 1048576) :
    Calls Try.prog 174 #[v] w fun e w' => ∃ r, e = .returned r ∧ New w w' ∧ OwnInts w.heap.size w'.heap.size w' r xs ∧ CapAt r := by
  obtain ⟨A, c, rfl, hl1, hc1⟩ := h1
  have hmk := fun w => run_make_row' (P := Try.prog) 26 2 (.int .i64 0) 8 Try.underlying26 info_i64 rfl .i64 .i64 xs.length (by omega) (by omega) w
  go_enter Try.func174, Try.ntmps174
  go_wp2
  go_loopw [4] (fun i wr => ∃ k : Nat, k ≤ xs.length ∧ i = .int .i64 k ∧ wr.rowIs w.heap.size 2 xs.length (fun j => .int .i64 (if j < k then nth xs j else 0)) ∧ New w wr) (fun i _ => xs.length - (intOf i).toNat)
  case atStart => exact ⟨0, Nat.zero_le _, rfl, (World.rowIs_made _ _ _ _).congr (fun i _ => by simp), (New.refl _).alloc _⟩
  case round =>
    obtain ⟨k, hk, rfl, hrow, hw⟩ := hrel
    by_cases hlt : k < xs.length
    · obtain ⟨b, off, rfl, hx⟩ := hc1 k hlt
      replace hx := hw.cell hx
      have b1 : (k : Int) < (xs.length : Int) := by omega
      have hcell := hrow.cell hlt
      have hfr := hrow.frozen k
      have HROW := hid hrow
      clear hrow
      go_wp2
      go_roundw
      case rel => exact ⟨k + 1, by omega, by go_num, (HROW.out.set k _).congr (fun j hj => by
            by_cases e : j = k
            · subst e; simp
            · have : j < k + 1 ↔ j < k := by omega
              simp [e, this]), hw.setCell (Nat.le_refl _) _⟩
      case measure => simp [intOf]; omega
    · have e : k = xs.length := by omega
      subst e
      go_wp2
      go_ret
      refine ⟨_, rfl, hw, ⟨some ⟨w.heap.size, 0, none⟩, xs.length, rfl, by omega, fun a ha => ?_, fun i hi => ⟨_, _, rfl, ?_, ?_⟩⟩, fun A m c e => by injection e with _ e1 e2; omega⟩
      · cases ha; exact ⟨Nat.le_refl _, hrow.lt⟩
      · have := hrow.cell hi
        simpa [hi] using this
      · exact hrow.frozen _

set_option maxHeartbeats 400000 in
theorem toInt64SSC_any (v : Value) (xss : List (List Int)) (w : World) (h1 : RowsAt w v xss) (hb : xss.length ≤ 1048576) (hbb : ∀ i, i < xss.length → (nth xss i).length ≤ 1048576) :
    Calls Try.prog 82 #[v] w fun e w' => ∃ r, e = .returned r ∧ New w w' ∧ OwnRows w.heap.size w'.heap.size w' r xss ∧ Caps w' r := by
  obtain ⟨A, c, rfl, hl1, hc1⟩ := h1
  have hmk := fun w => run_make_row' (P := Try.prog) 22 26 (.slice none 0 0) 24 Try.underlying22 info_ints rfl .i64 .i64 xss.length (by omega) (by omega) w
  go_enter Try.func82, Try.ntmps82
  go_wp2
  go_loopw [4] (fun i wr => ∃ (k : Nat) (rv : Nat → Value), k ≤ xss.length ∧ i = .int .i64 k ∧ wr.rowIs w.heap.size 26 xss.length (fun j => if j < k then rv j else .slice none 0 0) ∧
      (∀ j, j < k → OwnInts (w.heap.size + 1) wr.heap.size wr (rv j) (nth xss j)) ∧ (∀ i j, i < j → j < k → (rv i).ownBlock ≠ (rv j).ownBlock ∨ (rv i).ownBlock = none) ∧ (∀ j, j < k → CapAt (rv j)) ∧ New w wr) (fun i _ => xss.length - (intOf i).toNat)
  case atStart => exact ⟨0, fun _ => default, Nat.zero_le _, rfl, (World.rowIs_made _ _ _ _).congr (fun i _ => by simp), fun j hj => absurd hj (by omega), fun i j _ hj => absurd hj (by omega), fun j hj => absurd hj (by omega), (New.refl _).alloc _⟩
  case round =>
    obtain ⟨k, rv, hk, rfl, hrow, hown, hdis, hcap, hw⟩ := hrel
    by_cases hlt : k < xss.length
    · obtain ⟨b, off, v, rfl, hx, hr⟩ := hc1 k hlt
      replace hx := hw.cell hx
      replace hr := hr.new hw
      have b1 : (k : Int) < (xss.length : Int) := by omega
      have hcell := hrow.cell hlt
      have hfr := hrow.frozen k
      have hlt' := hrow.lt
      have HROW := hid hrow
      have HOWN := hid hown
      have HDIS := hid hdis
      have HCAP := hid hcap
      clear hrow hown hdis hcap
      go_wp2_with (go_at_call 174; refine (toInt64SC_any _ _ _ hr (hbb k hlt)).mono ?_; rintro e w1 ⟨r, rfl, hn1, ho1, hcp1⟩; obtain ⟨A1, c1, rfl⟩ := ho1.form; replace hcell := hn1.cell hcell; replace hfr := (Below.frozen (p := ⟨w.heap.size, k, none⟩) hn1 hlt').trans hfr)
      go_roundw
      case rel =>
        have hrow1 := HROW.out.of_block (w' := w1) (hn1.block _ hlt')
        refine ⟨k + 1, fun j => if j = k then .slice A1 (nth xss k).length c1 else rv j, by omega, by go_num, (hrow1.set k _).congr (fun j hj => ?_), fun j hj => ?_, fun i j hij hj => ?_, fun j hj => ?_, (hw.trans hn1).setCell (Nat.le_refl _) _⟩
        · by_cases e : j = k
          · subst e; simp
          · have : j < k + 1 ↔ j < k := by omega
            simp [e, this]
        · have hset : Within w.heap.size (w.heap.size + 1) w1 (w1.setCell ⟨w.heap.size, k, none⟩ (.slice A1 (nth xss k).length c1)) := ⟨rfl, rfl, rfl, by simp [World.setCell], fun i hi ho => Below.heap_setCell _ _ _ _ (by simp; omega)⟩
          have hsz : (w1.setCell ⟨w.heap.size, k, none⟩ (.slice A1 (nth xss k).length c1)).heap.size = w1.heap.size := by simp [World.setCell]
          rw [hsz]
          have := hn1.size
          by_cases e : j = k
          · subst e; simp; exact (ho1.widen (by omega) (Nat.le_refl _)).within hset (by omega)
          · simp [e]; exact (((HOWN.out j (by omega)).widen (Nat.le_refl _) this).new hn1).within hset (by omega)
        · have hi : i ≠ k := by omega
          by_cases e : j = k
          · subst e
            simp [hi]
            cases hrb : (rv i).ownBlock with
            | none => exact Or.inr rfl
            | some g =>
              refine Or.inl fun heq => ?_
              have h2 := (HOWN.out i (by omega)).block g hrb
              have h3 := ho1.block g heq.symm
              omega
          · simp [hi, e]; exact HDIS.out i j hij (by omega)
        · by_cases e : j = k
          · simp [e]; exact hcp1
          · simp [e]; exact HCAP.out j (by omega)
      case measure => simp [intOf]; omega
    · have e : k = xss.length := by omega
      subst e
      go_wp2
      go_ret
      refine ⟨_, rfl, hw, ⟨some ⟨w.heap.size, 0, none⟩, xss.length, rv, rfl, by omega, fun a ha => ?_, fun i hi => ⟨⟨_, _, rfl, ?_, ?_⟩, (hown i hi).widen (by omega) (Nat.le_refl _)⟩, hdis⟩, fun b off n c e i hi => by
        injection e with e1 e2 e3
        cases e1
        have := hrow.cell (i := i) (by omega)
        exact ⟨rv i, by simpa [show i < xss.length by omega] using this, hcap i (by omega)⟩⟩
      · cases ha; exact ⟨Nat.le_refl _, hrow.lt⟩
      · have := hrow.cell hi
        simpa [hi] using this
      · intro e; have := (hown i hi).block _ e; omega

set_option maxHeartbeats 400000 in
theorem toRoadsC_any (v : Value) (a : Aut) (w : World) (h : AutAt w v a) (hb : a.nx.length ≤ 1048576) (hbb : ∀ i, i < a.nx.length → (nth a.nx i).length ≤ 1048576) :
    Calls Try.prog 39 #[v] w fun e w' => ∃ r, e = .returned r ∧ New w w' ∧ OwnAut w.heap.size w'.heap.size w' r a ∧ CapAut w' r a := by
  obtain ⟨rv, rfl, hr⟩ := h
  obtain ⟨A1, c1, rfl⟩ := hr.form
  go_enter Try.func39, Try.ntmps39
  go_wp2_with fail
  refine (toInt64SSC_any _ _ _ (hr.new (by repeat (first | with_reducible exact New.refl _ | with_reducible assumption | with_reducible refine New.alloc ?_ _ | with_reducible refine New.drew ?_ | with_reducible refine New.drewN ?_ _ | with_reducible refine New.setCell ?_ (by simp <;> omega) _))) hb hbb).mono ?_
  rintro e w1 ⟨r, rfl, hn, ho, hcp⟩
  obtain ⟨A2, c2, rfl⟩ := ho.form
  obtain ⟨hc_hn, hf_hn⟩ := New.both hn; have hz_hn := New.size hn; try simp only [sizes] at hz_hn
  have hn0 : New w w1 := New.trans (by repeat (first | with_reducible exact New.refl _ | with_reducible assumption | with_reducible refine New.alloc ?_ _ | with_reducible refine New.drew ?_ | with_reducible refine New.drewN ?_ _ | with_reducible refine New.setCell ?_ (by simp <;> omega) _)) hn
  go_wp2_with fail
  refine bodyPost_ret (v := .agg #[.int .i64 a.n, .slice A2 a.nx.length c2]) (by simp [results, Try.results39, go_sem, hc_hn]) rfl ⟨_, rfl, ?_, ⟨_, rfl, ?_⟩, ⟨_, rfl, ?_⟩⟩
  · exact (by repeat (first | with_reducible exact New.refl _ | with_reducible assumption | with_reducible refine New.alloc ?_ _ | with_reducible refine New.drew ?_ | with_reducible refine New.drewN ?_ _ | with_reducible refine New.setCell ?_ (by simp <;> omega) _))
  · exact ((ho.within (B' := w.heap.size) (E' := w.heap.size + 1 + 1 + 1) (by repeat (first | with_reducible exact Within.refl _ _ _ | with_reducible refine Within.setCell ?_ (by simp <;> omega) (by simp <;> omega) _)) (Or.inr (by (try simp only [sizes]) <;> omega))).widen (by (try simp only [sizes]) <;> omega) (by (try simp only [sizes]) <;> omega))
  · exact Caps.rows (ho.within (B' := w.heap.size) (E' := w.heap.size + 1 + 1 + 1) (by repeat (first | with_reducible exact Within.refl _ _ _ | with_reducible refine Within.setCell ?_ (by simp <;> omega) (by simp <;> omega) _)) (Or.inr (by (try simp only [sizes]) <;> omega))) (hcp.within ho (B' := w.heap.size) (E' := w.heap.size + 1 + 1 + 1) (by repeat (first | with_reducible exact Within.refl _ _ _ | with_reducible refine Within.setCell ?_ (by simp <;> omega) (by simp <;> omega) _)) (Or.inr (by (try simp only [sizes]) <;> omega)))

end Go.Proofs.Ytiflokfinkachaa
