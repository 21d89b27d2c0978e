/- slices.DeleteFunc at lists of lists. -/
import Derived.Test.YtoeckejcmojeaaaRows
import Derived.Test.YtoeckejcmojeaaaCore
import Derived.Test.YtoeckejcmojeaaaInfos
import Derived.Test.YtoeckejcmojeaaaPlains
import Derived.Test.YtoeckejcmojeaaaPOrds
import Derived.Test.YtoeckejcmojeaaaMaps
import Derived.Test.YtoeckejcmojeaaaRowsSwap
import Derived.Test.YtoeckejcmojeaaaArrs
import Derived.Test.YtoeckejcmojeaaaIBase
import Derived.WalkKit
import Derived.WalkSpells
import Derived.WalkLawsBesides
import Derived.Deep.QuietTactic
import Derived.Deep.OwnRows
import Derived.BigQuiet
import Derived.KernelRfl
import Derived.Laws.OwnMore
import Derived.Lib.SliceRun
namespace Go.Proofs.Ytoeckejcmojeaaa
open Go.RowKit

/-- The places below j of those that stay. -/
def keptP (p : List Int → Bool) (xss : List (List Int)) (j : Nat) : List Nat := (List.range j).filter fun q => !p (nth xss q)
theorem keptP_succ (p : List Int → Bool) (xss : List (List Int)) (j : Nat) : keptP p xss (j + 1) = keptP p xss j ++ if p (nth xss j) = true then [] else [j] := by
  unfold keptP
  rw [List.range_succ, List.filter_append]
  congr 1
  cases h : p (nth xss j) <;> simp [h]
theorem keptP_len (p : List Int → Bool) (xss : List (List Int)) (j : Nat) : (keptP p xss j).length ≤ j := by
  have := List.length_filter_le (fun q => !p (nth xss q)) (List.range j)
  rwa [List.length_range] at this
theorem keptP_all (p : List Int → Bool) (xss : List (List Int)) : ∀ j, (∀ q, q < j → p (nth xss q) = false) → keptP p xss j = List.range j
  | 0, _ => rfl
  | j + 1, h => by
    rw [keptP_succ, keptP_all p xss j (fun q hq => h q (by omega)), h j (by omega), List.range_succ]
    simp
theorem keptP_less (p : List Int → Bool) (xss : List (List Int)) (i0 : Nat) (h : p (nth xss i0) = true) : ∀ d, (keptP p xss (i0 + 1 + d)).length ≤ i0 + d
  | 0 => by
    rw [Nat.add_zero, keptP_succ, if_pos h, List.append_nil]
    exact keptP_len _ _ _
  | d + 1 => by
    rw [← Nat.add_assoc, keptP_succ, List.length_append]
    have := keptP_less p xss i0 h d
    split <;> simp <;> omega
theorem keptP_rows (p : List Int → Bool) (xss : List (List Int)) : (keptP p xss xss.length).map (fun q => nth xss q) = xss.filter fun x => !p x := by
  have h : (List.range xss.length).map (fun q => nth xss q) = xss := by
    apply List.ext_getElem
    · simp
    · intro i h1 h2
      simp only [List.getElem_map, List.getElem_range]
      exact nth_eq _ _ h2
  conv => rhs; rw [← h]
  unfold keptP
  rw [List.filter_map]
  rfl
theorem keptP_mem (p : List Int → Bool) (xss : List (List Int)) (j q : Nat) (h : q < (keptP p xss j).length) : nth (keptP p xss j) q < j := by
  have := nth_mem _ _ h
  unfold keptP at this
  rw [List.mem_filter, List.mem_range] at this
  exact this.1
theorem keptP_rise (p : List Int → Bool) (xss : List (List Int)) (j q r : Nat) (hqr : q < r) (h : r < (keptP p xss j).length) : nth (keptP p xss j) q < nth (keptP p xss j) r := by
  have hp : (keptP p xss j).Pairwise (· < ·) := by unfold keptP; exact List.Pairwise.filter _ List.pairwise_lt_range
  rw [List.pairwise_iff_getElem] at hp
  rw [nth_eq _ _ (by omega), nth_eq _ _ h]
  exact hp q r (by omega) h hqr
theorem setCells_row {B g n cap size : Nat} {e : TypeId} : ∀ (vs : List Value) (w : World) (o : Nat) (l : List Value), w.ownsRow B e size (.slice (some ⟨g, 0, none⟩) n cap) n l →
    ∃ l', (w.setCells g o vs).ownsRow B e size (.slice (some ⟨g, 0, none⟩) n cap) n l' ∧ l'.length = l.length ∧ (∀ q, q < o → l'[q]? = l[q]?) ∧ w.grownBy (w.setCells g o vs) (some g)
  | [], w, o, l, h => ⟨l, by rw [setCells_nil]; exact h, rfl, fun _ _ => rfl, by rw [setCells_nil]; exact grown_refl _ _⟩
  | v :: vs, w, o, l, h => by
    obtain ⟨h1, h2⟩ := World.ownsRow.stored h o v
    obtain ⟨l', k1, k2, k3, k4⟩ := setCells_row vs _ (o + 1) _ h1
    have e : w.setCells g o (v :: vs) = (w.setCell ⟨g, o, none⟩ v).setCells g (o + 1) vs := by
      simp [World.setCells]
    rw [e]
    refine ⟨l', k1, by rw [k2, List.length_set], fun q hq => ?_, grown_trans h2 k4⟩
    rw [k3 q (by omega), List.getElem?_set_ne (by omega)]
theorem ownsRow_cut {B g n cap i : Nat} {e : TypeId} {w : World} {l : List Value} (h : w.ownsRow B e 1 (.slice (some ⟨g, 0, none⟩) n cap) n l) (hi : i ≤ n) : w.ownsRow B e 1 (.slice (some ⟨g, 0, none⟩) i cap) i (l.take i) := by
  obtain ⟨h1, h2 | ⟨g', cap', cur, e1, hB, hh, hn, hc, hs, ht⟩⟩ := h
  · cases h2.1
  · cases e1
    refine ⟨by rw [List.length_take]; omega, .inr ⟨g, cap, cur, rfl, hB, hh, by omega, hc, hs, ?_⟩⟩
    rw [← ht, List.take_take]
    congr 1
    omega
theorem OwnInts.butD {S : Nat → Prop} {B E : Nat} {w w' : World} {v : Value} {xs : List Int} (h : OwnInts B E w v xs) (hb : But S w w') (hS : ∀ k, v.ownBlock = some k → ¬ S k) : OwnInts B E w' v xs := by
  obtain ⟨A, c, rfl, hl, hbk, hc⟩ := h
  refine ⟨A, c, rfl, hl, hbk, fun i hi => ?_⟩
  obtain ⟨b, off, rfl, hx, hf⟩ := hc i hi
  exact ⟨b, off, rfl, hb.cell hx (hS b rfl), by rw [hb.frozen hx (hS b rfl)]; exact hf⟩
theorem zero_intsD (w : World) : (zeroValue 42).run Try.prog w = .ok (.slice none 0 0) w := by kernel_rfl
theorem nth_getElem? {α : Type} [Inhabited α] (l : List α) (q : Nat) (h : q < l.length) : l[q]? = some (nth l q) := by rw [nth_eq _ _ h, List.getElem?_eq_getElem h]
set_option maxRecDepth 20000 in
set_option maxHeartbeats 2000000 in
theorem DeleteFuncRows_any {B : Nat} {e : TypeId} (k : Nat) (cb : Array Value) (p : List Int → Bool) (g n cap : Nat) (xss : List (List Int)) (w : World) (h : GrowRows B e w (.slice (some ⟨g, 0, none⟩) n cap) xss) (hl : xss.length ≤ 1048576)
    (hent : ∀ args w, Sem.run Try.prog (callFunc k args) w = .ok (.enter k args) w)
    (hf : ∀ w' v x, But (fun q => q = g) w w' → IntsAt w' v x → x ∈ xss → Calls Try.prog k (#[v] ++ cb) w' fun e w'' => e = .returned (.bool (p x)) ∧ New w' w'') :
    Calls Try.prog 49 #[.slice (some ⟨g, 0, none⟩) n cap, .func (.func k) #[] cb] w fun e' w' => ∃ m, e' = .returned (.slice (some ⟨g, 0, none⟩) m cap) ∧ But (fun q => q = g) w w' ∧ GrowRows B e w' (.slice (some ⟨g, 0, none⟩) m cap) (xss.filter fun x => !p x) := by
  have hat := (h.own (by omega)).at
  obtain ⟨rv, k1, k2, k3⟩ := id h
  have hn : n = xss.length := by obtain ⟨A, c, e⟩ := ownsRow_form k1; cases e; rfl
  subst hn
  have C1 := IndexFuncRows_any _ xss k cb p w hat hent (fun w' hw i hi v hv => hf w' v _ (But.of_new hw) hv (nth_mem _ _ hi))
  have HF := hid hf
  have HH := hid h
  have HROW := hid (show ∀ q w', q < xss.length → But (fun q => q = g) w w' → IntsAt w' (rv q) (nth xss q) ∧ ∃ A c, rv q = .slice A (nth xss q).length c from fun q w' hq hb => by
    obtain ⟨a, b⟩ := k2 q hq
    refine ⟨a.at.solid (fun r hr he => ?_) w' hb, a.form⟩
    subst he
    rcases b with b | b
    · exact b hr
    · rw [b] at hr; cases hr)
  obtain ⟨n, hn⟩ : ∃ n, n = xss.length := ⟨_, rfl⟩
  have HN := hid hn
  clear hf h hat
  cases hfi : xss.findIdx? p with
  | none =>
    rw [List.findIdx?_eq_none_iff] at hfi
    have hfil : (xss.filter fun x => !p x) = xss := List.filter_eq_self.2 (fun x hx => by rw [hfi x hx]; rfl)
    have hidx : idxOf p xss = -1 := idxOf_none p xss (fun i hi => hfi _ (nth_mem _ _ hi))
    rw [hidx] at C1
    clear hidx hfi k1 k2 k3 hn
    go_enter Try.func49, Try.ntmps49
    go_wp2_with (refine C1.mono ?_; rintro e w1 ⟨rfl, hn1⟩)
    go_ret
    exact ⟨_, rfl, But.of_new hn1, by rw [hfil]; exact HH.out.new hn1⟩
  | some i0 =>
    rw [List.findIdx?_eq_some_iff_getElem] at hfi
    obtain ⟨hi0, hp0, hbef⟩ := hfi
    have hp0' : p (nth xss i0) = true := by rw [nth_eq _ _ hi0]; exact hp0
    have hbef' : ∀ q, q < i0 → p (nth xss q) = false := fun q hq => by
      have := hbef q hq
      rw [nth_eq _ _ (by omega)]; simpa using this
    have hidx : idxOf p xss = (i0 : Int) := idxOf_hit p xss i0 hi0 hp0' hbef'
    rw [hidx] at C1
    have HK0 := hid (show keptP p xss (i0 + 1) = List.range i0 by rw [keptP_succ, if_pos hp0', List.append_nil, keptP_all p xss i0 hbef'])
    have HLESS := hid (fun d => keptP_less p xss i0 hp0' d)
    have hneg : ((i0 : Int) == -1) = false := by simp <;> omega
    have HK1 := hid k1
    have HK2 := hid k2
    have HK3 := hid k3
    clear hidx hp0 hp0' hbef hbef' k1 k2 k3
    rw [← hn] at HK1 hi0 C1 ⊢
    clear hn
    have hn1048 : n ≤ 1048576 := by rw [HN.out]; exact hl
    clear hl
    go_enter Try.func49, Try.ntmps49
    go_wp2_with (refine C1.mono ?_; rintro e w1 ⟨rfl, hn1⟩)
    have hb1 : But (fun q => q = g) w w1 := But.of_new hn1
    have ho1 := ownsRow_new HK1.out hn1
    clear C1
    go_wp2_with fail
    go_loopw [5, 6] (fun iv jv wr => ∃ (d : Nat) (l : List Value), i0 + 1 + d ≤ n ∧ jv = .int .i64 ((i0 + 1 + d : Nat) : Int) ∧ iv = .int .i64 ((keptP p xss (i0 + 1 + d)).length : Nat) ∧ But (fun q => q = g) w wr ∧ Hid (wr.ownsRow B e 1 (.slice (some ⟨g, 0, none⟩) n cap) n l) ∧ Hid (∀ q, q < (keptP p xss (i0 + 1 + d)).length → nth l q = rv (nth (keptP p xss (i0 + 1 + d)) q)) ∧ Hid (∀ q, i0 + 1 + d ≤ q → q < n → nth l q = rv q)) (fun _ jv _ => n - (intOf jv).toNat)
    case atStart =>
      refine ⟨0, _, by omega, by go_num, ?_, hb1, hid ho1, hid (fun q hq => ?_), hid (fun q _ hq => ?_)⟩
      · rw [Nat.add_zero, HK0.out, List.length_range]
      · rw [Nat.add_zero, HK0.out, List.length_range] at hq
        rw [Nat.add_zero, HK0.out, nth_map _ _ _ (by rw [List.length_range]; omega)]
        rw [nth_eq (List.range n) _ (by rw [List.length_range]; omega), nth_eq (List.range i0) _ (by rw [List.length_range]; exact hq)]
        simp
      · rw [nth_map _ _ _ (by rw [List.length_range]; exact hq), nth_eq (List.range n) _ (by rw [List.length_range]; exact hq)]
        simp
    case round =>
      obtain ⟨d, l, hd, rfl, rfl, hbt, hol, hkl, hrl⟩ := hrel
      obtain ⟨wo, rfl⟩ : ∃ wo : World, wo = wr := ⟨_, rfl⟩
      obtain ⟨j, hj⟩ : ∃ j, j = i0 + 1 + d := ⟨_, rfl⟩
      have hlen : l.length = n := by have := hol.out.1; omega
      have hlk : (keptP p xss j).length < j := by rw [hj]; have := HLESS.out d; omega
      have HJ := hid hj
      have hks := keptP_succ p xss j
      rw [← hj] at hd hkl hrl ⊢
      clear hj ho1 hb1 hn1
      obtain ⟨i, hi⟩ : ∃ i, i = (keptP p xss j).length := ⟨_, rfl⟩
      rw [← hi] at hlk hkl ⊢
      have HI := hid hi
      clear hi
      by_cases hlt : j < n
      · have b1 : (j : Int) < (n : Int) := by omega
        have hjx : j < xss.length := by rw [← HN.out]; exact hlt
        obtain ⟨b5, _, ⟨c5, e5⟩, _, _, hx5, hf5⟩ := ownsRow_cells hol.out j (by omega)
        cases e5
        have e6 : l[j] = rv j := by rw [← nth_eq _ _ (by omega), hrl.out j (Nat.le_refl _) hlt]
        obtain ⟨hir, A6, c6, h6⟩ := HROW.out j wo hjx hbt
        rw [h6] at hir
        rw [e6, h6] at hx5
        have C := HF.out wo _ (nth xss j) hbt hir (nth_mem _ _ hjx)
        clear e6 hir
        cases hp : p (nth xss j) with
        | true =>
          rw [hp] at C
          have hk2 : keptP p xss (j + 1) = keptP p xss j := by rw [hks, if_pos hp, List.append_nil]
          have HK2' := hid hk2
          clear hp hk2 hks
          go_wp2_with (refine C.mono ?_; rintro e w2 ⟨rfl, hn2⟩)
          have e9 : i0 + 1 + (d + 1) = j + 1 := by have := HJ.out; omega
          refine ⟨⟨d + 1, l, by omega, by rw [e9]; go_num, by rw [e9, HK2'.out, ← HI.out], hbt.trans (But.of_new (S := fun _ => False) hn2) (fun q hq => hq.elim), hid (ownsRow_new hol.out hn2), by rw [e9, HK2'.out, ← HI.out]; exact hkl, hid (fun q h1 h2 => hrl.out q (by omega) h2)⟩, ?_⟩
          simp [intOf]; omega
        | false =>
          rw [hp] at C
          have hk2 : keptP p xss (j + 1) = keptP p xss j ++ [j] := by rw [hks, if_neg (by rw [hp]; simp)]
          have HK2' := hid hk2
          clear hp hk2 hks
          have bi : (i : Int) < (n : Int) := by omega
          obtain ⟨b7, _, ⟨c7, e7⟩, _, _, hx7, hf7⟩ := ownsRow_cells hol.out i (by omega)
          cases e7
          go_wp2_with (refine C.mono ?_; rintro e w2 ⟨rfl, hn2⟩; have hx72 := hn2.cell hx7; have hf72 : w2.frozen? ⟨g, i, none⟩ = false := by rw [hn2.frozen hx7]; exact hf7)
          have e9 : i0 + 1 + (d + 1) = j + 1 := by have := HJ.out; omega
          obtain ⟨hs1, hs2⟩ := World.ownsRow.stored (ownsRow_new hol.out hn2) i (.slice A6 (nth xss j).length c6)
          refine ⟨⟨d + 1, l.set i (.slice A6 (nth xss j).length c6), by omega, by rw [e9]; go_num, by rw [e9, HK2'.out, List.length_append, ← HI.out]; go_num, (hbt.trans (But.of_new (S := fun _ => False) hn2) (fun q hq => hq.elim)).trans (But.of_grown (S := fun q => q = g) hs2 (fun q hq => (Option.some.inj hq).symm)) (fun q hq => Or.inl hq), hid hs1, ?_, hid (fun q h1 h2 => ?_)⟩, ?_⟩
          · rw [e9, HK2'.out]
            refine hid (fun q hq => ?_)
            rw [List.length_append, List.length_singleton, ← HI.out] at hq
            by_cases eq : q = i
            · subst eq
              rw [nth_eq _ _ (by rw [List.length_set]; omega), List.getElem_set_self]
              have : nth (keptP p xss j ++ [j]) q = j := by
                have h9 := nth_append_here (keptP p xss j) j
                rw [← HI.out] at h9
                exact h9
              rw [this, h6]
            · rw [nth_eq _ _ (by rw [List.length_set]; omega), List.getElem_set_ne (fun h => eq h.symm), ← nth_eq _ _ (by omega), nth_append_left _ _ _ (by rw [← HI.out]; omega)]
              exact hkl.out q (by omega)
          · rw [nth_eq _ _ (by rw [List.length_set]; omega), List.getElem_set_ne (by omega), ← nth_eq _ _ (by omega)]
            exact hrl.out q (by omega) h2
          · simp [intOf]; omega
      · have hjn : j = n := by omega
        have b1 : ¬ (j : Int) < (n : Int) := by omega
        have hin : i < n := by omega
        have hcapn : n ≤ cap := by
          obtain ⟨_, h2 | ⟨_, _, _, e1, _, _, hnc, _⟩⟩ := hol.out
          · cases h2.1
          · cases e1; exact hnc
        have hcells : ∀ q, q < n - i → (wo.cell? ⟨g, i + q, none⟩).isSome = true ∧ wo.frozen? ⟨g, i + q, none⟩ = false := fun q hq => by
          obtain ⟨b7, _, ⟨c7, e7⟩, _, _, hx7, hf7⟩ := ownsRow_cells hol.out (i + q) (by omega)
          cases e7
          exact ⟨by rw [hx7]; rfl, hf7⟩
        obtain ⟨l', q1, q2, q3, q4⟩ := setCells_row (List.replicate (n - i) (Value.slice none 0 0)) wo i l hol.out
        have hcl : ∀ ty, (Builtin.clear_ #[22] ty #[.slice (some ⟨g, i, none⟩) (n - i) (cap - i)]).run Try.prog wo = .ok (.tuple #[]) (wo.setCells g i (List.replicate (n - i) (Value.slice none 0 0))) :=
          fun ty => Lib.run_clear_slice wo _ _ ty _ Try.underlying22 zero_intsD rfl rfl g i _ _ (by omega) (fun q hq => (hcells q hq).1) (fun q hq => (hcells q hq).2)
        have hci : ¬ cap = i := by omega
        have bi : (i : Int) ≤ (n : Int) := by omega
        have bic : (i : Int) ≤ (cap : Int) := by omega
        have hbf : But (fun q => q = g) w (wo.setCells g i (List.replicate (n - i) (Value.slice none 0 0))) := hbt.trans (But.of_grown (S := fun q => q = g) q4 (fun q hq => (Option.some.inj hq).symm)) (fun q hq => Or.inl hq)
        have hrows := keptP_rows p xss
        have hjx : j = xss.length := by rw [← HN.out]; exact hjn
        rw [← hjx] at hrows
        have hfl : (xss.filter fun x => !p x).length = i := by rw [← hrows, List.length_map, ← HI.out]
        have HFIN := hid (show GrowRows B e (wo.setCells g i (List.replicate (n - i) (Value.slice none 0 0))) (.slice (some ⟨g, 0, none⟩) i cap) (xss.filter fun x => !p x) by
          have hnf : ∀ q, q < i → nth (xss.filter fun x => !p x) q = nth xss (nth (keptP p xss j) q) := fun q hq => by rw [← hrows, nth_map _ _ _ (by rw [← HI.out]; exact hq)]
          have hkj : ∀ q, q < i → nth (keptP p xss j) q < xss.length := fun q hq => by
            have := keptP_mem p xss j q (by rw [← HI.out]; exact hq)
            omega
          refine ⟨fun q => rv (nth (keptP p xss j) q), ?_, fun q hq => ?_, fun q r hqr hr => ?_⟩
          · rw [hfl]
            have h9 := ownsRow_cut q1 (i := i) (by omega)
            have e9 : l'.take i = (List.range i).map fun q => rv (nth (keptP p xss j) q) := by
              apply List.ext_getElem
              · simp; omega
              · intro q h1 h2
                have hq : q < i := by simpa using h2
                have h3 := q3 q hq
                rw [nth_getElem? l' q (by omega), nth_getElem? l q (by omega), hkl.out q hq] at h3
                injection h3 with h3
                simp only [List.getElem_take, List.getElem_map, List.getElem_range]
                rw [← nth_eq _ _ (by omega)]
                exact h3
            rw [← e9]
            exact h9
          · rw [hfl] at hq
            rw [hnf q hq]
            obtain ⟨a, b⟩ := HK2.out _ (hkj q hq)
            refine ⟨(a.butD hbf (fun r hr he => ?_)).widen (Nat.le_refl _) hbf.size, b⟩
            subst he
            rcases b with b | b
            · exact b hr
            · rw [b] at hr; cases hr
          · rw [hfl] at hr
            exact HK3.out _ _ (keptP_rise p xss j q r hqr (by rw [← HI.out]; exact hr)) (hkj r hr))
        clear hks hcells hrows hjx hfl hjn q1 q2 q3 q4 hlt
        go_wp2_with fail
        go_ret
        exact ⟨_, rfl, hbf, HFIN.out⟩

end Go.Proofs.Ytoeckejcmojeaaa
