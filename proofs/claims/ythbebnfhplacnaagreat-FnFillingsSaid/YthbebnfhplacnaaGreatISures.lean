/- Parts of the proof that lean on no program: ISure1, ISure1b, ISure2, ISure3, ISure4, ISure5. -/
import Derived.Test.YthbebnfhplacnaaGreatRows
import Derived.Test.YthbebnfhplacnaaGreatCore
import Derived.Test.YthbebnfhplacnaaGreatInfos
import Derived.Test.YthbebnfhplacnaaGreatMaps
import Derived.Test.YthbebnfhplacnaaGreatKeysG
import Derived.Test.YthbebnfhplacnaaGreatPlains
import Derived.Test.YthbebnfhplacnaaGreatPOrds
import Derived.Test.YthbebnfhplacnaaGreatPlainSure
import Derived.Test.YthbebnfhplacnaaGreatRowsG
import Derived.Test.YthbebnfhplacnaaGreatSortG
import Derived.Test.YthbebnfhplacnaaGreatISorts
import Derived.Test.YthbebnfhplacnaaGreatDrawT
import Derived.Test.YthbebnfhplacnaaGreatPlainReset
import Derived.Test.YthbebnfhplacnaaGreatPlainFill
import Derived.Test.YthbebnfhplacnaaGreatPMerg
import Derived.Test.YthbebnfhplacnaaGreatArrs
import Derived.Test.YthbebnfhplacnaaGreatI04a
import Derived.Test.YthbebnfhplacnaaGreatITours
import Derived.Test.YthbebnfhplacnaaGreatIFills
import Derived.WalkKit
import Derived.WalkSpells
import Derived.WalkLawsBesides
import Derived.Deep.QuietTactic
import Derived.Deep.OwnRows
import Derived.BigQuiet
import Derived.KernelRfl
import Derived.Laws.IdiomStrings
import Derived.Shelf.SlSortCmp.Whole1
import Derived.Deep.RegionLaw
import Derived.Deep.RegionHeld3
import Derived.Carry
import Derived.Maps.AppendAt
import Derived.Laws.EntriesVeiled
namespace Go.Proofs.YthbebnfhplacnaaGreat
open Go.RowKit

section
set_option maxHeartbeats 800000 in
theorem keyOf_nil (v : Value) (w : World) (h : IntsAt w v []) :
    Calls Tryz.prog 29 #[v] w fun e w' => e = .returned (strOf []) ∧ New w w' := by
  obtain ⟨A, c, rfl, _, _⟩ := h
  obtain ⟨wb, hwb⟩ : ∃ wb, wb = w.alloc (.cells #[] 5) := ⟨_, rfl⟩
  have hnb : New w wb := by rw [hwb]; exact (by repeat (first | with_reducible exact New.refl _ | with_reducible assumption | with_reducible refine New.alloc ?_ _ | with_reducible refine New.drewN ?_ _ | with_reducible refine New.drew ?_ | with_reducible refine New.trans ?_ (by with_reducible assumption)))
  have hcv : (convert 22 9 (.slice (some ⟨w.heap.size, 0, none⟩) 0 0)).run Tryz.prog wb = .ok (strOf []) wb := by
    have := run_convert_bytes_back (P := Tryz.prog) wb 22 9 5 ⟨w.heap.size, 0, none⟩ 0 (bytesOf []) Tryz.underlying22 Tryz.underlying5 Tryz.underlying9 (fun j hj => by
      rw [bytesOf_len] at hj; simp at hj)
    rw [bytesOf_len] at this
    exact this
  go_enter Tryz.func29, Tryz.ntmps29
  go_wp2_with fail
  rw [← hwb]
  clear hwb
  go_wp2_with fail
  go_loopw [3, 9] (fun o i wr => i = .int .i64 0 ∧ o = .slice (some ⟨w.heap.size, 0, none⟩) 0 0 ∧ wr = wb) (fun _ _ _ => 0)
  case atStart => exact ⟨rfl, rfl, rfl⟩
  case round =>
    obtain ⟨rfl, rfl, rfl⟩ := hrel
    go_wp2_with fail
    go_ret
    exact ⟨rfl, hnb⟩
theorem keyOfW_any (v : Value) (xs : List Int) (w : World) (h : IntsAt w v xs) (hs : smallL xs) (hl : xs.length ≤ 1048576) :
    Calls Tryz.prog 29 #[v] w fun e w' => e = .returned (strOf xs) ∧ New w w' := by
  rcases Nat.eq_zero_or_pos xs.length with e | e
  · have e2 : xs = [] := List.eq_nil_of_length_eq_zero e
    subst e2
    exact keyOf_nil v w h
  · exact keyOf_any v xs w h hs e hl
end
section
set_option maxHeartbeats 800000 in
theorem compareWords_any (v1 v2 : Value) (x y : List Int) (w : World) (h1 : IntsAt w v1 x) (h2 : IntsAt w v2 y) :
    Calls Tryz.prog 31 #[v1, v2] w fun e w' => e = .returned (.int .i64 (shortC x y)) ∧ ∃ q os', w' = Go.Sort.grow (w.drewN q) os' := by
  obtain ⟨A1, c1, rfl⟩ := h1.form
  obtain ⟨A2, c2, rfl⟩ := h2.form
  have C1 := fun w1 => CompareInt_any (x.length : Int) y.length w1
  have C2 := CompareInts_any _ _ _ _ _ h1 h2
  obtain ⟨a, ha⟩ : ∃ a, a = cmpI (x.length : Int) y.length := ⟨_, rfl⟩
  obtain ⟨b, hb⟩ : ∃ b, b = lexC x y := ⟨_, rfl⟩
  obtain ⟨z, hz⟩ : ∃ z, z = if a = 0 then b else a := ⟨_, rfl⟩
  have HE := hid (show shortC x y = z by rw [hz, ha, hb]; rfl)
  rw [← ha] at C1
  rw [← hb] at C2
  have C3 := OrInt_any w.heap.size 2 a b (w.alloc (.cells #[.int .i64 a, .int .i64 b] 3)) (by go_simp) (by go_simp)
  rw [← hz] at C3
  clear ha hb hz
  go_enter Tryz.func31, Tryz.ntmps31
  go_wp2_with (first
    | (go_at_call 64; refine (C1 _).mono ?_; rintro e w' ⟨rfl, rfl⟩)
    | (go_at_call 65; refine C2.mono ?_; rintro e w' ⟨rfl, rfl⟩)
    | (go_at_call 63; refine C3.mono ?_; rintro e w' ⟨rfl, rfl⟩))
  go_ret
  exact ⟨ret_int HE.out.symm, 0, _, Go.Sort.alloc_eq_grow _ _⟩
end
section
/-- The places that stay where they are and may be written, and the two that must not be. -/
def FxS (lb kb xb mb pb sb q : Nat) : Prop := q = lb ∨ q = kb ∨ q = xb ∨ q = mb ∨ q = pb ∨ q = sb
def SmS (lb kb xb mb pb sb : Nat) (lv wv : Value) (q : Nat) : Prop := FxS lb kb xb mb pb sb q ∨ lv.ownBlock = some q ∨ wv.ownBlock = some q
structure DsS (lo lb kb xb mb pb sb : Nat) : Prop where
  l1 : lo ≤ lb
  l2 : lo ≤ kb
  l3 : lo ≤ xb
  l4 : lo ≤ mb
  h1 : lb < pb
  h2 : kb < pb
  h3 : xb < pb
  h4 : mb < pb
  h5 : pb < sb
  n1 : lb ≠ kb
  n2 : lb ≠ xb
  n3 : lb ≠ mb
  n4 : kb ≠ xb
  n5 : kb ≠ mb
  n6 : xb ≠ mb
structure SureSt (p : Aut) (lo lb kb xb mb pb sb : Nat) (w : World) (n : Nat) (ms xss : List (List Int)) (lv wv : Value) : Prop where
  b1 : Box1 w lb lv
  b2 : Box1 w kb (.map (some mb))
  b3 : Box1 w xb wv
  mp : SMap Tryz.prog 9 (lettersP p) w mb ms
  ls : GrowA lo 31 (SmS lb kb xb mb pb sb lv wv) w lv p.n (fun i => (fillN p i).nx) n
  ws : GrowW lo 34 (SmS lb kb xb mb pb sb lv wv) w wv xss
  d1 : ∀ q, lv.ownBlock = some q → ¬ FxS lb kb xb mb pb sb q ∧ wv.ownBlock ≠ some q
  d2 : ∀ q, wv.ownBlock = some q → ¬ FxS lb kb xb mb pb sb q
  sz : sb < w.heap.size
section
variable {p : Aut} {lo lb kb xb mb pb sb n : Nat} {w w' w1 : World} {ms ms' xss : List (List Int)} {lv wv : Value}
theorem SureSt.fx (h : SureSt p lo lb kb xb mb pb sb w n ms xss lv wv) (hd : DsS lo lb kb xb mb pb sb) (q : Nat) (hq : FxS lb kb xb mb pb sb q) : q < w.heap.size := by
  have := h.sz
  have h1 := hd.h1
  have h2 := hd.h2
  have h3 := hd.h3
  have h4 := hd.h4
  have h5 := hd.h5
  unfold FxS at hq
  omega
theorem SureSt.sm (h : SureSt p lo lb kb xb mb pb sb w n ms xss lv wv) (hd : DsS lo lb kb xb mb pb sb) (q : Nat) (hq : SmS lb kb xb mb pb sb lv wv q) : q < w.heap.size := by
  rcases hq with k | k | k
  · exact h.fx hd q k
  · exact (h.ls.block q k).2
  · exact (h.ws.block q k).2
theorem SureSt.frame {S : Nat → Prop} (h : SureSt p lo lb kb xb mb pb sb w n ms xss lv wv) (hd : DsS lo lb kb xb mb pb sb) (hb : But S w w') (hS : ∀ q, S q → q = sb ∨ q = mb ∨ w.heap.size ≤ q) (hmp : SMap Tryz.prog 9 (lettersP p) w' mb ms') : SureSt p lo lb kb xb mb pb sb w' n ms' xss lv wv := by
  have hh1 := hd.h1
  have hh2 := hd.h2
  have hh3 := hd.h3
  have hh4 := hd.h4
  have hh5 := hd.h5
  have l1 := h.b1.lt
  have l2 := h.b2.lt
  have l3 := h.b3.lt
  have hM : ∀ q, S q → SmS lb kb xb mb pb sb lv wv q ∨ w.heap.size ≤ q := fun q hq => by
    rcases hS q hq with k | k | k
    · subst k; exact Or.inl (Or.inl (by unfold FxS; simp))
    · subst k; exact Or.inl (Or.inl (by unfold FxS; simp))
    · exact Or.inr k
  have n3 := hd.n3
  have n5 := hd.n5
  have n6 := hd.n6
  have hlv : ∀ k, lv.ownBlock = some k → ¬ S k := fun k hk hs => by
    have hf := (h.d1 k hk).1
    have hl := (h.ls.block k hk).2
    rcases hS k hs with e | e | e
    · subst e; exact hf (by unfold FxS; simp)
    · subst e; exact hf (by unfold FxS; simp)
    · omega
  have hwv : ∀ k, wv.ownBlock = some k → ¬ S k := fun k hk hs => by
    have hf := h.d2 k hk
    have hl := (h.ws.block k hk).2
    rcases hS k hs with e | e | e
    · subst e; exact hf (by unfold FxS; simp)
    · subst e; exact hf (by unfold FxS; simp)
    · omega
  exact ⟨h.b1.but hb (fun q => by have := hS _ q; omega), h.b2.but hb (fun q => by have := hS _ q; omega), h.b3.but hb (fun q => by have := hS _ q; omega), hmp,
    h.ls.but hb hlv hM (fun q hq => Or.inl hq), h.ws.but hb hwv hM (fun q hq => Or.inl hq), h.d1, h.d2, by have := hb.size; have := h.sz; omega⟩
theorem SureSt.new (h : SureSt p lo lb kb xb mb pb sb w n ms xss lv wv) (hd : DsS lo lb kb xb mb pb sb) (hn : New w w') : SureSt p lo lb kb xb mb pb sb w' n ms xss lv wv :=
  h.frame hd (S := fun _ => False) (But.of_new hn) (fun _ q => q.elim) (h.mp.new hn)
theorem grown_of_but {b : Nat} (h : But (fun q => q = b) w w') : w.grownBy w' (some b) := ⟨h.1, h.2.1, h.2.2.1, h.2.2.2.1, fun k hk hne => h.2.2.2.2 k hk (fun e => hne (by rw [e]))⟩
theorem SureSt.sbs (h : SureSt p lo lb kb xb mb pb sb w n ms xss lv wv) (hd : DsS lo lb kb xb mb pb sb) (hb : But (fun q => q = sb) w w') : SureSt p lo lb kb xb mb pb sb w' n ms xss lv wv :=
  h.frame hd hb (fun _ q => Or.inl q) (h.mp.kept (grown_of_but hb) (fun e => by injection e with e; have := hd.h4; have := hd.h5; omega))
theorem SureSt.map (h : SureSt p lo lb kb xb mb pb sb w n ms xss lv wv) (hd : DsS lo lb kb xb mb pb sb) (hg : w.grownBy w' (some mb)) (hmp : SMap Tryz.prog 9 (lettersP p) w' mb ms') : SureSt p lo lb kb xb mb pb sb w' n ms' xss lv wv :=
  h.frame hd (S := fun q => q = mb) (But.of_grown hg (fun k hk => by injection hk with hk; exact hk.symm)) (fun _ q => Or.inr (Or.inl q)) hmp
theorem SureSt.list {g cap : Nat} (h : SureSt p lo lb kb xb mb pb sb w1 n ms xss lv wv) (hd : DsS lo lb kb xb mb pb sb)
    (hA : ∀ M' : Nat → Prop, (∀ q, M' q → SmS lb kb xb mb pb sb lv wv q ∨ w1.heap.size ≤ q) → GrowA lo 31 M' w' (.slice (some ⟨g, 0, none⟩) (n + 1) cap) p.n (fun i => (fillN p i).nx) (n + 1))
    (hg : w1.grownBy w' lv.ownBlock) (hl : lv.ownBlock = some g ∨ w1.heap.size ≤ g) : SureSt p lo lb kb xb mb pb sb (w'.setCell ⟨lb, 0, none⟩ (.slice (some ⟨g, 0, none⟩) (n + 1) cap)) (n + 1) ms xss (.slice (some ⟨g, 0, none⟩) (n + 1) cap) wv := by
  have hfx := h.fx hd
  have hgF : ¬ FxS lb kb xb mb pb sb g := fun q => by
    rcases hl with k | k
    · exact (h.d1 g k).1 q
    · have := hfx g q; omega
  have hgW : wv.ownBlock ≠ some g := fun q => by
    rcases hl with k | k
    · exact (h.d1 g k).2 q
    · have := (h.ws.block g q).2; omega
  have hb : But (fun q => lv.ownBlock = some q) w1 w' := But.of_grown hg (fun k hk => hk)
  have hs : But (fun q => q = lb) w' (w'.setCell ⟨lb, 0, none⟩ (.slice (some ⟨g, 0, none⟩) (n + 1) cap)) := But.setCell ⟨lb, 0, none⟩ _ rfl
  have fl : FxS lb kb xb mb pb sb lb := by unfold FxS; simp
  have fk : FxS lb kb xb mb pb sb kb := by unfold FxS; simp
  have fx : FxS lb kb xb mb pb sb xb := by unfold FxS; simp
  have fm : FxS lb kb xb mb pb sb mb := by unfold FxS; simp
  have n1 := hd.n1
  have n2 := hd.n2
  have n3 := hd.n3
  have hM : ∀ q, SmS lb kb xb mb pb sb (.slice (some ⟨g, 0, none⟩) (n + 1) cap) wv q → SmS lb kb xb mb pb sb lv wv q ∨ w1.heap.size ≤ q := fun q hq => by
    rcases hq with k | k | k
    · exact Or.inl (Or.inl k)
    · cases k
      rcases hl with k | k
      · exact Or.inl (Or.inr (Or.inl k))
      · exact Or.inr k
    · exact Or.inl (Or.inr (Or.inr k))
  have hMl : ∀ q, q = lb → SmS lb kb xb mb pb sb (.slice (some ⟨g, 0, none⟩) (n + 1) cap) wv q ∨ w'.heap.size ≤ q := fun q hq => by subst hq; exact Or.inl (Or.inl fl)
  have hz := hg.size
  refine ⟨(h.b1.but hb (fun q => (h.d1 lb q).1 fl)).set _, (h.b2.but hb (fun q => (h.d1 kb q).1 fk)).but hs (fun q => n1 q.symm), (h.b3.but hb (fun q => (h.d1 xb q).1 fx)).but hs (fun q => n2 q.symm), ?_,
    (hA _ hM).but hs (fun k hk q => ?_) hMl (fun q hq => Or.inl hq), (h.ws.but hb (fun k hk q => (h.d1 k q).2 hk) (fun q hq => Or.inl (Or.inr (Or.inl hq))) hM).but hs (fun k hk q => ?_) hMl (fun q hq => Or.inl hq), fun q hq => ?_, h.d2, ?_⟩
  · exact (h.mp.kept hg (fun e => (h.d1 mb e.symm).1 fm)).kept (grown_setCell w' ⟨lb, 0, none⟩ _) (fun e => by injection e with e; exact n3 e.symm)
  · cases hk; subst q; exact hgF fl
  · subst q; exact h.d2 _ hk fl
  · cases hq; exact ⟨hgF, hgW⟩
  · rw [size_setCell]; have := h.sz; omega
theorem SureSt.words {g cap : Nat} {x : List Int} (h : SureSt p lo lb kb xb mb pb sb w1 n ms xss lv wv) (hd : DsS lo lb kb xb mb pb sb)
    (hW : ∀ M' : Nat → Prop, (∀ q, M' q → SmS lb kb xb mb pb sb lv wv q ∨ w1.heap.size ≤ q) → GrowW lo 34 M' w' (.slice (some ⟨g, 0, none⟩) (xss.length + 1) cap) (xss ++ [x]))
    (hg : w1.grownBy w' wv.ownBlock) (hl : wv.ownBlock = some g ∨ w1.heap.size ≤ g) : SureSt p lo lb kb xb mb pb sb (w'.setCell ⟨xb, 0, none⟩ (.slice (some ⟨g, 0, none⟩) (xss.length + 1) cap)) n ms (xss ++ [x]) lv (.slice (some ⟨g, 0, none⟩) (xss.length + 1) cap) := by
  have hfx := h.fx hd
  have hgF : ¬ FxS lb kb xb mb pb sb g := fun q => by
    rcases hl with k | k
    · exact h.d2 g k q
    · have := hfx g q; omega
  have hgL : lv.ownBlock ≠ some g := fun q => by
    rcases hl with k | k
    · exact (h.d1 g q).2 k
    · have := (h.ls.block g q).2; omega
  have hb : But (fun q => wv.ownBlock = some q) w1 w' := But.of_grown hg (fun k hk => hk)
  have hs : But (fun q => q = xb) w' (w'.setCell ⟨xb, 0, none⟩ (.slice (some ⟨g, 0, none⟩) (xss.length + 1) cap)) := But.setCell ⟨xb, 0, none⟩ _ rfl
  have fl : FxS lb kb xb mb pb sb lb := by unfold FxS; simp
  have fk : FxS lb kb xb mb pb sb kb := by unfold FxS; simp
  have fx : FxS lb kb xb mb pb sb xb := by unfold FxS; simp
  have fm : FxS lb kb xb mb pb sb mb := by unfold FxS; simp
  have n2 := hd.n2
  have n4 := hd.n4
  have n6 := hd.n6
  have hM : ∀ q, SmS lb kb xb mb pb sb lv (.slice (some ⟨g, 0, none⟩) (xss.length + 1) cap) q → SmS lb kb xb mb pb sb lv wv q ∨ w1.heap.size ≤ q := fun q hq => by
    rcases hq with k | k | k
    · exact Or.inl (Or.inl k)
    · exact Or.inl (Or.inr (Or.inl k))
    · cases k
      rcases hl with k | k
      · exact Or.inl (Or.inr (Or.inr k))
      · exact Or.inr k
  have hMl : ∀ q, q = xb → SmS lb kb xb mb pb sb lv (.slice (some ⟨g, 0, none⟩) (xss.length + 1) cap) q ∨ w'.heap.size ≤ q := fun q hq => by subst hq; exact Or.inl (Or.inl fx)
  have hz := hg.size
  refine ⟨(h.b1.but hb (fun q => h.d2 lb q fl)).but hs (fun q => n2 q), (h.b2.but hb (fun q => h.d2 kb q fk)).but hs (fun q => n4 q), (h.b3.but hb (fun q => h.d2 xb q fx)).set _, ?_,
    (h.ls.but hb (fun k hk q => (h.d1 k hk).2 q) (fun q hq => Or.inl (Or.inr (Or.inr hq))) hM).but hs (fun k hk q => ?_) hMl (fun q hq => Or.inl hq), (hW _ hM).but hs (fun k hk q => ?_) hMl (fun q hq => Or.inl hq), fun q hq => ⟨(h.d1 q hq).1, fun e => ?_⟩, fun q hq => ?_, ?_⟩
  · exact (h.mp.kept hg (fun e => h.d2 mb e.symm fm)).kept (grown_setCell w' ⟨xb, 0, none⟩ _) (fun e => by injection e with e; exact n6 e.symm)
  · subst q; exact (h.d1 _ hk).1 fx
  · cases hk; subst q; exact hgF fx
  · cases e; exact hgL hq
  · cases hq; exact hgF
  · rw [size_setCell]; have := h.sz; omega
end
end
section
theorem info_autI : (Tryz.prog.info? 31).map (fun i => (i.zero, i.size, i.bytes)) = some (some (.agg #[.int .i64 0, .slice none 0 0]), 2, 32) := by kernel_rfl
theorem zero_boolS (w : World) : (zeroValue 4).run Tryz.prog w = .ok (.bool false) w := by kernel_rfl
theorem lettersP_small {p : Aut} (hf : PartFacts p) {x : List Int} (h : lettersP p x) : smallL x := fun i hi => by
  have := h i hi
  have := hf.l3
  omega
theorem fillW_letters {p : Aut} {n : Nat} (h : (fillW p n).2 = true) : lettersP p (fillW p n).1 := fun i hi => by
  have := (first_runs (WRun.tour (fillN p n) (full (fillN p n).n)) h).1 i hi
  rw [fillN_nx] at this
  exact this
theorem resetS_no {a : Aut} (ha : autOk a = true) (h : (firstWord smallB (tourOf a.nx (full a.n))).2 = false) : ShortestReset a = ([], 6) := by
  unfold ShortestReset
  rw [if_pos ha]
  unfold told
  rw [if_neg (by rw [h]; simp)]
theorem resetS_yes {a : Aut} (ha : autOk a = true) (h : (firstWord smallB (tourOf a.nx (full a.n))).2 = true) : ShortestReset a = ((firstWord smallB (tourOf a.nx (full a.n))).1, 0) := by
  unfold ShortestReset
  rw [if_pos ha]
  unfold told
  rw [if_pos h]
set_option maxRecDepth 20000 in
set_option maxHeartbeats 2000000 in
theorem SurestWord1_any (p : Aut) (hf : PartFacts p) (lo lb kb xb mb pb sb n : Nat) (hd : DsS lo lb kb xb mb pb sb) (wp w : World) (a : Value) (lv wv : Value) (hst0 : SureSt p lo lb kb xb mb pb sb wp n (sureTo p n) (sureTo p n) lv wv) (hnw : New wp w) (ho : OwnAut wp.heap.size w.heap.size w a (fillN p n)) (hnl : n ≤ 5000) :
    Calls Tryz.prog 28 #[a, .pointer (some ⟨lb, 0, none⟩), .pointer (some ⟨kb, 0, none⟩), .pointer (some ⟨xb, 0, none⟩)] w
      fun e w' => e = .returned (.bool true) ∧ But (fun q => lo ≤ q ∧ q ≠ pb ∧ q ≠ sb) w w' ∧ ∃ lv' wv', SureSt p lo lb kb xb mb pb sb w' (n + 1) (sureTo p (n + 1)) (sureTo p (n + 1)) lv' wv' := by
  obtain ⟨rv, rfl, hr⟩ := ho
  obtain ⟨A, c, rfl⟩ := hr.form
  have hst := hst0.new hd hnw
  have hlen := sureTo_len p n
  have hok := fillN_ok hf n
  have HFN := hid (show (fillN p n).n = p.n from rfl)
  rw [HFN.out]
  have HIS := hid (fun w1 c1 (h : RowsAt w1 (.slice A (fillN p n).nx.length c1) (fillN p n).nx) => implShortestReset_any (.agg #[.int .i64 p.n, .slice A (fillN p n).nx.length c1]) (fillN p n) w1 ⟨_, rfl, h⟩)
  have hsz := hnw.size
  have hlo : lo ≤ w.heap.size := by have := hst.fx hd lb (by unfold FxS; simp); have := hd.l1; omega
  have hkr : KeptRows lo (SmS lb kb xb mb pb sb lv wv) w (.slice A (fillN p n).nx.length c) (fillN p n).nx :=
    ⟨wp.heap.size, w.heap.size, by have := hst0.fx hd lb (by unfold FxS; simp); have := hd.l1; omega, Nat.le_refl _, hr, fun q hq => Or.inl (hst0.sm hd q hq)⟩
  obtain ⟨wb, hwb⟩ : ∃ wb, wb = w.alloc (.cells #[.int .i64 p.n, .slice A (fillN p n).nx.length c] 31) := ⟨_, rfl⟩
  have hnb : New w wb := by rw [hwb]; exact (by repeat (first | with_reducible exact New.refl _ | with_reducible assumption | with_reducible refine New.alloc ?_ _ | with_reducible refine New.drewN ?_ _ | with_reducible refine New.drew ?_ | with_reducible refine New.trans ?_ (by with_reducible assumption)))
  have hzb : wb.heap.size = w.heap.size + 1 := by rw [hwb]; simp only [size_alloc]
  have hb0 : wb.cell? ⟨w.heap.size, 0, none⟩ = some (.int .i64 p.n) := by rw [hwb]; go_simp
  have hb1 : wb.cell? ⟨w.heap.size, 1, none⟩ = some (.slice A (fillN p n).nx.length c) := by rw [hwb]; go_simp
  have hsb := hst.new hd hnb
  have hkb := hkr.new hnb
  have hwm : ∀ q, SmS lb kb xb mb pb sb lv wv q → q < w.heap.size := hst.sm hd
  obtain ⟨LA, LC, rfl⟩ := hst.ls.form
  obtain ⟨WA, WC, rfl⟩ := hst.ws.form
  have HB := hid hsb
  obtain ⟨x1, xf1⟩ := hst.b1
  have hlbw : lb < w.heap.size := hst.b1.lt
  have HZB := hid hzb
  have HLOB : lo ≤ wb.heap.size := by omega
  have HLB := hid (fun k hk => hst.ls.block k hk)
  have HWB := hid (fun k hk => hst.ws.block k hk)
  -- after the list has grown
  have HG := hid (show ∀ (g7 cap7 : Nat) (w7 : World), (∀ M' : Nat → Prop, (∀ q, M' q → SmS lb kb xb mb pb sb (.slice LA n LC) (.slice WA (sureTo p n).length WC) q ∨ wb.heap.size ≤ q) → GrowA lo 31 M' w7 (.slice (some ⟨g7, 0, none⟩) (n + 1) cap7) p.n (fun i => (fillN p i).nx) (n + 1)) → wb.grownBy w7 (Value.slice LA n LC).ownBlock → ((Value.slice LA n LC).ownBlock = some g7 ∨ wb.heap.size ≤ g7) →
      Box1 w7 lb (.slice LA n LC) ∧ (∀ w8, w8 = w7.setCell ⟨lb, 0, none⟩ (.slice (some ⟨g7, 0, none⟩) (n + 1) cap7) → SureSt p lo lb kb xb mb pb sb w8 (n + 1) (sureTo p n) (sureTo p n) (.slice (some ⟨g7, 0, none⟩) (n + 1) cap7) (.slice WA (sureTo p n).length WC) ∧ w8.cell? ⟨w.heap.size, 0, none⟩ = some (.int .i64 p.n) ∧ w8.cell? ⟨w.heap.size, 1, none⟩ = some (.slice A (fillN p n).nx.length c) ∧ RowsAt w8 (.slice A (fillN p n).nx.length c) (fillN p n).nx ∧ But (fun q => lo ≤ q ∧ q ≠ pb ∧ q ≠ sb) w w8) from fun g7 cap7 w7 h1 h2 h3 => by
    have hS := HB.out.list hd h1 h2 h3
    have fl : FxS lb kb xb mb pb sb lb := by unfold FxS; simp
    have hbb : But (fun q => (Value.slice LA n LC).ownBlock = some q) wb w7 := But.of_grown h2 (fun k hk => hk)
    refine ⟨HB.out.b1.but hbb (fun q => (HB.out.d1 lb q).1 fl), fun w8 hw8 => ?_⟩
    have hs : But (fun q => q = lb) w7 w8 := by rw [hw8]; exact But.setCell ⟨lb, 0, none⟩ _ rfl
    rw [← hw8] at hS
    have hlw : lb < w.heap.size := hwm lb (Or.inl fl)
    have hq1 : ¬ (Value.slice LA n LC).ownBlock = some w.heap.size := fun q => by have := (HLB.out _ q).2; omega
    have hq2 : ¬ w.heap.size = lb := by omega
    refine ⟨hS, hs.cell (hbb.cell hb0 hq1) hq2, hs.cell (hbb.cell hb1 hq1) hq2, ?_, ?_⟩
    · exact ((hkb.but (M' := SmS lb kb xb mb pb sb (.slice LA n LC) (.slice WA (sureTo p n).length WC)) hbb (fun q hq => Or.inl (Or.inr (Or.inl hq))) (fun q hq => Or.inl hq)).but (M' := fun _ => False) hs (fun q hq => by subst hq; exact Or.inl (Or.inl fl)) (fun q hq => hq.elim)).at
    · have e1 : But (fun q => lo ≤ q ∧ q ≠ pb ∧ q ≠ sb) wb w7 := hbb.mono (fun q hq => by
        have h1 := (HLB.out q hq).1
        have h2 := (HB.out.d1 q hq).1
        refine ⟨h1, fun e => h2 (by subst e; unfold FxS; simp), fun e => h2 (by subst e; unfold FxS; simp)⟩)
      have e2 : But (fun q => lo ≤ q ∧ q ≠ pb ∧ q ≠ sb) w7 w8 := hs.mono (fun q hq => by
        have k1 := hd.l1
        have k2 := hd.h1
        have k3 := hd.h5
        omega)
      exact ((But.of_new hnb).trans e1 (fun q hq => Or.inl hq)).trans e2 (fun q hq => Or.inl hq))
  suffices HQS : ∀ Q : Ending → World → Prop, Hid (∀ w', But (fun q => lo ≤ q ∧ q ≠ pb ∧ q ≠ sb) w w' → ∀ lv' wv', SureSt p lo lb kb xb mb pb sb w' (n + 1) (sureTo p (n + 1)) (sureTo p (n + 1)) lv' wv' → Q (.returned (.bool true)) w') →
      Calls Tryz.prog 28 #[.agg #[.int .i64 p.n, .slice A (fillN p n).nx.length c], .pointer (some ⟨lb, 0, none⟩), .pointer (some ⟨kb, 0, none⟩), .pointer (some ⟨xb, 0, none⟩)] w Q from
    HQS _ (hid fun w' h1 lv' wv' h2 => ⟨rfl, h1, lv', wv', h2⟩)
  intro Q HQ
  cases hb : (fillW p n).2 with
  | false =>
    rw [sureTo_no hb] at HQ
    have HRS := hid (resetS_no hok hb)
    rw [HRS.out] at HIS
    clear hb hok hst hst0 hr hkr hsb hzb hsz hlo hwm hlen hnw HRS
    obtain ⟨SL, hSL⟩ : ∃ z, z = sureTo p n := ⟨_, rfl⟩
    rw [← hSL] at HQ HB HG HWB hkb
    clear hSL
    go_enter Tryz.func28, Tryz.ntmps28
    go_wp2_with (at_builtin; rw [← hwb]; (refine wpList_appA rfl _ _ _ rfl Tryz.underlying57 info_autI rfl rfl (.slice LA n LC) n (fun i => (fillN p i).nx) rfl HB.out.ls (by rw [HZB.out]; rfl) (by omega) HLOB hkb (fun k hk => Or.inr (Or.inl hk)) ?_); intro g7 cap7 w7 hA7 hg7 hl7; obtain ⟨hx7, hG⟩ := HG.out g7 cap7 w7 hA7 hg7 hl7; obtain ⟨z7, zf7⟩ := hx7; obtain ⟨w8, hw8⟩ : ∃ w8, w8 = w7.setCell ⟨lb, 0, none⟩ (.slice (some ⟨g7, 0, none⟩) (n + 1) cap7) := ⟨_, rfl⟩; obtain ⟨hS8, c80, c81, r8, hb8⟩ := hG w8 hw8; rw [hw8] at c80 c81; have HS8 := hid hS8; clear hS8 hG hA7 hg7 hl7)
    rw [← hw8]
    refine (HIS.out _ _ r8).mono ?_
    rintro e w9 ⟨r9, rfl, hn9, ho9⟩
    have h6 : decide ((6 : Int) = 0) = false := by decide
    go_wp2_with fail
    go_quiet (fail)
    go_wp2_with fail
    exact HQ.out _ ((hb8.trans (But.of_new (S := fun q => lo ≤ q ∧ q ≠ pb ∧ q ≠ sb) hn9) (fun q hq => Or.inl hq)).trans (But.of_new (S := fun q => lo ≤ q ∧ q ≠ pb ∧ q ≠ sb) (by repeat (first | with_reducible exact New.refl _ | with_reducible assumption | with_reducible refine New.alloc ?_ _ | with_reducible refine New.drewN ?_ _ | with_reducible refine New.drew ?_ | with_reducible refine New.trans ?_ (by with_reducible assumption)))) (fun q hq => Or.inl hq)) _ _ ((HS8.out.new hd hn9).new hd (by repeat (first | with_reducible exact New.refl _ | with_reducible assumption | with_reducible refine New.alloc ?_ _ | with_reducible refine New.drewN ?_ _ | with_reducible refine New.drew ?_ | with_reducible refine New.trans ?_ (by with_reducible assumption))))
  | true =>
    have hrs : ShortestReset (fillN p n) = ((fillW p n).1, 0) := resetS_yes hok hb
    obtain ⟨W1, hW1⟩ : ∃ z, z = ShortestReset (fillN p n) := ⟨_, rfl⟩
    rw [← hW1] at HIS hrs
    have hxl := fillW_letters hb
    have hxs := lettersP_small hf hxl
    have hx4 := fillW_len hf n
    have hsl : ∀ x, x ∈ sureTo p n → lettersP p x := fun x hx => (sureTo_word hf hx).1
    have HSN := hid (fun hm => sureTo_new hb hm)
    have HSO := hid (fun hm => sureTo_old (p := p) (n := n) hm)
    obtain ⟨X, hX⟩ : ∃ z, z = (fillW p n).1 := ⟨_, rfl⟩
    rw [← hX] at hrs hxl hxs hx4 HSN HSO
    obtain ⟨X1, X2⟩ := W1
    obtain ⟨e1, e2⟩ := Prod.mk.inj hrs
    rw [e1, e2] at HIS
    dsimp only at HIS
    have CK := hid (fun v w h => keyOfW_any v X w h hxs (by omega))
    have HINJ := hid (fun x y (hx : lettersP p x) (hy : lettersP p y) (e : bytesOf x = bytesOf y) => bytesOf_inj x y (lettersP_small hf hx) (lettersP_small hf hy) e)
    have HXL := hid hxl
    have HSL := hid hsl
    obtain ⟨SL, hSL⟩ : ∃ z, z = sureTo p n := ⟨_, rfl⟩
    rw [← hSL] at HB HG HWB hkb HSN HSO HSL hlen
    have HDN := hid (show X ∈ SL ∨ X ∉ SL from Classical.em _)
    clear hSL hX hrs hW1 e1 e2 hxl hxs hsl hb hok hst hst0 hr hkr hsb hzb hsz hlo hwm hnw
    obtain ⟨SN, hSNe⟩ : ∃ z, z = sureTo p (n + 1) := ⟨_, rfl⟩
    rw [← hSNe] at HQ HSN HSO
    clear hSNe
    go_enter Tryz.func28, Tryz.ntmps28
    go_wp2_with (at_builtin; rw [← hwb]; (refine wpList_appA rfl _ _ _ rfl Tryz.underlying57 info_autI rfl rfl (.slice LA n LC) n (fun i => (fillN p i).nx) rfl HB.out.ls (by rw [HZB.out]; rfl) (by omega) HLOB hkb (fun k hk => Or.inr (Or.inl hk)) ?_); intro g7 cap7 w7 hA7 hg7 hl7; obtain ⟨hx7, hG⟩ := HG.out g7 cap7 w7 hA7 hg7 hl7; obtain ⟨z7, zf7⟩ := hx7; obtain ⟨w8, hw8⟩ : ∃ w8, w8 = w7.setCell ⟨lb, 0, none⟩ (.slice (some ⟨g7, 0, none⟩) (n + 1) cap7) := ⟨_, rfl⟩; obtain ⟨hS8, c80, c81, r8, hb8⟩ := hG w8 hw8; rw [hw8] at c80 c81; have HS8 := hid hS8; clear hS8 hG hA7 hg7 hl7)
    rw [← hw8]
    refine (HIS.out _ _ r8).mono ?_
    rintro e w9 ⟨r9, rfl, hn9, ho9⟩
    clear hw8 c80 c81 z7 zf7 hwb hnb hb0 hb1 x1 xf1 r8
    obtain ⟨A9, c9, rfl⟩ := ho9.form
    have HS9 := hid (HS8.out.new hd hn9)
    obtain ⟨y2, yf2⟩ := HS9.out.b2
    have hb9 : But (fun q => lo ≤ q ∧ q ≠ pb ∧ q ≠ sb) w w9 := hb8.trans (But.of_new (S := fun q => lo ≤ q ∧ q ≠ pb ∧ q ≠ sb) hn9) (fun q hq => Or.inl hq)
    have h0 : decide ((0 : Int) = 0) = true := by decide
    have HLO8 := hid (show lo ≤ w8.heap.size by have := hd.l1; have := HS8.out.fx hd lb (by unfold FxS; simp); omega)
    rcases HDN.out with hm | hm
    · have HLK := hid (fun (wx : World) (hn : New w9 wx) => ((HS9.out.mp.new hn).look Tryz.underlying9 (T := 58) (E := 4) Tryz.underlying58 zero_boolS X HXL.out (by omega)).1 hm)
      rw [HSO.out hm] at HQ
      clear hm HSN HSO
      go_wp2_with fail
      go_region_law (first | (go_simp; go_at_call 29; refine (CK.out _ _ (ho9.at.new (by repeat (first | with_reducible exact New.refl _ | with_reducible assumption | with_reducible refine New.alloc ?_ _ | with_reducible refine New.drewN ?_ _ | with_reducible refine New.drew ?_ | with_reducible refine New.trans ?_ (by with_reducible assumption))))).mono ?_; rintro e wc ⟨rfl, hnc⟩; have hnk : New w9 wc := New.trans (b := _) (by repeat (first | with_reducible exact New.refl _ | with_reducible assumption | with_reducible refine New.alloc ?_ _ | with_reducible refine New.drewN ?_ _ | with_reducible refine New.drew ?_ | with_reducible refine New.trans ?_ (by with_reducible assumption))) hnc; have hlk := HLK.out wc hnk; have y2c := hnk.cell y2))
      all_goals go_wp2_with fail
      all_goals exact HQ.out _ (hb9.trans (But.of_new (S := fun q => lo ≤ q ∧ q ≠ pb ∧ q ≠ sb) (by repeat (first | with_reducible exact New.refl _ | with_reducible assumption | with_reducible refine New.alloc ?_ _ | with_reducible refine New.drewN ?_ _ | with_reducible refine New.drew ?_ | with_reducible refine New.trans ?_ (by with_reducible assumption)))) (fun q hq => Or.inl hq)) _ _ (HS9.out.new hd (by repeat (first | with_reducible exact New.refl _ | with_reducible assumption | with_reducible refine New.alloc ?_ _ | with_reducible refine New.drewN ?_ _ | with_reducible refine New.drew ?_ | with_reducible refine New.trans ?_ (by with_reducible assumption))))
    · have HLK := hid (fun (wx : World) (hn : New w9 wx) => ((HS9.out.mp.new hn).look Tryz.underlying9 (T := 58) (E := 4) Tryz.underlying58 zero_boolS X HXL.out (by omega)).2 hm)
      have HPUT := hid (fun (wx : World) (hn : New w9 wx) => (HS9.out.mp.new hn).put Tryz.underlying9 (T := 58) (E := 4) Tryz.underlying58 HINJ.out HSL.out X HXL.out (by omega) hm (by omega))
      have HPA := hid (show ∀ (wd w4 : World), New w9 wd → wd.grownBy w4 (some mb) → SMap Tryz.prog 9 (lettersP p) w4 mb (SL ++ [X]) → SureSt p lo lb kb xb mb pb sb w4 (n + 1) (SL ++ [X]) SL (.slice (some ⟨g7, 0, none⟩) (n + 1) cap7) (.slice WA SL.length WC) ∧ But (fun q => q = mb) w8 w4 ∧ OwnInts w8.heap.size w4.heap.size w4 (.slice A9 X.length c9) X ∧ But (fun q => lo ≤ q ∧ q ≠ pb ∧ q ≠ sb) w w4 ∧ lo ≤ w4.heap.size from fun wd w4 hn hg hmp => by
        have fm : FxS lb kb xb mb pb sb mb := by unfold FxS; simp
        have hmb := HS8.out.fx hd mb fm
        have hbm : But (fun q => q = mb) wd w4 := But.of_grown hg (fun k hk => by injection hk with hk; exact hk.symm)
        have h89 := hn9.size
        have h9d := hn.size
        have hd4 := hbm.size
        have hs := (HS9.out.new hd hn).map hd hg hmp
        have hlb := hs.fx hd lb (by unfold FxS; simp)
        have k1 := hd.l1
        have k4 := hd.l4
        have kh4 := hd.h4
        have kh5 := hd.h5
        refine ⟨hs, (But.of_new (S := fun q => q = mb) (hn9.trans hn)).trans hbm (fun q hq => Or.inl hq), ?_, (hb9.trans (But.of_new (S := fun q => lo ≤ q ∧ q ≠ pb ∧ q ≠ sb) hn) (fun q hq => Or.inl hq)).trans (hbm.mono (fun q hq => by subst hq; show lo ≤ q ∧ q ≠ pb ∧ q ≠ sb; omega)) (fun q hq => Or.inl hq), by omega⟩
        exact ((ho9.new hn).butK hbm (fun q hq => by subst hq; exact Or.inl hmb)).widen (Nat.le_refl _) (by omega))
      rw [HSN.out hm] at HQ
      clear hm HSN HSO HSL HINJ
      go_wp2_with fail
      go_region_law (first | (go_simp; go_at_call 29; refine (CK.out _ _ (ho9.at.new (by repeat (first | with_reducible exact New.refl _ | with_reducible assumption | with_reducible refine New.alloc ?_ _ | with_reducible refine New.drewN ?_ _ | with_reducible refine New.drew ?_ | with_reducible refine New.trans ?_ (by with_reducible assumption))))).mono ?_; rintro e wc ⟨rfl, hnc⟩; have hnk : New w9 wc := New.trans (b := _) (by repeat (first | with_reducible exact New.refl _ | with_reducible assumption | with_reducible refine New.alloc ?_ _ | with_reducible refine New.drewN ?_ _ | with_reducible refine New.drew ?_ | with_reducible refine New.trans ?_ (by with_reducible assumption))) hnc; have hlk := HLK.out wc hnk; have y2c := hnk.cell y2))
      all_goals go_wp2_with fail
      all_goals go_region_law (first | (go_simp; go_at_call 29; (refine (CK.out _ _ (ho9.at.new (by repeat (first | with_reducible exact New.refl _ | with_reducible assumption | with_reducible refine New.alloc ?_ _ | with_reducible refine New.drewN ?_ _ | with_reducible refine New.drew ?_ | with_reducible refine New.trans ?_ (by with_reducible assumption))))).mono ?_); rintro e wd ⟨rfl, hnd⟩; (have hnl : New w9 wd := New.trans (b := _) (by repeat (first | with_reducible exact New.refl _ | with_reducible assumption | with_reducible refine New.alloc ?_ _ | with_reducible refine New.drewN ?_ _ | with_reducible refine New.drew ?_ | with_reducible refine New.trans ?_ (by with_reducible assumption))) hnd); have y2d := hnl.cell y2; obtain ⟨w4, hrun, hg4, hmp4⟩ := HPUT.out wd hnl; (obtain ⟨hs4, hb4, ho4, hbw4, hlo4⟩ := HPA.out wd w4 hnl hg4 hmp4); have HS4 := hid hs4; obtain ⟨z4, zf4⟩ := hs4.b3; clear hs4))
      all_goals go_wp2_with (at_builtin; (refine wpList_appW rfl _ _ _ rfl Tryz.underlying24 info_ints rfl (by decide) rfl (.slice WA SL.length WC) SL X rfl HS8.out.ws rfl (by omega) hlo4 hb4 (fun k hk => by intro q; subst q; exact HS8.out.d2 _ hk (by unfold FxS; simp)) (fun q hq => by subst hq; exact Or.inl (Or.inl (by unfold FxS; simp))) ho4 (Nat.le_refl _) HLO8.out (fun q hq => HS8.out.sm hd q hq) (fun k hk => Or.inr (Or.inr hk)) ?_); intro g5 cap5 w5 hW5 hg5 hl5; (have hx5 : Box1 w5 xb (.slice WA SL.length WC) := HS4.out.b3.but (But.of_grown (S := fun q => (Value.slice WA SL.length WC).ownBlock = some q) hg5 (fun k hk => hk)) (fun q => HS4.out.d2 xb q (by unfold FxS; simp))); obtain ⟨z5, zf5⟩ := hx5)
      all_goals refine HQ.out _ ((hbw4.trans ((But.of_grown (S := fun q => (Value.slice WA SL.length WC).ownBlock = some q) hg5 (fun k hk => hk)).mono (S' := fun q => lo ≤ q ∧ q ≠ pb ∧ q ≠ sb) (fun q hq => ⟨(HWB.out q hq).1, fun e => HS4.out.d2 q hq (by subst e; unfold FxS; simp), fun e => HS4.out.d2 q hq (by subst e; unfold FxS; simp)⟩)) (fun q hq => Or.inl hq)).trans (But.setCell (S := fun q => lo ≤ q ∧ q ≠ pb ∧ q ≠ sb) ⟨xb, 0, none⟩ _ ?_) (fun q hq => Or.inl hq)) _ _ (HS4.out.words hd hW5 hg5 hl5)
      all_goals (have k3 := hd.l3; have k4 := hd.h3; have k5 := hd.h5; show lo ≤ xb ∧ xb ≠ pb ∧ xb ≠ sb; omega)
end
section
theorem SureSt.start {p : Aut} {lo lb kb xb mb pb sb : Nat} {w w' : World} {lv wv : Value} (b1 : Box1 w lb lv) (b2 : Box1 w kb (.map (some mb))) (b3 : Box1 w xb wv) (mp : SMap Tryz.prog 9 (lettersP p) w mb [])
    (ls : GrowA lo 31 (SmS lb kb xb mb pb sb lv wv) w lv p.n (fun i => (fillN p i).nx) 0) (ws : GrowW lo 34 (SmS lb kb xb mb pb sb lv wv) w wv [])
    (d1 : ∀ q, lv.ownBlock = some q → ¬ FxS lb kb xb mb pb sb q ∧ wv.ownBlock ≠ some q) (d2 : ∀ q, wv.ownBlock = some q → ¬ FxS lb kb xb mb pb sb q)
    (hb : But (fun q => q = sb) w w') (hsb : w.heap.size ≤ sb) (hz : sb < w'.heap.size) : SureSt p lo lb kb xb mb pb sb w' 0 [] [] lv wv := by
  have l1 := b1.lt
  have l2 := b2.lt
  have l3 := b3.lt
  have l4 := mp.lt
  exact ⟨b1.but hb (by show ¬ lb = sb; omega), b2.but hb (by show ¬ kb = sb; omega), b3.but hb (by show ¬ xb = sb; omega), mp.kept (grown_of_but hb) (fun e => by injection e with e; omega),
    ls.but hb (fun k hk q => by have := (ls.block k hk).2; subst q; omega) (fun q hq => Or.inr (by omega)) (fun q hq => Or.inl hq), ws.but hb (fun k hk q => by have := (ws.block k hk).2; subst q; omega) (fun q hq => Or.inr (by omega)) (fun q hq => Or.inl hq), d1, d2, hz⟩
theorem fillCount_pos {p : Aut} (hf : PartFacts p) : 0 < fillCount p := Nat.pow_pos (by have := hf.n1; omega)
theorem sureFill_any (v : Value) (p : Aut) (hf : PartFacts p) (w1 W2 : World) (h : AutAt w1 v p) (hn : New w1 W2) (lb kb xb mb : Nat) (lv wv : Value) (hd : ∀ sb, W2.heap.size < sb → DsS w1.heap.size lb kb xb mb W2.heap.size sb)
    (b1 : Box1 W2 lb lv) (b2 : Box1 W2 kb (.map (some mb))) (b3 : Box1 W2 xb wv) (mp : SMap Tryz.prog 9 (lettersP p) W2 mb [])
    (ls : ∀ sb, W2.heap.size < sb → GrowA w1.heap.size 31 (SmS lb kb xb mb W2.heap.size sb lv wv) W2 lv p.n (fun i => (fillN p i).nx) 0) (ws : ∀ sb, W2.heap.size < sb → GrowW w1.heap.size 34 (SmS lb kb xb mb W2.heap.size sb lv wv) W2 wv [])
    (d1 : ∀ sb, W2.heap.size < sb → ∀ q, lv.ownBlock = some q → ¬ FxS lb kb xb mb W2.heap.size sb q ∧ wv.ownBlock ≠ some q) (d2 : ∀ sb, W2.heap.size < sb → ∀ q, wv.ownBlock = some q → ¬ FxS lb kb xb mb W2.heap.size sb q) :
    Calls Tryz.prog 23 #[v, .func (.func 28) #[] #[.pointer (some ⟨lb, 0, none⟩), .pointer (some ⟨kb, 0, none⟩), .pointer (some ⟨xb, 0, none⟩)]] W2
      fun e w' => e = .returned (.bool (decide (fillCount p ≤ 5000))) ∧ New w1 w' ∧ (fillCount p ≤ 5000 → ∃ sb lv' wv', W2.heap.size < sb ∧ SureSt p w1.heap.size lb kb xb mb W2.heap.size sb w' (fillCount p) (sureTo p (fillCount p)) (sureTo p (fillCount p)) lv' wv') := by
  have hpos := fillCount_pos hf
  by_cases h5 : 5000 < fillCount p
  · refine (fillings_gen v p w1 W2 28 #[.pointer (some ⟨lb, 0, none⟩), .pointer (some ⟨kb, 0, none⟩), .pointer (some ⟨xb, 0, none⟩)] h hn (enters Tryz.func28 (by decide) (by simp [Tryz.f28])) hf
      (fun sb q => w1.heap.size ≤ q ∧ q ≠ W2.heap.size ∧ q ≠ sb) (fun sb q _ hq => hq)
      (fun sb n w3 => True) (fun _ => true) (fun _ _ _ _ _ _ _ => trivial) (fun sb n wp w3 a hsb hsz hnw hlt h50 hgo hI ha => ?_) (fun _ _ => trivial)).mono ?_
    · omega
    · rintro e w' ⟨sb, hsb, he, hb, _, _⟩
      exact ⟨he, But.new hn hb (fun q hq => hq.1), fun q => absurd q (by omega)⟩
  · refine (fillings_gen v p w1 W2 28 #[.pointer (some ⟨lb, 0, none⟩), .pointer (some ⟨kb, 0, none⟩), .pointer (some ⟨xb, 0, none⟩)] h hn (enters Tryz.func28 (by decide) (by simp [Tryz.f28])) hf
      (fun sb q => w1.heap.size ≤ q ∧ q ≠ W2.heap.size ∧ q ≠ sb) (fun sb q _ hq => hq)
      (fun sb n w3 => (sb < w3.heap.size → ∃ lv' wv', SureSt p w1.heap.size lb kb xb mb W2.heap.size sb w3 n (sureTo p n) (sureTo p n) lv' wv') ∧ (w3.heap.size ≤ sb → n = 0 ∧ But (fun q => q = sb) W2 w3)) (fun _ => true)
      (fun sb n w3 w4 hsb hI hb => ?_) (fun sb n wp w3 a hsb hsz hnw hlt h50 hgo hI ha => ?_) (fun sb hsb => ?_)).mono ?_
    · have hz := hb.size
      rcases Nat.lt_or_ge sb w3.heap.size with q | q
      · refine ⟨fun _ => ?_, fun k => by omega⟩
        obtain ⟨lv', wv', hs⟩ := hI.1 q
        exact ⟨lv', wv', hs.sbs (hd sb hsb) hb⟩
      · obtain ⟨rfl, hb0⟩ := hI.2 q
        have hb4 := hb0.trans hb (fun q hq => Or.inl hq)
        exact ⟨fun k => ⟨lv, wv, SureSt.start b1 b2 b3 mp (ls sb hsb) (ws sb hsb) (d1 sb hsb) (d2 sb hsb) hb4 (by omega) k⟩, fun k => ⟨rfl, hb4⟩⟩
    · obtain ⟨lv', wv', hs⟩ := hI.1 hsz
      refine (SurestWord1_any p hf w1.heap.size lb kb xb mb W2.heap.size sb n (hd sb hsb) wp w3 a lv' wv' hs hnw ha (by omega)).mono ?_
      rintro e w4 ⟨he, hb, lv2, wv2, hs2⟩
      exact ⟨he, hb, fun _ => ⟨lv2, wv2, hs2⟩, fun k => absurd hs2.sz (by omega)⟩
    · exact ⟨fun k => absurd k (by omega), fun _ => ⟨rfl, But.refl⟩⟩
    · rintro e w' ⟨sb, hsb, he, hb, _, hN⟩
      obtain ⟨N, hN1, hI, hgo, hend⟩ := hN (by omega)
      have hNe : N = fillCount p := by
        rcases Nat.lt_or_ge N (fillCount p) with q | q
        · have := (hend q).2; simp at this
        · omega
      subst hNe
      refine ⟨he, But.new hn hb (fun q hq => hq.1), fun _ => ?_⟩
      rcases Nat.lt_or_ge sb w'.heap.size with q | q
      · obtain ⟨lv', wv', hs⟩ := hI.1 q
        exact ⟨sb, lv', wv', hsb, hs⟩
      · have := (hI.2 q).1; omega
end
section
theorem runF_ok {a : Aut} (ha : autOk a = true) (ws : List Int) (hw : letters a ws) : ∀ j, j ≤ ws.length → runF a.nx (full a.n) (ws.take j) < 2 ^ a.n.toNat
  | 0, _ => full_lt _
  | j + 1, h => by
    have hl := hw j (by omega)
    rw [take_succ_nth ws j (by omega), runF_snoc]
    exact moved_ok ha _ _ (by omega) (runF_ok ha ws hw j (by omega))
set_option maxRecDepth 20000 in
set_option maxHeartbeats 2000000 in
theorem implSurestWord_any (v : Value) (p : Aut) (w : World) (h : AutAt w v p) :
    Calls Tryz.prog 9 #[v] w fun e w' => ∃ q, e = .returned (.tuple #[q, .int .i64 (SurestWord p).2]) ∧ New w w' ∧ OwnInts w.heap.size w'.heap.size w' q (SurestWord p).1 := by
  obtain ⟨rv, rfl, hr⟩ := h
  obtain ⟨A, c, rfl⟩ := hr.form
  have h1 : AutAt w (.agg #[.int .i64 p.n, .slice A p.nx.length c]) p := ⟨_, rfl, hr⟩
  obtain ⟨wb, hwb⟩ : ∃ wb, wb = w.alloc (.cells #[.int .i64 p.n, .slice A p.nx.length c] 26) := ⟨_, rfl⟩
  have hnb : New w wb := by rw [hwb]; exact (by repeat (first | with_reducible exact New.refl _ | with_reducible assumption | with_reducible refine New.alloc ?_ _ | with_reducible refine New.drewN ?_ _ | with_reducible refine New.drew ?_ | with_reducible refine New.trans ?_ (by with_reducible assumption)))
  have hb0 : wb.cell? ⟨w.heap.size, 0, none⟩ = some (.int .i64 p.n) := by rw [hwb]; go_simp
  have hb1 : wb.cell? ⟨w.heap.size, 1, none⟩ = some (.slice A p.nx.length c) := by rw [hwb]; go_simp
  have C1 := ValidPartial_any _ p wb (h1.new hnb)
  obtain ⟨R, hRR⟩ : ∃ R, R = SurestWord p := ⟨_, rfl⟩
  rw [← hRR]
  unfold SurestWord at hRR
  have HR := hid hRR
  clear hRR
  have hmm := @run_makeMap Tryz.prog
  cases hok : partOk p with
  | false =>
    rw [hok] at C1
    have HE := hid (show R = ([], 1) by rw [HR.out, hok]; rfl)
    go_enter Tryz.func9, Tryz.ntmps9
    go_wp2_with fail
    rw [← hwb]
    clear hwb
    go_wp2_with fail
    refine C1.mono ?_
    rintro e w1 ⟨rfl, hn1⟩
    go_wp2_with fail
    go_ret2
    rw [HE.out]
    exact ⟨_, rfl, hnb.trans hn1, OwnInts.nil _ _ _⟩
  | true =>
    rw [hok] at C1
    have hf := part_facts hok
    have HE0 := hid (show R = (if 5000 < fillCount p then ([], 3) else (if bestAt (sureF p) (sureIn p (fillCount p)).length < 0 then ([], 6) else (nth (sureIn p (fillCount p)) (bestAt (sureF p) (sureIn p (fillCount p)).length).toNat, 0))) by rw [HR.out, if_pos hok])
    clear hok HR
    go_enter Tryz.func9, Tryz.ntmps9
    go_wp2_with fail
    rw [← hwb]
    clear hwb
    go_wp2_with fail
    refine C1.mono ?_
    rintro e w1 ⟨rfl, hn1⟩
    have z0 := hn1.cell hb0
    have z1 := hn1.cell hb1
    have lz : w.heap.size < w1.heap.size := World.block_lt_of_cell? w1 _ z0
    clear hb0 hb1 C1
    obtain ⟨W2, hW2⟩ : ∃ W2, W2 = ((((((w1.alloc (.cells #[] 31)).alloc (.cells #[] 34)).alloc (.map #[] 0)).alloc (.cells #[.slice (some ⟨w1.heap.size, 0, none⟩) 0 0] 57)).alloc (.cells #[.slice (some ⟨w1.heap.size + 1, 0, none⟩) 0 0] 24)).alloc (.cells #[.map (some (w1.heap.size + 1 + 1))] 58)) := ⟨_, rfl⟩
    have hn2 : New w1 W2 := by rw [hW2]; exact (by repeat (first | with_reducible exact New.refl _ | with_reducible assumption | with_reducible refine New.alloc ?_ _ | with_reducible refine New.drewN ?_ _ | with_reducible refine New.drew ?_ | with_reducible refine New.trans ?_ (by with_reducible assumption)))
    have p0 := hn2.cell z0
    have p1 := hn2.cell z1
    have HP := hid (show W2.cell? ⟨w.heap.size, 0, none⟩ = some (.int .i64 p.n) ∧ W2.cell? ⟨w.heap.size, 1, none⟩ = some (.slice A p.nx.length c) from ⟨p0, p1⟩)
    have hz2 : W2.heap.size = w1.heap.size + 1 + 1 + 1 + 1 + 1 + 1 := by rw [hW2]; simp only [size_alloc]
    have hwn := hnb.trans hn1
    have HX := hid (sureFill_any (.agg #[.int .i64 p.n, .slice A p.nx.length c]) p hf w1 W2 (h1.new hwn) hn2 (w1.heap.size + 1 + 1 + 1) (w1.heap.size + 1 + 1 + 1 + 1 + 1) (w1.heap.size + 1 + 1 + 1 + 1) (w1.heap.size + 1 + 1) (.slice (some ⟨w1.heap.size, 0, none⟩) 0 0) (.slice (some ⟨w1.heap.size + 1, 0, none⟩) 0 0)
      (fun sb hsb => by constructor <;> omega) (by rw [hW2]; exact ⟨by go_simp, by go_simp⟩) (by rw [hW2]; exact ⟨by go_simp, by go_simp⟩) (by rw [hW2]; exact ⟨by go_simp, by go_simp⟩)
      (by
        have := SMap.empty Tryz.prog 9 (lettersP p) ((w1.alloc (.cells #[] 31)).alloc (.cells #[] 34))
        simp only [size_alloc] at this
        rw [hW2]
        exact ((this.new (by repeat (first | with_reducible exact New.refl _ | with_reducible assumption | with_reducible refine New.alloc ?_ _ | with_reducible refine New.drewN ?_ _ | with_reducible refine New.drew ?_ | with_reducible refine New.trans ?_ (by with_reducible assumption))))))
      (fun sb hsb => by
        rw [hW2]
        exact (GrowA.empty w1.heap.size 31 _ w1 p.n (fun i => (fillN p i).nx) (Nat.le_refl _)).new (by repeat (first | with_reducible exact New.refl _ | with_reducible assumption | with_reducible refine New.alloc ?_ _ | with_reducible refine New.drewN ?_ _ | with_reducible refine New.drew ?_ | with_reducible refine New.trans ?_ (by with_reducible assumption))))
      (fun sb hsb => by
        have := GrowW.empty w1.heap.size 34 (SmS (w1.heap.size + 1 + 1 + 1) (w1.heap.size + 1 + 1 + 1 + 1 + 1) (w1.heap.size + 1 + 1 + 1 + 1) (w1.heap.size + 1 + 1) W2.heap.size sb (.slice (some ⟨w1.heap.size, 0, none⟩) 0 0) (.slice (some ⟨w1.heap.size + 1, 0, none⟩) 0 0)) (w1.alloc (.cells #[] 31)) (by simp only [size_alloc]; omega)
        simp only [size_alloc] at this
        exact this.new (by rw [hW2]; exact (by repeat (first | with_reducible exact New.refl _ | with_reducible assumption | with_reducible refine New.alloc ?_ _ | with_reducible refine New.drewN ?_ _ | with_reducible refine New.drew ?_ | with_reducible refine New.trans ?_ (by with_reducible assumption)))))
      (fun sb hsb q hq => by
        cases hq
        refine ⟨fun k => ?_, fun k => ?_⟩
        · unfold FxS at k; simp only at k; omega
        · injection k with k; simp only at k; omega)
      (fun sb hsb q hq => by
        cases hq
        intro k
        unfold FxS at k; simp only at k; omega))
    rw [hW2] at p0 p1
    have HZ2 := hid hz2
    clear hz2
    go_wp2_with fail
    rw [← hW2]
    clear hW2 hmm
    refine HX.out.mono ?_
    rintro e w3 ⟨rfl, hn3, hst⟩
    obtain ⟨kb, hkb⟩ : ∃ z, z = w1.heap.size + 1 + 1 + 1 + 1 + 1 := ⟨_, rfl⟩
    rw [← hkb] at hst ⊢
    obtain ⟨xb, hxb⟩ : ∃ z, z = w1.heap.size + 1 + 1 + 1 + 1 := ⟨_, rfl⟩
    rw [← hxb] at hst ⊢
    obtain ⟨lb, hlb⟩ : ∃ z, z = w1.heap.size + 1 + 1 + 1 := ⟨_, rfl⟩
    rw [← hlb] at hst ⊢
    obtain ⟨mb, hmb⟩ : ∃ z, z = w1.heap.size + 1 + 1 := ⟨_, rfl⟩
    rw [← hmb] at hst ⊢
    have HDS := hid (fun sb (hsb : W2.heap.size < sb) => (show DsS w1.heap.size lb kb xb mb W2.heap.size sb by have := HZ2.out; constructor <;> omega))
    clear hkb hxb hlb hmb HX HZ2
    have hW3 := hwn.trans hn3
    by_cases h5 : 5000 < fillCount p
    · have HE := hid (show R = ([], 3) by rw [HE0.out, if_pos h5])
      have hdc : decide (fillCount p ≤ 5000) = false := by simp; omega
      rw [hdc]
      clear h5 hdc
      go_wp2_with fail
      go_ret2
      rw [HE.out]
      exact ⟨_, rfl, hW3, OwnInts.nil _ _ _⟩
    have HE1 := hid (show R = (if bestAt (sureF p) (sureIn p (fillCount p)).length < 0 then ([], 6) else (nth (sureIn p (fillCount p)) (bestAt (sureF p) (sureIn p (fillCount p)).length).toNat, 0)) by rw [HE0.out, if_neg h5])
    have hdc : decide (fillCount p ≤ 5000) = true := by simp; omega
    rw [hdc]
    obtain ⟨sb, lv, wv, hsb, hs⟩ := hst (by omega)
    have HC5 := hid (show fillCount p ≤ 5000 by omega)
    have hdd := HDS.out sb hsb
    have HSF := hid (fun n => (show sureF p n = resTo p (nth (sureIn p (fillCount p)) n) (fillCount p) from rfl))
    have HSU := hid (sure_found (p := p))
    have HIN := hid (fun x (hx : x ∈ sureIn p (fillCount p)) => sureIn_word hf hx)
    have HINE := hid (sureIn_eq p (fillCount p))
    have hlen := sureTo_len p (fillCount p)
    obtain ⟨SF, hSF⟩ : ∃ z, z = sureF p := ⟨_, rfl⟩
    rw [← hSF] at HE1 HSF HSU
    obtain ⟨WL, hWL⟩ : ∃ z, z = sureIn p (fillCount p) := ⟨_, rfl⟩
    rw [← hWL] at HE1 HSF HSU HIN HINE
    obtain ⟨SL, hSL⟩ : ∃ z, z = sureTo p (fillCount p) := ⟨_, rfl⟩
    rw [← hSL] at hs HINE hlen
    obtain ⟨CC, hCC⟩ : ∃ z, z = fillCount p := ⟨_, rfl⟩
    rw [← hCC] at hs HSF HC5 hlen
    clear hSF hWL hSL hCC h5 hdc HE0 HDS hst
    obtain ⟨WA, WC, rfl⟩ := hs.ws.form
    obtain ⟨LA, LC, rfl⟩ := hs.ls.form
    obtain ⟨y3, -⟩ := hs.b3
    have HS := hid hs
    rcases Nat.eq_zero_or_pos SL.length with h0 | h0
    · have hw0 : WL = [] := by
        have e : SL = [] := List.eq_nil_of_length_eq_zero h0
        rw [HINE.out, e]; rfl
      have HE := hid (show R = ([], 6) by rw [HE1.out, hw0, if_pos (show bestAt SF ([] : List (List Int)).length < 0 from by show (-1 : Int) < 0; decide)])
      rw [h0] at y3
      clear hs h0 hw0
      go_wp2_with fail
      go_ret2
      rw [HE.out]
      exact ⟨_, rfl, hW3, OwnInts.nil _ _ _⟩
    · have hG0 := hs.ws.rows (fun k hk => Or.inr (Or.inr hk))
      obtain ⟨g, cap5, A5, n5, e5, -, -, -⟩ := hG0.rowAt 0 h0
      have q5 : WA = some ⟨g, 0, none⟩ := by injection e5
      subst q5
      clear e5
      have C2 := SortRows_any shortC short_total 31 #[] g SL.length WC SL w3 hG0 h0 (by have := HC5.out; omega) (enters Tryz.func31 (by decide) (by simp [Tryz.f31])) (fun w' v1 v2 x y a b => compareWords_any v1 v2 x y w' a b)
      rw [show buildR (fun x y => decide (shortC x y < 0)) SL = WL from HINE.out.symm] at C2
      have HWLL := hid (show WL.length = SL.length by rw [HINE.out, buildR_len])
      have b1 : ¬ ((SL.length : Int) = 0) := by omega
      have HH0 := hid h0
      clear hs hG0 h0
      have HG5 := hid (show ∀ w5, w3.grownBy w5 (some g) → GrowRows w1.heap.size 34 w5 (.slice (some ⟨g, 0, none⟩) SL.length WC) WL → Box1 w5 lb (.slice LA CC LC) ∧ Box1 w5 xb (.slice (some ⟨g, 0, none⟩) SL.length WC) ∧ AutsAt w5 (.slice LA CC LC) p.n (fun i => (fillN p i).nx) CC ∧ New w w5 ∧ w1.heap.size ≤ w5.heap.size ∧ ∃ RV : Nat → Value, ∀ k, k < WL.length → w5.cell? ⟨g, k, none⟩ = some (RV k) ∧ OwnInts w1.heap.size w5.heap.size w5 (RV k) (nth WL k) from fun w5 h1 h2 => by
        have hb : But (fun q => (Value.slice (some ⟨g, 0, none⟩) SL.length WC).ownBlock = some q) w3 w5 := But.of_grown h1 (fun k hk => by cases hk; rfl)
        have hA : GrowA w1.heap.size 31 (fun _ => False) w5 (.slice LA CC LC) p.n (fun i => (fillN p i).nx) CC := HS.out.ls.but hb (fun k hk q => (HS.out.d1 k hk).2 q) (fun q hq => Or.inl (Or.inr (Or.inr hq))) (fun q hq => hq.elim)
        obtain ⟨rv, k1, k2, k3⟩ := h2
        have hgl := (HS.out.ws.block g rfl).1
        have hlo := hn3.size
        have hz5 := hb.size
        have hsz1 := hwn.size
        refine ⟨HS.out.b1.but hb (fun q => HS.out.d2 lb q (by unfold FxS; simp)), ?_, hA.at, New.grown hW3 h1 (fun q hq => by cases hq; omega), by omega, rv, fun k hk => ⟨?_, (k2 k hk).1⟩⟩
        · exact HS.out.b3.but hb (fun q => HS.out.d2 xb q (by unfold FxS; simp))
        · obtain ⟨b, hb1, ⟨c', e⟩, _, _, hc, _⟩ := ownsRow_cells k1 k (by simpa using hk)
          have e2 : g = b := by simpa [Value.ownBlock] using hb1
          subst e2
          rw [hc]; simp)
      go_wp2_with (go_at_call 30; refine C2.mono ?_; rintro e w5 ⟨rfl, hg5, hG5⟩; obtain ⟨hb1, hb3, hAA, hN5, hlo5, RV, hRV⟩ := HG5.out w5 hg5 hG5; obtain ⟨x1, xf1⟩ := hb1; obtain ⟨x3, xf3⟩ := hb3; have HRV := hid hRV; clear hRV hg5 hG5)
      clear C2 HG5 p0 p1 z0 z1 y3
      clear b1
      obtain ⟨_, _, eL, hLC⟩ := hAA
      cases eL
      have HLC := hid hLC
      have hc5 := HC5.out
      have hw5 : WL.length ≤ 5000 := by have := HWLL.out; omega
      have HOKF := hid (fun i => fillN_ok hf i)
      have HLF := hid (fun x (hx : lettersP p x) i => letters_fill hx i)
      have hn1p := hf.n1
      have hn10 := hf.n10
      have HRL := hid (fun x i => resTo_le p x i)
      clear hLC HS hsb hdd
      go_loopw [8, 9, 38] (fun bv mv iv wr => ∃ k : Nat, k ≤ WL.length ∧ iv = .int .i64 k ∧ mv = .int .i64 (bestM SF k : Nat) ∧ Hid (bv = (if bestAt SF k < 0 then .slice none 0 0 else RV (bestAt SF k).toNat)) ∧ New w5 wr) (fun _ _ iv _ => WL.length - (intOf iv).toNat)
      case atStart => exact ⟨0, Nat.zero_le _, rfl, rfl, hid rfl, New.refl _⟩
      case round =>
        obtain ⟨k, hk, rfl, rfl, HBV, hm⟩ := hrel
        by_cases hkl : k < WL.length
        · have c1 : (k : Int) < (SL.length : Int) := by have := HWLL.out; omega
          obtain ⟨q0, q1⟩ := HRV.out k hkl
          obtain ⟨A6, c6, e6⟩ := q1.form
          rw [e6] at q0 q1
          have HE6 := hid e6
          obtain ⟨hxl, hx4⟩ := HIN.out _ (nth_mem _ _ hkl)
          have HSFk := hid (HSF.out k)
          obtain ⟨X, hX⟩ : ∃ z, z = nth WL k := ⟨_, rfl⟩
          rw [← hX] at q0 q1 hxl hx4 HSFk HE6
          have HXL := hid hxl
          have HQ1 := hid q1.at
          have x1k := hm.cell x1
          have q0k := hm.cell q0
          clear e6 hX hxl q1
          go_wp2_with fail
          obtain ⟨wo, rfl⟩ : ∃ wo : World, wo = wr := ⟨_, rfl⟩
          obtain ⟨AX, cX, eX, _, hcX⟩ := HQ1.out
          cases eX
          have HCX := hid hcX
          clear hcX q0 x1k q0k
          go_loopw [12, 44] (fun mv iv wr => ∃ i : Nat, i ≤ CC ∧ iv = .int .i64 i ∧ mv = .int .i64 (resTo p X i : Nat) ∧ New w5 wr) (fun _ iv _ => CC - (intOf iv).toNat)
          case atStart => exact ⟨0, Nat.zero_le _, rfl, rfl, hm⟩
          case round =>
            obtain ⟨i, hi, rfl, rfl, hn⟩ := hrel
            obtain ⟨wi, rfl⟩ : ∃ wi : World, wi = wr := ⟨_, rfl⟩
            have hrl := HRL.out X i
            by_cases hil : i < CC
            · have c2 : (i : Int) < (CC : Int) := by omega
              obtain ⟨b, r, rfl, y0, y1, yr⟩ := HLC.out i hil
              replace y0 := hn.cell y0
              replace y1 := hn.cell y1
              have hok := HOKF.out i
              have hll := HLF.out X HXL.out i
              have HFN := hid (show (fillN p i).n = p.n from rfl)
              have HRE := hid (show resTo p X (i + 1) = resTo p X i + if rsB (fillN p i) X = true then 1 else 0 from rfl)
              obtain ⟨FN, hFN⟩ : ∃ FN, FN = fillN p i := ⟨_, rfl⟩
              rw [← hFN] at hok hll HRE HFN yr
              clear hFN
              obtain ⟨Ar, cr, rfl⟩ := yr.form
              have HY := hid yr
              have hfn := HFN.out
              have hAt := fun w1 (h1 : New w5 w1) => (show AutAt w1 (.agg #[.int .i64 p.n, .slice Ar FN.nx.length cr]) FN from ⟨_, by rw [hfn], yr.new h1⟩)
              have CALL := hid (fun w1 h1 => all_any _ FN w1 (hAt w1 h1) hok)
              have CFL := hid (fun v w1 (h : IntsAt w1 v (iota 0 FN.n.toNat)) => flockOf_any v _ w1 h (sIota FN hok))
              rw [full_iota FN.n (by have := autOk_n hok; omega)] at CFL
              have CST := hid (fun j (hj : j < X.length) w1 h1 => step_any _ FN (runF FN.nx (full FN.n) (X.take j)) (nth X j) w1 (hAt w1 h1) hok (hll j hj) (runF_ok hok X hll j (by omega)))
              have HRF := hid (fun j (hj : j < X.length) => (show runF FN.nx (full FN.n) (X.take (j + 1)) = moved (nth FN.nx (nth X j).toNat) (runF FN.nx (full FN.n) (X.take j)) by rw [take_succ_nth X j hj, runF_snoc]))
              have hF1 := lt_10 (runF_ok hok X hll X.length (Nat.le_refl _)) (by have := autOk_n hok; omega)
              have CSM := hid (fun w1 => isSmall_any (runF FN.nx (full FN.n) (X.take X.length)) w1 hF1)
              rw [List.take_length, show smallB (runF FN.nx (full FN.n) X) = rsB FN X from rfl] at CSM
              obtain ⟨RS, hRS⟩ : ∃ z, z = rsB FN X := ⟨_, rfl⟩
              rw [← hRS] at CSM HRE
              obtain ⟨RI, hRI⟩ : ∃ z, z = resTo p X i := ⟨_, rfl⟩
              rw [← hRI] at HRE hrl ⊢
              clear hok hll hAt yr hF1 hfn hRS hRI
              go_wp2_with (first
                | (go_at_call 33; refine (CALL.out _ (by repeat (first | with_reducible exact New.refl _ | with_reducible assumption | with_reducible refine New.alloc ?_ _ | with_reducible refine New.drewN ?_ _ | with_reducible refine New.drew ?_ | with_reducible refine New.trans ?_ (by with_reducible assumption)))).mono ?_; rintro e w6 ⟨q6, rfl, hn6, ho6⟩)
                | (go_at_call 32; refine (CFL.out _ _ ho6.at).mono ?_; rintro e w7 ⟨rfl, rfl⟩))
              have z0 : w7.cell? ⟨wi.heap.size, 0, none⟩ = some (.int .i64 p.n) := hn6.cell (by go_simp)
              have z1 : w7.cell? ⟨wi.heap.size, 1, none⟩ = some (.slice Ar FN.nx.length cr) := hn6.cell (by go_simp)
              have hn7 : New w5 w7 := hn.trans (New.trans (b := _) (by repeat (first | with_reducible exact New.refl _ | with_reducible assumption | with_reducible refine New.alloc ?_ _ | with_reducible refine New.drewN ?_ _ | with_reducible refine New.drew ?_ | with_reducible refine New.trans ?_ (by with_reducible assumption))) hn6)
              clear hn6 ho6 CALL CFL y0 y1
              go_loopw [15, 53] (fun fv jv wr => ∃ j : Nat, j ≤ X.length ∧ jv = .int .i64 j ∧ fv = .int .u64 (runF FN.nx (full FN.n) (X.take j) : Nat) ∧ New w7 wr) (fun _ jv _ => X.length - (intOf jv).toNat)
              case atStart => exact ⟨0, Nat.zero_le _, rfl, rfl, New.refl _⟩
              case round =>
                obtain ⟨j, hj, rfl, rfl, hq⟩ := hrel
                obtain ⟨wj, rfl⟩ : ∃ wj : World, wj = wr := ⟨_, rfl⟩
                have hqj := hn7.trans hq
                by_cases hjl : j < X.length
                · have c3 : (j : Int) < (X.length : Int) := by omega
                  obtain ⟨bx, ox, rfl, v0⟩ := HCX.out j hjl
                  replace v0 := hqj.cell v0
                  replace z0 := hq.cell z0
                  replace z1 := hq.cell z1
                  have CS := hid (CST.out j hjl wj hqj)
                  have HR2 := hid (HRF.out j hjl)
                  obtain ⟨F1, hF1⟩ : ∃ z, z = runF FN.nx (full FN.n) (X.take j) := ⟨_, rfl⟩
                  rw [← hF1] at CS HR2 ⊢
                  obtain ⟨F2, hF2⟩ : ∃ z, z = runF FN.nx (full FN.n) (X.take (j + 1)) := ⟨_, rfl⟩
                  rw [← hF2] at HR2
                  have HF2 := hid hF2
                  rw [← HR2.out] at CS
                  clear hF1 hF2
                  go_wp2_with (go_at_call 34; refine CS.out.mono ?_; rintro e w8 ⟨rfl, hn8⟩)
                  exact ⟨⟨j + 1, by omega, by go_num, by rw [HF2.out], hq.trans hn8⟩, by simp [intOf]; omega⟩
                · have ej : j = X.length := by omega
                  subst ej
                  have c3 : ¬ (X.length : Int) < (X.length : Int) := by omega
                  rw [List.take_length]
                  obtain ⟨F1, hF1⟩ : ∃ z, z = runF FN.nx (full FN.n) X := ⟨_, rfl⟩
                  rw [← hF1] at CSM ⊢
                  clear hF1
                  cases hrs : RS with
                  | true =>
                    have HZ := hid (show resTo p X (i + 1) = RI + 1 by rw [HRE.out, hrs, if_pos rfl])
                    rw [hrs] at CSM
                    clear hrs
                    go_wp2_with (go_at_call 35; refine (CSM.out _).mono ?_; rintro e w8 ⟨rfl, hww⟩; rw [hww]; clear hww w8)
                    exact ⟨⟨i + 1, by omega, by go_num, by rw [HZ.out]; go_num, hqj⟩, by simp [intOf]; omega⟩
                  | false =>
                    have HZ := hid (show resTo p X (i + 1) = RI by rw [HRE.out, hrs, if_neg (by simp), Nat.add_zero])
                    rw [hrs] at CSM
                    clear hrs
                    go_wp2_with (go_at_call 35; refine (CSM.out _).mono ?_; rintro e w8 ⟨rfl, hww⟩; rw [hww]; clear hww w8)
                    exact ⟨⟨i + 1, by omega, by go_num, by rw [HZ.out], hqj⟩, by simp [intOf]; omega⟩
            · have ei : i = CC := by omega
              have c2 : ¬ (i : Int) < (CC : Int) := by omega
              have HB1 := hid (show bestAt SF (k + 1) = if bestM SF k < SF k then (k : Int) else bestAt SF k from rfl)
              have HB2 := hid (show bestM SF (k + 1) = if bestM SF k < SF k then SF k else bestM SF k from rfl)
              have HS1 := hid (show SF k = resTo p X i by rw [HSFk.out, ei])
              have HEI := hid ei
              clear ei
              have hbm := bestM_le (f := SF) (C := CC) (fun n => by rw [HSF.out n]; exact HRL.out _ _) k
              obtain ⟨S1, hS1⟩ : ∃ z, z = resTo p X i := ⟨_, rfl⟩
              rw [← hS1] at HS1 hrl ⊢
              obtain ⟨M1, hM1⟩ : ∃ z, z = bestM SF k := ⟨_, rfl⟩
              rw [← hM1] at HB1 HB2 hbm ⊢
              rw [HS1.out] at HB1 HB2
              clear hS1 hM1
              by_cases hgt : M1 < S1
              · have c4 : (M1 : Int) < (S1 : Int) := by omega
                rw [if_pos hgt] at HB1 HB2
                go_wp2_with fail
                refine ⟨⟨k + 1, by omega, by go_num, by rw [HB2.out], hid ?_, hn⟩, by simp [intOf]; omega⟩
                rw [HB1.out, if_neg (by omega), Int.toNat_natCast]
                exact HE6.out.symm
              · have c4 : ¬ (M1 : Int) < (S1 : Int) := by omega
                rw [if_neg hgt] at HB1 HB2
                go_wp2_with fail
                refine ⟨⟨k + 1, by omega, by go_num, by rw [HB2.out], hid ?_, hn⟩, by simp [intOf]; omega⟩
                rw [HB1.out]
                exact HBV.out
        · have ek : k = WL.length := by omega
          have c1 : ¬ (k : Int) < (SL.length : Int) := by have := HWLL.out; omega
          have hbp := HSU.out (by have := HH0.out; have := HWLL.out; omega)
          have hbl := bestAt_lt SF WL.length
          have HEK := hid ek
          clear ek
          have hNk := hN5.trans hm
          go_wp2_with fail
          go_ret2
          have hv := HBV.out
          rw [HEK.out, if_neg (by omega)] at hv
          rw [HE1.out, if_neg (by omega), hv]
          obtain ⟨q0, q1⟩ := HRV.out (bestAt SF WL.length).toNat (by omega)
          have hsz := hwn.size
          exact ⟨_, rfl, hNk, (q1.new hm).widen (by omega) hm.size⟩
end

end Go.Proofs.YthbebnfhplacnaaGreat
