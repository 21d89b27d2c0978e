/- slices.SortFunc at lists of lists, under an order that parts whatever two lists are not one. -/
import Derived.Test.YthbebnfhplacnaaRows
import Derived.Test.YthbebnfhplacnaaCore
import Derived.Test.YthbebnfhplacnaaPOrds
import Derived.Test.YthbebnfhplacnaaRowsSwap
import Derived.Test.YthbebnfhplacnaaShelfSort
import Derived.Test.YthbebnfhplacnaaMaps
import Derived.WalkKit
import Derived.WalkSpells
import Derived.WalkLawsBesides
import Derived.Deep.QuietTactic
import Derived.Deep.OwnRows
import Derived.BigQuiet
import Derived.KernelRfl
import Derived.Shelf.SlSortCmp.Whole1
namespace Go.Proofs.Ythbebnfhplacnaa
open Go.RowKit

theorem sw_block {α : Type} [Inhabited α] (enc : α → Value) (w : World) (g off m : Nat) (dk : Array α) (os : Array Obj) (b : Nat) (hb : b < w.heap.size) (hne : b ≠ g) : (sortWorld enc w g off m dk os).heap[b]? = w.heap[b]? := by
  have hs : b < (Go.Sort.putRow enc (Go.Sort.ahead w m) g off dk).heap.size := by rw [Go.Sort.size_putRow]; exact hb
  show ((Go.Sort.putRow enc (Go.Sort.ahead w m) g off dk).heap ++ os)[b]? = _
  rw [Array.getElem?_append_left hs]
  show (w.heap.modify g _)[b]? = _
  rw [Array.getElem?_modify, if_neg (Ne.symm hne)]
theorem sw_same {α : Type} [Inhabited α] (enc : α → Value) (w : World) (g off m : Nat) (dk : Array α) (os : Array Obj) {c : Array Value} {e : TypeId} {fr : Nat × Nat} (h : w.heap[g]? = some (.cells c e fr)) : (sortWorld enc w g off m dk os).heap[g]? = some (.cells (Go.Sort.putCells enc off dk c) e fr) := by
  have hb : g < w.heap.size := (Array.getElem?_eq_some_iff.1 h).1
  have hs : g < (Go.Sort.putRow enc (Go.Sort.ahead w m) g off dk).heap.size := by rw [Go.Sort.size_putRow]; exact hb
  show ((Go.Sort.putRow enc (Go.Sort.ahead w m) g off dk).heap ++ os)[g]? = _
  rw [Array.getElem?_append_left hs]
  show (w.heap.modify g (Go.Sort.onCells (Go.Sort.putCells enc off dk)))[g]? = _
  rw [Array.getElem?_modify, if_pos rfl, h]
  rfl
theorem sw_grown {α : Type} [Inhabited α] (enc : α → Value) (w : World) (g off m : Nat) (dk : Array α) (os : Array Obj) : w.grownBy (sortWorld enc w g off m dk os) (some g) := by
  refine ⟨rfl, rfl, rfl, ?_, fun b hb hne => sw_block enc w g off m dk os b hb (fun e => hne (by rw [e]))⟩
  show w.heap.size ≤ ((Go.Sort.putRow enc (Go.Sort.ahead w m) g off dk).heap ++ os).size
  rw [Array.size_append, Go.Sort.size_putRow]
  exact Nat.le_add_right _ _
theorem perm_row (xss : List (List Int)) (d' : List Nat) (hp : d'.Perm (List.range xss.length)) : (d'.map fun i => nth xss (i % xss.length)).Perm xss := by
  have h1 := hp.map (fun i => nth xss (i % xss.length))
  have h2 : (List.range xss.length).map (fun i => nth xss (i % xss.length)) = xss := by
    apply List.ext_getElem
    · simp
    · intro i hi hi2
      simp only [List.getElem_map, List.getElem_range]
      rw [Nat.mod_eq_of_lt hi2, nth_eq _ _ hi2]
  rwa [h2] at h1
set_option maxHeartbeats 1000000 in
theorem SortRows_any {B : Nat} {e : TypeId} (cf : List Int → List Int → Int) (T : TotalLt (fun x y => decide (cf x y < 0))) (k : Nat) (cb : Array Value) (g n cap : Nat) (xss : List (List Int)) (w : World) (h : GrowRows B e w (.slice (some ⟨g, 0, none⟩) n cap) xss) (h0 : 0 < xss.length) (hl : xss.length ≤ 1048576)
    (hent : ∀ args w, (callFunc k args).run Try.prog w = .ok (.enter k args) w)
    (hf : ∀ w' v1 v2 x y, IntsAt w' v1 x → IntsAt w' v2 y → Calls Try.prog k (#[v1, v2] ++ cb) w' fun e w'' => e = .returned (.int .i64 (cf x y)) ∧ ∃ q os', w'' = Go.Sort.grow (w'.drewN q) os') :
    Calls Try.prog 26 #[.slice (some ⟨g, 0, none⟩) n cap, .func (.func k) #[] cb] w fun e' w' => e' = .returned (.tuple #[]) ∧ w.grownBy w' (some g) ∧ GrowRows B e w' (.slice (some ⟨g, 0, none⟩) n cap) (buildR (fun x y => decide (cf x y < 0)) xss) := by
  obtain ⟨rv, k1, k2, k3⟩ := h
  have hn : n = xss.length := by obtain ⟨A, c, e⟩ := ownsRow_form k1; cases e; rfl
  subst hn
  have hmod : ∀ i, i % xss.length < xss.length := fun i => Nat.mod_lt _ h0
  obtain ⟨d, hd⟩ : ∃ d, d = (List.range xss.length).toArray := ⟨_, rfl⟩
  have hds : d.size = xss.length := by rw [hd]; simp
  have hdi : ∀ j, j < xss.length → d[j]! = j := fun j hj => by rw [hd]; simp [hj]
  have h1 : OneCell (fun i : Nat => rv (i % xss.length)) := fun i => by
    obtain ⟨A, c, e⟩ := (k2 _ (hmod i)).1.form
    show (rv (i % xss.length)).oneCell' = true
    rw [e]; rfl
  have hO : Go.Sort.SWO (ltOf (fun i j : Nat => cf (nth xss (i % xss.length)) (nth xss (j % xss.length)))) :=
    ⟨fun x => T.irrefl _, fun x y z a b => T.trans _ _ _ a b, fun x y z a b => T.ntrans _ _ _ a b⟩
  obtain ⟨g', cap', cur, e1, hgB, hh, hcapn, hcapm, hcs, ht⟩ : ∃ g' cap' cur, Value.slice (some ⟨g, 0, none⟩) xss.length cap = .slice (some ⟨g', 0, none⟩) xss.length cap' ∧ B ≤ g' ∧ w.heap[g']? = some (.cells cur e (0, 0)) ∧ xss.length ≤ cap' ∧ cap' ≤ maxLen ∧ cur.size = cap' * 1 ∧ cur.toList.take (xss.length * 1) = (List.range xss.length).map rv := by
    obtain ⟨_, h2 | h2⟩ := k1
    · cases h2.1
    · exact h2
  cases e1
  have hblk : g < w.heap.size := (Array.getElem?_eq_some_iff.1 hh).1
  have hcell : ∀ j, j < xss.length → w.cell? ⟨g, j, none⟩ = some (rv j) ∧ w.frozen? ⟨g, j, none⟩ = false := fun j hj => by
    obtain ⟨b, _, ⟨c', e2⟩, _, _, hc, hfz⟩ := ownsRow_cells k1 j (by simpa using hj)
    cases e2
    exact ⟨by rw [hc]; simp, hfz⟩
  have hH : Go.Sort.Holds (fun i : Nat => rv (i % xss.length)) w g 0 d := fun j hj => by
    rw [hds] at hj
    obtain ⟨c1, c2⟩ := hcell j hj
    rw [Nat.zero_add, hdi j hj]
    show w.cell? ⟨g, j, none⟩ = some (rv (j % xss.length)) ∧ w.frozen? ⟨g, j, none⟩ = false
    rw [Nat.mod_eq_of_lt hj]
    exact ⟨c1, c2⟩
  have hcmp : CmpLays1 Try.prog k cb (fun i : Nat => rv (i % xss.length)) (fun i j : Nat => cf (nth xss (i % xss.length)) (nth xss (j % xss.length))) g 0 d.size w := fun m os dk _ x y => by
    have rd : ∀ z : Nat, IntsAt (sortWorld (fun i : Nat => rv (i % xss.length)) w g 0 m dk os) (rv (z % xss.length)) (nth xss (z % xss.length)) := fun z => by
      obtain ⟨a, b⟩ := k2 _ (hmod z)
      refine (a.grown (sw_grown _ w g 0 m dk os) ?_).at
      exact b
    exact hf _ _ _ _ _ (rd x) (rd y)
  have hcon := Any.slices_SortFunc sortRLay (fun i : Nat => rv (i % xss.length)) h1 _ hO k cb g 0 cap d w hent hcmp hH hblk (by rw [hds]; omega)
  rw [hds] at hcon
  refine Calls.mono (show Calls Try.prog 26 _ _ _ from hcon) ?_
  rintro e' w' ⟨rfl, d', m, os, hp, hs, rfl⟩
  have hds' : d'.size = xss.length := by rw [hp.1, hds]
  have hpl : d'.toList.Perm (List.range xss.length) := by
    have h3 := hp.2.2
    have e3 : d'.extract 0 xss.length = d' := by rw [← hds']; simp
    have e4 : d.extract 0 xss.length = d := by rw [← hds]; simp
    rw [e3, e4, hd] at h3
    simpa using h3
  have hYp := perm_row xss d'.toList hpl
  have hYl : (d'.toList.map fun i => nth xss (i % xss.length)).length = xss.length := by simp [hds']
  have hnY : ∀ i, i < xss.length → nth (d'.toList.map fun i => nth xss (i % xss.length)) i = nth xss (d'[i]! % xss.length) := fun i hi => by
    rw [nth_eq _ _ (by rw [hYl]; exact hi)]
    have hi' : i < d'.size := by omega
    simp [hi']
  have hYs : srtR (fun x y => decide (cf x y < 0)) (d'.toList.map fun i => nth xss (i % xss.length)) := fun i j hij hj => by
    rw [hYl] at hj
    rw [hnY i (by omega), hnY j hj]
    exact hs i j (Nat.zero_le _) hij hj
  have hY := buildR_is T xss _ hYs hYp
  have hg := sw_grown (fun i : Nat => rv (i % xss.length)) w g 0 m d' os
  refine ⟨rfl, hg, ?_⟩
  rw [← hY]
  have hdm : ∀ i, i < xss.length → d'[i]! < xss.length := fun i hi => by
    have hi' : i < d'.size := by omega
    have : d'[i]! ∈ d'.toList := by simp [hi']
    have := hpl.subset this
    simpa using this
  have hnd : ∀ i j, i < j → j < xss.length → d'[i]! ≠ d'[j]! := fun i j hij hj => by
    have hi' : i < d'.size := by omega
    have hj' : j < d'.size := by omega
    have hnod : d'.toList.Nodup := hpl.nodup_iff.2 List.nodup_range
    have := List.nodup_iff_pairwise_ne.1 hnod
    rw [List.pairwise_iff_getElem] at this
    have := this i j (by simpa using hi') (by simpa using hj') hij
    simpa [hi', hj'] using this
  refine ⟨fun i => rv (d'[i]! % xss.length), ?_, fun i hi => ?_, fun i j hij hj => ?_⟩
  · rw [hYl]
    refine ⟨by simp, .inr ⟨g, cap, Go.Sort.putCells (fun i : Nat => rv (i % xss.length)) 0 d' cur, rfl, hgB, sw_same _ w g 0 m d' os hh, hcapn, hcapm, by simpa [Go.Sort.putCells] using hcs, ?_⟩⟩
    apply List.ext_getElem
    · simp [Go.Sort.putCells]; omega
    · intro i hi hi2
      have hi3 : i < xss.length := by simpa using hi2
      simp [Go.Sort.putCells, hds', hi3]
  · rw [hYl] at hi
    rw [hnY i hi]
    obtain ⟨a, b⟩ := k2 _ (hmod (d'[i]!))
    exact ⟨(a.grown hg b).widen (Nat.le_refl _) hg.size, b⟩
  · rw [hYl] at hj
    have hd1 := hdm i (by omega)
    have hd2 := hdm j hj
    have hne := hnd i j hij hj
    dsimp only
    rw [Nat.mod_eq_of_lt hd1, Nat.mod_eq_of_lt hd2]
    rcases Nat.lt_or_gt_of_ne hne with q | q
    · exact k3 _ _ q hd2
    · rcases k3 _ _ q hd1 with r | r
      · exact Or.inl (Ne.symm r)
      · cases e2 : (rv d'[i]!).ownBlock with
        | none => exact Or.inr rfl
        | some z => left; rw [r]; simp

end Go.Proofs.Ythbebnfhplacnaa
