/- Parts of the proof that lean on no program: ShelfSort, SortRows. -/
import Derived.Test.YthbebnfhplacnaaGreatRows
import Derived.Test.YthbebnfhplacnaaGreatCore
import Derived.Test.YthbebnfhplacnaaGreatPOrds
import Derived.Test.YthbebnfhplacnaaGreatRowsG
import Derived.Test.YthbebnfhplacnaaGreatMaps
import Derived.WalkKit
import Derived.WalkSpells
import Derived.WalkLawsBesides
import Derived.Deep.QuietTactic
import Derived.Deep.OwnRows
import Derived.BigQuiet
import Derived.KernelRfl
import Derived.Shelf.SlSortCmp.Whole1
namespace Go.Proofs.YthbebnfhplacnaaGreat
open Go.RowKit

section
def sortRRen : Go.Shelf.Ren := ⟨fun | 6 => 30 | 15 => 62 | 14 => 61 | 28 => 96 | 29 => 97 | 20 => 88 | 21 => 89 | 22 => 90 | 23 => 91 | 24 => 92 | 25 => 93 | 26 => 94 | 27 => 95 | 46 => 104 | 47 => 105 | 48 => 106 | 49 => 107 | 50 => 108 | 57 => 110 | n => n, fun | 22 => 24 | 24 => 34 | 25 => 61 | 3 => 3 | 39 => 101 | 0 => 0 | 53 => 131 | 55 => 62 | 4 => 4 | 46 => 124 | 45 => 123 | 50 => 128 | 5 => 5 | 9 => 9 | 66 => 139 | 70 => 143 | 76 => 145 | 77 => 146 | n => n, fun | n => n⟩
theorem sortRLay : Go.Proofs.SlLaysF.n6 Tryz.prog sortRRen := {
  mixed := by kernel_rfl
  f6 := ⟨Tryz.f30.name, by decide, Tryz.func30.trans (congrArg some (by kernel_rfl))⟩
  f14 := ⟨Tryz.f61.name, by decide, Tryz.func61.trans (congrArg some (by kernel_rfl))⟩
  f15 := Tryz.func62.trans (congrArg some (by kernel_rfl))
  f20 := ⟨Tryz.f88.name, by decide, Tryz.func88.trans (congrArg some (by kernel_rfl))⟩
  f21 := ⟨Tryz.f89.name, by decide, Tryz.func89.trans (congrArg some (by kernel_rfl))⟩
  f22 := ⟨Tryz.f90.name, by decide, Tryz.func90.trans (congrArg some (by kernel_rfl))⟩
  f23 := ⟨Tryz.f91.name, by decide, Tryz.func91.trans (congrArg some (by kernel_rfl))⟩
  f24 := ⟨Tryz.f92.name, by decide, Tryz.func92.trans (congrArg some (by kernel_rfl))⟩
  f25 := ⟨Tryz.f93.name, by decide, Tryz.func93.trans (congrArg some (by kernel_rfl))⟩
  f26 := ⟨Tryz.f94.name, by decide, Tryz.func94.trans (congrArg some (by kernel_rfl))⟩
  f27 := ⟨Tryz.f95.name, by decide, Tryz.func95.trans (congrArg some (by kernel_rfl))⟩
  f28 := Tryz.func96.trans (congrArg some (by kernel_rfl))
  f29 := Tryz.func97.trans (congrArg some (by kernel_rfl))
  f46 := ⟨Tryz.f104.name, by decide, Tryz.func104.trans (congrArg some (by kernel_rfl))⟩
  f47 := Tryz.func105.trans (congrArg some (by kernel_rfl))
  f48 := Tryz.func106.trans (congrArg some (by kernel_rfl))
  f49 := ⟨Tryz.f107.name, by decide, Tryz.func107.trans (congrArg some (by kernel_rfl))⟩
  f50 := ⟨Tryz.f108.name, by decide, Tryz.func108.trans (congrArg some (by kernel_rfl))⟩
  f57 := ⟨Tryz.f110.name, by decide, Tryz.func110.trans (congrArg some (by kernel_rfl))⟩
  t0 := Tryz.underlying0
  a0 := Tryz.isAgg0
  z0 := Tryz.sizeOf0
  v0 := Tryz.zeroValue0
  t3 := Tryz.underlying3
  a3 := Tryz.isAgg3
  z3 := Tryz.sizeOf3
  v3 := Tryz.zeroValue3
  t4 := Tryz.underlying4
  a4 := Tryz.isAgg4
  z4 := Tryz.sizeOf4
  v4 := Tryz.zeroValue4
  t5 := Tryz.underlying5
  a5 := Tryz.isAgg5
  z5 := Tryz.sizeOf5
  v5 := Tryz.zeroValue5
  t9 := Tryz.underlying9
  a9 := Tryz.isAgg9
  z9 := Tryz.sizeOf9
  v9 := Tryz.zeroValue9
  t22 := Tryz.underlying24
  a22 := Tryz.isAgg24
  z22 := Tryz.sizeOf24
  v22 := Tryz.zeroValue24
  a24 := Tryz.isAgg34
  z24 := Tryz.sizeOf34
  t25 := Tryz.underlying61
  a25 := Tryz.isAgg61
  z25 := Tryz.sizeOf61
  v25 := Tryz.zeroValue61
  t39 := Tryz.underlying101
  a39 := Tryz.isAgg101
  z39 := Tryz.sizeOf101
  v39 := Tryz.zeroValue101
  t45 := Tryz.underlying123
  a45 := Tryz.isAgg123
  z45 := Tryz.sizeOf123
  v45 := Tryz.zeroValue123
  t46 := Tryz.underlying124
  a46 := Tryz.isAgg124
  z46 := Tryz.sizeOf124
  v46 := Tryz.zeroValue124
  t50 := Tryz.underlying128
  a50 := Tryz.isAgg128
  z50 := Tryz.sizeOf128
  v50 := Tryz.zeroValue128
  t53 := Tryz.underlying131
  a53 := Tryz.isAgg131
  z53 := Tryz.sizeOf131
  v53 := Tryz.zeroValue131
  t55 := Tryz.underlying62
  a55 := Tryz.isAgg62
  z55 := Tryz.sizeOf62
  v55 := Tryz.zeroValue62
  t66 := Tryz.underlying139
  a66 := Tryz.isAgg139
  z66 := Tryz.sizeOf139
  v66 := Tryz.zeroValue139
  t70 := Tryz.underlying143
  a70 := Tryz.isAgg143
  z70 := Tryz.sizeOf143
  v70 := Tryz.zeroValue143
  t76 := Tryz.underlying145
  a76 := Tryz.isAgg145
  z76 := Tryz.sizeOf145
  v76 := Tryz.zeroValue145
  t77 := Tryz.underlying146
  a77 := Tryz.isAgg146
  z77 := Tryz.sizeOf146
  v77 := Tryz.zeroValue146 }
end
section
theorem sw_block {α : Type} [Inhabited α] (enc : α → Value) (w : World) (g off m : Nat) (dk : Array α) (os : Array Obj) (b : Nat) (hb : b < w.heap.size) (hne : b ≠ g) : (sortWorld enc w g off m dk os).heap[b]? = w.heap[b]? := by
  have hs : b < (Go.Sort.putRow enc (Go.Sort.ahead w m) g off dk).heap.size := by rw [Go.Sort.size_putRow]; exact hb
  show ((Go.Sort.putRow enc (Go.Sort.ahead w m) g off dk).heap ++ os)[b]? = _
  rw [Array.getElem?_append_left hs]
  show (w.heap.modify g _)[b]? = _
  rw [Array.getElem?_modify, if_neg (Ne.symm hne)]
theorem sw_same {α : Type} [Inhabited α] (enc : α → Value) (w : World) (g off m : Nat) (dk : Array α) (os : Array Obj) {c : Array Value} {e : TypeId} {fr : Nat × Nat} (h : w.heap[g]? = some (.cells c e fr)) : (sortWorld enc w g off m dk os).heap[g]? = some (.cells (Go.Sort.putCells enc off dk c) e fr) := by
  have hb : g < w.heap.size := (Array.getElem?_eq_some_iff.1 h).1
  have hs : g < (Go.Sort.putRow enc (Go.Sort.ahead w m) g off dk).heap.size := by rw [Go.Sort.size_putRow]; exact hb
  show ((Go.Sort.putRow enc (Go.Sort.ahead w m) g off dk).heap ++ os)[g]? = _
  rw [Array.getElem?_append_left hs]
  show (w.heap.modify g (Go.Sort.onCells (Go.Sort.putCells enc off dk)))[g]? = _
  rw [Array.getElem?_modify, if_pos rfl, h]
  rfl
theorem sw_grown {α : Type} [Inhabited α] (enc : α → Value) (w : World) (g off m : Nat) (dk : Array α) (os : Array Obj) : w.grownBy (sortWorld enc w g off m dk os) (some g) := by
  refine ⟨rfl, rfl, rfl, ?_, fun b hb hne => sw_block enc w g off m dk os b hb (fun e => hne (by rw [e]))⟩
  show w.heap.size ≤ ((Go.Sort.putRow enc (Go.Sort.ahead w m) g off dk).heap ++ os).size
  rw [Array.size_append, Go.Sort.size_putRow]
  exact Nat.le_add_right _ _
theorem perm_row (xss : List (List Int)) (d' : List Nat) (hp : d'.Perm (List.range xss.length)) : (d'.map fun i => nth xss (i % xss.length)).Perm xss := by
  have h1 := hp.map (fun i => nth xss (i % xss.length))
  have h2 : (List.range xss.length).map (fun i => nth xss (i % xss.length)) = xss := by
    apply List.ext_getElem
    · simp
    · intro i hi hi2
      simp only [List.getElem_map, List.getElem_range]
      rw [Nat.mod_eq_of_lt hi2, nth_eq _ _ hi2]
  rwa [h2] at h1
set_option maxHeartbeats 1000000 in
theorem SortRows_any {B : Nat} {e : TypeId} (cf : List Int → List Int → Int) (T : TotalLt (fun x y => decide (cf x y < 0))) (k : Nat) (cb : Array Value) (g n cap : Nat) (xss : List (List Int)) (w : World) (h : GrowRows B e w (.slice (some ⟨g, 0, none⟩) n cap) xss) (h0 : 0 < xss.length) (hl : xss.length ≤ 1048576)
    (hent : ∀ args w, (callFunc k args).run Tryz.prog w = .ok (.enter k args) w)
    (hf : ∀ w' v1 v2 x y, IntsAt w' v1 x → IntsAt w' v2 y → Calls Tryz.prog k (#[v1, v2] ++ cb) w' fun e w'' => e = .returned (.int .i64 (cf x y)) ∧ ∃ q os', w'' = Go.Sort.grow (w'.drewN q) os') :
    Calls Tryz.prog 30 #[.slice (some ⟨g, 0, none⟩) n cap, .func (.func k) #[] cb] w fun e' w' => e' = .returned (.tuple #[]) ∧ w.grownBy w' (some g) ∧ GrowRows B e w' (.slice (some ⟨g, 0, none⟩) n cap) (buildR (fun x y => decide (cf x y < 0)) xss) := by
  obtain ⟨rv, k1, k2, k3⟩ := h
  have hn : n = xss.length := by obtain ⟨A, c, e⟩ := ownsRow_form k1; cases e; rfl
  subst hn
  have hmod : ∀ i, i % xss.length < xss.length := fun i => Nat.mod_lt _ h0
  obtain ⟨d, hd⟩ : ∃ d, d = (List.range xss.length).toArray := ⟨_, rfl⟩
  have hds : d.size = xss.length := by rw [hd]; simp
  have hdi : ∀ j, j < xss.length → d[j]! = j := fun j hj => by rw [hd]; simp [hj]
  have h1 : OneCell (fun i : Nat => rv (i % xss.length)) := fun i => by
    obtain ⟨A, c, e⟩ := (k2 _ (hmod i)).1.form
    show (rv (i % xss.length)).oneCell' = true
    rw [e]; rfl
  have hO : Go.Sort.SWO (ltOf (fun i j : Nat => cf (nth xss (i % xss.length)) (nth xss (j % xss.length)))) :=
    ⟨fun x => T.irrefl _, fun x y z a b => T.trans _ _ _ a b, fun x y z a b => T.ntrans _ _ _ a b⟩
  obtain ⟨g', cap', cur, e1, hgB, hh, hcapn, hcapm, hcs, ht⟩ : ∃ g' cap' cur, Value.slice (some ⟨g, 0, none⟩) xss.length cap = .slice (some ⟨g', 0, none⟩) xss.length cap' ∧ B ≤ g' ∧ w.heap[g']? = some (.cells cur e (0, 0)) ∧ xss.length ≤ cap' ∧ cap' ≤ maxLen ∧ cur.size = cap' * 1 ∧ cur.toList.take (xss.length * 1) = (List.range xss.length).map rv := by
    obtain ⟨_, h2 | h2⟩ := k1
    · cases h2.1
    · exact h2
  cases e1
  have hblk : g < w.heap.size := (Array.getElem?_eq_some_iff.1 hh).1
  have hcell : ∀ j, j < xss.length → w.cell? ⟨g, j, none⟩ = some (rv j) ∧ w.frozen? ⟨g, j, none⟩ = false := fun j hj => by
    obtain ⟨b, _, ⟨c', e2⟩, _, _, hc, hfz⟩ := ownsRow_cells k1 j (by simpa using hj)
    cases e2
    exact ⟨by rw [hc]; simp, hfz⟩
  have hH : Go.Sort.Holds (fun i : Nat => rv (i % xss.length)) w g 0 d := fun j hj => by
    rw [hds] at hj
    obtain ⟨c1, c2⟩ := hcell j hj
    rw [Nat.zero_add, hdi j hj]
    show w.cell? ⟨g, j, none⟩ = some (rv (j % xss.length)) ∧ w.frozen? ⟨g, j, none⟩ = false
    rw [Nat.mod_eq_of_lt hj]
    exact ⟨c1, c2⟩
  have hcmp : CmpLays1 Tryz.prog k cb (fun i : Nat => rv (i % xss.length)) (fun i j : Nat => cf (nth xss (i % xss.length)) (nth xss (j % xss.length))) g 0 d.size w := fun m os dk _ x y => by
    have rd : ∀ z : Nat, IntsAt (sortWorld (fun i : Nat => rv (i % xss.length)) w g 0 m dk os) (rv (z % xss.length)) (nth xss (z % xss.length)) := fun z => by
      obtain ⟨a, b⟩ := k2 _ (hmod z)
      refine (a.grown (sw_grown _ w g 0 m dk os) ?_).at
      exact b
    exact hf _ _ _ _ _ (rd x) (rd y)
  have hcon := Any.slices_SortFunc sortRLay (fun i : Nat => rv (i % xss.length)) h1 _ hO k cb g 0 cap d w hent hcmp hH hblk (by rw [hds]; omega)
  rw [hds] at hcon
  refine Calls.mono (show Calls Tryz.prog 30 _ _ _ from hcon) ?_
  rintro e' w' ⟨rfl, d', m, os, hp, hs, rfl⟩
  have hds' : d'.size = xss.length := by rw [hp.1, hds]
  have hpl : d'.toList.Perm (List.range xss.length) := by
    have h3 := hp.2.2
    have e3 : d'.extract 0 xss.length = d' := by rw [← hds']; simp
    have e4 : d.extract 0 xss.length = d := by rw [← hds]; simp
    rw [e3, e4, hd] at h3
    simpa using h3
  have hYp := perm_row xss d'.toList hpl
  have hYl : (d'.toList.map fun i => nth xss (i % xss.length)).length = xss.length := by simp [hds']
  have hnY : ∀ i, i < xss.length → nth (d'.toList.map fun i => nth xss (i % xss.length)) i = nth xss (d'[i]! % xss.length) := fun i hi => by
    rw [nth_eq _ _ (by rw [hYl]; exact hi)]
    have hi' : i < d'.size := by omega
    simp [hi']
  have hYs : srtR (fun x y => decide (cf x y < 0)) (d'.toList.map fun i => nth xss (i % xss.length)) := fun i j hij hj => by
    rw [hYl] at hj
    rw [hnY i (by omega), hnY j hj]
    exact hs i j (Nat.zero_le _) hij hj
  have hY := buildR_is T xss _ hYs hYp
  have hg := sw_grown (fun i : Nat => rv (i % xss.length)) w g 0 m d' os
  refine ⟨rfl, hg, ?_⟩
  rw [← hY]
  have hdm : ∀ i, i < xss.length → d'[i]! < xss.length := fun i hi => by
    have hi' : i < d'.size := by omega
    have : d'[i]! ∈ d'.toList := by simp [hi']
    have := hpl.subset this
    simpa using this
  have hnd : ∀ i j, i < j → j < xss.length → d'[i]! ≠ d'[j]! := fun i j hij hj => by
    have hi' : i < d'.size := by omega
    have hj' : j < d'.size := by omega
    have hnod : d'.toList.Nodup := hpl.nodup_iff.2 List.nodup_range
    have := List.nodup_iff_pairwise_ne.1 hnod
    rw [List.pairwise_iff_getElem] at this
    have := this i j (by simpa using hi') (by simpa using hj') hij
    simpa [hi', hj'] using this
  refine ⟨fun i => rv (d'[i]! % xss.length), ?_, fun i hi => ?_, fun i j hij hj => ?_⟩
  · rw [hYl]
    refine ⟨by simp, .inr ⟨g, cap, Go.Sort.putCells (fun i : Nat => rv (i % xss.length)) 0 d' cur, rfl, hgB, sw_same _ w g 0 m d' os hh, hcapn, hcapm, by simpa [Go.Sort.putCells] using hcs, ?_⟩⟩
    apply List.ext_getElem
    · simp [Go.Sort.putCells]; omega
    · intro i hi hi2
      have hi3 : i < xss.length := by simpa using hi2
      simp [Go.Sort.putCells, hds', hi3]
  · rw [hYl] at hi
    rw [hnY i hi]
    obtain ⟨a, b⟩ := k2 _ (hmod (d'[i]!))
    exact ⟨(a.grown hg b).widen (Nat.le_refl _) hg.size, b⟩
  · rw [hYl] at hj
    have hd1 := hdm i (by omega)
    have hd2 := hdm j hj
    have hne := hnd i j hij hj
    dsimp only
    rw [Nat.mod_eq_of_lt hd1, Nat.mod_eq_of_lt hd2]
    rcases Nat.lt_or_gt_of_ne hne with q | q
    · exact k3 _ _ q hd2
    · rcases k3 _ _ q hd1 with r | r
      · exact Or.inl (Ne.symm r)
      · cases e2 : (rv d'[i]!).ownBlock with
        | none => exact Or.inr rfl
        | some z => left; rw [r]; simp
end

end Go.Proofs.YthbebnfhplacnaaGreat
