/- An automaton with fewer choices reaches fewer states, and a word that leads to a common state with fewer choices does with more. -/
import Derived.Test.YtoeckejcmojeaaaRows
import Derived.Test.YtoeckejcmojeaaaCore
import Derived.Test.YtoeckejcmojeaaaArrs
import Derived.Test.YtoeckejcmojeaaaInfos
import Derived.Test.YtoeckejcmojeaaaPlains
import Derived.Test.YtoeckejcmojeaaaPlainCho
import Derived.Test.YtoeckejcmojeaaaSFin2
import Derived.Test.YtoeckejcmojeaaaSFin3
import Derived.Test.YtoeckejcmojeaaaSFin5
import Derived.Test.YtoeckejcmojeaaaIFin
import Derived.WalkKit
import Derived.WalkSpells
import Derived.WalkLawsBesides
import Derived.Deep.QuietTactic
import Derived.Deep.OwnRows
import Derived.BigQuiet
import Derived.KernelRfl
namespace Go.Proofs.Ytoeckejcmojeaaa
open Go.RowKit

theorem setB_of {xs : List Int} {n : Int} (h1 : ∀ i, i < xs.length → 0 ≤ nth xs i ∧ nth xs i < n) (h2 : ∀ i, i + 1 < xs.length → nth xs i < nth xs (i + 1)) : setB xs n = true := by
  unfold setB
  rw [riseB_iff]
  intro i hi
  unfold riseAt
  rw [Bool.and_eq_true, inB_iff]
  refine ⟨by have := h1 i hi; omega, ?_⟩
  cases i with
  | zero => rfl
  | succ i => simpa using h2 i hi
theorem nth_drop1 (xs : List Int) (i : Nat) (h : i + 1 < xs.length) : nth (xs.drop 1) i = nth xs (i + 1) := by
  rw [nth_eq _ _ (by simp; omega), nth_eq _ _ h]
  simp
theorem setB_drop {xs : List Int} {n : Int} (h : setB xs n = true) : setB (xs.drop 1) n = true := by
  refine setB_of (fun i hi => ?_) (fun i hi => ?_)
  · rw [List.length_drop] at hi
    rw [nth_drop1 _ _ (by omega)]
    exact setB_in h _ (by omega)
  · rw [List.length_drop] at hi
    rw [nth_drop1 _ _ (by omega), nth_drop1 _ _ (by omega)]
    exact setB_lt h _ (by omega)
/-- All bits of the one are bits of the other. -/
def SubB (f g : Nat) : Prop := ∀ i, f.testBit i = true → g.testBit i = true
theorem SubB.orB {xs ys : List Int} (h : ∀ x, x ∈ xs → x ∈ ys) : SubB (Go.Proofs.Ytoeckejcmojeaaa.orB xs) (Go.Proofs.Ytoeckejcmojeaaa.orB ys) := fun i hi => by
  obtain ⟨x, hx, e⟩ := (testBit_orB xs i).1 hi
  exact (testBit_orB ys i).2 ⟨x, h x hx, e⟩
theorem testBit_choB (row : List (List Int)) (f i : Nat) : ∀ k, (choB row f k).testBit i = true ↔ ∃ s, s < k ∧ f.testBit s = true ∧ (orB (nth row s)).testBit i = true
  | 0 => by simp [choB_zero]
  | k + 1 => by
    have ih := testBit_choB row f i k
    rw [choB_succ]
    by_cases h : f.testBit k = true
    · rw [if_pos h, Nat.testBit_or, Bool.or_eq_true, ih]
      constructor
      · rintro (⟨s, h1, h2⟩ | h1)
        · exact ⟨s, by omega, h2⟩
        · exact ⟨k, by omega, h, h1⟩
      · rintro ⟨s, h1, h2, h3⟩
        rcases Nat.lt_succ_iff_lt_or_eq.1 h1 with h1 | h1
        · exact Or.inl ⟨s, h1, h2, h3⟩
        · subst h1; exact Or.inr h3
    · rw [if_neg h, ih]
      constructor
      · rintro ⟨s, h1, h2⟩; exact ⟨s, by omega, h2⟩
      · rintro ⟨s, h1, h2, h3⟩
        rcases Nat.lt_succ_iff_lt_or_eq.1 h1 with h1 | h1
        · exact ⟨s, h1, h2, h3⟩
        · subst h1; exact absurd h2 h
theorem choMove_sub {r1 r2 : List (List Int)} {f g : Nat} (hr : ∀ s, SubB (orB (nth r1 s)) (orB (nth r2 s))) (h : SubB f g) : SubB (choMove r1 f) (choMove r2 g) := fun i hi => by
  obtain ⟨s, h1, h2, h3⟩ := (testBit_choB r1 f i 10).1 hi
  exact (testBit_choB r2 g i 10).2 ⟨s, h1, h s h2, hr s i h3⟩
theorem choRun_sub {c d : List (List (List Int))} (hr : ∀ l s, SubB (orB (nth (nth c l) s)) (orB (nth (nth d l) s))) : ∀ (ws : List Int) (f g : Nat), SubB f g → SubB (choRun c f ws) (choRun d g ws)
  | [], _, _, h => h
  | l :: ws, _f, _g, h => choRun_sub hr ws _ _ (choMove_sub (hr l.toNat) h)
theorem part_set {f g : Nat} (h : SubB f g) : partB (setOf f) (setOf g) = true := by
  rw [partB_iff]
  intro i hi
  have := nth_mem _ _ hi
  obtain ⟨h1, h2, h3⟩ := (mem_bitsTo f 10 _).1 this
  exact (mem_bitsTo g 10 _).2 ⟨h1, h2, h _ h3⟩
theorem testBit_meet (i : Nat) : ∀ (xs : List Nat) (a : Nat), (xs.foldl (fun a x => a &&& x) a).testBit i = true ↔ a.testBit i = true ∧ ∀ x, x ∈ xs → x.testBit i = true
  | [], a => by simp
  | x :: xs, a => by
    rw [List.foldl_cons, testBit_meet i xs, Nat.testBit_and, Bool.and_eq_true]
    constructor
    · rintro ⟨⟨h1, h2⟩, h3⟩
      exact ⟨h1, fun y hy => by
        rcases List.mem_cons.1 hy with rfl | hy
        · exact h2
        · exact h3 y hy⟩
    · rintro ⟨h1, h2⟩
      exact ⟨⟨h1, h2 x List.mem_cons_self⟩, fun y hy => h2 y (List.mem_cons_of_mem _ hy)⟩
theorem nth_out {α : Type} [Inhabited α] (xs : List α) (i : Nat) (h : xs.length ≤ i) : nth xs i = default := by
  unfold nth; simp [List.getElem?_eq_none h]
theorem nth_rangeMap' (m : Nat) (f : Nat → Nat) (p : Nat) (h : p < m) : nth ((List.range m).map f) p = f p := by
  rw [nth_eq _ _ (by simpa using h)]; simp
section
variable {d : Cho} {CS : List (List (List Int))} (hd : choOk d = true) (hF : FinAt CS d.nx d.nx.length 0)
include hF in
theorem fin_sub (l s : Nat) : SubB (orB (nth (nth CS l) s)) (orB (nth (nth d.nx l) s)) := by
  obtain ⟨h1, h2⟩ := hF
  by_cases hl : l < d.nx.length
  · obtain ⟨q1, q2⟩ := h2 l hl
    by_cases hs : s < (nth d.nx l).length
    · rcases (q2 s hs).1 with e | ⟨_, e⟩
      · rw [e]; exact fun _ h => h
      · rw [e]; exact SubB.orB fun x hx => List.mem_of_mem_drop hx
    · have : nth (nth CS l) s = [] := nth_out _ _ (by omega)
      rw [this]
      intro i hi
      simp [orB] at hi
  · have : nth CS l = [] := nth_out _ _ (by omega)
    rw [this, show nth ([] : List (List Int)) s = [] from nth_out _ _ (by simp)]
    intro i hi
    simp [orB] at hi
include hd hF
theorem fin_ok : choOk ⟨d.n, CS⟩ = true := by
  obtain ⟨h1, h2⟩ := hF
  obtain ⟨p1, p2, p3⟩ := choOk_parts hd
  refine choOk_of p1 (by omega) fun i hi => ?_
  have hi : i < d.nx.length := by omega
  obtain ⟨q1, q2⟩ := h2 i hi
  obtain ⟨r1, r2⟩ := p3 i hi
  refine ⟨by omega, fun j hj => ?_⟩
  rcases (q2 j (by omega)).1 with e | ⟨_, e⟩
  · rw [e]; exact r2 j (by omega)
  · rw [e]; exact setB_drop (r2 j (by omega))
theorem fin_bits (l s : Nat) (hl : l < d.nx.length) (hs : s < (nth d.nx l).length) : orB (nth (nth CS l) s) < 1024 ∧ orB (nth (nth d.nx l) s) < 1024 := by
  have hc := fin_ok hd hF
  obtain ⟨p1, p2, p3⟩ := choOk_parts hd
  have r1 := (p3 l hl).1
  have a := cho_orB hd l s hl (by omega)
  have b := cho_orB hc l s (by show l < CS.length; have := hF.1; omega) (by show s < d.n.toNat; omega)
  exact ⟨lt_10 b (by show d.n.toNat ≤ 10; omega), lt_10 a (by omega)⟩
theorem fin_ref : refB ⟨d.n, CS⟩ d = true := by
  rw [refB_iff]
  intro l hl s hs
  have hl : l < d.nx.length := by have := hF.1; have hl : l < CS.length := hl; omega
  have hs : s < (nth d.nx l).length := by have := (hF.2 l hl).1; have hs : s < (nth CS l).length := hs; omega
  obtain ⟨a, b⟩ := fin_bits hd hF l s hl hs
  exact (subN_iff a b).2 (fin_sub hF l s)
theorem fin_back : refB d ⟨d.n, CS⟩ = decide (Cho.mk d.n CS = d) := by
  by_cases h : CS = d.nx
  · have e : Cho.mk d.n CS = d := by rw [h]
    rw [decide_eq_true e, e, refB_iff]
    intro l hl s hs
    obtain ⟨_, b⟩ := fin_bits hd hF l s hl hs
    exact (subN_iff b b).2 fun _ q => q
  · have e : ¬ Cho.mk d.n CS = d := fun e => h (by rw [← e])
    rw [decide_eq_false e]
    cases hr : refB d ⟨d.n, CS⟩ with
    | false => rfl
    | true =>
      exfalso
      rw [refB_iff] at hr
      refine h (ext_nth _ _ hF.1 fun l hl => ?_)
      have hl : l < d.nx.length := by have := hF.1; omega
      obtain ⟨q1, q2⟩ := hF.2 l hl
      refine ext_nth _ _ q1 fun s hs => ?_
      have hs : s < (nth d.nx l).length := by omega
      rcases (q2 s hs).1 with e2 | ⟨hlen, e2⟩
      · exact e2
      · exfalso
        obtain ⟨a, b⟩ := fin_bits hd hF l s hl hs
        have h1 := (subN_iff b a).1 (hr l hl s hs)
        rw [e2] at h1
        have hset := ((choOk_parts hd).2.2 l hl).2 s hs
        have h0 := setB_in hset 0 (by omega)
        obtain ⟨y, hy, e3⟩ := (testBit_orB _ _).1 (h1 (nth (nth (nth d.nx l) s) 0).toNat ((testBit_orB _ _).2 ⟨_, nth_mem _ 0 (by omega), rfl⟩))
        obtain ⟨j, hj, rfl⟩ := mem_nth _ y hy
        rw [List.length_drop] at hj
        rw [nth_drop1 _ _ (by omega)] at e3
        have h2 := setB_in hset (j + 1) (by omega)
        have h3 := setB_mono hset 0 (j + 1) (by omega) (by omega)
        omega
theorem fin_reach (set ws : List Int) (hs : setB set d.n = true) (hw : wordOk d.shape ws = true) :
    (ReachBy ⟨d.n, CS⟩ set ws).2 = 0 ∧ (ReachBy d set ws).2 = 0 ∧ partB (ReachBy ⟨d.n, CS⟩ set ws).1 (ReachBy d set ws).1 = true := by
  have hc := fin_ok hd hF
  have hsh : (Cho.mk d.n CS).shape = d.shape := by unfold Cho.shape; simp only; rw [hF.1]
  unfold ReachBy
  rw [if_pos hc, if_pos hd, hsh, hw, hs]
  exact ⟨rfl, rfl, part_set (choRun_sub (fin_sub hF) ws _ _ fun _ q => q)⟩
theorem fin_directs (ws : List Int) (hw : wordOk d.shape ws = true) :
    (Directs ⟨d.n, CS⟩ ws 3).2 = 0 ∧ (Directs d ws 3).2 = 0 ∧ ((Directs ⟨d.n, CS⟩ ws 3).1 = true → (Directs d ws 3).1 = true) := by
  have hc := fin_ok hd hF
  have hsh : (Cho.mk d.n CS).shape = d.shape := by unfold Cho.shape; simp only; rw [hF.1]
  have hn := (choOk_parts hd).1
  unfold Directs
  rw [if_pos hc, if_pos hd, hsh, hw]
  refine ⟨rfl, rfl, ?_⟩
  show directB (reachList ⟨d.n, CS⟩ ws) 3 = true → directB (reachList d ws) 3 = true
  unfold directB
  rw [if_neg (by decide), if_neg (by decide), if_neg (by decide), if_neg (by decide)]
  have h0 : ∀ c : Cho, c.n = d.n → nth (reachList c ws) 0 = choRun c.nx (2 ^ 0) ws := fun c e => by
    unfold reachList
    rw [nth_rangeMap' _ _ _ (by rw [e]; omega)]
  intro h
  rw [Bool.not_eq_true', beq_eq_false_iff_ne] at h ⊢
  obtain ⟨i, hi⟩ := Nat.exists_testBit_of_ne_zero h
  obtain ⟨h1, h2⟩ := (testBit_meet i _ _).1 hi
  have h3 : ((reachList d ws).foldl (fun a x => a &&& x) (nth (reachList d ws) 0)).testBit i = true := by
    rw [testBit_meet]
    rw [h0 ⟨d.n, CS⟩ rfl] at h1
    rw [h0 d rfl]
    refine ⟨choRun_sub (fin_sub hF) ws _ _ (fun _ q => q) i h1, fun x hx => ?_⟩
    unfold reachList at hx
    obtain ⟨s, hs, rfl⟩ := List.mem_map.1 hx
    exact choRun_sub (fin_sub hF) ws _ _ (fun _ q => q) i (h2 _ (List.mem_map.2 ⟨s, hs, rfl⟩))
  intro e
  rw [e] at h3
  simp at h3
end

end Go.Proofs.Ytoeckejcmojeaaa
