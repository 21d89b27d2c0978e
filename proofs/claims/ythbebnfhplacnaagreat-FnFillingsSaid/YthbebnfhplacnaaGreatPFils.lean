/- Parts of the proof that lean on no program: PlainFils, PlainFils2, PlainFils3. -/
import Derived.Test.YthbebnfhplacnaaGreatCore
import Derived.Test.YthbebnfhplacnaaGreatPlains
import Derived.Test.YthbebnfhplacnaaGreatDrawT
import Derived.Test.YthbebnfhplacnaaGreatPlainFill
import Derived.Test.YthbebnfhplacnaaGreatPlainReset
import Derived.Test.YthbebnfhplacnaaGreatPMerg
import Derived.Test.YthbebnfhplacnaaGreatPlainSure
import Derived.Test.YthbebnfhplacnaaGreatPOrds
import Derived.WalkKit
import Derived.WalkSpells
import Derived.WalkLawsBesides
import Derived.Deep.QuietTactic
import Derived.Deep.OwnRows
import Derived.BigQuiet
import Derived.KernelRfl
namespace Go.Proofs.YthbebnfhplacnaaGreat
open Go.RowKit

section
theorem gaps_sub {α : Type} [DecidableEq α] : ∀ (l l' : List α), l.Nodup → (∀ x, x ∈ l → x ∈ l') → l.length ≤ l'.length
  | [], _, _, _ => Nat.zero_le _
  | x :: r, l', hn, hs => by
    rw [List.nodup_cons] at hn
    have hx : x ∈ l' := hs x (List.mem_cons_self)
    have ih := gaps_sub r (l'.erase x) hn.2 (fun y hy => by
      rw [List.mem_erase_of_ne (show y ≠ x from fun e => hn.1 (by rw [← e]; exact hy))]
      exact hs y (List.mem_cons_of_mem _ hy))
    rw [List.length_erase_of_mem hx] at ih
    have := List.length_pos_of_mem hx
    simp only [List.length_cons]; omega
theorem gapRow_nodup (l : Nat) (row : List Int) : ∀ k, (gapRow l row k).Nodup
  | 0 => by simp [gapRow]
  | k + 1 => by
    by_cases h : nth row k < 0
    · rw [gapRow_yes h, List.nodup_append]
      refine ⟨gapRow_nodup l row k, by simp, fun a ha b hb => ?_⟩
      simp at hb
      subst hb
      intro e
      subst e
      unfold gapRow at ha
      simp at ha
    · rw [gapRow_no h]; exact gapRow_nodup l row k
theorem gapsTo_fst (nx : List (List Int)) (k : Nat) (g : Nat × Nat) (h : g ∈ gapsTo nx k) : g.1 < k := by
  unfold gapsTo gapRow at h
  simp only [List.mem_flatMap, List.mem_range, List.mem_map, List.mem_filter] at h
  obtain ⟨l, h1, s, _, rfl⟩ := h
  exact h1
theorem gapsTo_nodup (nx : List (List Int)) : ∀ k, (gapsTo nx k).Nodup
  | 0 => by simp [gapsTo]
  | k + 1 => by
    rw [gapsTo_succ, List.nodup_append]
    refine ⟨gapsTo_nodup nx k, gapRow_nodup _ _ _, fun a ha b hb e => ?_⟩
    subst e
    have h1 := gapsTo_fst nx k a ha
    unfold gapRow at hb
    simp only [List.mem_map] at hb
    obtain ⟨s, _, rfl⟩ := hb
    simp at h1
theorem gaps_few {nx : List (List Int)} {G : List (Nat × Nat)} (h : ∀ l s, l < nx.length → s < (nth nx l).length → nth (nth nx l) s < 0 → (l, s) ∈ G) : (gapsOf nx).length ≤ G.length :=
  gaps_sub _ _ (gapsTo_nodup nx _) (fun x hx => by
    obtain ⟨h1, h2, h3⟩ := gapsOf_mem.1 hx
    exact h x.1 x.2 h1 h2 h3)
/-- What is drawn: rows of m places each, which lead somewhere but at the places of G. -/
def DrawnP (m L : Nat) (RX : List (List Int)) (G : List (Nat × Nat)) : Prop :=
  RX.length = L ∧ ∀ l, l < L → (nth RX l).length = m ∧ ∀ s, s < m → -1 ≤ nth (nth RX l) s ∧ nth (nth RX l) s < m ∧ (nth (nth RX l) s < 0 → (l, s) ∈ G)
theorem DrawnP.put {m L : Nat} {RX : List (List Int)} {G : List (Nat × Nat)} (h : DrawnP m L RX G) (l s : Nat) (hl : l < L) (hs : s < m) : DrawnP m L (putAt RX l s (-1)) (G ++ [(l, s)]) := by
  obtain ⟨h1, h2⟩ := h
  refine ⟨by rw [putAt_len]; exact h1, fun a ha => ?_⟩
  have hal := h2 a ha
  have hll := h2 l hl
  refine ⟨by rw [putAt_rowlen _ _ _ _ _ (by omega)]; exact hal.1, fun b hb => ?_⟩
  have hab := hal.2 b hb
  rw [nth_putAt _ (by omega) (by omega)]
  by_cases e : a = l ∧ b = s
  · rw [if_pos e]
    refine ⟨by omega, by omega, fun _ => ?_⟩
    rw [e.1, e.2]; simp
  · rw [if_neg e]
    exact ⟨hab.1, hab.2.1, fun q => List.mem_append_left _ (hab.2.2 q)⟩
theorem DrawnP.ok {m L : Nat} {RX : List (List Int)} {G : List (Nat × Nat)} (h : DrawnP m L RX G) (hm : 1 ≤ m ∧ m ≤ 10) (hL : 1 ≤ L ∧ L ≤ 3) : partOk ⟨(m : Int), RX⟩ = true ∧ (gapsOf RX).length ≤ G.length := by
  obtain ⟨h1, h2⟩ := h
  constructor
  · unfold partOk
    simp only [Bool.and_eq_true, inB_iff]
    refine ⟨by omega, by omega, (partRows_iff _ _).2 fun i hi => ?_⟩
    have hi' : i < L := by rw [← h1]; exact hi
    obtain ⟨q1, q2⟩ := h2 i hi'
    unfold partRow
    rw [Bool.and_eq_true, decide_eq_true_eq]
    refine ⟨by show ((nth RX i).length : Int) = m; omega, (allIn_iff _ _ _).2 fun j hj => (inB_iff _ _ _).2 ?_⟩
    have hj' : j < m := by rw [← q1]; exact hj
    have := q2 j hj'
    show -1 ≤ nth (nth RX i) j ∧ nth (nth RX i) j ≤ (m : Int) - 1
    omega
  · refine gaps_few fun l s hl hs hn => ?_
    have hl' : l < L := by omega
    have q := h2 l hl'
    exact (q.2 s (by omega)).2.2 hn
theorem DrawnP.snoc {m L : Nat} {RX : List (List Int)} {x : List Int} (h : DrawnP m L RX []) (hx : x.length = m ∧ ∀ s, s < m → 0 ≤ nth x s ∧ nth x s < m) : DrawnP m (L + 1) (RX ++ [x]) [] := by
  obtain ⟨h1, h2⟩ := h
  refine ⟨by simp; omega, fun l hl => ?_⟩
  by_cases e : l < RX.length
  · rw [nth_append_left _ _ _ e]; exact h2 l (by omega)
  · have e2 : l = RX.length := by omega
    rw [e2, nth_append_here]
    refine ⟨hx.1, fun s hs => ?_⟩
    have := hx.2 s hs
    exact ⟨by omega, this.2, fun q => by omega⟩
theorem DrawnP.start (m : Nat) : DrawnP m 0 [] [] := ⟨rfl, fun l hl => by omega⟩
/-- A place of a list of lists whose head is known. -/
theorem OwnRows.putX {B E n c b off b2 off2 m c2 : Nat} {w : World} {xss : List (List Int)} (h : OwnRows B E w (.slice (some ⟨b, off, none⟩) n c) xss) (i j : Nat) (hi : i < xss.length) (hj : j < (nth xss i).length) (hx : w.cell? ⟨b, off + i, none⟩ = some (.slice (some ⟨b2, off2, none⟩) m c2)) :
    w.cell? ⟨b2, off2 + j, none⟩ = some (.int .i64 (nth (nth xss i) j)) ∧ w.frozen? ⟨b2, off2 + j, none⟩ = false ∧ B ≤ b2 ∧ b2 < E ∧ b2 ≠ b ∧
      ∀ z, OwnRows B E (w.setCell ⟨b2, off2 + j, none⟩ (.int .i64 z)) (.slice (some ⟨b, off, none⟩) n c) (putAt xss i j z) ∧ Within B E w (w.setCell ⟨b2, off2 + j, none⟩ (.int .i64 z)) := by
  have hne := h.row_ne i hi hx
  obtain ⟨b', off', b2', off2', c2', hA, ux, uxs, uxf, u1, u2, hput⟩ := h.put i j hi hj
  cases hA
  have e := ux.symm.trans hx
  injection e with e
  injection e with e1 e2 e3
  injection e1 with e1
  injection e1 with e1 e4
  subst e1 e4
  exact ⟨uxs, uxf, u1, u2, hne, hput⟩
end
section
/-- The digits of a number, m of them, the least first. -/
def leD (n m k : Nat) : List Int := (List.range m).map fun i => ((k / n ^ i % n : Nat) : Int)
theorem leD_len (n m k : Nat) : (leD n m k).length = m := by simp [leD]
theorem nth_leD (n m k i : Nat) (h : i < m) : nth (leD n m k) i = ((k / n ^ i % n : Nat) : Int) := by
  unfold leD; rw [nth_map _ _ _ (by simpa using h), nth_eq _ _ (by simpa using h)]; simp
theorem leD_succ (n m k : Nat) : leD n (m + 1) k = leD n m k ++ [((k / n ^ m % n : Nat) : Int)] := by
  unfold leD; rw [List.range_succ, List.map_append]; rfl
/-- A sum over the first numbers. -/
def sumF (f : Nat → Nat) : Nat → Nat
  | 0 => 0
  | k + 1 => sumF f k + f k
theorem sumF_congr {f g : Nat → Nat} : ∀ n, (∀ i, i < n → f i = g i) → sumF f n = sumF g n
  | 0, _ => rfl
  | n + 1, h => by
    show sumF f n + f n = sumF g n + g n
    rw [sumF_congr n (fun i hi => h i (by omega)), h n (by omega)]
theorem sum_flip (f : List Int → Nat) (n m : Nat) (hn : 1 ≤ n ∧ n ≤ 4) (hm : m ≤ 2) : sumF (fun k => f (leD n m k)) (n ^ m) = sumF (fun N => f (digits n m N)) (n ^ m) := by
  have h1 : m = 0 ∨ m = 1 ∨ m = 2 := by omega
  have h2 : n = 1 ∨ n = 2 ∨ n = 3 ∨ n = 4 := by omega
  rcases h1 with rfl | rfl | rfl
  · rfl
  · refine sumF_congr _ fun i hi => ?_
    unfold leD digits digAt
    simp
  · rcases h2 with rfl | rfl | rfl | rfl
    · simp [sumF, leD, digits, digAt, List.range_succ]
    · simp [sumF, leD, digits, digAt, List.range_succ]; omega
    · simp [sumF, leD, digits, digAt, List.range_succ]; omega
    · simp [sumF, leD, digits, digAt, List.range_succ]; omega
/-- So many fillings does a word reset, in the order of the law. -/
def leC (p : Aut) (ws : List Int) : Nat → Nat := sumF fun k => if rsB ⟨p.n, fillOf p.nx (leD p.n.toNat (gapsOf p.nx).length k)⟩ ws = true then 1 else 0
theorem leC_succ (p : Aut) (ws : List Int) (k : Nat) : leC p ws (k + 1) = leC p ws k + if rsB ⟨p.n, fillOf p.nx (leD p.n.toNat (gapsOf p.nx).length k)⟩ ws = true then 1 else 0 := rfl
theorem leC_le (p : Aut) (ws : List Int) : ∀ k, leC p ws k ≤ k
  | 0 => Nat.le_refl _
  | k + 1 => by
    rw [leC_succ]
    have := leC_le p ws k
    split <;> omega
theorem resTo_sum (p : Aut) (ws : List Int) : ∀ n, resTo p ws n = sumF (fun N => if rsB ⟨p.n, fillOf p.nx (digits p.n.toNat (gapsOf p.nx).length N)⟩ ws = true then 1 else 0) n
  | 0 => rfl
  | n + 1 => by
    show resTo p ws n + _ = sumF _ n + _
    rw [resTo_sum p ws n]; rfl
theorem leC_res (p : Aut) (ws : List Int) (hn : 1 ≤ p.n ∧ p.n ≤ 4) (hm : (gapsOf p.nx).length ≤ 2) : leC p ws (fillCount p) = resTo p ws (fillCount p) := by
  rw [resTo_sum]
  unfold leC fillCount
  exact sum_flip (fun st => if rsB ⟨p.n, fillOf p.nx st⟩ ws = true then 1 else 0) p.n.toNat (gapsOf p.nx).length (by omega) hm
end
section
theorem digits_onto (n m : Nat) (st : List Int) (hn : 1 ≤ n ∧ n ≤ 4) (hm : m ≤ 2) (hl : st.length = m) (hs : ∀ i, i < st.length → 0 ≤ nth st i ∧ nth st i < n) : ∃ k, k < n ^ m ∧ digits n m k = st := by
  have h1 : m = 0 ∨ m = 1 ∨ m = 2 := by omega
  rcases h1 with rfl | rfl | rfl
  · exact ⟨0, by simp, by rw [List.eq_nil_of_length_eq_zero hl]; rfl⟩
  · have h := hs 0 (by omega)
    refine ⟨(nth st 0).toNat, by simp; omega, ext_nth _ _ (by rw [digits_len, hl]) fun i hi => ?_⟩
    rw [digits_len] at hi
    have e : i = 0 := by omega
    subst e
    rw [nth_digits _ _ _ _ (by omega)]
    unfold digAt
    simp
    rw [Int.emod_eq_of_lt (by omega) (by omega)]
    omega
  · have h0 := hs 0 (by omega)
    have h1 := hs 1 (by omega)
    obtain ⟨a, ha⟩ : ∃ a : Nat, nth st 0 = (a : Int) := ⟨(nth st 0).toNat, by omega⟩
    obtain ⟨b, hb⟩ : ∃ b : Nat, nth st 1 = (b : Int) := ⟨(nth st 1).toNat, by omega⟩
    have hk : (a * n + b) < n ^ 2 := by
      have h2 : n = 1 ∨ n = 2 ∨ n = 3 ∨ n = 4 := by omega
      rcases h2 with rfl | rfl | rfl | rfl <;> simp <;> omega
    have d1 : (a * n + b) / n % n = a := by
      have h2 : n = 1 ∨ n = 2 ∨ n = 3 ∨ n = 4 := by omega
      rcases h2 with rfl | rfl | rfl | rfl <;> omega
    have d2 : (a * n + b) % n = b := by
      have h2 : n = 1 ∨ n = 2 ∨ n = 3 ∨ n = 4 := by omega
      rcases h2 with rfl | rfl | rfl | rfl <;> omega
    refine ⟨a * n + b, hk, ext_nth _ _ (by rw [digits_len, hl]) fun i hi => ?_⟩
    rw [digits_len] at hi
    rw [nth_digits _ _ _ _ hi]
    unfold digAt
    have h3 : i = 0 ∨ i = 1 := by omega
    rcases h3 with rfl | rfl
    · rw [ha, show (2 - 1 - 0 : Nat) = 1 by rfl, Nat.pow_one, d1]
    · rw [hb, show (2 - 1 - 1 : Nat) = 0 by rfl, Nat.pow_zero, Nat.div_one, d2]
theorem firstWord_short {a : Aut} {t : Tour} (h : TOk a t) (p : Nat → Bool) : (firstWord p t).1.length ≤ 2 ^ a.n.toNat := by
  have hl := nodup_bound _ _ h.nodup h.lt
  unfold firstWord
  split
  · rename_i i e
    rw [List.findIdx?_eq_some_iff_getElem] at e
    obtain ⟨hi, _⟩ := e
    have := h.wl i hi
    show (nth t.words i).length ≤ _
    omega
  · simp
theorem fillW_short {p : Aut} (h : PartFacts p) (h4 : p.n ≤ 4) (N : Nat) : (fillW p N).1.length ≤ 400 := by
  have ha := fillN_ok h N
  have h1 := firstWord_short (tourOk ha _ (full_lt _)) smallB
  have hn : (fillN p N).n.toNat ≤ 4 := by show p.n.toNat ≤ 4; omega
  have h2 := Nat.pow_le_pow_right (n := 2) (by decide) hn
  show (firstWord smallB (tourOf (fillN p N).nx (full (fillN p N).n))).1.length ≤ 400
  omega
theorem fillCount_few {p : Aut} (h : PartFacts p) (h4 : p.n ≤ 4) (hm : (gapsOf p.nx).length ≤ 2) : fillCount p ≤ 16 := by
  unfold fillCount
  have h1 := h.n1
  have h2 := Nat.pow_le_pow_left (show p.n.toNat ≤ 4 by omega) (gapsOf p.nx).length
  have h3 := Nat.pow_le_pow_right (n := 4) (by decide) hm
  omega
theorem fillW_lets {p : Aut} {n : Nat} (h : (fillW p n).2 = true) : lettersP p (fillW p n).1 := fun i hi => by
  have := (first_runs (WRun.tour (fillN p n) (full (fillN p n).n)) h).1 i hi
  rw [fillN_nx] at this
  exact this
/-- What the law asks, in parts. -/
structure FilFacts (p : Aut) : Prop where
  same : (FirstFilling p).2 = (SurestWord p).2
  no : ¬ (FirstFilling p).2 = 0 → (FirstFilling p).2 = 6 ∧ ∀ k, k < fillCount p → (fillW p k).2 = false
  yes : (FirstFilling p).2 = 0 → ∃ k, (FirstFilling p).1 = fillN p k ∧ (fillW p k).2 = true
  word : (FirstFilling p).2 = 0 → lettersP p (SurestWord p).1 ∧ (SurestWord p).1.length ≤ 400
  pos : (FirstFilling p).2 = 0 → 0 < leC p (SurestWord p).1 (fillCount p)
  most : (FirstFilling p).2 = 0 → ∀ k, k < fillCount p → (fillW p k).2 = true → leC p (fillW p k).1 (fillCount p) ≤ leC p (SurestWord p).1 (fillCount p)
theorem fil_facts {p : Aut} (hp : partOk p = true) (h4 : p.n ≤ 4) (hm : (gapsOf p.nx).length ≤ 2) : FilFacts p := by
  have hf := part_facts hp
  have hn1 := hf.n1
  have hC := fillCount_few hf h4 hm
  have hF : FirstFilling p = if hitTo (fillW p) (fillCount p) < 0 then (⟨0, []⟩, 6) else (fillN p (hitTo (fillW p) (fillCount p)).toNat, 0) := by
    unfold FirstFilling; rw [if_pos hp, if_neg (by omega)]
  have hS : SurestWord p = if bestAt (sureF p) (sureIn p (fillCount p)).length < 0 then ([], 6) else (nth (sureIn p (fillCount p)) (bestAt (sureF p) (sureIn p (fillCount p)).length).toNat, 0) := by
    unfold SurestWord; rw [if_pos hp, if_neg (by omega)]
  have hperm : ∀ x, x ∈ sureIn p (fillCount p) ↔ x ∈ sureTo p (fillCount p) := fun x => by
    rw [sureIn_eq]; exact (buildR_ok short_total (sureTo p (fillCount p))).2.mem_iff
  have hin : ∀ n k, k < n → (fillW p k).2 = true → (fillW p k).1 ∈ sureTo p n := by
    intro n
    induction n with
    | zero => intro k hk; omega
    | succ n ih =>
      intro k hk hb
      rcases Nat.lt_succ_iff_lt_or_eq.1 hk with q | q
      · have := ih k q hb
        by_cases h1 : (fillW p n).2 = true
        · by_cases h2 : (fillW p n).1 ∈ sureTo p n
          · rw [sureTo_old h2]; exact this
          · rw [sureTo_new h1 h2]; exact List.mem_append_left _ this
        · rw [sureTo_no (by simpa using h1)]; exact this
      · subst q
        by_cases h2 : (fillW p k).1 ∈ sureTo p k
        · rw [sureTo_old h2]; exact h2
        · rw [sureTo_new hb h2]; simp
  by_cases hneg : hitTo (fillW p) (fillCount p) < 0
  · have hall := (hitTo_neg (fillW p) (fillCount p)).1 hneg
    have hnil : sureTo p (fillCount p) = [] := by
      cases e : sureTo p (fillCount p) with
      | nil => rfl
      | cons x r =>
        obtain ⟨m, h1, h2, _⟩ := sureTo_mem p x (fillCount p) (by rw [e]; simp)
        rw [hall m h1] at h2; cases h2
    have hnil2 : sureIn p (fillCount p) = [] := by rw [sureIn_eq, hnil]; rfl
    have e1 : FirstFilling p = (⟨0, []⟩, 6) := by rw [hF, if_pos hneg]
    have e2 : SurestWord p = ([], 6) := by rw [hS, hnil2, if_pos (show bestAt (sureF p) ([] : List (List Int)).length < 0 from by show (-1 : Int) < 0; decide)]
    have e3 : (FirstFilling p).2 = 6 := by rw [e1]
    refine ⟨by rw [e1, e2], fun _ => ⟨e3, hall⟩, fun h => ?_, fun h => ?_, fun h => ?_, fun h => ?_⟩ <;> (rw [e3] at h; cases h)
  · have hhit := hitTo_hit (fillW p) (fillCount p) (by omega)
    have hr := hitTo_range (fillW p) (fillCount p)
    have e1 : FirstFilling p = (fillN p (hitTo (fillW p) (fillCount p)).toNat, 0) := by rw [hF, if_neg hneg]
    have hmem := hin (fillCount p) _ (by omega) hhit.1
    have hpos : 0 < (sureIn p (fillCount p)).length := List.length_pos_of_mem ((hperm _).2 hmem)
    have hb := sure_found hpos
    have hbl := bestAt_lt (sureF p) (sureIn p (fillCount p)).length
    have e2 : SurestWord p = (nth (sureIn p (fillCount p)) (bestAt (sureF p) (sureIn p (fillCount p)).length).toNat, 0) := by rw [hS, if_neg (by omega)]
    have hwm : nth (sureIn p (fillCount p)) (bestAt (sureF p) (sureIn p (fillCount p)).length).toNat ∈ sureTo p (fillCount p) := (hperm _).1 (nth_mem _ _ (by omega))
    obtain ⟨m, m1, m2, m3⟩ := sureTo_mem p _ _ hwm
    have hbv : bestM (sureF p) (sureIn p (fillCount p)).length = sureF p (bestAt (sureF p) (sureIn p (fillCount p)).length).toNat := by
      rcases bestAt_val (sureF p) (sureIn p (fillCount p)).length with q | q
      · omega
      · exact q.2
    have hcnt : leC p (SurestWord p).1 (fillCount p) = bestM (sureF p) (sureIn p (fillCount p)).length := by
      rw [leC_res p _ ⟨hn1, h4⟩ hm, e2, hbv]; rfl
    have hge : ∀ k, k < fillCount p → (fillW p k).2 = true → leC p (fillW p k).1 (fillCount p) ≤ bestM (sureF p) (sureIn p (fillCount p)).length := fun k hk hb => by
      obtain ⟨j, hj, hje⟩ := mem_nth _ _ ((hperm _).2 (hin _ k hk hb))
      have := bestM_ge (sureF p) (sureIn p (fillCount p)).length j hj
      have e : sureF p j = leC p (fillW p k).1 (fillCount p) := by
        unfold sureF
        rw [hje, leC_res p _ ⟨hn1, h4⟩ hm]
      omega
    refine ⟨by rw [e1, e2], fun h => absurd (by rw [e1]) h, fun _ => ⟨_, by rw [e1], hhit.1⟩, fun _ => ?_, fun _ => ?_, fun _ k hk hb => ?_⟩
    · rw [e2]
      show lettersP p (nth (sureIn p (fillCount p)) _) ∧ (nth (sureIn p (fillCount p)) _).length ≤ 400
      rw [← m3]
      exact ⟨fillW_lets m2, fillW_short hf h4 m⟩
    · rw [hcnt, hbv]
      show 0 < resTo p (nth (sureIn p (fillCount p)) (bestAt (sureF p) (sureIn p (fillCount p)).length).toNat) (fillCount p)
      rw [← m3]
      have h5 := (first_runs (WRun.tour (fillN p m) (full (fillN p m).n)) m2).2
      exact resTo_pos (m := m) h5 _ m1
    · rw [hcnt]; exact hge k hk hb
end

end Go.Proofs.YthbebnfhplacnaaGreat
