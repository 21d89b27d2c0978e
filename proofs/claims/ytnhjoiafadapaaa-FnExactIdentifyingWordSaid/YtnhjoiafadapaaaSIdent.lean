/- The reference's IdentifyingWord. -/
import Derived.Test.YtnhjoiafadapaaaRows
import Derived.Test.YtnhjoiafadapaaaCore
import Derived.Test.YtnhjoiafadapaaaInfos
import Derived.Test.YtnhjoiafadapaaaPlains
import Derived.Test.YtnhjoiafadapaaaPlainApart
import Derived.Test.YtnhjoiafadapaaaPlainIdent
import Derived.Test.YtnhjoiafadapaaaMaps
import Derived.Test.YtnhjoiafadapaaaArrs
import Derived.Test.YtnhjoiafadapaaaSBase
import Derived.Test.YtnhjoiafadapaaaS06b
import Derived.Test.YtnhjoiafadapaaaS06c
import Derived.Test.YtnhjoiafadapaaaSOwn
import Derived.Test.YtnhjoiafadapaaaSWalks
import Derived.Test.YtnhjoiafadapaaaIdLists
import Derived.Test.YtnhjoiafadapaaaSIdentO
import Derived.WalkKit
import Derived.WalkSpells
import Derived.WalkLawsBesides
import Derived.Deep.QuietTactic
import Derived.Deep.OwnRows
import Derived.BigQuiet
import Derived.KernelRfl
import Derived.Deep.RegionHeld3
import Derived.Deep.RegionLaw
import Derived.Deep.Cut
import Derived.StillTailTactics
namespace Go.Proofs.Ytnhjoiafadapaaa
open Go.RowKit

def idRow (p : Int × Nat) : List Int := [p.1, (p.2 : Int)]
theorem start_bitsS : ∀ (n : Fin 11) (s : Fin 10), s.val < n.val → bits .andNot .i64 (Go.RowKit.wrap64 (Go.RowKit.wrap64 ((2 : Int) ^ n.val) - 1)) (Go.RowKit.wrap64 ((2 : Int) ^ s.val)) = ((2 ^ n.val - 1 - 2 ^ s.val : Nat) : Int) := by decide +kernel
theorem mk_bool (N : Nat) (hN : N ≤ 10240) (w : World) : (Instr.makeSlice 86 (.int .i64 (N : Int)) (.int .i64 (N : Int))).run Try.prog w = .ok (.slice (some ⟨w.heap.size, 0, none⟩) N N) (w.alloc (.cells (madeCells #[.bool false] N) 4)) :=
  run_make_row' (P := Try.prog) 86 4 (.bool false) 1 Try.underlying86 info_bool rfl .i64 .i64 N (by omega) (by omega) w
/-- The place of a look among the marks. -/
def slot (n : Nat) (p : Int × Nat) : Nat := p.1.toNat * 2 ^ n + p.2
def idSeen (n : Nat) (L : List (Int × Nat)) (j : Nat) : Bool := L.any (fun p => slot n p == j)
theorem slot_or (a b n : Nat) (ha : a < 10) (hn : n ≤ 10) (hb : b < 2 ^ n) : bits .or .i64 (Go.RowKit.wrap64 ((a : Int) * 2 ^ n)) (b : Int) = ((a * 2 ^ n + b : Nat) : Int) := by
  have hp := pow10' n hn
  have h1 : a * 2 ^ n ≤ 9 * 1024 := Nat.mul_le_mul (by omega) hp
  rw [cast_pow, ← Int.natCast_mul, wrap64_wrap, wrap_i64_nat _ (by omega), (bits_nat .i64 63 (by decide) wraps_i64 _ _ (by omega) (by omega)).2]
  congr 1
  rw [Nat.mul_comm a, Nat.two_pow_add_eq_or_of_lt hb]
theorem slot_ori (a b n : Nat) (ha : a < 10) (hn : n ≤ 10) (hb : b < 2 ^ n) : bits .or .i64 (IntKind.i64.wrap ((a : Int) * 2 ^ n)) (b : Int) = ((a * 2 ^ n + b : Nat) : Int) := by
  rw [← wrap64_wrap]; exact slot_or a b n ha hn hb
theorem slot_lt {n : Nat} {p : Int × Nat} (h1 : 0 ≤ p.1 ∧ p.1 < (n : Int)) (h2 : p.2 < 2 ^ n) : slot n p < n * 2 ^ n := by
  unfold slot
  have : (p.1.toNat + 1) * 2 ^ n ≤ n * 2 ^ n := Nat.mul_le_mul_right _ (by omega)
  rw [Nat.succ_mul] at this
  omega
theorem slot_inj {n : Nat} {p q : Int × Nat} (hp : 0 ≤ p.1) (hq : 0 ≤ q.1) (h1 : p.2 < 2 ^ n) (h2 : q.2 < 2 ^ n) (h : slot n p = slot n q) : p = q := by
  unfold slot at h
  have hm : ∀ a b : Nat, b < 2 ^ n → (a * 2 ^ n + b) / 2 ^ n = a ∧ (a * 2 ^ n + b) % 2 ^ n = b := fun a b hb => by
    rw [Nat.mul_comm, Nat.mul_add_div (Nat.two_pow_pos n), Nat.mul_add_mod, Nat.div_eq_of_lt hb, Nat.mod_eq_of_lt hb]
    exact ⟨rfl, rfl⟩
  obtain ⟨a1, a2⟩ := hm p.1.toNat p.2 h1
  obtain ⟨b1, b2⟩ := hm q.1.toNat q.2 h2
  rw [h] at a1 a2
  exact Prod.ext (by omega) (by omega)
theorem idSeen_iff {n : Nat} {L : List (Int × Nat)} {q : Int × Nat} (hL : ∀ p, p ∈ L → 0 ≤ p.1 ∧ p.2 < 2 ^ n) (hq : 0 ≤ q.1 ∧ q.2 < 2 ^ n) : idSeen n L (slot n q) = true ↔ q ∈ L := by
  unfold idSeen
  rw [List.any_eq_true]
  constructor
  · rintro ⟨p, hp, e⟩
    rw [beq_iff_eq] at e
    obtain ⟨a, b⟩ := hL p hp
    have := slot_inj a hq.1 b hq.2 e
    rwa [← this]
  · intro h; exact ⟨q, h, by simp⟩
theorem idSeen_snoc (n : Nat) (L : List (Int × Nat)) (q : Int × Nat) (j : Nat) : idSeen n (L ++ [q]) j = if j = slot n q then true else idSeen n L j := by
  unfold idSeen
  rw [List.any_append]
  by_cases e : j = slot n q
  · simp [e]
  · rw [if_neg e]
    have : (slot n q == j) = false := by simp; exact fun h => e h.symm
    simp [this]
theorem rowIs_new {w w' : World} {sb N : Nat} {t : TypeId} {f : Nat → Value} (h : w.rowIs sb t N f) (hn : New w w') : w'.rowIs sb t N f := h.of_block (hn.block sb h.lt)
theorem rowIs_grown {w w' : World} {sb N : Nat} {t : TypeId} {f : Nat → Value} {r : Option Nat} (h : w.rowIs sb t N f) (hg : w.grownBy w' r) (hr : r ≠ some sb) : w'.rowIs sb t N f := h.of_block (hg.block sb h.lt (fun e => hr e.symm))
theorem GrowS.one {S : Nat → Prop} {B : Nat} {e : TypeId} {w : World} {v r : Value} {x : List Int} (h : w.ownsRow B e 1 v 1 [r]) (hs : Solid S w (fun w => IntsAt w r x)) : GrowS IntsAt S B e w v [x] :=
  ⟨fun _ => r, by simpa using h, fun i hi => by
    have : i = 0 := by simpa using hi
    subst this
    exact hs⟩
set_option maxRecDepth 20000 in
set_option maxHeartbeats 4000000 in
theorem specIdentifyingWord_any (v1 : Value) (m : Mach) (s : Int) (w : World) (h1 : MachAt w v1 m) :
    Calls Try.prog 18 #[v1, .int .i64 s] w fun e w' => ∃ r, e = .returned (.tuple #[r, .int .i64 (IdentifyingWord m s).2]) ∧ New w w' ∧ OwnInts w.heap.size w'.heap.size w' r (IdentifyingWord m s).1 := by
  obtain ⟨r1, r2, rfl, hr1, hr2⟩ := h1
  obtain ⟨A1, c1, rfl⟩ := hr1.form
  obtain ⟨A2, c2, rfl⟩ := hr2.form
  obtain ⟨wb, hwb⟩ : ∃ wb, wb = w.alloc (.cells #[.int .i64 m.n, .int .i64 m.o, .slice A1 m.nx.length c1, .slice A2 m.out.length c2] 40) := ⟨_, rfl⟩
  have hp : PMach wb (.pointer (some ⟨w.heap.size, 0, none⟩)) m := by rw [hwb]; exact PMach.box hr1 hr2 _
  have hnb : New w wb := by rw [hwb]; exact (by repeat (first | with_reducible exact New.refl _ | with_reducible assumption | with_reducible refine New.alloc ?_ _ | with_reducible refine New.drew ?_ | with_reducible refine New.drewN ?_ _ | with_reducible refine New.setCell ?_ (by simp <;> omega) _))
  have z0 : wb.cell? ⟨w.heap.size, 0, none⟩ = some (.int .i64 m.n) := by rw [hwb]; go_simp
  have z2 : wb.cell? ⟨w.heap.size, 2, none⟩ = some (.slice A1 m.nx.length c1) := by rw [hwb]; go_simp
  obtain ⟨R, hR⟩ : ∃ R, R = IdentifyingWord m s := ⟨_, rfl⟩
  rw [← hR]
  unfold IdentifyingWord at hR
  have HR := hid hR
  clear hR
  have C1 := l06Ok_any _ m _ hp
  cases ha : machOk m with
  | false =>
    rw [ha] at C1
    have HE := hid (show R = ([], 1) by rw [HR.out, ha]; rfl)
    go_enter Try.func18, Try.ntmps18
    go_wp2_with fail
    rw [← hwb]
    refine C1.mono ?_
    rintro e w1 ⟨rfl, hn1⟩
    go_wp2_with fail
    go_ret2
    rw [HE.out]
    exact ⟨_, rfl, (by repeat (first | with_reducible exact New.refl _ | with_reducible assumption | with_reducible refine New.alloc ?_ _ | with_reducible refine New.drewN ?_ _ | with_reducible refine New.drew ?_ | with_reducible refine New.trans ?_ (by with_reducible assumption))), OwnInts.none' _ (by have := hnb.size; have := hn1.size; omega) (by (try simp only [sizes]) <;> omega)⟩
  | true =>
    rw [ha] at C1
    have HA := hid ha
    have hmn := mach_n ha
    have C2 := hid (fun w1 (hn : New wb w1) => l06State_any _ m s w1 (hp.new hn) (by omega) (by omega))
    cases hs : inB s 0 (m.n - 1) with
    | false =>
      rw [hs] at C2
      have HE := hid (show R = ([], 2) by rw [HR.out, HA.out, hs]; rfl)
      clear ha hs
      go_enter Try.func18, Try.ntmps18
      go_wp2_with fail
      rw [← hwb]
      refine C1.mono ?_
      rintro e w1 ⟨rfl, hn1⟩
      go_wp2_with fail
      refine (C2.out _ hn1).mono ?_
      rintro e w2 ⟨rfl, hw2⟩
      rw [hw2]
      clear hw2 w2
      go_wp2_with fail
      go_ret2
      rw [HE.out]
      exact ⟨_, rfl, (by repeat (first | with_reducible exact New.refl _ | with_reducible assumption | with_reducible refine New.alloc ?_ _ | with_reducible refine New.drewN ?_ _ | with_reducible refine New.drew ?_ | with_reducible refine New.trans ?_ (by with_reducible assumption))), OwnInts.none' _ (by have := hnb.size; have := hn1.size; omega) (by (try simp only [sizes]) <;> omega)⟩
    | true =>
      rw [hs] at C2
      have hs' := hs
      rw [inB_iff] at hs'
      have hsx : 0 ≤ s ∧ s < m.n := ⟨hs'.1, by omega⟩
      have HE := hid (show R = told (idWord m s) by rw [HR.out, if_pos HA.out, if_pos hs])
      have HSX := hid hsx
      by_cases hone : m.n = 1
      · have b1 : (m.n == 1) = true := by simp [hone]
        have HE2 := hid (show R = ([], 0) by rw [HE.out, id_one HA.out s hsx hone]; rfl)
        clear ha hs hs' hone hsx
        go_enter Try.func18, Try.ntmps18
        go_wp2_with fail
        rw [← hwb]
        refine C1.mono ?_
        rintro e w1 ⟨rfl, hn1⟩
        replace z0 := hn1.cell z0
        go_wp2_with fail
        refine (C2.out _ hn1).mono ?_
        rintro e w2 ⟨rfl, hw2⟩
        rw [hw2]
        clear hw2 w2
        go_wp2_with fail
        go_ret2
        rw [HE2.out]
        exact ⟨_, rfl, (by repeat (first | with_reducible exact New.refl _ | with_reducible assumption | with_reducible refine New.alloc ?_ _ | with_reducible refine New.drewN ?_ _ | with_reducible refine New.drew ?_ | with_reducible refine New.trans ?_ (by with_reducible assumption))), OwnInts.none' _ (by have := hnb.size; have := hn1.size; omega) (by (try simp only [sizes]) <;> omega)⟩
      · have b1 : (m.n == 1) = false := by simp [hone]
        have HTW := hid (id_two s hsx hone)
        have HHIT := hid (fun k l h1 h2 h3 h4 h5 => id_hit HA.out s hsx HTW.out k l h1 h2 h3 h4 h5)
        have HNONE := hid (fun k h1 h2 => id_none HA.out s hsx HTW.out k h1 h2)
        have HO := hid (fun (t : Int) (F l : Nat) (w1 : World) (hm : New wb w1) (h3 : 0 ≤ t ∧ t < m.n) (h4 : F < 1024) (h5 : l < m.nx.length) => l06Others_any _ m t F l w1 (hp.new hm) HA.out h3 h4 h5)
        obtain ⟨n, hn⟩ : ∃ n : Nat, m.n = (n : Int) := ⟨m.n.toNat, by omega⟩
        obtain ⟨x, hx⟩ : ∃ x : Nat, s = (x : Int) := ⟨s.toNat, by omega⟩
        subst hx
        have hn10 : n ≤ 10 := by omega
        have hxn : x < n := by omega
        have hst := start_bitsS ⟨n, by omega⟩ ⟨x, by omega⟩ hxn
        simp only at hst
        obtain ⟨F0, hF0⟩ : ∃ F0, F0 = 2 ^ n - 1 - 2 ^ x := ⟨_, rfl⟩
        rw [← hF0] at hst
        rw [hn] at z0 b1
        have HN := hid hn
        have HF0 := hid hF0
        have hwx : IntKind.u64.wrap (x : Int) = (x : Int) := wrap_u64_nat x (by omega)
        have hwn : IntKind.u64.wrap (n : Int) = (n : Int) := wrap_u64_nat n (by omega)
        clear ha hs hs' hone hsx hn hmn hF0
        go_enter Try.func18, Try.ntmps18
        go_wp2_with fail
        rw [← hwb]
        clear hwb
        refine C1.mono ?_
        rintro e w1 ⟨rfl, hn1⟩
        replace z0 := hn1.cell z0
        replace z2 := hn1.cell z2
        go_wp2_with fail
        refine (C2.out _ hn1).mono ?_
        rintro e w2 ⟨rfl, hw2⟩
        rw [hw2]
        clear hw2 w2 C1 C2
        have lw := World.block_lt_of_cell? w1 _ z0
        dsimp only at lw
        have lw1 : w.heap.size < w1.heap.size + 1 := by omega
        have lw2 : w.heap.size < w1.heap.size + 1 + 1 := by omega
        have lw3 : w.heap.size < w1.heap.size + 1 + 1 + 1 := by omega
        have lw4 : w.heap.size < w1.heap.size + 1 + 1 + 1 + 1 := by omega
        obtain ⟨N, hN⟩ : ∃ N, N = n * 2 ^ n := ⟨_, rfl⟩
        have hNl : N ≤ 10240 := by
          rw [hN]
          have := pow10' n hn10
          exact Nat.le_trans (Nat.mul_le_mul hn10 this) (by decide)
        have hshl : Go.RowKit.wrap64 ((n : Int) * 2 ^ n) = (N : Int) := by
          rw [cast_pow, ← Int.natCast_mul, ← hN, wrap64_wrap]
          exact wrap_i64_nat _ (by omega)
        have hmk := fun w => mk_bool N hNl w
        have HNN := hid hN
        clear hN
        obtain ⟨w5, hw5⟩ : ∃ w5, w5 = ((((w1.alloc (.cells #[.int .i64 x, .int .i64 F0] 2)).alloc (.cells #[.slice (some ⟨w1.heap.size, 0, none⟩) 2 2] 26)).alloc (.cells #[] 2)).alloc (.cells #[.slice (some ⟨w1.heap.size + 1 + 1, 0, none⟩) 0 0] 26)).alloc (.cells (madeCells #[.bool false] N) 4) := ⟨_, rfl⟩
        have hn5 : New w1 w5 := by rw [hw5]; exact (by repeat (first | with_reducible exact New.refl _ | with_reducible assumption | with_reducible refine New.alloc ?_ _ | with_reducible refine New.drewN ?_ _ | with_reducible refine New.drew ?_ | with_reducible refine New.trans ?_ (by with_reducible assumption)))
        go_wp2_with fail
        rw [← hw5]
        have hF0n : F0 < 2 ^ n := by
          rw [HF0.out]
          have h2 := Nat.two_pow_pos n
          exact Nat.lt_of_le_of_lt (Nat.sub_le _ _) (by omega)
        have hxI : (0 : Int) ≤ (x : Int) ∧ (x : Int) < (n : Int) := ⟨Int.natCast_nonneg x, by exact_mod_cast hxn⟩
        have hsl := slot_or x F0 n (Nat.lt_of_lt_of_le hxn hn10) hn10 hF0n
        have hsl2 := slot_ori x F0 n (Nat.lt_of_lt_of_le hxn hn10) hn10 hF0n
        have hslt : x * 2 ^ n + F0 < N := by
          rw [HNN.out]
          exact slot_lt (p := ((x : Int), F0)) hxI hF0n
        obtain ⟨I0, hI0⟩ : ∃ I0, I0 = x * 2 ^ n + F0 := ⟨_, rfl⟩
        rw [← hI0] at hsl hsl2 hslt
        have hI0N : (I0 : Int) < (N : Int) := by exact_mod_cast hslt
        have HF0n := hid hF0n
        clear hF0n
        have hS5 : w5.rowIs (w1.heap.size + 1 + 1 + 1 + 1) 4 N (fun _ => .bool false) := by
          have := World.rowIs_made ((((w1.alloc (.cells #[.int .i64 x, .int .i64 F0] 2)).alloc (.cells #[.slice (some ⟨w1.heap.size, 0, none⟩) 2 2] 26)).alloc (.cells #[] 2)).alloc (.cells #[.slice (some ⟨w1.heap.size + 1 + 1, 0, none⟩) 0 0] 26)) (.bool false) N 4
          rw [← hw5] at this
          simpa only [size_alloc] using this
        have hr0 : w5.cell? ⟨w1.heap.size, 0, none⟩ = some (.int .i64 x) := by rw [hw5]; go_simp
        have hr1' : w5.cell? ⟨w1.heap.size, 1, none⟩ = some (.int .i64 F0) := by rw [hw5]; go_simp
        have hl0 : w5.cell? ⟨w1.heap.size + 1, 0, none⟩ = some (.slice (some ⟨w1.heap.size, 0, none⟩) 2 2) := by rw [hw5]; go_simp
        have hi5 : IdL w1.heap.size (w1.heap.size + 1 + 1 + 1 + 1) 26 w5 (.slice (some ⟨w1.heap.size + 1, 0, none⟩) 1 1) (.slice (some ⟨w1.heap.size + 1 + 1 + 1, 0, none⟩) 1 1) [[(x : Int), (F0 : Int)]] [[]] := by
          have h5a : New ((w1.alloc (.cells #[.int .i64 x, .int .i64 F0] 2)).alloc (.cells #[.slice (some ⟨w1.heap.size, 0, none⟩) 2 2] 26)) w5 := by rw [hw5]; exact (by repeat (first | with_reducible exact New.refl _ | with_reducible assumption | with_reducible refine New.alloc ?_ _ | with_reducible refine New.drewN ?_ _ | with_reducible refine New.drew ?_ | with_reducible refine New.trans ?_ (by with_reducible assumption)))
          have h5b : New ((((w1.alloc (.cells #[.int .i64 x, .int .i64 F0] 2)).alloc (.cells #[.slice (some ⟨w1.heap.size, 0, none⟩) 2 2] 26)).alloc (.cells #[] 2)).alloc (.cells #[.slice (some ⟨w1.heap.size + 1 + 1, 0, none⟩) 0 0] 26)) w5 := by rw [hw5]; exact (by repeat (first | with_reducible exact New.refl _ | with_reducible assumption | with_reducible refine New.alloc ?_ _ | with_reducible refine New.drewN ?_ _ | with_reducible refine New.drew ?_ | with_reducible refine New.trans ?_ (by with_reducible assumption)))
          have o1 := ownsRow_new (ownsRow_one (B := w1.heap.size) (e := 26) (w := w1.alloc (.cells #[.int .i64 x, .int .i64 F0] 2)) (x := .slice (some ⟨w1.heap.size, 0, none⟩) 2 2) (by (try simp only [sizes]) <;> omega)) h5a
          have o2 := ownsRow_new (ownsRow_one (B := w1.heap.size) (e := 26) (w := ((w1.alloc (.cells #[.int .i64 x, .int .i64 F0] 2)).alloc (.cells #[.slice (some ⟨w1.heap.size, 0, none⟩) 2 2] 26)).alloc (.cells #[] 2)) (x := .slice (some ⟨w1.heap.size + 1 + 1, 0, none⟩) 0 0) (by (try simp only [sizes]) <;> omega)) h5b
          simp only [size_alloc] at o1 o2
          have hz5 : w5.heap.size = w1.heap.size + 5 := by rw [hw5]; simp only [size_alloc]
          have hat : IntsAt w5 (.slice (some ⟨w1.heap.size, 0, none⟩) 2 2) [(x : Int), (F0 : Int)] := ⟨_, _, rfl, by simp, fun i hi => ⟨_, _, rfl, by
            rcases i with _ | _ | i
            · exact hr0
            · exact hr1'
            · simp at hi; omega⟩⟩
          refine ⟨GrowS.one o1 (hat.solid (fun q hq hs => ?_)), GrowS.one o2 (fun w' _ => ⟨_, _, rfl, by decide, fun i hi => by simp at hi⟩), fun q h1 h2 => ?_, fun h => ?_, fun h => ?_, by omega, by rw [hz5]; omega⟩
          · have e1 : w1.heap.size = q := Option.some.inj hq
            rcases hs with h | h | h | h
            · omega
            · omega
            · have e2 : w1.heap.size + 1 = q := Option.some.inj h
              omega
            · have e2 : w1.heap.size + 1 + 1 + 1 = q := Option.some.inj h
              omega
          · have e1 : w1.heap.size + 1 = q := Option.some.inj h1
            have e2 : w1.heap.size + 1 + 1 + 1 = q := Option.some.inj h2
            omega
          · have e1 : w1.heap.size + 1 = w1.heap.size + 1 + 1 + 1 + 1 := Option.some.inj h
            omega
          · have e1 : w1.heap.size + 1 + 1 + 1 = w1.heap.size + 1 + 1 + 1 + 1 := Option.some.inj h
            omega
        have hsb0 := hS5.cell hslt
        have hsf0 := hS5.frozen I0
        have z05 := hn5.cell z0
        have HS5 := hid hS5
        have HI5 := hid hi5
        have HI0 := hid hI0
        clear hS5 hi5 hw5 hst hshl hmk hI0
        go_cut [6] from 15 (fun lv wr => lv = .slice (some ⟨w1.heap.size + 1, 0, none⟩) 1 1 ∧ New w1 wr ∧ Hid (IdL w1.heap.size (w1.heap.size + 1 + 1 + 1 + 1) 26 wr (.slice (some ⟨w1.heap.size + 1, 0, none⟩) 1 1) (.slice (some ⟨w1.heap.size + 1 + 1 + 1, 0, none⟩) 1 1) [[(x : Int), (F0 : Int)]] [[]]) ∧ Hid (wr.rowIs (w1.heap.size + 1 + 1 + 1 + 1) 4 N (fun j => .bool (idSeen n [((x : Int), F0)] j))))
        case first =>
          go_region_law (fail)
          all_goals go_wp2_with fail
          all_goals go_meet
          all_goals (
            refine ⟨rfl, New.drew (New.setCell hn5 (by show w1.heap.size ≤ w1.heap.size + 1 + 1 + 1 + 1; omega) _), hid ((HI5.out.mark I0 (.bool true)).new (by repeat (first | with_reducible exact New.refl _ | with_reducible assumption | with_reducible refine New.alloc ?_ _ | with_reducible refine New.drewN ?_ _ | with_reducible refine New.drew ?_ | with_reducible refine New.trans ?_ (by with_reducible assumption)))), hid (rowIs_new ((HS5.out.set I0 (.bool true)).congr (fun i _ => ?_)) (by repeat (first | with_reducible exact New.refl _ | with_reducible assumption | with_reducible refine New.alloc ?_ _ | with_reducible refine New.drewN ?_ _ | with_reducible refine New.drew ?_ | with_reducible refine New.trans ?_ (by with_reducible assumption))))⟩
            have e1 : slot n ((x : Int), F0) = I0 := by rw [HI0.out]; rfl
            by_cases e : i = I0
            · simp [idSeen, e1, e]
            · have : (I0 == i) = false := by simp; exact fun h => e h.symm
              simp [idSeen, e1, e, this])
        case rest =>
          obtain ⟨rfl, hnc, hI, hS⟩ := hcut
          obtain ⟨sb, hsb⟩ : ∃ sb, sb = w1.heap.size + 1 + 1 + 1 + 1 := ⟨_, rfl⟩
          rw [← hsb] at hI hS ⊢
          obtain ⟨_, _, e1, _, hc1⟩ := hr1
          cases e1
          have HC1 := hid hc1
          have hml := mach_l HA.out
          have HST0 := hid (show idT m x 0 = bStart ((x : Int), F0) by
            unfold idT
            rw [bTo_zero, idSt, HN.out, HF0.out]
            simp)
          have HB := hid (fun (t' : Bfs (Int × Nat)) (h : BOk (idP m) m.nx.length t') => id_bound HA.out h)
          have HT := hid (fun k => id_bok HA.out (x : Int) HSX.out k)
          have HRW := hid (fun l (h : l < m.nx.length) => mach_row HA.out l h)
          have HROW := hid (fun (t' : Bfs (Int × Nat)) (h : BOk (idP m) m.nx.length t') k (hk : k < t'.list.length) l (hl' : l ≤ m.nx.length) => h.row (g := idG m) (fun l x y hl'' hx hg => idG_ok HA.out l x y hl'' hx hg) k hk l hl')
          have HIP := hid (fun (y : Int × Nat) (h : idP m y) => show (0 ≤ y.1 ∧ y.1 < (n : Int)) ∧ y.2 < 2 ^ n from by
            have h1 := h.1; have h2 := h.2
            rw [HN.out] at h1 h2
            exact ⟨h1, by simpa using h2⟩)
          have HI := hid (show IdL w1.heap.size sb 26 wc (.slice (some ⟨w1.heap.size + 1, 0, none⟩) 1 1) (.slice (some ⟨w1.heap.size + 1 + 1 + 1, 0, none⟩) 1 1) ((idT m x 0).list.map idRow) (idT m x 0).words by rw [HST0.out]; exact hI.out)
          have HS := hid (show wc.rowIs sb 4 N (fun j => .bool (idSeen n (idT m x 0).list j)) by rw [HST0.out]; exact hS.out)
          have HN10 := hid hn10
          have HNL := hid hNl
          clear hI hS hc1 hr0 hr1' hl0 hsb0 hsf0 z05 hsl hsl2 hslt hI0N HS5 HI5 hsb hNl hn5
          go_wp2_with fail
          go_loopw [6, 7, 9] (fun lv wv i wr => ∃ k : Nat, i = .int .i64 k ∧ k ≤ (idT m x k).list.length ∧ New w1 wr ∧ Hid (IdL w1.heap.size sb 26 wr lv wv ((idT m x k).list.map idRow) (idT m x k).words) ∧ Hid (wr.rowIs sb 4 N (fun j => .bool (idSeen n (idT m x k).list j))) ∧ Hid (∀ i j, i < k → j < m.nx.length → idHit m j (nth (idT m x k).list i) = false)) (fun _ _ i _ => 10242 - (intOf i).toNat)
          case atStart => exact ⟨0, rfl, Nat.zero_le _, hnc, HI, HS, hid (fun i j hi => absurd hi (by omega))⟩
          case round =>
            obtain ⟨k, rfl, hk, hn, hI, hS, hno⟩ := hrel
            clear HI HS hnc
            obtain ⟨wo, rfl⟩ : ∃ wo : World, wo = wr := ⟨_, rfl⟩
            have hbok := HT.out k
            have hlen := HB.out _ hbok
            have HLW := hid hbok.lw
            obtain ⟨⟨B1, cc1, e1⟩, B2, cc2, e2⟩ := hI.out.form
            subst e1
            subst e2
            rw [List.length_map] at hI ⊢
            have y0 := hn.cell z0
            have y2 := hn.cell z2
            by_cases hlt : k < (idT m x k).list.length
            · have b2 : (k : Int) < ((idT m x k).list.length : Int) := by omega
              obtain ⟨P, hP⟩ : ∃ P, P = nth (idT m x k).list k := ⟨_, rfl⟩
              have hPok := hbok.ok P (by rw [hP]; exact nth_mem _ _ hlt)
              have HPO := hid hPok
              have HPD := hid hP
              clear hP hPok
              go_wp2_with fail
              go_loopw [6, 7, 10] (fun lv wv x' wr => ∃ l : Nat, x' = .int .i64 l ∧ l ≤ m.nx.length ∧ New w1 wr ∧ Hid (IdL w1.heap.size sb 26 wr lv wv ((bRow (idG m) k (idT m x k) l).list.map idRow) (bRow (idG m) k (idT m x k) l).words) ∧ Hid (wr.rowIs sb 4 N (fun j => .bool (idSeen n (bRow (idG m) k (idT m x k) l).list j))) ∧ Hid (∀ j, j < l → idHit m j P = false)) (fun _ _ x' _ => m.nx.length - (intOf x').toNat)
              case atStart => exact ⟨0, rfl, Nat.zero_le _, hn, hI, hS, hid (fun j hj => absurd hj (by omega))⟩
              case round =>
                obtain ⟨l, rfl, hll, hNi, hIl, hSl, hno2⟩ := hrel
                obtain ⟨wi, rfl⟩ : ∃ wi : World, wi = wr := ⟨_, rfl⟩
                clear hI hS hn y0 y2
                have hbok2 := HROW.out _ hbok k hlt l hll
                have hlen2 := HB.out _ hbok2
                have HPRE := hid (bRow_pre' (g := idG m) k (idT m x k) l)
                have hk2 : k < (bRow (idG m) k (idT m x k) l).list.length := by have := HPRE.out.1; omega
                have HWE := hid (show nth (bRow (idG m) k (idT m x k) l).words k = nth (idT m x k).words k from (HPRE.out.2 k hlt).2 HLW.out)
                have HSUCC := hid (bRow_succ (idG m) k (idT m x k) l)
                have HNTH := hid (show nth (bRow (idG m) k (idT m x k) l).list k = P by rw [(HPRE.out.2 k hlt).1, HPD.out])
                have HLW2 := hid hbok2.lw
                have HOK2 := hid (fun p hp => HIP.out p (hbok2.ok p hp))
                have hwl2 := hbok2.wl k hk2
                have y0 := hNi.cell z0
                have y2 := hNi.cell z2
                by_cases hltl : l < m.nx.length
                · have b3 : (l : Int) < (m.nx.length : Int) := by omega
                  obtain ⟨T', hT'⟩ : ∃ T', T' = bRow (idG m) k (idT m x k) l := ⟨_, rfl⟩
                  rw [← hT'] at hIl hSl hlen2 hk2 HWE HSUCC HNTH HLW2 HOK2 hwl2
                  clear hT' hbok2
                  obtain ⟨hrow1, hrow2⟩ := hIl.out.rows
                  rw [List.length_map] at hrow1
                  obtain ⟨B1, cc1, rv1, e1, hx1, hat1⟩ := hrow1 k hk2
                  obtain ⟨B2, cc2, rv2, e2, hx2, hat2⟩ := hrow2 k (by rw [HLW2.out]; exact hk2)
                  subst e1
                  subst e2
                  rw [nth_map _ _ _ hk2, HNTH.out] at hat1
                  obtain ⟨Ap, cp, e3, _, hcp⟩ := hat1
                  have e4 : (idRow P).length = 2 := rfl
                  rw [e4] at e3 hcp
                  subst e3
                  obtain ⟨pb, po, rfl, hp0⟩ := hcp 0 (by decide)
                  obtain ⟨_, _, e5, hp1⟩ := hcp 1 (by decide)
                  cases e5
                  replace hp0 : wi.cell? ⟨pb, po, none⟩ = some (.int .i64 P.1) := hp0
                  replace hp1 : wi.cell? ⟨pb, po + 1, none⟩ = some (.int .i64 (P.2 : Nat)) := hp1
                  obtain ⟨A22, c22, hf⟩ := hat2.form
                  subst hf
                  have HAT2 := hid hat2
                  have k3' : (k : Int) < (T'.words.length : Int) := by rw [HLW2.out]; omega
                  have k3'' : (k : Int) < (T'.list.length : Int) := by omega
                  obtain ⟨⟨s0, s1⟩, t1⟩ := HIP.out _ HPO.out
                  have ht10 : P.2 < 1024 := Nat.lt_of_lt_of_le t1 (pow10' _ HN10.out)
                  have hr1 := HRW.out l hltl
                  have HNl : ((nth m.nx l).length : Int) = n := by rw [hr1.1, HN.out]
                  obtain ⟨b4, o4, rv4, rfl, hx4, hr4⟩ := HC1.out l hltl
                  obtain ⟨A5, c5, rfl, _, hc5⟩ := hr4
                  have hPt : P.1.toNat < (nth m.nx l).length := by omega
                  obtain ⟨b5, o5, rfl, hx5⟩ := hc5 P.1.toNat hPt
                  have g1 : P.1 < ((nth m.nx l).length : Int) := by omega
                  obtain ⟨na, hna⟩ : ∃ z, z = nth (nth m.nx l) P.1.toNat := ⟨_, rfl⟩
                  have hnar := hr1.2 P.1.toNat hPt
                  rw [← hna, HN.out] at hnar
                  obtain ⟨a9, ha9⟩ : ∃ a9 : Nat, na = (a9 : Int) := ⟨na.toNat, by omega⟩
                  subst ha9
                  rw [← hna] at hx5
                  have CO := fun w' (hm : New w1 w') => HO.out P.1 P.2 l w' (hn1.trans hm) (by rw [HN.out]; exact ⟨s0, s1⟩) ht10 hltl
                  rw [← hna] at CO
                  have HOL := hid (show oth m l (P.1, P.2) < 2 ^ n by have h := oth_lt HA.out l hltl (P.1, P.2); rw [HN.out] at h; simpa using h)
                  have HG := hid (show idG m l P = if (oth m l (P.1, P.2)).testBit ((a9 : Nat) : Int).toNat = true then none else some ((a9 : Int), oth m l (P.1, P.2)) by rw [hna]; rfl)
                  have HHI := hid (show idHit m l P = (oth m l (P.1, P.2) == 0) from rfl)
                  obtain ⟨O, hO⟩ : ∃ O, O = oth m l (P.1, P.2) := ⟨_, rfl⟩
                  rw [← hO] at CO HOL HG HHI
                  obtain ⟨okb, hokb⟩ : ∃ b, b = !O.testBit ((a9 : Nat) : Int).toNat := ⟨_, rfl⟩
                  rw [← hokb] at CO
                  have HOKB := hid hokb
                  have HCO := hid CO
                  have hnW := (hnb.trans hn1).trans hNi
                  have u4 := hnW.cell hx4
                  have u5 := hnW.cell hx5
                  clear hO hna hc5 hcp hr1 hrow1 hrow2 e4 CO t1 HNl hPt hat2 hokb
                  go_wp2_with fail
                  go_region_held3 (fun w' => w'.cell? ⟨B1, k, none⟩ = some (.slice (some ⟨pb, po, none⟩) 2 cp) ∧ w'.cell? ⟨pb, po, none⟩ = some (.int .i64 P.1) ∧ w'.cell? ⟨pb, po + 1, none⟩ = some (.int .i64 (P.2 : Nat)))
                    (first | exact ⟨hx1, hp0, hp1⟩ | exact ⟨hq1.cell hx1, hq1.cell hp0, hq1.cell hp1⟩ | go_keep)
                    (first
                      | (go_at_call 55; refine (HCO.out _ (hNi.trans (by repeat (first | with_reducible exact New.refl _ | with_reducible assumption | with_reducible refine New.alloc ?_ _ | with_reducible refine New.drewN ?_ _ | with_reducible refine New.drew ?_ | with_reducible refine New.trans ?_ (by with_reducible assumption))))).mono ?_; rintro e wq ⟨rfl, hq0⟩; have hq1 : New wi wq := New.trans (by repeat (first | with_reducible exact New.refl _ | with_reducible assumption | with_reducible refine New.alloc ?_ _ | with_reducible refine New.drewN ?_ _ | with_reducible refine New.drew ?_ | with_reducible refine New.trans ?_ (by with_reducible assumption))) hq0))
                  replace hx1 := hq1.cell hx1
                  replace hp0 := hq1.cell hp0
                  replace hp1 := hq1.cell hp1
                  replace hx2 := hq1.cell hx2
                  replace y0 := hq1.cell y0
                  replace y2 := hq1.cell y2
                  replace u4 := hq1.cell u4
                  replace u5 := hq1.cell u5
                  replace HAT2 := hid (HAT2.out.new hq1)
                  have hzq := hq1.size
                  clear hq0
                  have hlow := hIl.out.low
                  by_cases hO0 : O = 0
                  · have hbo : (((O : Nat) : Int) == 0) = true := by rw [hO0]; rfl
                    have HRES := hid (HHIT.out k l hlt hltl (by rw [← HPD.out, HHI.out, hO0]; rfl) (fun j hj => by rw [← HPD.out]; exact hno2.out j hj) hno.out)
                    clear hO0
                    go_wp2_with (first
                      | (go_at_call 56; refine (l00OwnG_any _ _ _ HAT2.out (by omega)).mono ?_; rintro e w7 ⟨r7, he, hn7, ho7⟩; obtain ⟨A77, c77, hf⟩ := ho7.form; subst hf; subst he; have hz7 := hn7.size)
                      | (at_builtin; refine wpList_app rfl _ _ _ rfl Try.underlying26 info_i64 _ _ rfl ho7 rfl (by omega) (by omega) ?_; intro g8 cap8 w8 ho8 hg8; have hn8 : New wq w8 := New.app (a := wq) hn7 hg8 ho7 (Nat.le_refl _)))
                    go_ret2
                    have hNw := ((hnb.trans hn1).trans hNi).trans (hq1.trans hn8)
                    rw [HE.out, HRES.out, ← HWE.out]
                    exact ⟨_, rfl, hNw, (ho8.own (by simp; omega)).widen (by have := (((hnb.trans hn1).trans hNi).trans hq1).size; omega) (Nat.le_refl _)⟩
                  · have hbo : (((O : Nat) : Int) == 0) = false := by simp; omega
                    have HNO := hid (show idHit m l P = false by rw [HHI.out]; simpa using hO0)
                    clear hO0
                    go_wp2_with (first
                      | (go_at_call 56; refine (l00OwnG_any _ _ _ HAT2.out (by omega)).mono ?_; rintro e w7 ⟨r7, he, hn7, ho7⟩; obtain ⟨A77, c77, hf⟩ := ho7.form; subst hf; subst he; have hz7 := hn7.size)
                      | (at_builtin; refine wpList_app rfl _ _ _ rfl Try.underlying26 info_i64 _ _ rfl ho7 rfl (by omega) (by omega) ?_; intro g8 cap8 w8 ho8 hg8; have hn8 : New wq w8 := New.app (a := wq) hn7 hg8 ho7 (Nat.le_refl _)))
                    replace y0 := hn8.cell y0
                    replace y2 := hn8.cell y2
                    replace hx1 := hn8.cell hx1
                    replace hp0 := hn8.cell hp0
                    replace u4 := hn8.cell u4
                    replace u5 := hn8.cell u5
                    go_quiet (fail)
                    have hd9 : New w8 (w8.drewN nq) := (New.refl _).drewN nq
                    have hn9 : New wi (w8.drewN nq) := (hq1.trans hn8).trans hd9
                    have hsol : Solid (idS w1.heap.size sb (.slice (some ⟨B1, 0, none⟩) T'.list.length cc1) (.slice (some ⟨B2, 0, none⟩) T'.words.length cc2)) (w8.drewN nq) (fun w => IntsAt w (.slice (some ⟨g8, 0, none⟩) ((nth T'.words k).length + 1) cap8) (nth T'.words k ++ [(l : Int)])) := by
                      have ho9 : OwnInts wq.heap.size w8.heap.size w8 (.slice (some ⟨g8, 0, none⟩) ((nth T'.words k).length + 1) cap8) (nth T'.words k ++ [(l : Int)]) := ho8.own (by simp; omega)
                      refine Solid.new (w := w8) (ho9.at.solid (fun q hq hs => ?_)) hd9
                      have h1 := (ho9.block q hq).1
                      have h2 := hIl.out.2.2.2.2.2
                      have h3 := hNi.size
                      rcases hs with h | h | h | h
                      · omega
                      · omega
                      · have := (hlow.1 q h).2; omega
                      · have := (hlow.2 q h).2; omega
                    replace y0 := hd9.cell y0
                    have HSOL := hid hsol
                    clear hx1 hp0 hp1 hx2 y2 u4 u5 hsol ho8 hg8 hn8 hn7 ho7 hz7 hq1 hzq hd9
                    generalize w8.drewN nq = w9 at hn9 HSOL y0 ⊢
                    clear HAT2 hnW
                    have hI9 := hIl.out.new hn9
                    have hS9 := rowIs_new hSl.out hn9
                    have hN9 := hNi.trans hn9
                    cases okb with
                    | false =>
                      have HS := hid (show bRow (idG m) k (idT m x k) (l + 1) = T' by
                        rw [HSUCC.out]
                        refine bStep_none _ _ _ _ ?_
                        have := HOKB.out
                        rw [HNTH.out, HG.out, if_pos (by revert this; cases O.testBit ((a9 : Nat) : Int).toNat <;> simp)])
                      go_wp2_with fail
                      exact ⟨⟨l + 1, by go_num, by omega, hN9, by rw [HS.out]; exact hid hI9, by rw [HS.out]; exact hid hS9, hid (fun j hj => by
                          rcases Nat.lt_succ_iff_lt_or_eq.1 hj with h | h
                          · exact hno2.out j h
                          · subst h; exact HNO.out)⟩, by simp [intOf]; omega⟩
                    | true =>
                      have ha10 : a9 < n := by have := hnar.2; exact_mod_cast this
                      have hgo : idG m l (nth T'.list k) = some ((a9 : Int), O) := by
                        have := HOKB.out
                        rw [HNTH.out, HG.out, if_neg (by revert this; cases O.testBit ((a9 : Nat) : Int).toNat <;> simp)]
                      have hsl9 := slot_or a9 O n (Nat.lt_of_lt_of_le ha10 HN10.out) HN10.out HOL.out
                      have hsl8 := slot_ori a9 O n (Nat.lt_of_lt_of_le ha10 HN10.out) HN10.out HOL.out
                      have hslot : slot n ((a9 : Int), O) = a9 * 2 ^ n + O := by simp [slot]
                      have hI9N : slot n ((a9 : Int), O) < N := by rw [HNN.out]; exact slot_lt hnar HOL.out
                      have hseen := idSeen_iff (n := n) (L := T'.list) (q := ((a9 : Int), O)) (fun p hp => ⟨(HOK2.out p hp).1.1, (HOK2.out p hp).2⟩) ⟨hnar.1, HOL.out⟩
                      have hsn := fun j => idSeen_snoc n T'.list ((a9 : Int), O) j
                      rw [← hslot] at hsl9 hsl8
                      obtain ⟨I9, hI9d⟩ : ∃ z, z = slot n ((a9 : Int), O) := ⟨_, rfl⟩
                      rw [← hI9d] at hsl9 hsl8 hI9N hseen
                      have hc9 := hS9.cell hI9N
                      have hf9 := hS9.frozen I9
                      have HSN := hid (show ∀ j, idSeen n (T'.list ++ [((a9 : Int), O)]) j = if j = I9 then true else idSeen n T'.list j from fun j => by rw [hsn j, hI9d])
                      have hI9I : (I9 : Int) < (N : Int) := by exact_mod_cast hI9N
                      clear hslot hsn hI9d hI9N
                      by_cases hmem : ((a9 : Int), O) ∈ T'.list
                      · have HS := hid (show bRow (idG m) k (idT m x k) (l + 1) = T' by rw [HSUCC.out]; exact bStep_has _ _ _ _ _ hgo hmem)
                        rw [hseen.2 hmem] at hc9
                        clear hmem hseen hgo
                        go_wp2_with fail
                        exact ⟨⟨l + 1, by go_num, by omega, hN9, by rw [HS.out]; exact hid hI9, by rw [HS.out]; exact hid hS9, hid (fun j hj => by
                            rcases Nat.lt_succ_iff_lt_or_eq.1 hj with h | h
                            · exact hno2.out j h
                            · subst h; exact HNO.out)⟩, by simp [intOf]; omega⟩
                      · have HS := hid (show bRow (idG m) k (idT m x k) (l + 1) = ⟨T'.list ++ [((a9 : Int), O)], T'.words ++ [nth T'.words k ++ [(l : Int)]]⟩ by rw [HSUCC.out]; exact bStep_new _ _ _ _ _ hgo hmem)
                        have hcf : idSeen n T'.list I9 = false := by
                          cases hc : idSeen n T'.list I9 with
                          | false => rfl
                          | true => exact absurd (hseen.1 hc) hmem
                        rw [hcf] at hc9
                        clear hmem hseen hgo hcf
                        have hsbB : w1.heap.size ≤ sb := hI9.2.2.2.2.2.1
                        have hI10 := hI9.mark I9 (.bool true)
                        have hS10 := (hS9.set I9 (.bool true)).congr (g := fun j => .bool (idSeen n (T'.list ++ [((a9 : Int), O)]) j)) (fun i _ => by rw [HSN.out i]; by_cases e : i = I9 <;> simp [e])
                        have hN10 : New w1 (w9.setCell ⟨sb, I9, none⟩ (.bool true)) := hN9.setCell hsbB _
                        have hz10 : (w9.setCell ⟨sb, I9, none⟩ (.bool true)).heap.size = w9.heap.size := size_setCell _ _ _
                        have hs10 : Solid (idS w1.heap.size sb (.slice (some ⟨B1, 0, none⟩) T'.list.length cc1) (.slice (some ⟨B2, 0, none⟩) T'.words.length cc2)) (w9.setCell ⟨sb, I9, none⟩ (.bool true)) (fun w => IntsAt w (.slice (some ⟨g8, 0, none⟩) ((nth T'.words k).length + 1) cap8) (nth T'.words k ++ [(l : Int)])) :=
                          HSOL.out.step (But.setCell (S := idS w1.heap.size sb (.slice (some ⟨B1, 0, none⟩) T'.list.length cc1) (.slice (some ⟨B2, 0, none⟩) T'.words.length cc2)) ⟨sb, I9, none⟩ (.bool true) (Or.inr (Or.inl rfl))) (fun q hq => Or.inl hq)
                        have hpair := OwnInts.pair (w9.setCell ⟨sb, I9, none⟩ (.bool true)) (a9 : Int) (O : Int) 2
                        have hn11 : New (w9.setCell ⟨sb, I9, none⟩ (.bool true)) ((w9.setCell ⟨sb, I9, none⟩ (.bool true)).alloc (.cells #[.int .i64 a9, .int .i64 O] 2)) := (New.refl _).alloc _
                        obtain ⟨l1, hl1, hsp1⟩ := hI10.spine1
                        rw [List.length_map] at hl1 hsp1
                        replace hl1 := ownsRow_new hl1 hn11
                        have hs11 := hs10.new hn11
                        have hS11 := rowIs_new hS10 hn11
                        have hv1 := hI10.2.2.2.1
                        have hv2 := hI10.2.2.2.2.1
                        have hlw := hI10.low
                        have hN11 := hN10.trans hn11
                        have hz11 := hN11.size
                        have hTl : T'.list.length < 1099511627776 := by omega
                        have hWl : T'.words.length < 1099511627776 := by rw [HLW2.out]; exact hTl
                        have hzz : ((w9.setCell ⟨sb, I9, none⟩ (.bool true)).alloc (.cells #[.int .i64 a9, .int .i64 O] 2)).heap.size = w9.heap.size + 1 := by rw [size_alloc, hz10]
                        rw [hz10] at hpair
                        have HPAIR := hid hpair
                        have HSP1 := hid hsp1
                        have HS10 := hid hS11
                        have HS11 := hid hs11
                        clear hI10 hS10 hs10 hs11 hpair hsp1 hS11 hS9 hI9 hz10
                        go_wp2_with (first
                          | (at_builtin; refine wpList_appV (w1 := (w9.setCell ⟨sb, I9, none⟩ (.bool true)).alloc (.cells #[.int .i64 a9, .int .i64 O] 2)) rfl _ _ _ rfl (B := w1.heap.size) Try.underlying22 info_ints rfl (by decide) rfl (.slice (some ⟨B1, 0, none⟩) T'.list.length cc1) T'.list.length l1 rfl hl1 (by rw [hzz]; rfl) hTl hz11 ?_; intro g1 cap1 wd1 hod1 hgd1 hloc1; have hI11 := HSP1.out _ wd1 g1 cap1 _ [(a9 : Int), (O : Int)] hn11 (by rw [size_setCell]; exact HPAIR.out) hod1 hgd1 (hloc1.imp id Nat.le_of_lt); have hN12 := New.grown hN11 hgd1 (fun q hq => (hlw.1 q hq).1); have hz12 := hN12.size; obtain ⟨l2, hl2, hsp2⟩ := hI11.spine2')
                          | (at_builtin; refine wpList_appV (w1 := wd1) rfl _ _ _ rfl (B := w1.heap.size) Try.underlying22 info_ints rfl (by decide) rfl (.slice (some ⟨B2, 0, none⟩) T'.words.length cc2) T'.words.length l2 rfl hl2 rfl hWl hz12 ?_; intro g2 cap2 wd2 hod2 hgd2 hloc2))
                        have hsw : Solid (idS w1.heap.size sb (.slice (some ⟨g1, 0, none⟩) (T'.list.length + 1) cap1) (.slice (some ⟨B2, 0, none⟩) T'.words.length cc2)) wd1 (fun w => IntsAt w (.slice (some ⟨g8, 0, none⟩) ((nth T'.words k).length + 1) cap8) (nth T'.words k ++ [(l : Int)])) :=
                          HS11.out.step (But.of_grown hgd1 (fun q hq => Or.inr (Or.inr (Or.inl hq)))) (fun q hq => by
                            rcases hq with h | h | h | h
                            · exact Or.inl (Or.inl h)
                            · exact Or.inl (Or.inr (Or.inl h))
                            · have e1 : g1 = q := Option.some.inj h
                              subst e1
                              exact hloc1.elim (fun h => Or.inl (Or.inr (Or.inr (Or.inl h)))) (fun h => Or.inr (Nat.le_of_lt h))
                            · exact Or.inl (Or.inr (Or.inr (Or.inr h))))
                        have hI12 := hsp2 wd1 wd2 g2 cap2 _ _ (New.refl _) hsw hod2 hgd2 (hloc2.imp id Nat.le_of_lt)
                        have hS12 := rowIs_grown (rowIs_grown HS10.out hgd1 hv1) hgd2 hv2
                        have hN13 := New.grown hN12 hgd2 (fun q hq => (hlw.2 q hq).1)
                        exact ⟨⟨l + 1, by go_num, by omega, hN13, by rw [HS.out, List.map_append]; exact hid hI12, by rw [HS.out]; exact hid hS12, hid (fun j hj => by
                            rcases Nat.lt_succ_iff_lt_or_eq.1 hj with h | h
                            · exact hno2.out j h
                            · subst h; exact HNO.out)⟩, by simp [intOf]; omega⟩
                · have e : l = m.nx.length := by omega
                  subst e
                  have b3 : ¬ ((m.nx.length : Nat) : Int) < (m.nx.length : Int) := by omega
                  have HE2 := hid (show idT m x (k + 1) = bRow (idG m) k (idT m x k) m.nx.length by unfold idT at hlt ⊢; rw [bTo_succ, if_pos hlt])
                  go_wp2_with fail
                  go_roundw
                  case rel => exact ⟨k + 1, by go_num, by rw [HE2.out]; have := HPRE.out.1; omega, hNi, by rw [HE2.out]; exact hIl, by rw [HE2.out]; exact hSl, hid (fun i j hi hj => by
                      rw [HE2.out]
                      rcases Nat.lt_succ_iff_lt_or_eq.1 hi with h | h
                      · rw [(HPRE.out.2 i (by omega)).1]; exact hno.out i j h hj
                      · subst h; rw [(HPRE.out.2 i hlt).1, ← HPD.out]; exact hno2.out j hj)⟩
                  case measure => simp [intOf]; omega
            · have e : k = (idT m x k).list.length := by omega
              have HRES := hid (HNONE.out k e.symm hno.out)
              have b2 : ¬ (k : Int) < ((idT m x k).list.length : Int) := by omega
              clear e
              go_wp2_with fail
              go_ret2
              rw [HE.out, HRES.out]
              exact ⟨_, rfl, (by repeat (first | with_reducible exact New.refl _ | with_reducible assumption | with_reducible refine New.alloc ?_ _ | with_reducible refine New.drewN ?_ _ | with_reducible refine New.drew ?_ | with_reducible refine New.trans ?_ (by with_reducible assumption))), OwnInts.none' _ (by have := hnb.size; have := hn1.size; have := hn.size; omega) (by (try simp only [sizes]) <;> omega)⟩

end Go.Proofs.Ytnhjoiafadapaaa
