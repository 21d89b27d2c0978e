/- The program's merging words and shortest words to a state. -/
import Derived.Test.YtnhjoiafadapaaaRows
import Derived.Test.YtnhjoiafadapaaaCore
import Derived.Test.YtnhjoiafadapaaaInfos
import Derived.Test.YtnhjoiafadapaaaPlains
import Derived.Test.YtnhjoiafadapaaaMaps
import Derived.Test.YtnhjoiafadapaaaIBase
import Derived.Test.YtnhjoiafadapaaaI01c
import Derived.Test.YtnhjoiafadapaaaIIdx
import Derived.Test.YtnhjoiafadapaaaIFlk
import Derived.Test.YtnhjoiafadapaaaITour
import Derived.Test.YtnhjoiafadapaaaIRen
import Derived.Test.YtnhjoiafadapaaaIFirst
import Derived.WalkKit
import Derived.WalkSpells
import Derived.WalkLawsBesides
import Derived.Deep.QuietTactic
import Derived.Deep.OwnRows
import Derived.BigQuiet
import Derived.KernelRfl
import Derived.Carry
import Derived.Deep.RegionHeld3
namespace Go.Proofs.Ytnhjoiafadapaaa
open Go.RowKit

theorem pair_u64 (s t : Nat) (hs : s < 10) (ht : t < 10) : bits .or .u64 (IntKind.u64.wrap ((2 : Int) ^ s)) (IntKind.u64.wrap ((2 : Int) ^ t)) = ((2 ^ s ||| 2 ^ t : Nat) : Int) := by
  have := pow10 s hs
  rw [show IntKind.u64.wrap ((2 : Int) ^ s) = ((2 ^ s : Nat) : Int) by rw [cast_pow, wrap_u64_nat _ (by omega)], or_u64 _ _ (pow10 s hs) ht]
theorem pair_lt' (s t n : Int) (h1 : 0 ≤ s ∧ s < n) (h2 : 0 ≤ t ∧ t < n) : pairOf s t < 2 ^ n.toNat :=
  Nat.or_lt_two_pow (Nat.pow_lt_pow_right (by decide) (by omega)) (Nat.pow_lt_pow_right (by decide) (by omega))
set_option maxRecDepth 20000 in
set_option maxHeartbeats 400000 in
theorem mergingN_any (v1 : Value) (a : Aut) (s t : Int) (w : World) (h1 : AutAt w v1 a) (ha : autOk a = true) (hs : 0 ≤ s ∧ s < a.n) (ht : 0 ≤ t ∧ t < a.n) :
    Calls Try.prog 119 #[v1, .int .i64 s, .int .i64 t] w fun e w' => ∃ r, e = .returned (.tuple #[r, .int .i64 (told (firstWord smallB (tourOf a.nx (pairOf s t)))).2]) ∧ New w w' ∧ OwnInts w.heap.size w'.heap.size w' r (told (firstWord smallB (tourOf a.nx (pairOf s t)))).1 ∧ ((told (firstWord smallB (tourOf a.nx (pairOf s t)))).2 ≠ 0 → r = .slice none 0 0) := by
  obtain ⟨rv, rfl, hr⟩ := h1
  obtain ⟨A, c, rfl⟩ := hr.form
  have h1 : AutAt w (.agg #[.int .i64 a.n, .slice A a.nx.length c]) a := ⟨_, rfl, hr⟩
  have han := autOk_n ha
  obtain ⟨n1, n2⟩ := han
  have hb0 : (w.alloc (.cells #[.int .i64 a.n, .slice A a.nx.length c] 29)).cell? ⟨w.heap.size, 0, none⟩ = some (.int .i64 a.n) := by go_simp
  have hb1 : (w.alloc (.cells #[.int .i64 a.n, .slice A a.nx.length c] 29)).cell? ⟨w.heap.size, 1, none⟩ = some (.slice A a.nx.length c) := by go_simp
  have hz0 := size_alloc w (.cells #[.int .i64 a.n, .slice A a.nx.length c] 29)
  have hlt := pair_lt' s t a.n hs ht
  have HT := hid (fun w1 (hm : New w w1) => tourAt_any _ a (pairOf s t) w1 (h1.new hm) ha hlt)
  have HOK := hid (tourOk ha (pairOf s t) hlt)
  have HF := hid (fun B v w1 (hT : TourAt B w1 v (tourOf a.nx (pairOf s t))) => firstN_any v a _ B 90 #[] smallB w1 hT HOK.out n2 (enters Try.func90 (by decide) (by simp [Try.f90]))
    (fun w' _ F hF => (isSmall_any F w' (lt_10 hF (by omega))).mono fun e w'' ⟨h1, h2⟩ => ⟨h1, New.of_eq h2⟩))
  obtain ⟨P, hP⟩ : ∃ P, P = told (firstWord smallB (tourOf a.nx (pairOf s t))) := ⟨_, rfl⟩
  rw [← hP] at HF ⊢
  have hbits := pair_u64 s.toNat t.toNat (by omega) (by omega)
  rw [show (2 ^ s.toNat ||| 2 ^ t.toNat) = pairOf s t from rfl] at hbits
  obtain ⟨s0, s1⟩ := hs
  obtain ⟨t0, t1⟩ := ht
  clear hP hlt ha
  go_enter Try.func119, Try.ntmps119
  go_wp2_with fail
  go_region_held3 (fun w' => w'.cell? ⟨w.heap.size, 0, none⟩ = some (.int .i64 a.n) ∧ w'.cell? ⟨w.heap.size, 1, none⟩ = some (.slice A a.nx.length c))
    (first | go_keep | exact ⟨hq1.cell hb0, hq1.cell hb1⟩ | exact ⟨hq2.cell hb0, hq2.cell hb1⟩)
    (first
      | (go_at_call 147; refine (HT.out _ (by repeat (first | with_reducible exact New.refl _ | with_reducible assumption | with_reducible refine New.alloc ?_ _ | with_reducible refine New.drew ?_ | with_reducible refine New.drewN ?_ _ | with_reducible refine New.setCell ?_ (by simp <;> omega) _))).mono ?_; rintro e w1 ⟨lv, mb, rfl, hr1, hT⟩; have hq1 : New (w.alloc (.cells #[.int .i64 a.n, .slice A a.nx.length c] 29)) w1 := New.trans (New.refl _).drew hr1; have hz1 := hr1.size)
      | (go_at_call 148; refine (HF.out _ _ _ hT).mono ?_; rintro e w2 ⟨r, rfl, hr2, ho, hnl⟩; have hq2 : New (w.alloc (.cells #[.int .i64 a.n, .slice A a.nx.length c] 29)) w2 := hq1.trans hr2; have hz2 := hr2.size))
  all_goals go_wp2
  all_goals go_ret2
  all_goals exact ⟨_, rfl, New.trans (by repeat (first | with_reducible exact New.refl _ | with_reducible assumption | with_reducible refine New.alloc ?_ _ | with_reducible refine New.drew ?_ | with_reducible refine New.drewN ?_ _ | with_reducible refine New.setCell ?_ (by simp <;> omega) _)) hq2, ho.widen (by simp only [size_drew] at *; omega) (Nat.le_refl _), hnl⟩
theorem merging_any (v1 : Value) (a : Aut) (s t : Int) (w : World) (h1 : AutAt w v1 a) (ha : autOk a = true) (hs : 0 ≤ s ∧ s < a.n) (ht : 0 ≤ t ∧ t < a.n) :
    Calls Try.prog 119 #[v1, .int .i64 s, .int .i64 t] w fun e w' => ∃ r, e = .returned (.tuple #[r, .int .i64 (told (firstWord smallB (tourOf a.nx (pairOf s t)))).2]) ∧ New w w' ∧ OwnInts w.heap.size w'.heap.size w' r (told (firstWord smallB (tourOf a.nx (pairOf s t)))).1 :=
  (mergingN_any v1 a s t w h1 ha hs ht).mono fun _ _ ⟨r, h1, h2, h3, _⟩ => ⟨r, h1, h2, h3⟩

end Go.Proofs.Ytnhjoiafadapaaa
