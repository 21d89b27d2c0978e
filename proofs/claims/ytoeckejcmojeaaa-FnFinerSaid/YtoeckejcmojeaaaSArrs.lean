/- Parts of the proof that lean on no program: SArr, SChoices, SAt, SRef. -/
import Derived.Test.YtoeckejcmojeaaaRows
import Derived.Test.YtoeckejcmojeaaaCore
import Derived.Test.YtoeckejcmojeaaaArrs
import Derived.Test.YtoeckejcmojeaaaInfos
import Derived.Test.YtoeckejcmojeaaaPlains
import Derived.Test.YtoeckejcmojeaaaMaps
import Derived.Test.YtoeckejcmojeaaaJoins
import Derived.Test.YtoeckejcmojeaaaSOwn
import Derived.Test.YtoeckejcmojeaaaSBase
import Derived.Test.YtoeckejcmojeaaaSRdss
import Derived.WalkKit
import Derived.WalkSpells
import Derived.WalkLawsBesides
import Derived.Deep.QuietTactic
import Derived.Deep.OwnRows
import Derived.BigQuiet
import Derived.KernelRfl
import Derived.Carry
import Derived.Deep.RegionLaw
import Derived.Deep.RegionHeld3
namespace Go.Proofs.Ytoeckejcmojeaaa
open Go.RowKit

section
set_option maxHeartbeats 400000 in
theorem l00OwnH_any (v : Value) (xs : List Int) (w : World) (h : IntsAt w v xs) (hl : xs.length ≤ 1048576) :
    Calls Try.prog 122 #[v] w fun e w' => ∃ g c, e = .returned (.slice (some ⟨g, 0, none⟩) xs.length c) ∧ New w w' ∧ Grow w.heap.size 2 w' (.slice (some ⟨g, 0, none⟩) xs.length c) xs := by
  go_enter Try.func122, Try.ntmps122
  go_wp2_with (at_builtin; refine wpList_appAll rfl _ _ _ rfl Try.underlying42 info_i64 (.slice (some ⟨w.heap.size, 0, none⟩) 0 0) _ [] xs w.heap.size rfl (Grow.empty w.heap.size 2 w (Nat.le_refl _)) rfl rfl (h.new (by repeat (first | with_reducible exact New.refl _ | with_reducible assumption | with_reducible refine New.alloc ?_ _ | with_reducible refine New.drewN ?_ _ | with_reducible refine New.drew ?_ | with_reducible refine New.trans ?_ (by with_reducible assumption)))) (by simp; omega) (by (try simp only [sizes]) <;> omega) ?_; intro g cap w2 ho2 hg2 hloc)
  go_ret
  have hn : New w w2 := New.grown (by repeat (first | with_reducible exact New.refl _ | with_reducible assumption | with_reducible refine New.alloc ?_ _ | with_reducible refine New.drewN ?_ _ | with_reducible refine New.drew ?_ | with_reducible refine New.trans ?_ (by with_reducible assumption))) hg2 (fun k hk => by simp [Value.ownBlock] at hk; omega)
  simp only [List.length_nil, Nat.zero_add, List.nil_append] at ho2 ⊢
  exact ⟨_, _, rfl, hn, ho2⟩
theorem IntsAt.get' {w : World} {A : Option Addr} {m c : Nat} {xs : List Int} (h : IntsAt w (.slice A m c) xs) (i : Nat) (hi : i < xs.length) : ∃ b off, A = some ⟨b, off, none⟩ ∧ w.cell? ⟨b, off + i, none⟩ = some (.int .i64 (nth xs i)) := by
  obtain ⟨A', c', e, _, hc⟩ := h
  cases e
  exact hc i hi
theorem IntsAt.get'' {w : World} {b o m c : Nat} {xs : List Int} {x : Int} (h : IntsAt w (.slice (some ⟨b, o, none⟩) m c) xs) (i : Nat) (hi : i < xs.length) (hx : x = nth xs i) : w.cell? ⟨b, o + i, none⟩ = some (.int .i64 x) := by
  obtain ⟨b', o', e, h⟩ := h.get' i hi
  cases e
  rw [hx]; exact h
theorem IntsAt.take {w : World} {A : Option Addr} {m c k : Nat} {xs : List Int} (h : IntsAt w (.slice A m c) xs) (hk : k ≤ xs.length) : IntsAt w (.slice A k c) (xs.take k) := by
  obtain ⟨A', c', e, hl, hc⟩ := h
  cases e
  refine ⟨A, c, by simp; omega, by simp; omega, fun i hi => ?_⟩
  have hi' : i < k := by simp at hi; omega
  obtain ⟨b, off, rfl, hx⟩ := hc i (by omega)
  exact ⟨b, off, rfl, by rw [hx, nth_eq _ _ (show i < xs.length by omega), nth_eq _ _ hi]; simp⟩
theorem IntsAt.drop {w : World} {b o n c k : Nat} {xs : List Int} (h : IntsAt w (.slice (some ⟨b, o, none⟩) (n + 1) c) xs) (hl : xs.length = n + 1) (hk : k ≤ n) (hc : n + 1 ≤ c) :
    IntsAt w (.slice (if c = k + 1 then some ⟨b, o, none⟩ else some ⟨b, o + (k + 1), none⟩) (n - k) (c - (k + 1))) (xs.drop (k + 1)) := by
  have hl2 : (xs.drop (k + 1)).length = n - k := by rw [List.length_drop]; omega
  obtain ⟨A', c', e, hml, hx⟩ := h
  injection e with e1 e2 e3
  subst e1
  refine ⟨_, c - (k + 1), by rw [hl2], by omega, fun i hi => ?_⟩
  rw [hl2] at hi
  obtain ⟨b', o', e, hx1⟩ := hx (k + 1 + i) (by omega)
  cases e
  rw [if_neg (by omega)]
  exact ⟨b, o + (k + 1), rfl, by rw [show o + (k + 1) + i = o + (k + 1 + i) by omega, hx1, nth_eq _ _ (show k + 1 + i < xs.length by omega), nth_eq _ _ (show i < (xs.drop (k + 1)).length by omega)]; simp⟩
theorem ownsRow_cap' {w : World} {B m c n : Nat} {e : TypeId} {A : Option Addr} {xs : List Value} (h : w.ownsRow B e 1 (.slice A m c) n xs) : m ≤ c := by
  obtain ⟨_, ⟨h0, _⟩ | ⟨_, _, _, hv, _, _, hcp, _⟩⟩ := h
  · injection h0 with _ h1 h2; omega
  · injection hv with _ h1 h2; omega
theorem eraseIdx_cut (xs : List Int) (k : Nat) : xs.take k ++ xs.drop (k + 1) = xs.eraseIdx k := (List.eraseIdx_eq_take_drop_succ xs k).symm
end
section
def CapInts (w : World) (v : Value) (xs : List Int) : Prop := IntsAt w v xs ∧ CapAt v
theorem CapInts.new {w w' : World} {v : Value} {xs : List Int} (h : CapInts w v xs) (hn : New w w') : CapInts w' v xs := ⟨h.1.new hn, h.2⟩
/-- Rows, each of which is not longer than its capacity. -/
def CapRows (w : World) (v : Value) (xss : List (List Int)) : Prop := ListAt CapInts w v xss
theorem ListAt.new {α : Type} [Inhabited α] {R : World → Value → α → Prop} (hR : ∀ {w w' : World} {v : Value} {x : α}, R w v x → New w w' → R w' v x) {w w' : World} {v : Value} {xs : List α} (h : ListAt R w v xs) (hn : New w w') : ListAt R w' v xs :=
  let ⟨A, c, e, hl, hx⟩ := h
  ⟨A, c, e, hl, fun i hi => let ⟨b, off, q, h1, h2, h3⟩ := hx i hi; ⟨b, off, q, h1, hn.cell h2, hR h3 hn⟩⟩
theorem CapRows.new {w w' : World} {v : Value} {xss : List (List Int)} (h : CapRows w v xss) (hn : New w w') : CapRows w' v xss := ListAt.new (fun h hn => h.new hn) h hn
theorem CapRows.rows {w : World} {v : Value} {xss : List (List Int)} (h : CapRows w v xss) : RowsAt w v xss :=
  let ⟨A, c, e, hl, hx⟩ := h
  ⟨A, c, e, hl, fun i hi => let ⟨b, off, q, h1, h2, h3⟩ := hx i hi; ⟨b, off, q, h1, h2, h3.1⟩⟩
theorem info_rowsS : (Try.prog.info? 22).map (fun i => (i.zero, i.size, i.bytes)) = some (some (.slice none 0 0), 1, 24) := by kernel_rfl
end
section
theorem pick_rows {w : World} {AC : Option Addr} {m cC : Nat} {cs : List (List (List Int))} (h : ListAt RowsAt w (.slice AC m cC) cs) (N : Nat) (hpos : ∀ p, p < cs.length → 0 < (nth cs p).length) :
    ∃ r : Nat → Value, ∀ p, p < cs.length → ∃ cb co ct tb to, AC = some ⟨cb, co, none⟩ ∧ w.cell? ⟨cb, co + p, none⟩ = some (.slice (some ⟨tb, to, none⟩) (nth cs p).length ct) ∧ w.cell? ⟨tb, to + numAt cs N (cs.length - 1 - p) % (nth cs p).length, none⟩ = some (r p) ∧ IntsAt w (r p) (pickAt cs N p) := by
  obtain ⟨A, c, e, hl, hx⟩ := h
  injection e with e1 e2 e3
  subst e1
  have hex : ∀ p, ∃ rv : Value, p < cs.length → ∃ cb co ct tb to, AC = some ⟨cb, co, none⟩ ∧ w.cell? ⟨cb, co + p, none⟩ = some (.slice (some ⟨tb, to, none⟩) (nth cs p).length ct) ∧ w.cell? ⟨tb, to + numAt cs N (cs.length - 1 - p) % (nth cs p).length, none⟩ = some rv ∧ IntsAt w rv (pickAt cs N p) := by
    intro p
    by_cases hp : p < cs.length
    · obtain ⟨cb, co, q, h1, h2, A2, ct, rfl, h3, h4⟩ := hx p hp
      obtain ⟨tb, to, rv, h5, h6, h7⟩ := h4 _ (Nat.mod_lt (numAt cs N (cs.length - 1 - p)) (hpos p hp))
      subst h5
      exact ⟨rv, fun _ => ⟨cb, co, ct, tb, to, h1, h2, h6, h7⟩⟩
    · exact ⟨default, fun h => absurd h hp⟩
  exact Classical.axiomOfChoice hex
end
section
/-- Roads whose rows are not longer than their capacities. -/
def CapAut (w : World) (v : Value) (r : Aut) : Prop := ∃ rv, v = .agg #[.int .i64 r.n, rv] ∧ CapRows w rv r.nx
theorem CapAut.at {w : World} {v : Value} {r : Aut} (h : CapAut w v r) : AutAt w v r := let ⟨rv, e, h⟩ := h; ⟨rv, e, h.rows⟩
theorem CapAut.new {w w' : World} {v : Value} {r : Aut} (h : CapAut w v r) (hn : New w w') : CapAut w' v r := let ⟨rv, e, h⟩ := h; ⟨rv, e, h.new hn⟩
theorem choices_small {r : Aut} (hr : RoadsFacts r) (p : Nat) (h : p < (choicesOf r).length) : (nth (choicesOf r) p).length ≤ 1000 := by
  rw [choices_len] at h
  rw [nth_choices _ _ h]
  have h1 := arr_len (nth r.nx p).length (nth r.nx p)
  have h2 : ∀ n, n ≤ 3 → arrB n ≤ 6 := by decide
  have h3 := h2 (nth r.nx p).length (by rw [hr.row p h]; exact hr.l3)
  show (arrF (nth r.nx p).length (nth r.nx p)).length ≤ 1000
  omega
end

end Go.Proofs.Ytoeckejcmojeaaa
