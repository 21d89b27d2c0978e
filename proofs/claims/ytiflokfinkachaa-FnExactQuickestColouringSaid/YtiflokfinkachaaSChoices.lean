/- The reference's arrangements of all towns. -/
import Derived.Test.YtiflokfinkachaaRows
import Derived.Test.YtiflokfinkachaaCore
import Derived.Test.YtiflokfinkachaaInfos
import Derived.Test.YtiflokfinkachaaPlains
import Derived.Test.YtiflokfinkachaaMaps
import Derived.Test.YtiflokfinkachaaArrs
import Derived.Test.YtiflokfinkachaaJoins
import Derived.Test.YtiflokfinkachaaSArr
import Derived.WalkKit
import Derived.WalkSpells
import Derived.WalkLawsBesides
import Derived.Deep.QuietTactic
import Derived.Deep.OwnRows
import Derived.BigQuiet
import Derived.KernelRfl
namespace Go.Proofs.Ytiflokfinkachaa
open Go.RowKit

def CapInts (w : World) (v : Value) (xs : List Int) : Prop := IntsAt w v xs ∧ CapAt v
theorem CapInts.new {w w' : World} {v : Value} {xs : List Int} (h : CapInts w v xs) (hn : New w w') : CapInts w' v xs := ⟨h.1.new hn, h.2⟩
/-- Rows, each of which is not longer than its capacity. -/
def CapRows (w : World) (v : Value) (xss : List (List Int)) : Prop := ListAt CapInts w v xss
theorem ListAt.new {α : Type} [Inhabited α] {R : World → Value → α → Prop} (hR : ∀ {w w' : World} {v : Value} {x : α}, R w v x → New w w' → R w' v x) {w w' : World} {v : Value} {xs : List α} (h : ListAt R w v xs) (hn : New w w') : ListAt R w' v xs :=
  let ⟨A, c, e, hl, hx⟩ := h
  ⟨A, c, e, hl, fun i hi => let ⟨b, off, q, h1, h2, h3⟩ := hx i hi; ⟨b, off, q, h1, hn.cell h2, hR h3 hn⟩⟩
theorem CapRows.new {w w' : World} {v : Value} {xss : List (List Int)} (h : CapRows w v xss) (hn : New w w') : CapRows w' v xss := ListAt.new (fun h hn => h.new hn) h hn
theorem CapRows.rows {w : World} {v : Value} {xss : List (List Int)} (h : CapRows w v xss) : RowsAt w v xss :=
  let ⟨A, c, e, hl, hx⟩ := h
  ⟨A, c, e, hl, fun i hi => let ⟨b, off, q, h1, h2, h3⟩ := hx i hi; ⟨b, off, q, h1, h2, h3.1⟩⟩
theorem info_rowsS : (Try.prog.info? 22).map (fun i => (i.zero, i.size, i.bytes)) = some (some (.slice none 0 0), 1, 24) := by kernel_rfl
set_option maxRecDepth 20000 in
set_option maxHeartbeats 2000000 in
theorem l05Choices_any (pb : Nat) (rv : Value) (nx : List (List Int)) (w : World) (hp : w.cell? ⟨pb, 1, none⟩ = some rv) (hr : CapRows w rv nx) (hl : nx.length ≤ 7) (hll : ∀ i, i < nx.length → (nth nx i).length ≤ 3) :
    Calls Try.prog 111 #[.pointer (some ⟨pb, 0, none⟩)] w fun e w' => ∃ rc, e = .returned rc ∧ New w w' ∧ ListAt RowsAt w' rc (nx.map arrOf) := by
  obtain ⟨A, c, rfl, hl', hc⟩ := hr
  have HC := hid hc
  have HLL := hid hll
  clear hc hll
  have hG : GrowS RowsAt (fun q => q < w.heap.size ∨ (Value.slice (some ⟨w.heap.size, 0, none⟩) 0 0).ownBlock = some q) w.heap.size 22 (w.alloc (.cells #[] 22)) (.slice (some ⟨w.heap.size, 0, none⟩) 0 0) ((nx.take 0).map arrOf) := GrowS.empty (Nat.le_refl _)
  have hn0 : New w (w.alloc (.cells #[] 22)) := (by repeat (first | with_reducible exact New.refl _ | with_reducible assumption | with_reducible refine New.alloc ?_ _ | with_reducible refine New.drewN ?_ _ | with_reducible refine New.drew ?_ | with_reducible refine New.trans ?_ (by with_reducible assumption)))
  go_enter Try.func111, Try.ntmps111
  go_wp2_with fail
  generalize (w.alloc (.cells #[] 22)) = w0 at hG hn0 ⊢
  go_loopw [3, 4] (fun ov i wr => ∃ k : Nat, k ≤ nx.length ∧ i = .int .i64 k ∧ New w wr ∧ GrowS RowsAt (fun q => q < w.heap.size ∨ ov.ownBlock = some q) w.heap.size 22 wr ov ((nx.take k).map arrOf)) (fun _ i _ => nx.length - (intOf i).toNat)
  case atStart => exact ⟨0, Nat.zero_le _, rfl, hn0, hG⟩
  case round =>
    obtain ⟨k, hk, rfl, hn, hGw⟩ := hrel
    clear hn0 hG
    obtain ⟨wo, rfl⟩ : ∃ wo : World, wo = wr := ⟨_, rfl⟩
    replace hp := hn.cell hp
    obtain ⟨YS, hYS⟩ : ∃ z, z = (nx.take k).map arrOf := ⟨_, rfl⟩
    by_cases hlt : k < nx.length
    · have b1 : (k : Int) < (nx.length : Int) := by omega
      obtain ⟨xb, xo, xv, rfl, hx, hxv, hxc⟩ := HC.out k hlt
      have hlk := HLL.out k hlt
      obtain ⟨X, hX⟩ : ∃ z, z = nth nx k := ⟨_, rfl⟩
      rw [← hX] at hxv hlk
      have hYl' : YS.length < 1099511627776 := by rw [hYS]; simp; omega
      have HE := hid (show (nx.take (k + 1)).map arrOf = YS ++ [arrOf X] by rw [take_succ_nth _ k hlt, List.map_append, ← hYS, hX]; rfl)
      rw [← hYS] at hGw
      clear hYS hX
      obtain ⟨AO, cO, rfl⟩ := hGw.form
      replace hx := hn.cell hx
      obtain ⟨l1, hl1, hsp⟩ := hGw.appT
      have HSP := hid hsp
      have hblk := hid hGw.block
      have hzo := hn.size
      have C := l05Arrange_any X.length X xv wo rfl hlk (hxv.new hn) hxc
      obtain ⟨TT, hTT⟩ : ∃ z, z = arrOf X := ⟨_, rfl⟩
      have HTT := hid hTT
      rw [show arrF X.length X = TT from hTT.symm] at C
      rw [← hTT] at HE
      clear hsp hTT hlk hxc
      go_wp2_with (first
        | (go_at_call 203; refine C.mono ?_; rintro e w1 ⟨r, he, hn1, hL1⟩; obtain ⟨Ax, cx, rfl⟩ := hL1.now.form; subst he; have hz1 := hn1.size)
        | (at_builtin; refine wpList_appV (w1 := w1) rfl _ _ _ rfl (B := w.heap.size) Try.underlying77 info_rowsS rfl (by decide) rfl (.slice AO YS.length cO) YS.length l1 rfl (ownsRow_new hl1 hn1) rfl hYl' (by omega) ?_; intro g cap wd hod hgd hloc))
      have hS : ∀ q, (q < w.heap.size ∨ (Value.slice AO YS.length cO).ownBlock = some q) → q < wo.heap.size := fun q hq => hq.elim (fun h => by omega) (fun h => (hblk.out q h).2)
      have hG2 := HSP.out (fun _ => False) (fun q => q < w.heap.size ∨ (Value.slice (some ⟨g, 0, none⟩) (YS.length + 1) cap).ownBlock = some q) w1 wd g cap _ TT (But.of_new hn1) (fun q hq => hq.elim) (fun q hq => Or.inr hq)
        (Solid.mono hL1 (fun q hq => Or.inl (hS q hq))) hod hgd (fun q hq => hq.elim (fun h => Or.inl (Or.inl h)) (fun h => by
          have h' : g = q := Option.some.inj h
          subst h'
          exact hloc.imp Or.inr Nat.le_of_lt))
      have hn2 : New w wd := New.grown (hn.trans hn1) hgd (fun q hq => (hblk.out q hq).1)
      refine ⟨⟨k + 1, by omega, by go_num, hn2, by rw [HE.out]; exact hG2⟩, ?_⟩
      simp [intOf]; omega
    · have e : k = nx.length := by omega
      subst e
      have b1 : ¬ (nx.length : Int) < (nx.length : Int) := by omega
      obtain ⟨AO, cO, rfl⟩ := hGw.form
      have hL := hGw.lies (by simp; omega) (fun q hq => Or.inl hq)
      rw [List.take_length] at hL
      clear hYS
      have hL' := hL.now
      rw [List.length_map] at hL'
      go_wp2_with fail
      go_ret
      exact ⟨_, rfl, hn, hL'⟩

end Go.Proofs.Ytiflokfinkachaa
