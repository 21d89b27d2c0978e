/- The program's outputs of a machine for a word. -/
import Derived.Test.YtnhjoiafadapaaaRows
import Derived.Test.YtnhjoiafadapaaaCore
import Derived.Test.YtnhjoiafadapaaaInfos
import Derived.Test.YtnhjoiafadapaaaPlains
import Derived.Test.YtnhjoiafadapaaaIBase
import Derived.Test.YtnhjoiafadapaaaI01c
import Derived.Test.YtnhjoiafadapaaaI06a
import Derived.WalkKit
import Derived.WalkSpells
import Derived.WalkLawsBesides
import Derived.Deep.QuietTactic
import Derived.Deep.OwnRows
import Derived.BigQuiet
import Derived.KernelRfl
namespace Go.Proofs.Ytnhjoiafadapaaa
open Go.RowKit

set_option maxHeartbeats 400000 in
theorem MisState_any (v : Value) (m : Mach) (s : Int) (w : World) (h : MachAt w v m) (h0 : 0 ≤ m.n) (h1 : m.n ≤ 1048576) :
    Calls Try.prog 59 #[v, .int .i64 s] w fun e w' => e = .returned (.bool (inB s 0 (m.n - 1))) ∧ New w w' := by
  obtain ⟨r1, r2, rfl, hr1, hr2⟩ := h
  obtain ⟨A1, c1, rfl⟩ := hr1.form
  obtain ⟨A2, c2, rfl⟩ := hr2.form
  go_enter Try.func59, Try.ntmps59
  go_wp2_with (go_at_call 113; refine (within_any _ _ _ _).mono ?_; rintro e w' ⟨rfl, rfl⟩)
  go_ret
  exact ⟨rfl, (by repeat (first | with_reducible exact New.refl _ | with_reducible assumption | with_reducible refine New.alloc ?_ _ | with_reducible refine New.drewN ?_ _ | with_reducible refine New.drew ?_ | with_reducible refine New.trans ?_ (by with_reducible assumption)))⟩
set_option maxHeartbeats 400000 in
theorem Mcode_any (v : Value) (m : Mach) (k : Nat) (cap : Array Value) (r : Bool) (w : World) (h : MachAt w v m)
    (hent : ∀ args w, Sem.run Try.prog (callFunc k args) w = .ok (.enter k args) w)
    (hf : machOk m = true → ∀ w', New w w' → Calls Try.prog k cap w' fun e w'' => e = .returned (.bool r) ∧ New w' w'') :
    Calls Try.prog 57 #[v, .func (.func k) #[] cap] w fun e w' => e = .returned (.int .i64 (codeOf (machOk m) r)) ∧ New w w' := by
  obtain ⟨r1, r2, rfl, hr1, hr2⟩ := h
  obtain ⟨A1, c1, rfl⟩ := hr1.form
  obtain ⟨A2, c2, rfl⟩ := hr2.form
  have HF := hid hf
  clear hf
  have h1 : MachAt w (.agg #[.int .i64 m.n, .int .i64 m.o, .slice A1 m.nx.length c1, .slice A2 m.out.length c2]) m := ⟨_, _, rfl, hr1, hr2⟩
  have hn0 : New w (w.alloc (.cells #[.int .i64 m.n, .int .i64 m.o, .slice A1 m.nx.length c1, .slice A2 m.out.length c2] 40)) := (by repeat (first | with_reducible exact New.refl _ | with_reducible assumption | with_reducible refine New.alloc ?_ _ | with_reducible refine New.drew ?_ | with_reducible refine New.drewN ?_ _ | with_reducible refine New.setCell ?_ (by simp <;> omega) _))
  have HC := implValidMachine_any _ m _ (h1.new hn0)
  cases ha : machOk m with
  | true =>
    have HA := hid ha
    rw [ha] at HC
    clear ha
    go_enter Try.func57, Try.ntmps57
    go_wp2_with fail
    refine HC.mono ?_
    rintro e w1 ⟨rfl, hn1⟩
    cases r with
    | true =>
      go_wp2_with (refine (HF.out HA.out _ (hn0.trans hn1)).mono ?_; rintro e w2 ⟨rfl, hn2⟩)
      go_ret
      exact ⟨rfl, (hn0.trans hn1).trans hn2⟩
    | false =>
      go_wp2_with (refine (HF.out HA.out _ (hn0.trans hn1)).mono ?_; rintro e w2 ⟨rfl, hn2⟩)
      go_ret
      exact ⟨rfl, (hn0.trans hn1).trans hn2⟩
  | false =>
    rw [ha] at HC
    clear ha
    go_enter Try.func57, Try.ntmps57
    go_wp2_with fail
    refine HC.mono ?_
    rintro e w1 ⟨rfl, hn1⟩
    go_wp2_with fail
    go_ret
    exact ⟨rfl, hn0.trans hn1⟩

end Go.Proofs.Ytnhjoiafadapaaa
