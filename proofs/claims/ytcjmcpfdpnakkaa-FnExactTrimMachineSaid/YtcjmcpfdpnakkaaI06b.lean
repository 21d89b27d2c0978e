/- The program's outputs of a machine for a word. -/
import Derived.Test.YtcjmcpfdpnakkaaRows
import Derived.Test.YtcjmcpfdpnakkaaCore
import Derived.Test.YtcjmcpfdpnakkaaInfo
import Derived.Test.YtcjmcpfdpnakkaaPlains
import Derived.Test.YtcjmcpfdpnakkaaI01a
import Derived.Test.YtcjmcpfdpnakkaaI01b
import Derived.Test.YtcjmcpfdpnakkaaI01c
import Derived.Test.YtcjmcpfdpnakkaaI06a
import Derived.WalkKit
import Derived.WalkSpells
import Derived.WalkLawsBesides
import Derived.Deep.QuietTactic
import Derived.Deep.OwnRows
import Derived.BigQuiet
import Derived.KernelRfl
namespace Go.Proofs.Ytcjmcpfdpnakkaa
open Go.RowKit

set_option maxHeartbeats 400000 in
theorem MisState_any (v : Value) (m : Mach) (s : Int) (w : World) (h : MachAt w v m) (h0 : 0 ≤ m.n) (h1 : m.n ≤ 1048576) :
    Calls Try.prog 76 #[v, .int .i64 s] w fun e w' => e = .returned (.bool (inB s 0 (m.n - 1))) ∧ New w w' := by
  obtain ⟨r1, r2, rfl, hr1, hr2⟩ := h
  obtain ⟨A1, c1, rfl⟩ := hr1.form
  obtain ⟨A2, c2, rfl⟩ := hr2.form
  go_enter Try.func76, Try.ntmps76
  go_wp2_with (go_at_call 148; refine (within_any _ _ _ _).mono ?_; rintro e w' ⟨rfl, rfl⟩)
  go_ret
  exact ⟨rfl, (by repeat (first | with_reducible exact New.refl _ | with_reducible assumption | with_reducible refine New.alloc ?_ _ | with_reducible refine New.drewN ?_ _ | with_reducible refine New.drew ?_ | with_reducible refine New.trans ?_ (by with_reducible assumption)))⟩
set_option maxHeartbeats 400000 in
theorem Mcode_any (v : Value) (m : Mach) (k : Nat) (cap : Array Value) (r : Bool) (w : World) (h : MachAt w v m)
    (hent : ∀ args w, Sem.run Try.prog (callFunc k args) w = .ok (.enter k args) w)
    (hf : machOk m = true → ∀ w', New w w' → Calls Try.prog k cap w' fun e w'' => e = .returned (.bool r) ∧ New w' w'') :
    Calls Try.prog 74 #[v, .func (.func k) #[] cap] w fun e w' => e = .returned (.int .i64 (codeOf (machOk m) r)) ∧ New w w' := by
  obtain ⟨r1, r2, rfl, hr1, hr2⟩ := h
  obtain ⟨A1, c1, rfl⟩ := hr1.form
  obtain ⟨A2, c2, rfl⟩ := hr2.form
  have HF := hid hf
  clear hf
  have h1 : MachAt w (.agg #[.int .i64 m.n, .int .i64 m.o, .slice A1 m.nx.length c1, .slice A2 m.out.length c2]) m := ⟨_, _, rfl, hr1, hr2⟩
  have hn0 : New w (w.alloc (.cells #[.int .i64 m.n, .int .i64 m.o, .slice A1 m.nx.length c1, .slice A2 m.out.length c2] 29)) := (by repeat (first | with_reducible exact New.refl _ | with_reducible assumption | with_reducible refine New.alloc ?_ _ | with_reducible refine New.drew ?_ | with_reducible refine New.drewN ?_ _ | with_reducible refine New.setCell ?_ (by simp <;> omega) _))
  have HC := implValidMachine_any _ m _ (h1.new hn0)
  cases ha : machOk m with
  | true =>
    have HA := hid ha
    rw [ha] at HC
    clear ha
    go_enter Try.func74, Try.ntmps74
    go_wp2_with fail
    refine HC.mono ?_
    rintro e w1 ⟨rfl, hn1⟩
    cases r with
    | true =>
      go_wp2_with (refine (HF.out HA.out _ (hn0.trans hn1)).mono ?_; rintro e w2 ⟨rfl, hn2⟩)
      go_ret
      exact ⟨rfl, (hn0.trans hn1).trans hn2⟩
    | false =>
      go_wp2_with (refine (HF.out HA.out _ (hn0.trans hn1)).mono ?_; rintro e w2 ⟨rfl, hn2⟩)
      go_ret
      exact ⟨rfl, (hn0.trans hn1).trans hn2⟩
  | false =>
    rw [ha] at HC
    clear ha
    go_enter Try.func74, Try.ntmps74
    go_wp2_with fail
    refine HC.mono ?_
    rintro e w1 ⟨rfl, hn1⟩
    go_wp2_with fail
    go_ret
    exact ⟨rfl, hn0.trans hn1⟩

end Go.Proofs.Ytcjmcpfdpnakkaa
