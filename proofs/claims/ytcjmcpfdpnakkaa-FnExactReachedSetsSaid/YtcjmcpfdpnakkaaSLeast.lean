/- The reference's ranks of sets. -/
import Derived.Test.YtcjmcpfdpnakkaaRows
import Derived.Test.YtcjmcpfdpnakkaaCore
import Derived.Test.YtcjmcpfdpnakkaaInfo
import Derived.Test.YtcjmcpfdpnakkaaPlains
import Derived.Test.YtcjmcpfdpnakkaaMaps
import Derived.Test.YtcjmcpfdpnakkaaWalkV
import Derived.Test.YtcjmcpfdpnakkaaS00b
import Derived.Test.YtcjmcpfdpnakkaaS01a
import Derived.Test.YtcjmcpfdpnakkaaSFlk
import Derived.Test.YtcjmcpfdpnakkaaSWalk
import Derived.WalkKit
import Derived.WalkSpells
import Derived.WalkLawsBesides
import Derived.Deep.QuietTactic
import Derived.Deep.OwnRows
import Derived.BigQuiet
import Derived.KernelRfl
namespace Go.Proofs.Ytcjmcpfdpnakkaa
open Go.RowKit

set_option maxHeartbeats 400000 in
theorem l02Full_any (p : Value) (a : Aut) (w : World) (hp : PAut w p a) (h0 : 0 ≤ a.n) (h1 : a.n ≤ 10) :
    Calls Try.prog 115 #[p] w fun e w' => e = .returned (.int .i64 (full a.n : Nat)) ∧ w' = w := by
  obtain ⟨b, rv, rfl, hp0, hp1, hpr⟩ := hp
  obtain ⟨n, hn⟩ : ∃ n : Nat, a.n = (n : Int) := ⟨a.n.toNat, by omega⟩
  have h2 : n ≤ 10 := by omega
  have hf : full a.n = 2 ^ n - 1 := by rw [hn]; rfl
  have hw := two_pow_wrap n h2
  have hw10 := pow10' n h2
  have hpos := Nat.two_pow_pos n
  rw [hn] at hp0
  have HF := hid hf
  clear hn hf
  go_enter Try.func115, Try.ntmps115
  go_wp2
  go_ret
  exact ⟨ret_int (by rw [HF.out, show (2 : Int) ^ n - 1 = ((2 ^ n - 1 : Nat) : Int) by rw [cast_pow]; omega, wrap64_wrap, wrap_i64_nat _ (by omega)]), rfl⟩
theorem l02Set_len (F n : Nat) (hF : F < 1024) (hn : n = (setOf F).length) (w : World) : Calls Try.prog 121 #[.int .i64 F] w fun e w' => ∃ A c, e = .returned (.slice A n c) ∧ New w w' :=
  (l02Set_any F w hF).mono fun e w' ⟨r, he, hn1, ho⟩ => by
    obtain ⟨A, c, rfl⟩ := ho.form
    exact ⟨A, c, by rw [he, hn], hn1⟩

end Go.Proofs.Ytcjmcpfdpnakkaa
