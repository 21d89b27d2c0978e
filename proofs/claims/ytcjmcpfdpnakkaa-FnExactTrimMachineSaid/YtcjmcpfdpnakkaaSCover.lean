/- The reference's states that can be reached, in order. -/
import Derived.Test.YtcjmcpfdpnakkaaRows
import Derived.Test.YtcjmcpfdpnakkaaCore
import Derived.Test.YtcjmcpfdpnakkaaInfo
import Derived.Test.YtcjmcpfdpnakkaaPlains
import Derived.Test.YtcjmcpfdpnakkaaPlainMon
import Derived.Test.YtcjmcpfdpnakkaaPlainApart
import Derived.Test.YtcjmcpfdpnakkaaPlainTrim
import Derived.Test.YtcjmcpfdpnakkaaMaps
import Derived.Test.YtcjmcpfdpnakkaaGrowIR
import Derived.Test.YtcjmcpfdpnakkaaS00a
import Derived.Test.YtcjmcpfdpnakkaaS00b
import Derived.Test.YtcjmcpfdpnakkaaS01a
import Derived.Test.YtcjmcpfdpnakkaaSOwn
import Derived.WalkKit
import Derived.WalkSpells
import Derived.WalkLawsBesides
import Derived.Deep.QuietTactic
import Derived.Deep.OwnRows
import Derived.BigQuiet
import Derived.KernelRfl
import Derived.Deep.RegionHeld3
namespace Go.Proofs.Ytcjmcpfdpnakkaa
open Go.RowKit

set_option maxRecDepth 20000 in
set_option maxHeartbeats 4000000 in
theorem l06Cover_any (p : Value) (m : Mach) (w : World) (hp : PMach w p m) (hm : machOk m = true) :
    Calls Try.prog 157 #[p] w fun e w' => ∃ r1 r2, e = .returned (.tuple #[r1, r2]) ∧ New w w' ∧ GrowIR w.heap.size 2 26 w' r1 r2 (orderOf m) (trT m 11).words := by
  obtain ⟨pb, rv1, rv2, rfl, hp0, hp1, hp2, hp3, hr1, hr2⟩ := hp
  obtain ⟨A2, c2, rfl, hl2, hc2⟩ := hr1
  have hmn := mach_n hm
  have hml := mach_l hm
  have HC2 := hid hc2
  have HB := hid (fun k => tr_bok hm k)
  have HBD := hid (fun (t : Bfs Int) (h : BOk (trP m) m.nx.length t) => tr_bound hm h)
  have HROW := hid (fun (t' : Bfs Int) (h : BOk (trP m) m.nx.length t') k (hk : k < t'.list.length) l (hl' : l ≤ m.nx.length) => h.row (g := trG m) (fun l x y hl'' hx hg => trG_ok hm l x y hl'' hx hg) k hk l hl')
  have HR := hid (fun l (h : l < m.nx.length) => mach_row hm l h)
  have HE := hid (fun k h1 h2 => (show orderOf m = (trT m k).list ∧ (trT m 11).words = (trT m k).words from ⟨tr_end hm k h2, by unfold trT; rw [bTo_end (g := trG m) (L := m.nx.length) 0 k 11 h1 h2]⟩))
  clear hm hc2 hr2 hp3
  obtain ⟨OL, hOL⟩ : ∃ z, z = orderOf m := ⟨_, rfl⟩
  obtain ⟨OW, hOW⟩ : ∃ z, z = (trT m 11).words := ⟨_, rfl⟩
  rw [← hOL, ← hOW] at HE
  rw [← hOL, ← hOW]
  clear hOL hOW
  go_enter Try.func157, Try.ntmps157
  have hG0 := GrowIR.start w w.heap.size rfl 0 2 26
  go_wp2
  have hN0 : New w (((w.alloc (.cells #[.int .i64 0] 2)).alloc (.cells #[] 2)).alloc (.cells #[.slice (some ⟨w.heap.size + 1, 0, none⟩) 0 0] 26)) := (by repeat (first | with_reducible exact New.refl _ | with_reducible assumption | with_reducible refine New.alloc ?_ _ | with_reducible refine New.drewN ?_ _ | with_reducible refine New.drew ?_ | with_reducible refine New.trans ?_ (by with_reducible assumption)))
  generalize (((w.alloc (.cells #[.int .i64 0] 2)).alloc (.cells #[] 2)).alloc (.cells #[.slice (some ⟨w.heap.size + 1, 0, none⟩) 0 0] 26)) = w2 at hG0 hN0 ⊢
  go_loopw [4, 5, 6] (fun v1 v2 i wr => ∃ k : Nat, i = .int .i64 k ∧ k ≤ (trT m k).list.length ∧ New w wr ∧ GrowIR w.heap.size 2 26 wr v1 v2 (trT m k).list (trT m k).words) (fun _ _ i _ => 1025 - (intOf i).toNat)
  case atStart => exact ⟨0, rfl, Nat.zero_le _, hN0, hG0⟩
  case round =>
    obtain ⟨k, rfl, hk, hn, hG⟩ := hrel
    clear hG0 hN0
    obtain ⟨wo, rfl⟩ : ∃ wo : World, wo = wr := ⟨_, rfl⟩
    have hbok := HB.out k
    have HLW := hid hbok.lw
    have hk10 := HBD.out _ hbok
    obtain ⟨⟨B1, cc1, rfl⟩, B2, cc2, rfl⟩ := hG.form
    by_cases hlt : k < (trT m k).list.length
    · have b1 : (k : Int) < ((trT m k).list.length : Int) := by omega
      obtain ⟨X, hX⟩ : ∃ X, X = nth (trT m k).list k := ⟨_, rfl⟩
      have hXok := hbok.ok X (by rw [hX]; exact nth_mem _ _ hlt)
      have HXD := hid hX
      obtain ⟨X1, X2⟩ := hXok
      clear hX
      go_wp2_with fail
      go_loopw [4, 5, 7] (fun v1 v2 x wr => ∃ l : Nat, x = .int .i64 l ∧ l ≤ m.nx.length ∧ New w wr ∧ GrowIR w.heap.size 2 26 wr v1 v2 (bRow (trG m) k (trT m k) l).list (bRow (trG m) k (trT m k) l).words) (fun _ _ x _ => m.nx.length - (intOf x).toNat)
      case atStart => exact ⟨0, rfl, Nat.zero_le _, hn, hG⟩
      case round =>
        obtain ⟨l, rfl, hll, hNi, hGi⟩ := hrel
        clear hG hn
        obtain ⟨wi, rfl⟩ : ∃ wi : World, wi = wr := ⟨_, rfl⟩
        have y1 := hNi.cell hp2
        have hbok2 := HROW.out _ hbok k hlt l hll
        have hlen2 := HBD.out _ hbok2
        have HPRE := hid (bRow_pre' (g := trG m) k (trT m k) l)
        by_cases hltl : l < m.nx.length
        · have b2 : (l : Int) < (m.nx.length : Int) := by omega
          have hk2 : k < (bRow (trG m) k (trT m k) l).list.length := by have := HPRE.out.1; omega
          have hk2w : k < (bRow (trG m) k (trT m k) l).words.length := by rw [hbok2.lw]; exact hk2
          have hlw2 := hid hbok2.lw
          have hwl := hbok2.wl k hk2
          have HSUCC := hid (bRow_succ (trG m) k (trT m k) l)
          have HNTH := hid (show nth (bRow (trG m) k (trT m k) l).list k = X by rw [(HPRE.out.2 k hlt).1, HXD.out])
          obtain ⟨T', hT'⟩ : ∃ T', T' = bRow (trG m) k (trT m k) l := ⟨_, rfl⟩
          rw [← hT'] at hGi hlen2 hk2 hk2w hwl HSUCC HNTH hbok2 hlw2
          clear hT'
          obtain ⟨⟨B1, cc1, rfl⟩, B2, cc2, rfl⟩ := hGi.form
          have hzi := hNi.size
          obtain ⟨R1, R2⟩ := HR.out l hltl
          obtain ⟨b4, o4, rv4, rfl, hx4, hr4⟩ := HC2.out l hltl
          obtain ⟨A5, c5, rfl, _, hc5⟩ := hr4
          obtain ⟨b5, o5, rfl, hx5⟩ := hc5 X.toNat (by omega)
          obtain ⟨AO, cO, eO, _, _, hcO⟩ := hGi.1.own (by omega)
          injection eO with eO eO' eO''
          subst eO
          obtain ⟨ob, oo, rfl, hox, _⟩ := hcO k hk2
          rw [HNTH.out] at hox
          clear eO' eO'' hcO hc5 R2
          replace hx4 := hNi.cell hx4
          replace hx5 := hNi.cell hx5
          have g1 : X < ((nth m.nx l).length : Int) := by omega
          obtain ⟨Y, hY⟩ : ∃ Y, Y = nth (nth m.nx l) X.toNat := ⟨_, rfl⟩
          have HG := hid (show trG m l X = some Y by rw [hY]; rfl)
          rw [← hY] at hx5
          clear hY
          have CF := fun w' (hn' : New wi w') => l00Has_any (.slice (some ⟨ob, oo, none⟩) T'.list.length cc1) T'.list Y w' ((hGi.1.own (by omega)).at.new hn')
          by_cases hmY : Y ∈ T'.list
          · have hb : hasB T'.list Y = true := (hasB_iff _ _).2 hmY
            rw [hb] at CF
            replace CF := hid CF
            have HS := hid (show bRow (trG m) k (trT m k) (l + 1) = T' by rw [HSUCC.out, bStep_has _ _ _ _ Y (by rw [HNTH.out]; exact HG.out) hmY])
            clear hmY hb
            go_wp2_with fail
            go_quiet (fail)
            go_wp2_with (go_at_call 201; refine (CF.out _ (New.drewN (New.refl _) _)).mono ?_; rintro e wc ⟨rfl, rfl⟩)
            go_roundw
            case rel => exact ⟨l + 1, by go_num, by omega, hNi.drewN _, by rw [HS.out]; exact hGi.new (New.drewN (New.refl _) _)⟩
            case measure => simp [intOf]; omega
          · have hb : hasB T'.list Y = false := by cases e : hasB T'.list Y with | false => rfl | true => exact absurd ((hasB_iff _ _).1 e) hmY
            rw [hb] at CF
            replace CF := hid CF
            have HS := hid (show bRow (trG m) k (trT m k) (l + 1) = ⟨T'.list ++ [Y], T'.words ++ [nth T'.words k ++ [(l : Int)]]⟩ by rw [HSUCC.out, bStep_new _ _ _ _ Y (by rw [HNTH.out]; exact HG.out) hmY])
            have hRl : T'.list.length < 1099511627776 := by omega
            have hWl : T'.words.length < 1099511627776 := by rw [hlw2.out]; omega
            clear hmY hb
            have HV := hid hGi.blocks
            go_wp2_with fail
            go_quiet (fail)
            go_wp2_with (first
              | (go_at_call 201; refine (CF.out _ (New.drewN (New.refl _) _)).mono ?_; rintro e wc ⟨rfl, hwc⟩; have hnc : New wi wc := (by rw [hwc]; exact New.drewN (New.refl _) _); clear hwc; have hGc := hGi.new hnc; have hNc := hNi.trans hnc; have hzc := hNc.size; clear hGi)
              | (at_builtin; refine wpList_appV rfl _ _ _ rfl (B := w.heap.size) Try.underlying26 info_i64 rfl (by decide) rfl (.slice (some ⟨ob, oo, none⟩) T'.list.length cc1) T'.list.length (T'.list.map (Value.int .i64)) rfl hGc.1 rfl hRl hzc ?_; intro g1 cap1 wd1 hod1 hgd1 hlocd1; have hG1 := hGc.app1 hod1 hgd1 (hlocd1.imp id Nat.le_of_lt); have hN1 := New.grown hNc hgd1 (fun q hq => (HV.out.1 q hq).1); have hz1 := hN1.size; obtain ⟨bw, cw, Aw, kw, e2, hw2, hoW⟩ := hG1.row k hk2w; injection e2 with e2 e2' e2''; subst e2; clear e2' e2''; obtain ⟨l2, hl2, hsp⟩ := hG1.spine)
              | (go_at_call 73; refine (l00OwnG_any _ _ _ hoW.1.at (by omega)).mono ?_; rintro e w7 ⟨r7, he, hn7, ho7⟩; obtain ⟨A77, c77, rfl⟩ := ho7.form; subst he; have hz7 := hn7.size)
              | (at_builtin; refine wpList_app rfl _ _ _ rfl Try.underlying26 info_i64 _ _ rfl ho7 rfl (by omega) (by omega) ?_; intro g8 cap8 w8 ho8 hg8; have hn8 : New wd1 w8 := New.app (a := wd1) hn7 hg8 ho7 (Nat.le_refl _); have hz8 := hn8.size; have hl3 := ownsRow_new hl2 hn8; have ho8' := ho8.own (by simp; omega))
              | (at_builtin; refine wpList_appV (w1 := w8) rfl _ _ _ rfl (B := w.heap.size) Try.underlying22 info_ints rfl (by decide) rfl _ T'.words.length l2 rfl hl3 rfl hWl (by omega) ?_; intro g2 cap2 wd2 hod2 hgd2 hlocd2))
            have hG3 := hsp g2 cap2 wd1 w8 wd2 _ _ (New.refl _) hn8 ho8' hod2 hgd2 (hlocd2.imp id Nat.le_of_lt) hz1
            go_roundw
            case rel => exact ⟨l + 1, by go_num, by omega, New.grown (hN1.trans hn8) hgd2 (fun q hq => (HV.out.2 q hq).1), by rw [HS.out]; exact hG3⟩
            case measure => simp [intOf]; omega
        · have e : l = m.nx.length := by omega
          subst e
          have HE1 := hid (show trT m (k + 1) = bRow (trG m) k (trT m k) m.nx.length by unfold trT at hlt ⊢; rw [bTo_succ, if_pos hlt])
          obtain ⟨⟨B1, cc1, rfl⟩, B2, cc2, rfl⟩ := hGi.form
          have hpre1 := HPRE.out.1
          go_wp2_with fail
          go_roundw
          case rel => exact ⟨k + 1, by go_num, by rw [HE1.out]; omega, hNi, by rw [HE1.out]; exact hGi⟩
          case measure => simp [intOf]; omega
    · have e : k = (trT m k).list.length := by omega
      have HF := hid (HE.out k (by omega) e.symm)
      have b1 : ¬ (k : Int) < ((trT m k).list.length : Int) := by omega
      clear e
      go_wp2_with fail
      go_ret2
      rw [HF.out.1, HF.out.2]
      exact ⟨_, _, rfl, hn, hG⟩

end Go.Proofs.Ytcjmcpfdpnakkaa
