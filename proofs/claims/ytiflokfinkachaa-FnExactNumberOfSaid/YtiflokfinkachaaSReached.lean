/- The reference's states to which words lead from one. -/
import Derived.Test.YtiflokfinkachaaRows
import Derived.Test.YtiflokfinkachaaCore
import Derived.Test.YtiflokfinkachaaInfo
import Derived.Test.YtiflokfinkachaaPlains
import Derived.Test.YtiflokfinkachaaJoins
import Derived.Test.YtiflokfinkachaaMaps
import Derived.Test.YtiflokfinkachaaCho
import Derived.Test.YtiflokfinkachaaSolid
import Derived.Test.YtiflokfinkachaaBox3
import Derived.Test.YtiflokfinkachaaQRow
import Derived.Test.YtiflokfinkachaaS00a
import Derived.Test.YtiflokfinkachaaS00b
import Derived.Test.YtiflokfinkachaaSPut0
import Derived.WalkKit
import Derived.WalkSpells
import Derived.WalkLawsBesides
import Derived.Deep.QuietTactic
import Derived.Deep.OwnRows
import Derived.BigQuiet
import Derived.KernelRfl
import Derived.Carry
namespace Go.Proofs.Ytiflokfinkachaa
open Go.RowKit

def lenV : Value → Nat
  | .slice _ n _ => n
  | _ => 0
/-- The same numbers. -/
def Same (xs ys : List Int) : Prop := xs.length = ys.length ∧ ∀ x, x ∈ xs ↔ x ∈ ys
set_option maxRecDepth 20000 in
set_option maxHeartbeats 4000000 in
theorem l01Reached_any (p : Value) (a : Aut) (s : Int) (w : World) (h : PAut w p a) (ha : autOk a = true) (hs : rcP a s) :
    Calls Try.prog 204 #[p, .int .i64 s] w fun e w' => ∃ r OL, e = .returned r ∧ New w w' ∧ IntsAt w' r OL ∧ Same OL (rcL a s) := by
  obtain ⟨pb, rv, rfl, hp0, hp1, hr⟩ := h
  obtain ⟨A, c, rfl, hl, hc⟩ := hr
  have HC := hid hc
  have HB := hid (fun k => rc_bok ha hs k)
  have HBD := hid (fun (t : Bfs Int) (ht : BOk (rcP a) a.nx.length t) => rc_bound ha ht)
  have HE := hid (fun k hk => rc_end ha hs k hk)
  have HR := hid (fun l hl => autOk_row ha l hl)
  have HOK := hid (fun l x y hl hx hy => rcG_ok ha l x y hl hx hy)
  have hn := autOk_n ha
  have hal := autOk_l ha
  clear hc ha hs
  have hn0 : New w ((w.alloc (.cells #[.int .i64 s] 2)).alloc (.cells #[.int .i64 s] 2)) := (by repeat (first | with_reducible exact New.refl _ | with_reducible assumption | with_reducible refine New.alloc ?_ _ | with_reducible refine New.drewN ?_ _ | with_reducible refine New.drew ?_ | with_reducible refine New.trans ?_ (by with_reducible assumption)))
  have hQ0 : QRow w.heap.size ((w.alloc (.cells #[.int .i64 s] 2)).alloc (.cells #[.int .i64 s] 2)) (.slice (some ⟨w.heap.size + 1, 0, none⟩) 1 1) ((rcT a s 0).list.drop 0) := by
    have h1 := ownsRow_one (B := w.heap.size) (e := 2) (w := w.alloc (.cells #[.int .i64 s] 2)) (x := .int .i64 s) (by rw [size_alloc]; omega)
    rw [size_alloc] at h1
    exact QRow.of_row (xs := [s]) h1
  have hO0 : Solid (fun q => (Value.slice (some ⟨w.heap.size + 1, 0, none⟩) 1 1).ownBlock = some q) ((w.alloc (.cells #[.int .i64 s] 2)).alloc (.cells #[.int .i64 s] 2)) (fun w' => IntsAt w' (.slice (some ⟨w.heap.size, 0, none⟩) 1 1) (rcT a s 0).list) := by
    have h1 : Grow w.heap.size 2 (w.alloc (.cells #[.int .i64 s] 2)) (.slice (some ⟨w.heap.size, 0, none⟩) 1 1) [s] := ownsRow_one (B := w.heap.size) (e := 2) (w := w) (x := .int .i64 s) (Nat.le_refl _)
    have h2 := ((h1.new ((New.refl _).alloc (.cells #[.int .i64 s] 2))).own (by simp)).at
    exact IntsAt.solid h2 (fun q hq hq2 => by
      have e1 : w.heap.size = q := Option.some.inj hq
      have e2 : w.heap.size + 1 = q := Option.some.inj hq2
      omega)
  go_enter Try.func204, Try.ntmps204
  go_wp2_with fail
  generalize ((w.alloc (.cells #[.int .i64 s] 2)).alloc (.cells #[.int .i64 s] 2)) = w0 at hn0 hQ0 hO0 ⊢
  go_loopw [5, 6] (fun ov tv wr => ∃ (k : Nat) (OL : List Int), k ≤ (rcT a s k).list.length ∧ New w wr ∧ QRow w.heap.size wr tv ((rcT a s k).list.drop k) ∧ Solid (fun q => tv.ownBlock = some q) wr (fun w' => IntsAt w' ov OL) ∧ Same OL (rcT a s k).list) (fun o t _ => lenV t + 2 * (20 - lenV o))
  case atStart => exact ⟨0, _, Nat.zero_le _, hn0, hQ0, hO0, rfl, fun _ => Iff.rfl⟩
  case round =>
    obtain ⟨k, OL, hk, hnk, hQ, hO, hSm⟩ := hrel
    clear hn0 hQ0 hO0
    obtain ⟨wo, rfl⟩ : ∃ wo : World, wo = wr := ⟨_, rfl⟩
    have hbd := HBD.out _ (HB.out k)
    obtain ⟨AO, cO, rfl⟩ := hO.now.form
    obtain ⟨AQ, cQ, hQf⟩ := hQ.form
    subst hQf
    by_cases hlt : k < (rcT a s k).list.length
    · obtain ⟨X, hX⟩ : ∃ X, X = nth (rcT a s k).list k := ⟨_, rfl⟩
      have hdr : (rcT a s k).list.drop k = X :: (rcT a s k).list.drop (k + 1) := by rw [List.drop_eq_getElem_cons hlt, hX, nth_eq _ _ hlt]
      obtain ⟨RS, hRS⟩ : ∃ z, z = (rcT a s k).list.drop (k + 1) := ⟨_, rfl⟩
      rw [hdr, ← hRS] at hQ
      obtain ⟨g, off, cc, e1, hcc, hx, hcut⟩ := hQ.cut
      rw [hdr, ← hRS] at hO ⊢
      injection e1 with e1 e2 e3
      subst e1; subst e3
      have b1 : (0 : Int) < ((RS.length + 1 : Nat) : Int) := by omega
      have HXo := hid ((HB.out k).ok X (by rw [hX]; exact nth_mem _ _ hlt))
      have hcutA := hid (fun (e : cQ = 1) => show QRow w.heap.size wo (.slice (some ⟨g, off, none⟩) RS.length 0) RS by rw [if_pos e] at hcut; subst e; exact hcut)
      have hcutB := hid (fun (e : ¬ cQ = 1) => show QRow w.heap.size wo (.slice (some ⟨g, off + 1, none⟩) RS.length (cQ - 1)) RS by rw [if_neg e] at hcut; exact hcut)
      have HRS := hid hRS
      have HX := hid hX
      have HS := hid hSm
      have hp1k := hnk.cell hp1
      clear hdr e2 hRS hX hSm hcut
      rw [List.length_cons]
      have hk10 : k < 10 := by omega
      have hLB := hid (show lenV (.slice (some ⟨g, off, none⟩) (RS.length + 1) cQ) = RS.length + 1 from rfl)
      go_wp2_with fail
      all_goals
        go_loopw [5, 6, 8] (fun ov tv i wr => ∃ (l : Nat) (OL2 : List Int), l ≤ a.nx.length ∧ i = .int .i64 l ∧ New w wr ∧ QRow w.heap.size wr tv ((bRow (rcG a.nx) k (rcT a s k) l).list.drop (k + 1)) ∧ Solid (fun q => tv.ownBlock = some q) wr (fun w' => IntsAt w' ov OL2) ∧ Same OL2 (bRow (rcG a.nx) k (rcT a s k) l).list) (fun _ _ i _ => a.nx.length - (intOf i).toNat)
        case atStart => exact ⟨0, OL, Nat.zero_le _, rfl, hnk, by rw [bRow_zero, ← HRS.out]; first | exact hcutA.out rfl | exact hcutA.out (by assumption) | exact hcutB.out (by assumption), hO, by rw [bRow_zero]; exact HS.out⟩
        case round =>
          obtain ⟨l, OL2, hll, rfl, hnl, hQl, hOl, hSl⟩ := hrel
          obtain ⟨wl, rfl⟩ : ∃ wl : World, wl = wr := ⟨_, rfl⟩
          have hpre := bRow_pre' (g := rcG a.nx) k (rcT a s k) l
          have hokl := BOk.row (fun l x y hl hx hy => HOK.out l x y hl hx hy) (HB.out k) k hlt l hll
          obtain ⟨T', hT'⟩ : ∃ T', T' = bRow (rcG a.nx) k (rcT a s k) l := ⟨_, rfl⟩
          have hbd2 := HBD.out _ hokl
          rw [← hT'] at hQl hSl hpre hbd2
          have HT := hid hT'
          have hk2 : k < T'.list.length := Nat.lt_of_lt_of_le hlt hpre.1
          have hXT : nth T'.list k = X := by rw [(hpre.2 k hlt).1, HX.out]
          have HXT := hid hXT
          have HK2 := hid hk2
          have HSL := hid hSl
          obtain ⟨AO2, cO2, hOf⟩ := hOl.now.form
          subst hOf
          obtain ⟨QS, hQS⟩ : ∃ z, z = T'.list.drop (k + 1) := ⟨_, rfl⟩
          rw [← hQS] at hQl
          have HQS := hid hQS
          obtain ⟨AQ2, cQ2, hQf⟩ := hQl.form
          subst hQf
          have hp1l := hnl.cell hp1
          have hzl := hnl.size
          have hOL2 : OL2.length ≤ 1000000 := by have := hSl.1; omega
          have hQSl : QS.length < 1099511627776 := by rw [hQS, List.length_drop]; omega
          clear hT' hokl hpre hXT hQS hk2 hSl hp1k hx
          by_cases hltl : l < a.nx.length
          · have b2 : (l : Int) < (a.nx.length : Int) := by omega
            obtain ⟨rb, ro, rv, rfl, hx, hrv⟩ := HC.out l hltl
            obtain ⟨A3, c3, rfl, hl3, hc3⟩ := hrv
            obtain ⟨r1, r2⟩ := HR.out l hltl
            obtain ⟨X1, X2⟩ := HXo.out
            obtain ⟨tb, to, rfl, ht⟩ := hc3 X.toNat (by omega)
            obtain ⟨Y, hY⟩ : ∃ Y, Y = nth (nth a.nx l) X.toNat := ⟨_, rfl⟩
            rw [← hY] at ht
            have g1 : X < ((nth a.nx l).length : Int) := by omega
            have HG := hid (show rcG a.nx l (nth T'.list k) = some Y by rw [HXT.out, hY]; rfl)
            have HSUCC := hid (show bRow (rcG a.nx) k (rcT a s k) (l + 1) = bStep (rcG a.nx) k l T' by rw [bRow_succ, ← HT.out])
            replace hx := hnl.cell hx
            replace ht := hnl.cell ht
            have C := l00Has_any _ OL2 Y wl hOl.now
            have HOL := hid hOl
            have HQL := hid hQl
            clear hc3 r2 hY hOl hQl
            by_cases hm : Y ∈ T'.list
            · have hb : hasB OL2 Y = true := (hasB_iff _ _).2 ((HSL.out.2 Y).2 hm)
              have HS2 := hid (show bRow (rcG a.nx) k (rcT a s k) (l + 1) = T' by rw [HSUCC.out, bStep_has _ _ _ _ Y HG.out hm])
              rw [hb] at C
              clear hm hb
              go_wp2_with (go_at_call 219; refine C.mono ?_; rintro e w' ⟨rfl, rfl⟩)
              refine ⟨⟨l + 1, OL2, by omega, by go_num, hnl, by rw [HS2.out, ← HQS.out]; exact HQL.out, HOL.out, by rw [HS2.out]; exact HSL.out⟩, ?_⟩
              simp [intOf]; omega
            · have hm2 : Y ∉ OL2 := fun q => hm ((HSL.out.2 Y).1 q)
              have hb : hasB OL2 Y = false := by
                cases hq : hasB OL2 Y with
                | false => rfl
                | true => exact absurd ((hasB_iff _ _).1 hq) hm2
              have HS2 := hid (show bRow (rcG a.nx) k (rcT a s k) (l + 1) = ⟨T'.list ++ [Y], T'.words ++ [nth T'.words k ++ [(l : Int)]]⟩ by rw [HSUCC.out, bStep_new _ _ _ _ Y HG.out hm])
              have HPL := hid (putI_len OL2 Y hm2)
              have HPM := hid (putI_mem OL2 Y hm2)
              have C2 := l00Put_any _ OL2 Y wl HOL.out.now hOL2
              rw [hb] at C
              clear hm hb hm2
              go_wp2_with (first
                | (go_at_call 219; refine C.mono ?_; rintro e w' ⟨rfl, rfl⟩)
                | (go_at_call 234; refine C2.mono ?_; rintro e w1 ⟨r, he, hn1, ho1⟩; obtain ⟨Ar, cr, hrf⟩ := ho1.form; subst hrf; subst he; have hw1 : New w w1 := hnl.trans hn1; have hz1 := hw1.size)
                | (at_builtin; refine wpList_q (w1 := w1) rfl _ _ _ rfl Try.underlying26 info_i64 (.slice AQ2 QS.length cQ2) QS rfl (HQL.out.new hn1) rfl hQSl hz1 ?_; intro tv2 w2 hq2 hg2 hloc2))
              have hs1 : Solid (fun q => (Value.slice AQ2 QS.length cQ2).ownBlock = some q) w1 (fun w' => IntsAt w' (.slice Ar (putI OL2 Y).length cr) (putI OL2 Y)) := ho1.at.solid (fun q hq hs => by
                have h1 := (ho1.block q hq).1
                have h2 := (HQL.out.block q hs).2
                omega)
              have hs2 := hs1.step (S' := fun q => tv2.ownBlock = some q) (But.of_grown hg2 (fun q hq => hq)) (fun q hq => hloc2.elim (fun h => Or.inl (by rw [← h]; exact hq)) (fun h => Or.inr (h q hq)))
              have hS3 : Same (putI OL2 Y) (T'.list ++ [Y]) := ⟨by rw [HPL.out, List.length_append, HSL.out.1]; rfl, fun x => by rw [HPM.out, List.mem_append, List.mem_singleton, HSL.out.2]⟩
              refine ⟨⟨l + 1, putI OL2 Y, by omega, by go_num, New.grown hw1 hg2 (fun q hq => (HQL.out.block q hq).1), by
                rw [HS2.out]
                show QRow _ _ _ ((T'.list ++ [Y]).drop (k + 1))
                rw [List.drop_append_of_le_length (by have := HK2.out; omega), ← HQS.out]
                exact hq2, hs2, by rw [HS2.out]; exact hS3⟩, ?_⟩
              simp [intOf]; omega
          · have e : l = a.nx.length := by omega
            subst e
            have b2 : ¬ (a.nx.length : Int) < (a.nx.length : Int) := by omega
            have HS4 := hid (show rcT a s (k + 1) = T' by unfold rcT at hlt HT ⊢; rw [bTo_succ, if_pos hlt, HT.out])
            have HLN := hid (show QS.length + 2 * (20 - OL2.length) < RS.length + 1 + 2 * (20 - OL.length) by
              have h1 := HSL.out.1
              have h2 := HS.out.1
              have h3 := (bRow_pre' (g := rcG a.nx) k (rcT a s k) a.nx.length).1
              rw [← HT.out] at h3
              rw [HQS.out, HRS.out, List.length_drop, List.length_drop]
              have := HK2.out
              omega)
            have HOL := hid hOl
            have HQL := hid hQl
            clear hOl hQl
            go_wp2_with fail
            refine ⟨⟨k + 1, OL2, by rw [HS4.out]; have := HK2.out; omega, hnl, by rw [HS4.out, ← HQS.out]; exact HQL.out, HOL.out, by rw [HS4.out]; exact HSL.out⟩, ?_⟩
            exact HLN.out
    · have e : k = (rcT a s k).list.length := by omega
      have HF := hid (HE.out k e.symm)
      have hd : (rcT a s k).list.drop k = [] := List.drop_eq_nil_of_le (by omega)
      have HSm := hid hSm
      have HO := hid hO
      rw [hd]
      clear e hd hSm hO hQ
      go_wp2_with fail
      go_ret
      exact ⟨_, OL, rfl, hnk, HO.out.now, by rw [HF.out]; exact HSm.out⟩

end Go.Proofs.Ytiflokfinkachaa
