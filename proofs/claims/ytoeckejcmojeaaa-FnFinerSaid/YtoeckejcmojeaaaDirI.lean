/- The program's answer to whether a word directs. -/
import Derived.Test.YtoeckejcmojeaaaRows
import Derived.Test.YtoeckejcmojeaaaCore
import Derived.Test.YtoeckejcmojeaaaArrs
import Derived.Test.YtoeckejcmojeaaaMaps
import Derived.Test.YtoeckejcmojeaaaPlains
import Derived.Test.YtoeckejcmojeaaaInfos
import Derived.Test.YtoeckejcmojeaaaPlainCho
import Derived.Test.YtoeckejcmojeaaaIBase
import Derived.Test.YtoeckejcmojeaaaI04a
import Derived.Test.YtoeckejcmojeaaaITours
import Derived.Test.YtoeckejcmojeaaaSCho
import Derived.Test.YtoeckejcmojeaaaICho
import Derived.Test.YtoeckejcmojeaaaDirS
import Derived.WalkKit
import Derived.WalkSpells
import Derived.WalkLawsBesides
import Derived.Deep.QuietTactic
import Derived.Deep.OwnRows
import Derived.BigQuiet
import Derived.KernelRfl
import Derived.Carry
import Derived.Deep.RegionHeld3
import Derived.Deep.RegionLaw
namespace Go.Proofs.Ytoeckejcmojeaaa
open Go.RowKit

set_option maxRecDepth 20000 in
set_option maxHeartbeats 2000000 in
theorem implDirects_any (v1 v2 : Value) (a : Cho) (ws : List Int) (kind : Int) (w : World) (h1 : ChoAt w v1 a) (h2 : IntsAt w v2 ws) :
    Calls Try.prog 22 #[v1, v2, .int .i64 kind] w fun e w' => e = .returned (.tuple #[.bool (Directs a ws kind).1, .int .i64 (Directs a ws kind).2]) ∧ New w w' := by
  obtain ⟨rv, rfl, hr⟩ := h1
  obtain ⟨A, c, rfl⟩ := hr.form
  have h1 : ChoAt w (.agg #[.int .i64 a.n, .slice A a.nx.length c]) a := ⟨_, rfl, hr⟩
  obtain ⟨wb, hwb⟩ : ∃ wb, wb = w.alloc (.cells #[.int .i64 a.n, .slice A a.nx.length c] 39) := ⟨_, rfl⟩
  have hnb : New w wb := by rw [hwb]; exact (by repeat (first | with_reducible exact New.refl _ | with_reducible assumption | with_reducible refine New.alloc ?_ _ | with_reducible refine New.drew ?_ | with_reducible refine New.drewN ?_ _ | with_reducible refine New.setCell ?_ (by simp <;> omega) _))
  have hb0 : wb.cell? ⟨w.heap.size, 0, none⟩ = some (.int .i64 a.n) := by rw [hwb]; go_simp
  have hb1 : wb.cell? ⟨w.heap.size, 1, none⟩ = some (.slice A a.nx.length c) := by rw [hwb]; go_simp
  obtain ⟨R, hR⟩ : ∃ R, R = Directs a ws kind := ⟨_, rfl⟩
  rw [← hR]
  unfold Directs at hR
  have HR := hid hR
  clear hR
  have C1 := ValidChoice_any _ a _ (h1.new hnb)
  have C2 := fun w1 (hm : New w w1) => CisWord_any _ _ a ws w1 (h1.new hm) (h2.new hm)
  cases ha : choOk a with
  | false =>
    rw [ha] at C1
    go_enter Try.func22, Try.ntmps22
    go_wp2_with fail
    rw [← hwb]
    refine C1.mono ?_
    rintro e w1 ⟨rfl, hn1⟩
    go_wp2
    go_ret2
    exact ⟨by rw [HR.out, ha]; rfl, (by repeat (first | with_reducible exact New.refl _ | with_reducible assumption | with_reducible refine New.alloc ?_ _ | with_reducible refine New.drewN ?_ _ | with_reducible refine New.drew ?_ | with_reducible refine New.trans ?_ (by with_reducible assumption)))⟩
  | true =>
    rw [ha] at C1
    obtain ⟨⟨n1, n2⟩, _, _⟩ := choOk_parts ha
    have HA := hid ha
    clear ha
    go_enter Try.func22, Try.ntmps22
    go_wp2_with fail
    rw [← hwb]
    refine C1.mono ?_
    rintro e w1 ⟨rfl, hn1⟩
    replace hb0 := hn1.cell hb0
    replace hb1 := hn1.cell hb1
    cases hw : wordOk a.shape ws with
    | false =>
      simp only [hw] at C2
      go_wp2_with fail
      refine (C2 _ (by repeat (first | with_reducible exact New.refl _ | with_reducible assumption | with_reducible refine New.alloc ?_ _ | with_reducible refine New.drewN ?_ _ | with_reducible refine New.drew ?_ | with_reducible refine New.trans ?_ (by with_reducible assumption)))).mono ?_
      rintro e w3 ⟨rfl, hn3⟩
      go_wp2
      go_ret2
      exact ⟨by rw [HR.out, HA.out, hw]; rfl, (by repeat (first | with_reducible exact New.refl _ | with_reducible assumption | with_reducible refine New.alloc ?_ _ | with_reducible refine New.drewN ?_ _ | with_reducible refine New.drew ?_ | with_reducible refine New.trans ?_ (by with_reducible assumption)))⟩
    | true =>
      simp only [hw] at C2
      have C4 := fun w => isKind_any kind w
      cases hk : inB kind 1 3 with
      | false =>
        simp only [hk] at C4
        go_wp2_with fail
        refine (C2 _ (by repeat (first | with_reducible exact New.refl _ | with_reducible assumption | with_reducible refine New.alloc ?_ _ | with_reducible refine New.drewN ?_ _ | with_reducible refine New.drew ?_ | with_reducible refine New.trans ?_ (by with_reducible assumption)))).mono ?_
        rintro e w3 ⟨rfl, hn3⟩
        go_wp2_with (go_at_call 66; refine (C4 _).mono ?_; rintro e w' ⟨rfl, rfl⟩)
        go_ret2
        exact ⟨by rw [HR.out, HA.out, hw, hk]; rfl, (by repeat (first | with_reducible exact New.refl _ | with_reducible assumption | with_reducible refine New.alloc ?_ _ | with_reducible refine New.drewN ?_ _ | with_reducible refine New.drew ?_ | with_reducible refine New.trans ?_ (by with_reducible assumption)))⟩
      | true =>
        simp only [hk] at C4
        have hlet : ∀ i, i < ws.length → 0 ≤ nth ws i ∧ nth ws i < a.nx.length := fun i hi => by
          have := ((wordOk_iff _ _).1 hw).2 i hi
          simpa [Cho.shape] using this
        obtain ⟨n, hnn⟩ : ∃ n : Nat, n = a.n.toNat := ⟨_, rfl⟩
        have HC5 := hid (fun w1 (hm : New w w1) (k : Nat) (hk : k < n) => Creach_any _ _ a (2 ^ k) ws w1 (h1.new hm) (h2.new hm) HA.out hlet (Nat.pow_lt_pow_right (by decide) (by omega)))
        have HLT := hid (reachList_lt HA.out ws hlet)
        have HLEN := hid (show (reachList a ws).length = n by rw [reachList_len, hnn])
        have HSUCC := hid (fun k (hk : k < n) => reachList_succ a ws k (by omega))
        have HE := hid (show R = (directB (reachList a ws) kind, 0) by rw [HR.out, HA.out, hw, hk]; rfl)
        have hnI : a.n = (n : Int) := by omega
        have hn10 : n ≤ 10 := by omega
        clear hlet hnn
        rw [hnI] at hb0 h1 HC5 C2 ⊢
        go_wp2_with fail
        refine (C2 _ (by repeat (first | with_reducible exact New.refl _ | with_reducible assumption | with_reducible refine New.alloc ?_ _ | with_reducible refine New.drewN ?_ _ | with_reducible refine New.drew ?_ | with_reducible refine New.trans ?_ (by with_reducible assumption)))).mono ?_
        rintro e w3 ⟨rfl, hn3⟩
        replace hb0 := hn3.cell hb0
        replace hb1 := hn3.cell hb1
        have hbw : New wb w3 := New.trans hn1 hn3
        have z0 : w.heap.size < w3.heap.size := by have := hbw.size; rw [hwb, size_alloc] at this; omega
        clear hn3
        go_wp2_with (go_at_call 66; refine (C4 _).mono ?_; rintro e w' ⟨rfl, rfl⟩)
        obtain ⟨w3, rfl⟩ : ∃ w3 : World, w3 = w' := ⟨_, rfl⟩
        go_loopw [8, 27] (fun o i wr => ∃ k : Nat, k ≤ n ∧ i = .int .i64 k ∧ GrowK .u64 w3.heap.size 90 wr o ((reachList a ws).take k) ∧ New w3 wr) (fun _ i _ => n - (intOf i).toNat)
        case atStart => exact ⟨0, Nat.zero_le _, rfl, World.ownsRow_made (w := w3) (base := w3.heap.size) (e := 90) (size := 1) #[] 0 (Nat.le_refl _) (by simp) (by simp), (by repeat (first | with_reducible exact New.refl _ | with_reducible assumption | with_reducible refine New.alloc ?_ _ | with_reducible refine New.drew ?_ | with_reducible refine New.drewN ?_ _ | with_reducible refine New.setCell ?_ (by simp <;> omega) _))⟩
        case round =>
          obtain ⟨k, hk, rfl, ho, hn⟩ := hrel
          replace hb0 := hn.cell hb0
          replace hb1 := hn.cell hb1
          have hkl : ((reachList a ws).take k).length = k := by rw [List.length_take, HLEN.out]; omega
          have HKL := hid hkl
          have hzr := hn.size
          obtain ⟨wo, rfl⟩ : ∃ wo : World, wo = wr := ⟨_, rfl⟩
          obtain ⟨Ao, co, hv⟩ := ho.form
          rw [hkl] at hv
          subst hv
          clear hkl
          have hob := ho.block
          by_cases hlt : k < n
          · have b1 : (k : Int) < (n : Int) := by omega
            have C := fun w1 (hm : New w w1) => HC5.out w1 hm k hlt
            simp only [← wu64_pow k (by omega)] at C
            have HS := hid (HSUCC.out k hlt)
            obtain ⟨cr, hcr⟩ : ∃ cr : Nat, cr = choRun a.nx (2 ^ k) ws := ⟨_, rfl⟩
            rw [← hcr] at C HS
            have HC := hid C
            clear C hcr
            go_wp2_with fail
            go_region_law (first
              | (go_simp; go_at_call 64; refine (HC.out _ (((hnb.trans hbw).trans hn).trans (by repeat (first | with_reducible exact New.refl _ | with_reducible assumption | with_reducible refine New.alloc ?_ _ | with_reducible refine New.drew ?_ | with_reducible refine New.drewN ?_ _ | with_reducible refine New.setCell ?_ (by simp <;> omega) _)))).mono ?_; rintro e w5 ⟨rfl, hn5⟩; have hq5 : New wo w5 := New.trans (New.refl _).drew hn5; have hs5 := hq5.size)
              | (have hown : (w5.alloc (.cells #[.int .u64 (cr : Int)] 90)).ownsRow w3.heap.size 90 1 (.slice Ao k co) k (((reachList a ws).take k).map fun (x : Nat) => Value.int .u64 (x : Int)) := by
                   have := ho.new (hq5.trans ((by repeat (first | with_reducible exact New.refl _ | with_reducible assumption | with_reducible refine New.alloc ?_ _ | with_reducible refine New.drew ?_ | with_reducible refine New.drewN ?_ _ | with_reducible refine New.setCell ?_ (by simp <;> omega) _)) : New w5 (w5.alloc (.cells #[.int .u64 (cr : Int)] 90))))
                   unfold GrowK at this; rw [HKL.out] at this; exact this
                 have hsz5 : w3.heap.size ≤ (w5.alloc (.cells #[.int .u64 (cr : Int)] 90)).heap.size := (by (try simp only [sizes]) <;> omega)
                 refine step_appV1 rfl _ _ _ rfl (B := w3.heap.size) Try.underlying94 info_flock rfl (by decide) (.slice Ao k co) k _ (.int .u64 (cr : Int)) rfl w5.heap.size rfl hown rfl (cell_box1 _ _ _) (by omega) hsz5 ?_
                 intro g cap w7 ho7 hg7 hl7))
            all_goals go_wp2
            all_goals go_roundw
            all_goals first
              | (simp [intOf]; omega)
              | (refine ⟨k + 1, by omega, by go_num, ?_, New.grown (hn.trans (hq5.trans (by repeat (first | with_reducible exact New.refl _ | with_reducible assumption | with_reducible refine New.alloc ?_ _ | with_reducible refine New.drew ?_ | with_reducible refine New.drewN ?_ _ | with_reducible refine New.setCell ?_ (by simp <;> omega) _)))) hg7 (fun q hq => by have := hob q hq; omega)⟩
                 rw [HS.out]
                 unfold GrowK
                 simpa [HKL.out] using ho7)
          · have e : k = n := by omega
            subst e
            have hfull : (reachList a ws).take k = reachList a ws := by rw [List.take_of_length_le (by rw [HLEN.out]; exact Nat.le_refl _)]
            have hat : NatsAt .u64 wo (.slice Ao k co) (reachList a ws) := GrowK.at (B := w3.heap.size) (e := 90) (by rw [hfull] at ho; exact ho) (by rw [HLEN.out]; omega)
            have C := directs_any _ _ kind _ hat (by rw [HLEN.out]; omega) HLT.out
            go_wp2_with (go_at_call 67; refine C.mono ?_; rintro e w6 ⟨rfl, hn6⟩)
            go_ret2
            exact ⟨by rw [HE.out]; rfl, ((hnb.trans hbw).trans hn).trans hn6⟩

end Go.Proofs.Ytoeckejcmojeaaa
