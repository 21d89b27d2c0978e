/- Parts of the proof that lean on no program: SNear, SImage, SGreedy, SGreedy2. -/
import Derived.Test.YtnhjoiafadapaaaRows
import Derived.Test.YtnhjoiafadapaaaCore
import Derived.Test.YtnhjoiafadapaaaInfos
import Derived.Test.YtnhjoiafadapaaaPlains
import Derived.Test.YtnhjoiafadapaaaMaps
import Derived.Test.YtnhjoiafadapaaaArrs
import Derived.Test.YtnhjoiafadapaaaPlainMerges
import Derived.Test.YtnhjoiafadapaaaPlainStab
import Derived.Test.YtnhjoiafadapaaaJoins
import Derived.Test.YtnhjoiafadapaaaPlainGreeds
import Derived.Test.YtnhjoiafadapaaaSBase
import Derived.Test.YtnhjoiafadapaaaSPut0
import Derived.Test.YtnhjoiafadapaaaS01b
import Derived.Test.YtnhjoiafadapaaaS01g
import Derived.Test.YtnhjoiafadapaaaSWalks
import Derived.Test.YtnhjoiafadapaaaSMerge
import Derived.Test.YtnhjoiafadapaaaSTable
import Derived.WalkKit
import Derived.WalkSpells
import Derived.WalkLawsBesides
import Derived.Deep.QuietTactic
import Derived.Deep.OwnRows
import Derived.BigQuiet
import Derived.KernelRfl
namespace Go.Proofs.Ytnhjoiafadapaaa
open Go.RowKit

section
theorem nRow_succ (nx : List (List Int)) (xs : List Int) (i : Nat) (s : Int × Int × Int) (d : Nat) : nRow nx xs i s (d + 1) = nStep nx xs i (i + 1 + d) (nRow nx xs i s d) := rfl
theorem nAll_succ (nx : List (List Int)) (xs : List Int) (i : Nat) : nAll nx xs (i + 1) = nRow nx xs i (nAll nx xs i) (xs.length - (i + 1)) := rfl
set_option maxRecDepth 20000 in
set_option maxHeartbeats 600000 in
theorem l02Nearest_any (v1 v2 : Value) (a : Aut) (xs : List Int) (w : World) (h1 : RowsAt w v1 (tabOf a)) (h2 : IntsAt w v2 xs) (hs : SetIn a xs) (hxl : xs.length ≤ 10) :
    Calls Try.prog 109 #[v1, v2] w fun e w' => e = .returned (.tuple #[.int .i64 (nAll a.nx xs xs.length).1, .int .i64 (nAll a.nx xs xs.length).2.1, .bool (!decide ((nAll a.nx xs xs.length).2.2 < 0))]) ∧ New w w' := by
  obtain ⟨T, hT⟩ : ∃ T, T = tabOf a := ⟨_, rfl⟩
  have hTl : T.length = a.n.toNat := by rw [hT]; exact tabTo_len _ _ _
  have HT := hid (show ∀ s, s < a.n.toNat → (nth T s).length = a.n.toNat ∧ ∀ t, t < a.n.toNat → nth (nth T s) t = mwLen (mw a.nx s t) from fun s hs => by
    rw [hT, tabOf, nth_tabTo _ _ _ _ hs]
    exact ⟨tabRow_len _ _ _, fun t ht => nth_tabRow _ _ _ _ ht⟩)
  rw [← hT] at h1
  clear hT
  obtain ⟨A1, c1, rfl, hl1, hc1⟩ := h1
  obtain ⟨A2, c2, rfl, hl2, hc2⟩ := h2
  have HC1 := hid hc1
  have HC2 := hid hc2
  have HS := hid hs
  have HTL := hid hTl
  clear hc1 hc2 hs hTl
  go_enter Try.func109, Try.ntmps109
  go_wp2_with fail
  go_loopw [7, 8, 9, 10] (fun p q b iv wr => ∃ (i : Nat) (P Q B : Int), i ≤ xs.length ∧ iv = .int .i64 i ∧ p = .int .i64 P ∧ q = .int .i64 Q ∧ b = .int .i64 B ∧ Hid ((P, Q, B) = nAll a.nx xs i) ∧ New w wr) (fun _ _ _ iv _ => xs.length - (intOf iv).toNat)
  case atStart => exact ⟨0, 0, 0, -1, Nat.zero_le _, rfl, rfl, rfl, rfl, hid rfl, New.refl _⟩
  case round =>
    obtain ⟨i, P, Q, B, hi, rfl, rfl, rfl, rfl, he, hn⟩ := hrel
    by_cases hlt : i < xs.length
    · have b1 : (i : Int) < (xs.length : Int) := by omega
      go_wp2_with fail
      go_loopw [7, 8, 9, 11] (fun p q b kv wr => ∃ (d : Nat) (P Q B : Int), i + 1 + d ≤ xs.length ∧ kv = .int .i64 ((i + 1 + d : Nat) : Int) ∧ p = .int .i64 P ∧ q = .int .i64 Q ∧ b = .int .i64 B ∧ Hid ((P, Q, B) = nRow a.nx xs i (nAll a.nx xs i) d) ∧ New w wr) (fun _ _ _ kv _ => xs.length - (intOf kv).toNat)
      case atStart => exact ⟨0, P, Q, B, by omega, by go_num, rfl, rfl, rfl, he, hn⟩
      case round =>
        obtain ⟨d, P2, Q2, B2, hd, rfl, rfl, rfl, rfl, he2, hn2⟩ := hrel
        obtain ⟨k, hk⟩ : ∃ k, k = i + 1 + d := ⟨_, rfl⟩
        rw [← hk] at hd ⊢
        have HK := hid hk
        have HK2 := hid (show i + 1 + (d + 1) = k + 1 by omega)
        have hik : i < k := by omega
        clear hk
        by_cases hlt2 : k < xs.length
        · have b2 : (k : Int) < (xs.length : Int) := by omega
          obtain ⟨b, off, rfl, hx⟩ := HC2.out i hlt
          obtain ⟨b', off', e', hy⟩ := HC2.out k hlt2
          cases e'
          obtain ⟨x1, x2⟩ := HS.out.inn i hlt
          obtain ⟨y1, y2⟩ := HS.out.inn k hlt2
          obtain ⟨X, hX⟩ : ∃ X, X = nth xs i := ⟨_, rfl⟩
          obtain ⟨Y, hY⟩ : ∃ Y, Y = nth xs k := ⟨_, rfl⟩
          rw [← hX] at hx x1 x2
          rw [← hY] at hy y1 y2
          have tl := HTL.out
          obtain ⟨rb, ro, rv, rfl, hr, hrv⟩ := HC1.out X.toNat (by omega)
          obtain ⟨t1, t2⟩ := HT.out X.toNat (by omega)
          have t3 := t2 Y.toNat (by omega)
          obtain ⟨A3, c3, rfl, hl3, hc3⟩ := hrv
          obtain ⟨zb, zo, rfl, hz⟩ := hc3 Y.toNat (by omega)
          rw [t3] at hz
          have g1 : X < (T.length : Int) := by omega
          have g2 : Y < ((nth T X.toNat).length : Int) := by omega
          replace hx := hn2.cell hx
          replace hy := hn2.cell hy
          replace hr := hn2.cell hr
          replace hz := hn2.cell hz
          obtain ⟨Z, hZ⟩ : ∃ Z, Z = mwLen (mw a.nx X.toNat Y.toNat) := ⟨_, rfl⟩
          rw [← hZ] at hz
          have HN := hid (show nRow a.nx xs i (nAll a.nx xs i) (d + 1) = if 0 ≤ Z ∧ (B2 < 0 ∨ Z < B2) then (X, Y, Z) else (P2, Q2, B2) by
            rw [nRow_succ, ← HK.out, ← he2.out, hZ, hX, hY]; rfl)
          clear hc3 t1 t2 t3 tl hX hY hZ
          by_cases z0 : 0 ≤ Z
          · by_cases z1 : B2 < 0
            · go_wp2_with fail
              go_quiet (fail)
              go_wp2_with fail
              go_quiet (fail)
              go_wp2_with fail
              go_roundw
              case rel => exact ⟨d + 1, X, Y, Z, by rw [HK2.out]; omega, by rw [HK2.out]; go_num, rfl, rfl, rfl, hid (by rw [HN.out, if_pos ⟨z0, Or.inl z1⟩]), hn2.drewN _⟩
              case measure => simp [intOf]; omega
            · by_cases z2 : Z < B2
              · go_wp2_with fail
                go_quiet (fail)
                go_wp2_with fail
                go_quiet (fail)
                go_wp2_with fail
                go_roundw
                case rel => exact ⟨d + 1, X, Y, Z, by rw [HK2.out]; omega, by rw [HK2.out]; go_num, rfl, rfl, rfl, hid (by rw [HN.out, if_pos ⟨z0, Or.inr z2⟩]), hn2.drewN _⟩
                case measure => simp [intOf]; omega
              · have HZ := hid z2
                have d2 : decide (Z < B2) = false := decide_eq_false z2
                have d1 : decide (B2 < 0) = false := decide_eq_false z1
                have HZ1 := hid z1
                clear z2 z1
                go_wp2_with fail
                go_quiet (fail)
                go_wp2_with fail
                go_roundw
                case rel => exact ⟨d + 1, P2, Q2, B2, by rw [HK2.out]; omega, by rw [HK2.out]; go_num, rfl, rfl, rfl, hid (by rw [HN.out, if_neg (by have := HZ.out; have := HZ1.out; omega)]), hn2.drewN _⟩
                case measure => simp [intOf]; omega
          · have HZ := hid z0
            have d0 : decide (0 ≤ Z) = false := decide_eq_false z0
            clear z0
            go_wp2_with fail
            go_quiet (fail)
            go_wp2_with fail
            go_roundw
            case rel => exact ⟨d + 1, P2, Q2, B2, by rw [HK2.out]; omega, by rw [HK2.out]; go_num, rfl, rfl, rfl, hid (by rw [HN.out, if_neg (by have := HZ.out; omega)]), hn2.drewN _⟩
            case measure => simp [intOf]; omega
        · have b2 : ¬ (k : Int) < (xs.length : Int) := by omega
          go_wp2_with fail
          go_roundw
          case rel => exact ⟨i + 1, P2, Q2, B2, by omega, by go_num, rfl, rfl, rfl, hid (by rw [nAll_succ, he2.out, show xs.length - (i + 1) = d by have := HK.out; omega]), hn2⟩
          case measure => simp [intOf]; omega
    · have e : i = xs.length := by omega
      have b1 : ¬ (i : Int) < (xs.length : Int) := by omega
      have hE := hid (show nAll a.nx xs xs.length = (P, Q, B) by rw [← e, he.out])
      clear e
      by_cases hB : B < 0
      · go_wp2_with fail
        go_ret3
        exact ⟨by rw [hE.out]; simp [hB], hn⟩
      · go_wp2_with fail
        go_ret3
        exact ⟨by rw [hE.out]; simp [hB], hn⟩
end
section
set_option maxHeartbeats 400000 in
theorem l01Image_any (p v2 v3 : Value) (a : Aut) (xs ws : List Int) (w : World) (hp : PAut w p a) (h2 : IntsAt w v2 xs) (h3 : IntsAt w v3 ws) (ha : autOk a = true) (hw : letters a ws)
    (hx : ∀ s, s ∈ xs → 0 ≤ s ∧ s < a.n) (hl : xs.length ≤ 12) :
    Calls Try.prog 111 #[p, v2, v3] w fun e w' => ∃ r, e = .returned r ∧ New w w' ∧ OwnInts w.heap.size w'.heap.size w' r (imgOf a.nx xs ws) := by
  obtain ⟨A2, c2, rfl, hl2, hc2⟩ := h2
  have HA := hid ha
  have HW := hid hw
  have HX := hid hx
  have HC := hid hc2
  clear ha hw hx hc2
  have hle : ∀ k, (imgL ((xs.take k).map fun s => runOf a.nx s ws)).length ≤ k := fun k => Nat.le_trans (imgL_len _) (by rw [List.length_map, List.length_take]; omega)
  have HLE := hid hle
  clear hle
  go_enter Try.func111, Try.ntmps111
  go_wp2_with fail
  go_loopw [7, 8] (fun q i wr => ∃ k : Nat, k ≤ xs.length ∧ i = .int .i64 k ∧ OwnInts w.heap.size wr.heap.size wr q (imgL ((xs.take k).map fun s => runOf a.nx s ws)) ∧ New w wr) (fun _ i _ => xs.length - (intOf i).toNat)
  case atStart => exact ⟨0, Nat.zero_le _, rfl, by have := Grow.empty w.heap.size 2 w (Nat.le_refl _); exact (this.own (by simp)), (by repeat (first | with_reducible exact New.refl _ | with_reducible assumption | with_reducible refine New.alloc ?_ _ | with_reducible refine New.drew ?_ | with_reducible refine New.drewN ?_ _ | with_reducible refine New.setCell ?_ (by simp <;> omega) _))⟩
  case round =>
    obtain ⟨k, hk, rfl, ho, hn⟩ := hrel
    have hz0 := hn.size
    by_cases hlt : k < xs.length
    · obtain ⟨b, off, rfl, hx⟩ := HC.out k hlt
      replace hx := hn.cell hx
      have hb := HX.out _ (nth_mem xs k hlt)
      have b1 : (k : Int) < (xs.length : Int) := by omega
      obtain ⟨X, hX⟩ : ∃ X, X = nth xs k := ⟨_, rfl⟩
      rw [← hX] at hx hb
      have HXX := hid hX
      have hlk := HLE.out k
      obtain ⟨Y, hY⟩ : ∃ Y, Y = imgL ((xs.take k).map fun s => runOf a.nx s ws) := ⟨_, rfl⟩
      rw [← hY] at ho hlk
      have HYY := hid hY
      obtain ⟨Aq, cq, hf⟩ := ho.form
      subst hf
      have HO := hid ho
      clear hX hY ho
      go_wp2_with (first
        | (go_at_call 130; refine (l01To_any _ _ _ _ _ _ (hp.new hn) (h3.new hn) HA.out HW.out hb).mono ?_; rintro e w1 ⟨rfl, hn1⟩)
        | (go_at_call 151; refine (l00Put_any _ Y _ w1 (HO.out.new hn1).at (by omega)).mono ?_; rintro e w2 ⟨r, rfl, hn2, ho2⟩))
      go_roundw
      case rel =>
        refine ⟨k + 1, by omega, by go_num, ?_, (hn.trans hn1).trans hn2⟩
        rw [take_succ_nth xs k hlt, List.map_append, ← HXX.out, List.map_cons, List.map_nil, imgL_snoc, ← HYY.out]
        exact ho2.widen (by have := hn1.size; omega) (Nat.le_refl _)
      case measure => simp [intOf]; omega
    · have e : k = xs.length := by omega
      have b1 : ¬ (k : Int) < (xs.length : Int) := by omega
      rw [e, List.take_length] at ho
      have HO := hid ho
      obtain ⟨A4, c4, hf⟩ := ho.form
      subst hf
      clear ho
      go_wp2_with fail
      go_ret
      exact ⟨_, rfl, hn, HO.out⟩
end
section
def lenW : Value → Nat
  | .slice _ n _ => n
  | _ => 0
set_option maxRecDepth 20000 in
set_option maxHeartbeats 600000 in
theorem l02Greedy_any (p : Value) (a : Aut) (w : World) (hp : PAut w p a) (ha : autOk a = true) :
    Calls Try.prog 47 #[p] w fun e w' => ∃ r, e = .returned (.tuple #[r, .bool (greedy a.nx a.n.toNat [] (iota 0 a.n.toNat)).2]) ∧ New w w' ∧ OwnInts w.heap.size w'.heap.size w' r (greedy a.nx a.n.toNat [] (iota 0 a.n.toNat)).1 := by
  have han := autOk_n ha
  obtain ⟨R, hR⟩ : ∃ R, R = greedy a.nx a.n.toNat [] (iota 0 a.n.toNat) := ⟨_, rfl⟩
  rw [← hR]
  have HR := hid hR
  have HA := hid ha
  have HALL := hid (SetIn.all ha)
  have HP := hid hp
  have CT := l02Table_any p a w hp ha
  obtain ⟨pb, rv, rfl, hp0, hp1, hpr⟩ := hp
  clear hR ha hpr hp1
  go_enter Try.func47, Try.ntmps47
  go_wp2_with fail
  refine CT.mono ?_
  rintro e wt ⟨vt, rfl, hnt, hot⟩
  have HT := hid hot.at
  replace hp0 := hnt.cell hp0
  obtain ⟨AT, cT, hf⟩ := hot.form
  subst hf
  have hzt := hnt.size
  have hnA : New wt (wt.alloc (.cells #[] 2)) := (by repeat (first | with_reducible exact New.refl _ | with_reducible assumption | with_reducible refine New.alloc ?_ _ | with_reducible refine New.drewN ?_ _ | with_reducible refine New.drew ?_ | with_reducible refine New.trans ?_ (by with_reducible assumption)))
  have hpA := hnA.cell hp0
  clear hot
  go_wp2_with fail
  refine (l01All_any a.n _ (by omega) (by omega)).mono ?_
  rintro e ws ⟨vs, rfl, hns, hos⟩
  go_wp2_with fail
  have hg0 : Grow wt.heap.size 2 ws (.slice (some ⟨wt.heap.size, 0, none⟩) 0 0) [] := (Grow.empty wt.heap.size 2 wt (Nat.le_refl _)).new hns
  have hn0 : New wt ws := New.trans (by repeat (first | with_reducible exact New.refl _ | with_reducible assumption | with_reducible refine New.alloc ?_ _ | with_reducible refine New.drewN ?_ _ | with_reducible refine New.drew ?_ | with_reducible refine New.trans ?_ (by with_reducible assumption))) hns
  have hS0 : Solid (fun q => (Value.slice (some ⟨wt.heap.size, 0, none⟩) 0 0).ownBlock = some q) ws (fun w' => IntsAt w' vs (iota 0 a.n.toNat)) := hos.at.solid (fun q hq hs => by
    have h1 := (hos.block q hq).1
    rw [size_alloc] at h1
    have e1 : wt.heap.size = q := Option.some.inj hs
    omega)
  clear hos
  go_loopw [5, 6] (fun ov sv wr => ∃ (f g c : Nat) (out xs : List Int), ov = .slice (some ⟨g, 0, none⟩) out.length c ∧ New wt wr ∧ Hid (Grow wt.heap.size 2 wr (.slice (some ⟨g, 0, none⟩) out.length c) out) ∧ Hid (Solid (fun q => g = q) wr (fun w' => IntsAt w' sv xs)) ∧ Hid (SetIn a xs) ∧ Hid (R = greedy a.nx f out xs) ∧ Hid (xs.length ≤ f) ∧ Hid (out.length + 1024 * xs.length ≤ 10240) ∧ lenW sv = xs.length) (fun _ sv _ => lenW sv)
  case atStart =>
    refine ⟨a.n.toNat, wt.heap.size, 0, [], iota 0 a.n.toNat, rfl, hn0, hid hg0, hid (hS0.mono (fun q hq => by show some _ = some _; rw [hq])), HALL, HR, hid (by rw [iota_length]; exact Nat.le_refl _), hid (by rw [iota_length]; simp; omega), ?_⟩
    obtain ⟨A9, c9, h9⟩ := hS0.now.form
    rw [h9]; rfl
  case round =>
    obtain ⟨f, g, c, out, xs, rfl, hn, hG, hS, hI, hRf, hlf, hol, hlv⟩ := hrel
    obtain ⟨AS, cS, hf⟩ := hS.out.now.form
    subst hf
    clear hS0 hg0 hn0
    have hz := hn.size
    replace hp0 := hn.cell hp0
    have hx10 := hI.out.len han.2
    by_cases hl : xs.length ≤ 1
    · have b1 : ¬ (1 : Int) < (xs.length : Int) := by omega
      have HE := hid (show R = (out, true) by rw [hRf.out]; exact greedy_end hl)
      have hout : out.length ≤ 1099511627776 := by have := hol.out; omega
      have hO := hG.out.own hout
      clear hl
      go_wp2_with fail
      go_ret2
      rw [HE.out]
      exact ⟨_, rfl, hnt.trans hn, hO.widen hzt (Nat.le_refl _)⟩
    · have b1 : (1 : Int) < (xs.length : Int) := by omega
      obtain ⟨f', hf'⟩ : ∃ f', f = f' + 1 := ⟨f - 1, by have := hlf.out; omega⟩
      have hok := nAll_ok (nx := a.nx) (xs := xs) xs.length (Nat.le_refl _)
      have C := l02Nearest_any _ _ a xs wr (HT.out.new hn) hS.out.now hI.out hx10
      obtain ⟨⟨P, Q, B⟩, hSt⟩ : ∃ St, St = nAll a.nx xs xs.length := ⟨_, rfl⟩
      have HS2 := hid (show R = if B < 0 then ([], false) else greedy a.nx f' (out ++ (mw a.nx P.toNat Q.toNat).1) (imgOf a.nx xs (mw a.nx P.toNat Q.toNat).1) by
        rw [hRf.out, hf', greedy_step hSt hl])
      rw [← hSt] at C hok
      simp only at C
      clear hSt
      by_cases hB : B < 0
      · have HE := hid (show R = ([], false) by rw [HS2.out, if_pos hB])
        rw [show (!decide (B < 0)) = false by simp [hB]] at C
        clear hB hl hf'
        go_wp2_with fail
        refine C.mono ?_
        rintro e w1 ⟨rfl, hn1⟩
        have hz1 := hn1.size
        go_wp2_with fail
        go_ret2
        rw [HE.out]
        exact ⟨_, rfl, New.trans (hnt.trans (hn.trans hn1)) (by repeat (first | with_reducible exact New.refl _ | with_reducible assumption | with_reducible refine New.alloc ?_ _ | with_reducible refine New.drewN ?_ _ | with_reducible refine New.drew ?_ | with_reducible refine New.trans ?_ (by with_reducible assumption))), OwnInts.none' _ (by omega) (by (try simp only [sizes] at *) <;> omega)⟩
      · obtain ⟨i, k, hik, hk, e1, e2, e3⟩ := hok.resolve_left hB
        simp only at e1 e2 e3
        have hm : (mw a.nx P.toNat Q.toNat).2 = true := by
          cases hc : (mw a.nx P.toNat Q.toNat).2 with
          | true => rfl
          | false => rw [e1, e2] at hc; rw [e3] at hB; unfold mwLen at hB; rw [if_neg (by rw [hc]; simp)] at hB; exact absurd (by decide) hB
        obtain ⟨p0, p1⟩ : 0 ≤ P ∧ P < a.n := by rw [e1]; exact hI.out.inn i (by omega)
        obtain ⟨q0, q1⟩ : 0 ≤ Q ∧ Q < a.n := by rw [e2]; exact hI.out.inn k hk
        have hmw := mw_toNat a.nx P Q p0 q0
        have hwl := mw_len HA.out (s := P.toNat) (t := Q.toNat) (by omega) (by omega)
        have hmg := hI.out.merges HA.out hik hk (by rw [← e1, ← e2]; exact hm)
        rw [← e1, ← e2] at hmg
        have hsh := img_shrinks a.nx xs _ i k hik hk (by rw [← e1, ← e2]; exact hmg.2)
        obtain ⟨MW, hMW⟩ : ∃ MW, MW = mw a.nx P.toNat Q.toNat := ⟨_, rfl⟩
        have HS3 := hid (show R = greedy a.nx f' (out ++ (mw a.nx P.toNat Q.toNat).1) (imgOf a.nx xs (mw a.nx P.toNat Q.toNat).1) by rw [HS2.out, if_neg hB])
        rw [← hMW] at hmw hwl hmg hsh HS3
        have HC4 := hid (fun w1 (hm : New w w1) => l02Shrink_any _ a (pairOf P Q) w1 (HP.out.new hm) HA.out (pair_lt P Q a.n (by omega) (by omega)))
        rw [← hmw] at HC4
        have hbits := pair_w64 P.toNat Q.toNat (by omega) (by omega)
        have hpo : pairOf P Q = (2 ^ P.toNat ||| 2 ^ Q.toNat) := rfl
        rw [← hpo] at hbits
        rw [show (!decide (B < 0)) = true by simp [hB]] at C
        have s1 : P < 10 := by omega
        have t1 : Q < 10 := by omega
        have HLW := hid hmg.1
        have HSH := hid hsh
        have HWL := hid hwl
        have HF := hid hf'
        have CI := hid (fun w1 vs v3 (hm : New w w1) (h2 : IntsAt w1 vs xs) (h3 : IntsAt w1 v3 MW.1) => l01Image_any _ vs v3 a xs MW.1 w1 (HP.out.new hm) h2 h3 HA.out hmg.1 hI.out.2 (by omega))
        clear hB hl hf' hmg hsh hwl hMW hmw hpo e1 e2 e3 hm hok hik hk
        go_wp2_with fail
        refine C.mono ?_
        rintro e w1 ⟨rfl, hn1⟩
        have hz1 := hn1.size
        replace hp0 := hn1.cell hp0
        go_wp2_with fail
        refine (HC4.out _ (hnt.trans (hn.trans hn1))).mono ?_
        rintro e w2 ⟨r, rfl, hn2, ho2⟩
        have hz2 := hn2.size
        obtain ⟨Ar, cr, hf⟩ := ho2.form
        subst hf
        have hN2 := hn1.trans hn2
        go_wp2_with (at_builtin; refine wpList_appAll (w1 := w2) rfl _ _ _ rfl Try.underlying26 info_i64 (.slice (some ⟨g, 0, none⟩) out.length c) _ out MW.1 g rfl (hG.out.new hN2) rfl rfl ho2.at (by have := hol.out; have := HWL.out; omega) (by omega) ?_; intro g3 c3 w3 ho3 hg3 hloc3)
        have hz3 := hg3.size
        have hn3 : New wt w3 := ((hn.trans hN2)).grown hg3 (fun q hq => (hG.out.block q hq).1)
        have hr3 := ho2.grown hg3 (Or.inl (fun q => by
          have h1 := (ho2.block g q).1
          have h2 := (hG.out.block g rfl).2
          omega))
        have hS3 : IntsAt w3 (.slice AS xs.length cS) xs := (hS.out.step (S' := fun q => g3 = q) (But.of_new hN2 |>.trans (But.of_grown hg3 (fun q hq => Option.some.inj hq)) (fun q hq => Or.inl hq)) (fun q hq => hloc3.elim (fun h => Or.inl ((Option.some.inj h).trans hq)) (fun h => Or.inr (by have : g3 = q := hq; omega)))).now
        go_wp2_with fail
        refine (CI.out _ _ _ (hnt.trans hn3) hS3 hr3.at).mono ?_
        rintro e w4 ⟨v4, rfl, hn4, ho4⟩
        go_wp2_with fail
        refine ⟨⟨f', g3, c3, out ++ MW.1, imgOf a.nx xs MW.1, by rw [List.length_append], hn3.trans hn4, hid (by rw [List.length_append]; exact ho3.new hn4), hid (ho4.at.solid (fun q hq hs => by
            have h1 := (ho4.block q hq).1
            have h2 := (ho3.block g3 rfl).2
            omega)), hid (hI.out.img HA.out HLW.out), HS3, hid (by have := HSH.out; have := hlf.out; have := HF.out; omega), hid (by have := HSH.out; have := hol.out; have := HWL.out; rw [List.length_append]; omega), ?_⟩, ?_⟩
        · obtain ⟨A9, c9, h9⟩ := ho4.form
          rw [h9]; rfl
        · obtain ⟨A9, c9, h9⟩ := ho4.form
          rw [h9]; show lenW _ < lenW _; exact HSH.out
end
section
set_option maxRecDepth 20000 in
set_option maxHeartbeats 400000 in
theorem specGreedyReset_any (v1 : Value) (a : Aut) (w : World) (h1 : AutAt w v1 a) :
    Calls Try.prog 9 #[v1] w fun e w' => ∃ r, e = .returned (.tuple #[r, .int .i64 (GreedyReset a).2]) ∧ New w w' ∧ OwnInts w.heap.size w'.heap.size w' r (GreedyReset a).1 := by
  obtain ⟨rv, rfl, hr⟩ := h1
  obtain ⟨A, c, rfl⟩ := hr.form
  obtain ⟨wb, hwb⟩ : ∃ wb, wb = w.alloc (.cells #[.int .i64 a.n, .slice A a.nx.length c] 29) := ⟨_, rfl⟩
  have hp : PAut wb (.pointer (some ⟨w.heap.size, 0, none⟩)) a := by rw [hwb]; exact PAut.box hr _
  have hnb : New w wb := by rw [hwb]; exact (by repeat (first | with_reducible exact New.refl _ | with_reducible assumption | with_reducible refine New.alloc ?_ _ | with_reducible refine New.drew ?_ | with_reducible refine New.drewN ?_ _ | with_reducible refine New.setCell ?_ (by simp <;> omega) _))
  have hzb : wb.heap.size = w.heap.size + 1 := by rw [hwb]; simp only [size_alloc]
  obtain ⟨R, hR⟩ : ∃ R, R = GreedyReset a := ⟨_, rfl⟩
  rw [← hR]
  unfold GreedyReset at hR
  have HR := hid hR
  have C1 := l01Ok_any _ a _ hp
  clear hR
  cases ha : autOk a with
  | false =>
    rw [ha] at C1
    go_enter Try.func9, Try.ntmps9
    go_wp2_with fail
    rw [← hwb]
    refine C1.mono ?_
    rintro e w1 ⟨rfl, hn1⟩
    have hz1 := hn1.size
    go_wp2
    go_ret2
    have e : R = ([], 1) := by rw [HR.out, ha]; rfl
    rw [e]
    exact ⟨_, rfl, (by repeat (first | with_reducible exact New.refl _ | with_reducible assumption | with_reducible refine New.alloc ?_ _ | with_reducible refine New.drewN ?_ _ | with_reducible refine New.drew ?_ | with_reducible refine New.trans ?_ (by with_reducible assumption))), OwnInts.none' _ (by (try simp only [sizes] at *) <;> omega) (by (try simp only [sizes] at *) <;> omega)⟩
  | true =>
    rw [ha] at C1
    have HC4 := hid (fun w1 (hm : New wb w1) => l02Greedy_any _ a w1 (hp.new hm) ha)
    obtain ⟨P, hP⟩ : ∃ P, P = greedy a.nx a.n.toNat [] (iota 0 a.n.toNat) := ⟨_, rfl⟩
    rw [← hP] at HC4
    have HE := hid (show R = told P by rw [HR.out, if_pos ha, hP])
    clear hP ha
    go_enter Try.func9, Try.ntmps9
    go_wp2_with fail
    rw [← hwb]
    refine C1.mono ?_
    rintro e w1 ⟨rfl, hn1⟩
    have hz1 := hn1.size
    go_wp2_with fail
    refine (HC4.out _ hn1).mono ?_
    rintro e w2 ⟨r, rfl, hn2, ho⟩
    have hz2 := hn2.size
    go_wp2_with fail
    refine (l02Told_any _ P _ _ _ ho (Nat.le_refl _)).mono ?_
    rintro e w3 ⟨r3, rfl, hn3, ho3⟩
    have hz3 := hn3.size
    go_wp2
    go_ret2
    rw [HE.out]
    exact ⟨_, rfl, (by repeat (first | with_reducible exact New.refl _ | with_reducible assumption | with_reducible refine New.alloc ?_ _ | with_reducible refine New.drewN ?_ _ | with_reducible refine New.drew ?_ | with_reducible refine New.trans ?_ (by with_reducible assumption))), ho3.widen (by omega) (Nat.le_refl _)⟩
end

end Go.Proofs.Ytnhjoiafadapaaa
