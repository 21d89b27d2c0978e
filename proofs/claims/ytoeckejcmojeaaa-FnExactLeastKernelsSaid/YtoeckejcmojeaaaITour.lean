/- The program's tour of the sets to which words lead. -/
import Derived.Test.YtoeckejcmojeaaaRows
import Derived.Test.YtoeckejcmojeaaaCore
import Derived.Test.YtoeckejcmojeaaaInfos
import Derived.Test.YtoeckejcmojeaaaMaps
import Derived.Test.YtoeckejcmojeaaaPlains
import Derived.Test.YtoeckejcmojeaaaIBase
import Derived.Test.YtoeckejcmojeaaaIFlk
import Derived.Test.YtoeckejcmojeaaaIClone
import Derived.WalkKit
import Derived.WalkSpells
import Derived.WalkLawsBesides
import Derived.Deep.QuietTactic
import Derived.Deep.OwnRows
import Derived.BigQuiet
import Derived.KernelRfl
import Derived.Carry
import Derived.Deep.RegionHeld3
namespace Go.Proofs.Ytoeckejcmojeaaa
open Go.RowKit

theorem info_flock : (Try.prog.info? 90).map (fun i => (i.zero, i.size, i.bytes)) = some (some (.int .u64 0), 1, 8) := by kernel_rfl
theorem zero_ints (w : World) : (zeroValue 42).run Try.prog w = .ok (.slice none 0 0) w := by kernel_rfl
theorem law_flock : Go.Maps.Keyed Try.prog 90 := Go.Maps.int_keyed Try.underlying90
theorem key_flock (x : Nat) (h : x < 1024) : keyOf Try.prog 90 (.int .u64 (x : Nat)) = some (.int .u64 (x : Nat)) := Go.Maps.keyOf_int_mk Try.underlying90 (by simp [Lit.wf, IntKind.min, IntKind.max, IntKind.bits, IntKind.signed]; omega)
set_option maxRecDepth 20000 in
set_option maxHeartbeats 4000000 in
theorem tour_any (v1 : Value) (a : Aut) (f : Nat) (w : World) (h1 : AutAt w v1 a) (ha : autOk a = true) (hf : f < 2 ^ a.n.toNat) :
    Calls Try.prog 127 #[v1, .int .u64 f] w fun e w' => ∃ lv mb, e = .returned (.agg #[lv, .map (some mb)]) ∧ New w w' ∧ TLoop Try.prog 90 90 w.heap.size w.heap.size w' lv mb (tourOf a.nx f) := by
  obtain ⟨rv, rfl, hr⟩ := h1
  obtain ⟨A2, c2, rfl⟩ := hr.form
  have h1 : AutAt w (.agg #[.int .i64 a.n, .slice A2 a.nx.length c2]) a := ⟨_, rfl, hr⟩
  have hmm := @run_makeMap Try.prog
  have hal := autOk_l ha
  have han := autOk_n ha
  have hf10 : f < 1024 := lt_10 hf (by omega)
  have HA := hid ha
  have HF := hid hf
  clear ha hf
  obtain ⟨wi, hwi⟩ : ∃ wi, wi = ((((w.alloc (.cells #[.int .i64 a.n, .slice A2 a.nx.length c2] 28)).alloc (.cells #[.slice none 0 0, .map none] 145)).alloc (.cells #[.int .u64 (f : Nat)] 90)).alloc (.map #[] 0)).alloc (.cells #[] 2) := ⟨_, rfl⟩
  have hni : New w wi := by rw [hwi]; exact (by repeat (first | with_reducible exact New.refl _ | with_reducible assumption | with_reducible refine New.alloc ?_ _ | with_reducible refine New.drew ?_ | with_reducible refine New.drewN ?_ _ | with_reducible refine New.setCell ?_ (by simp <;> omega) _))
  have hzi : wi.heap.size = w.heap.size + 5 := by rw [hwi]; simp only [size_alloc]
  have hMi : MapAt Try.prog 90 wi (w.heap.size + 1 + 1 + 1) 0 (fun _ => none) := by
    have := (MapAt.made Try.prog 90 (((w.alloc (.cells #[.int .i64 a.n, .slice A2 a.nx.length c2] 28)).alloc (.cells #[.slice none 0 0, .map none] 145)).alloc (.cells #[.int .u64 (f : Nat)] 90))).new ((New.refl _).alloc (.cells #[] 2))
    simp only [size_alloc] at this
    rw [hwi]; exact this
  have hbi : Box2 wi w.heap.size (.int .i64 a.n) (.slice A2 a.nx.length c2) := by rw [hwi]; exact ⟨by go_simp, by go_simp, by go_simp, by go_simp⟩
  have hri : Box2 wi (w.heap.size + 1) (.slice none 0 0) (.map none) := by rw [hwi]; exact ⟨by go_simp, by go_simp, by go_simp, by go_simp⟩
  have hli : GrowK .u64 (w.heap.size + 2) 90 wi (.slice (some ⟨w.heap.size + 1 + 1, 0, none⟩) 1 1) [f] := by
    have := (GrowK.one .u64 (w.heap.size + 2) 90 ((w.alloc (.cells #[.int .i64 a.n, .slice A2 a.nx.length c2] 28)).alloc (.cells #[.slice none 0 0, .map none] 145)) f (by (try simp only [sizes]) <;> omega)).new (((New.refl _).alloc (.map #[] 0)).alloc (.cells #[] 2))
    simp only [size_alloc] at this
    rw [hwi]; exact this
  obtain ⟨w5, hrun, hm5, hg5⟩ := hMi.put_spec (val := .slice (some ⟨w.heap.size + 1 + 1 + 1 + 1, 0, none⟩) 0 0) law_flock Try.underlying143 (by decide) (key_flock f hf10)
  have hs5 := hg5.size
  rw [hwi] at hrun
  have hn5 : New w w5 := New.grown hni hg5 (fun k hk => by cases hk; omega)
  have hb5 := hbi.grown hg5 (fun k hk => by cases hk; omega)
  have hr5 := hri.grown hg5 (fun k hk => by cases hk; omega)
  have hl5 : GrowK .u64 (w.heap.size + 2) 90 w5 (.slice (some ⟨w.heap.size + 1 + 1, 0, none⟩) 1 1) [f] := ownsRow_grown hli hg5 (Or.inl (by simp [Value.ownBlock]))
  clear hli hri hbi hMi
  go_enter Try.func127, Try.ntmps127
  go_wp2
  have hT : TLoop Try.prog 90 90 (w.heap.size + 2) w5.heap.size (w5.alloc (.cells #[.slice (some ⟨w.heap.size + 1 + 1, 0, none⟩) 1 1, .map (some (w.heap.size + 1 + 1 + 1))] 145)) (.slice (some ⟨w.heap.size + 1 + 1, 0, none⟩) 1 1) (w.heap.size + 1 + 1 + 1) (tTo a.nx f 0) := by
    have hq : New w5 (w5.alloc (.cells #[.slice (some ⟨w.heap.size + 1 + 1, 0, none⟩) 1 1, .map (some (w.heap.size + 1 + 1 + 1))] 145)) := (by repeat (first | with_reducible exact New.refl _ | with_reducible assumption | with_reducible refine New.alloc ?_ _ | with_reducible refine New.drew ?_ | with_reducible refine New.drewN ?_ _ | with_reducible refine New.setCell ?_ (by simp <;> omega) _))
    refine ⟨_, fun _ => .slice (some ⟨w.heap.size + 1 + 1 + 1 + 1, 0, none⟩) 0 0, hm5.new hq, by omega, by omega, hl5.new hq, by simp [Value.ownBlock]; omega, fun i hi => ?_, fun x hx => ?_⟩
    · have : i = 0 := by simpa [tTo_zero, tStart] using hi
      subst this
      refine ⟨by simp [putF, tTo_zero, tStart, nth], OwnInts.none' _ (by omega) (by (try simp only [sizes]) <;> omega), Or.inl (by simp [Value.ownBlock] <;> omega), by simp [Value.ownBlock] <;> omega⟩
    · have : x ≠ f := by simpa [tTo_zero, tStart] using hx
      simp [putF]
      omega
  have hB : Box2 (w5.alloc (.cells #[.slice (some ⟨w.heap.size + 1 + 1, 0, none⟩) 1 1, .map (some (w.heap.size + 1 + 1 + 1))] 145)) w5.heap.size (.slice (some ⟨w.heap.size + 1 + 1, 0, none⟩) 1 1) (.map (some (w.heap.size + 1 + 1 + 1))) := ⟨by go_simp, by go_simp, by go_simp, by go_simp⟩
  have hn6 : New w5 (w5.alloc (.cells #[.slice (some ⟨w.heap.size + 1 + 1, 0, none⟩) 1 1, .map (some (w.heap.size + 1 + 1 + 1))] 145)) := (by repeat (first | with_reducible exact New.refl _ | with_reducible assumption | with_reducible refine New.alloc ?_ _ | with_reducible refine New.drew ?_ | with_reducible refine New.drewN ?_ _ | with_reducible refine New.setCell ?_ (by simp <;> omega) _))
  have hz6 : w5.heap.size < (w5.alloc (.cells #[.slice (some ⟨w.heap.size + 1 + 1, 0, none⟩) 1 1, .map (some (w.heap.size + 1 + 1 + 1))] 145)).heap.size := (by (try simp only [sizes]) <;> omega)
  have hb6 := hb5.new hn6
  have hr6 := hr5.new hn6
  replace hn6 := hn5.trans hn6
  obtain ⟨bx, hbx⟩ : ∃ bx, bx = w5.heap.size := ⟨_, rfl⟩
  rw [← hbx] at hT hB hz6 ⊢
  have hbx1 : w.heap.size + 5 ≤ bx := by omega
  obtain ⟨mb, hmb⟩ : ∃ mb, mb = w.heap.size + 1 + 1 + 1 := ⟨_, rfl⟩
  rw [← hmb] at hT hB hz6 hb6 hr6 hn6 ⊢
  generalize (w5.alloc (.cells #[.slice (some ⟨w.heap.size + 1 + 1, 0, none⟩) 1 1, .map (some mb)] 145)) = w6 at hT hB hz6 hb6 hr6 hn6 ⊢
  clear hrun hm5 hg5 hs5 hn5 hb5 hr5 hl5 hwi hni hzi hbx hmm hmb
  go_loopw [6] (fun i wr => ∃ (k : Nat) (lv : Value), i = .int .i64 k ∧ k ≤ (tTo a.nx f k).sets.length ∧ New w wr ∧ Box2 wr w.heap.size (.int .i64 a.n) (.slice A2 a.nx.length c2) ∧ Box2 wr (w.heap.size + 1) (.slice none 0 0) (.map none) ∧ Box2 wr bx lv (.map (some mb)) ∧
      TLoop Try.prog 90 90 (w.heap.size + 2) bx wr lv mb (tTo a.nx f k)) (fun i _ => 1025 - (intOf i).toNat)
  case atStart => exact ⟨0, _, rfl, Nat.zero_le _, hn6, hb6, hr6, hB, hT⟩
  case round =>
    obtain ⟨k, lv, rfl, hk, hn, hba, hbr, hbt, hT⟩ := hrel
    clear hb6 hr6 hB hn6 hz6
    obtain ⟨wo, rfl⟩ : ∃ wo : World, wo = wr := ⟨_, rfl⟩
    obtain ⟨y0, y1, _, _⟩ := id hba
    obtain ⟨z0, z1, _, _⟩ := id hbt
    obtain ⟨Al, cl, rfl⟩ := hT.form
    have hok := TOk.to HA.out f HF.out k
    have hlen := hok.len han.2
    have HOK := hid hok
    obtain ⟨n, hnn⟩ : ∃ n, n = (tTo a.nx f k).sets.length := ⟨_, rfl⟩
    by_cases hlt : k < (tTo a.nx f k).sets.length
    · have b1 : (k : Int) < ((tTo a.nx f k).sets.length : Int) := by omega
      obtain ⟨A9, c9, e9, _, hc9⟩ := hT.nats (by omega)
      cases e9
      obtain ⟨b, off, rfl, hx⟩ := hc9 k hlt
      clear hc9
      go_wp2_with (go_at_call 96; refine (letters_any _ a _ (h1.new (by repeat (first | with_reducible exact New.refl _ | with_reducible assumption | with_reducible refine New.alloc ?_ _ | with_reducible refine New.drewN ?_ _ | with_reducible refine New.drew ?_ | with_reducible refine New.trans ?_ (by with_reducible assumption))))).mono ?_; rintro e w7 ⟨rfl, hn7⟩)
      have hT7 := hT.new hn7
      have hbt7 := hbt.new hn7
      have hbr7 := hbr.new hn7
      have hba7 := hba.new hn7
      have hF1 : nth (tTo a.nx f k).sets k < 2 ^ a.n.toNat := HOK.out.lt _ (nth_mem _ _ hlt)
      have HFK := hid hF1
      have hFK10 : nth (tTo a.nx f k).sets k < 1024 := lt_10 hF1 (by omega)
      clear hT hbt hbr hba y0 y1 z0 z1 hx hF1
      replace hn := hn.trans hn7
      clear hn7 hok
      go_loopw [33] (fun i wr => ∃ (l : Nat) (lv : Value), i = .int .i64 l ∧ l ≤ a.nx.length ∧ New w wr ∧ Box2 wr w.heap.size (.int .i64 a.n) (.slice A2 a.nx.length c2) ∧ Box2 wr (w.heap.size + 1) (.slice none 0 0) (.map none) ∧ Box2 wr bx lv (.map (some mb)) ∧
        TLoop Try.prog 90 90 (w.heap.size + 2) bx wr lv mb (tRow a.nx k (tTo a.nx f k) l)) (fun i _ => a.nx.length - (intOf i).toNat)
      case atStart => exact ⟨0, _, rfl, Nat.zero_le _, hn, hba7, hbr7, hbt7, hT7⟩
      case round =>
        obtain ⟨l, lv, rfl, hl, hn, hba, hbr, hbt, hT⟩ := hrel
        clear hba7 hbr7 hbt7 hT7
        obtain ⟨wo, rfl⟩ : ∃ wo : World, wo = wr := ⟨_, rfl⟩
        obtain ⟨y0, y1, _, _⟩ := id hba
        obtain ⟨z0, z1, zf0, _⟩ := id hbt
        obtain ⟨Al, cl, rfl⟩ := hT.form
        by_cases hltl : l < a.nx.length
        · have b3 : (l : Int) < (a.nx.length : Int) := by omega
          have hok2 := HOK.out.row HA.out k hlt l (by omega)
          have hst := tRow_sets a.nx k (tTo a.nx f k) l
          have HS := hid (hst.2 k hlt)
          have HL2 := hid hst.1
          have hmv := moved_ok HA.out l (nth (tTo a.nx f k).sets k) hltl HFK.out
          have hmv10 : moved (nth a.nx l) (nth (tTo a.nx f k).sets k) < 1024 := lt_10 hmv (by omega)
          have HSUCC := hid (tRow_succ a.nx k (tTo a.nx f k) l)
          have C := step_any (.agg #[.int .i64 a.n, .slice A2 a.nx.length c2]) a (nth (tTo a.nx f k).sets k) l
          rw [Int.toNat_natCast] at C
          have HC := hid (fun w1 (hm : New w w1) => C w1 (h1.new hm) HA.out ⟨by omega, b3⟩ HFK.out)
          clear C hst hmv
          cases hc : (tRow a.nx k (tTo a.nx f k) l).sets.contains (moved (nth a.nx l) (nth (tTo a.nx f k).sets k)) with
          | true =>
            have HCC := hid hc
            go_wp2_with fail
            refine (HC.out _ (by repeat (first | with_reducible exact New.refl _ | with_reducible assumption | with_reducible refine New.alloc ?_ _ | with_reducible refine New.drewN ?_ _ | with_reducible refine New.drew ?_ | with_reducible refine New.trans ?_ (by with_reducible assumption)))).mono ?_
            rintro e w8 ⟨rfl, hn8⟩
            obtain ⟨v8, hlk⟩ := (hT.new hn8).look law_flock Try.underlying143 zero_ints key_flock _ hmv10
            rw [hc] at hlk
            replace z0 := hn8.cell z0
            replace z1 := hn8.cell z1
            clear hc
            go_wp2
            go_roundw
            case rel =>
              refine ⟨l + 1, _, by go_num, by omega, (by repeat (first | with_reducible exact New.refl _ | with_reducible assumption | with_reducible refine New.alloc ?_ _ | with_reducible refine New.drewN ?_ _ | with_reducible refine New.drew ?_ | with_reducible refine New.trans ?_ (by with_reducible assumption))), hba.new hn8, hbr.new hn8, hbt.new hn8, ?_⟩
              rw [HSUCC.out, tStep_has _ _ _ _ (by rw [HS.out]; exact HCC.out)]
              exact hT.new hn8
            case measure => simp [intOf]; omega
          | false =>
            have HCC := hid hc
            obtain ⟨Aw, cw, how, hlook⟩ := hT.word law_flock Try.underlying143 zero_ints key_flock k (by have := HL2.out; omega) (by rw [HS.out]; exact hFK10)
            rw [HS.out] at hlook
            have HLOOK := hid hlook
            obtain ⟨hmbne, hmbB, hmblt⟩ := hT.mb_ne
            have hFKne : nth (tTo a.nx f k).sets k ≠ moved (nth a.nx l) (nth (tTo a.nx f k).sets k) := by
              intro e
              have h1 : nth (tTo a.nx f k).sets k ∈ (tRow a.nx k (tTo a.nx f k) l).sets := by rw [← HS.out]; exact nth_mem _ _ (by have := HL2.out; omega)
              rw [← contains_iff, e, HCC.out] at h1; cases h1
            have HOW := hid how
            have hwl := hok2.wl k (by have := HL2.out; omega)
            have hslen := hok2.len han.2
            clear hlook how
            go_wp2_with fail
            refine (HC.out _ (by repeat (first | with_reducible exact New.refl _ | with_reducible assumption | with_reducible refine New.alloc ?_ _ | with_reducible refine New.drewN ?_ _ | with_reducible refine New.drew ?_ | with_reducible refine New.trans ?_ (by with_reducible assumption)))).mono ?_
            rintro e w8 ⟨rfl, hn8⟩
            obtain ⟨v8, hlk⟩ := (hT.new hn8).look law_flock Try.underlying143 zero_ints key_flock _ hmv10
            rw [hc] at hlk
            replace z0 := hn8.cell z0
            replace z1 := hn8.cell z1
            clear hc
            go_wp2_with fail
            clear hlk
            go_region_held3 (fun w' => w'.cell? ⟨bx, 0, none⟩ = some (.slice Al (tRow a.nx k (tTo a.nx f k) l).sets.length cl) ∧ w'.cell? ⟨bx, 1, none⟩ = some (.map (some mb)) ∧ (Instr.lookup 143 (.map (some mb)) (.int .u64 (nth (tTo a.nx f k).sets k : Nat)) false).run Try.prog w' = .ok (.slice Aw (nth (tRow a.nx k (tTo a.nx f k) l).words k).length cw) w')
              (refine ⟨?_, ?_, ?_⟩ <;> first | exact hbt11.1 | exact hbt11.2.1 | exact hn10.cell z0 | exact hn10.cell z1 | exact hn9.cell z0 | exact hn9.cell z1 | (refine HLOOK.out _ ?_; (repeat (first | with_reducible exact New.refl _ | with_reducible assumption | with_reducible refine New.alloc ?_ _ | with_reducible refine New.drewN ?_ _ | with_reducible refine New.drew ?_ | with_reducible refine New.trans ?_ (by with_reducible assumption))); done) | (refine hlks _ _ hFK10 ?_ (HLOOK.out _ ?_) <;> first | exact hFKne | ((repeat (first | with_reducible exact New.refl _ | with_reducible assumption | with_reducible refine New.alloc ?_ _ | with_reducible refine New.drewN ?_ _ | with_reducible refine New.drew ?_ | with_reducible refine New.trans ?_ (by with_reducible assumption))); done)) | go_keep)
              (first
                | (go_at_call 149; refine (Clone64_any _ _ _ (HOW.out.at.new (by repeat (first | with_reducible exact New.refl _ | with_reducible assumption | with_reducible refine New.alloc ?_ _ | with_reducible refine New.drewN ?_ _ | with_reducible refine New.drew ?_ | with_reducible refine New.trans ?_ (by with_reducible assumption)))) (by omega)).mono ?_; rintro e w9 ⟨r, he, hq9, ho9⟩; obtain ⟨Ar, cr, rfl⟩ := ho9.form; subst he; have hn9 : New w8 w9 := (by repeat (first | with_reducible exact New.refl _ | with_reducible assumption | with_reducible refine New.alloc ?_ _ | with_reducible refine New.drewN ?_ _ | with_reducible refine New.drew ?_ | with_reducible refine New.trans ?_ (by with_reducible assumption))); have hz9 := hq9.size; try simp only [size_alloc, size_drew] at hz9)
                | (refine step_app1 rfl _ _ _ rfl Try.underlying42 info_i64 _ _ (l : Int) _ rfl (ho9.new (by repeat (first | with_reducible exact New.refl _ | with_reducible assumption | with_reducible refine New.alloc ?_ _ | with_reducible refine New.drewN ?_ _ | with_reducible refine New.drew ?_ | with_reducible refine New.trans ?_ (by with_reducible assumption)))) rfl (by first | (refine hq9.cell ?_; go_simp; done) | (go_simp; done)) (by omega) (by (try simp only [sizes]) <;> omega) ?_; intro g cap w10 ho10 hg10; have hn10 : New w8 w10 := New.app (a := w8) (by repeat (first | with_reducible exact New.refl _ | with_reducible assumption | with_reducible refine New.alloc ?_ _ | with_reducible refine New.drewN ?_ _ | with_reducible refine New.drew ?_ | with_reducible refine New.trans ?_ (by with_reducible assumption))) hg10 (ho9.new (by repeat (first | with_reducible exact New.refl _ | with_reducible assumption | with_reducible refine New.alloc ?_ _ | with_reducible refine New.drewN ?_ _ | with_reducible refine New.drew ?_ | with_reducible refine New.trans ?_ (by with_reducible assumption)))) (by (try simp only [sizes]) <;> omega); obtain ⟨w11, hrun, hg11, hP, hlks⟩ := (hT.new hn8).put hn10 ((ho10.own (by simp; omega)).widen (by (try simp only [sizes]) <;> omega) (Nat.le_refl _)) (by have := hn.size; have := hn8.size; have := hbt.lt; omega) (by have := hbt.lt; have := hn8.size; omega) law_flock Try.underlying143 zero_ints key_flock _ hmv10 (by rw [← contains_iff, HCC.out]; simp) (by omega); have hbt11 := ((hbt.new hn8).new hn10).grown hg11 (fun q hq => by cases hq; omega)))
            all_goals obtain ⟨q0, q1, qf0, _⟩ := id hbt11
            all_goals obtain ⟨hgl, hgb⟩ := hP.list
            all_goals have hgbl := hgl.block
            all_goals have hs8 := hn8.size
            all_goals have hs10 := hn10.size
            all_goals have hs11 := hg11.size
            all_goals have hbl := hbt.lt
            all_goals (go_wp2_with (at_builtin; refine wpList_appV rfl _ _ _ rfl (B := w.heap.size + 2) Try.underlying94 info_flock rfl (by decide) rfl (.slice Al (tRow a.nx k (tTo a.nx f k) l).sets.length cl) (tRow a.nx k (tTo a.nx f k) l).sets.length _ rfl hgl rfl (by omega) (by omega) ?_; intro g cap w12 ho12 hg12 hloc12; have hbt12 := hbt11.grown hg12 (fun q hq e => hgb (by rw [hq, e])); obtain ⟨u0, u1, uf0, _⟩ := id hbt12))
            all_goals go_roundw
            all_goals first
              | (simp [intOf]; omega)
              | (have hn12 : New w w12 := New.grown (New.grown (hn.trans (hn8.trans hn10)) hg11 (fun q hq => by cases hq; omega)) hg12 (fun q hq => by have := hgbl q hq; omega)
                 refine ⟨l + 1, _, by go_num, by omega, hn12.setCell (by show w.heap.size ≤ bx; omega) _, ?_, ?_, hbt12.set0 _, ?_⟩
                 · exact ((((hba.new hn8).new hn10).grown hg11 (fun q hq => by cases hq; omega)).grown hg12 (fun q hq => by have := hgbl q hq; omega)).other _ (by simp <;> omega) _
                 · exact ((((hbr.new hn8).new hn10).grown hg11 (fun q hq => by cases hq; omega)).grown hg12 (fun q hq => by have := hgbl q hq; omega)).other _ (by simp <;> omega) _
                 · have hT12 := hP.app (bef := (tStep a.nx k l (tRow a.nx k (tTo a.nx f k) l)).before) (let' := (tStep a.nx k l (tRow a.nx k (tTo a.nx f k) l)).letters) hok2.lw (by rw [← contains_iff, HCC.out]; simp) (by omega) ho12 hg12 (by rcases hloc12 with h | h; exact Or.inl h; exact Or.inr (by omega))
                   have hT13 := hT12.box (grown_setCell w12 ⟨bx, 0, none⟩ (.slice (some ⟨g, 0, none⟩) ((tRow a.nx k (tTo a.nx f k) l).sets.length + 1) cap))
                   rw [tStep_new _ _ _ _ (by rw [HS.out]; exact HCC.out)] at hT13
                   rw [HSUCC.out, tStep_new _ _ _ _ (by rw [HS.out]; exact HCC.out), HS.out]
                   exact hT13)
        · have e : l = a.nx.length := by omega
          subst e
          have hst := tRow_sets a.nx k (tTo a.nx f k) a.nx.length
          have HE := hid (show tTo a.nx f (k + 1) = tRow a.nx k (tTo a.nx f k) a.nx.length by rw [tTo_succ, if_pos hlt])
          have hst1 := hst.1
          clear hst
          go_wp2
          go_roundw
          case rel => exact ⟨k + 1, _, by go_num, by rw [HE.out]; omega, hn, hba, hbr, hbt, by rw [HE.out]; exact hT⟩
          case measure => simp [intOf]; omega
    · have e : k = (tTo a.nx f k).sets.length := by omega
      have HE := hid (tour_end HA.out f HF.out k e.symm)
      clear e
      obtain ⟨v0, v1, vf0, vf1⟩ := id hbr
      go_wp2_with fail
      obtain ⟨g0, g1, _, _⟩ := hbr.fill (.slice Al (tTo a.nx f k).sets.length cl) (.map (some mb))
      refine bodyPost_ret (v := .agg #[.slice Al (tTo a.nx f k).sets.length cl, .map (some mb)]) (by simp [results, Try.results127, go_sem, g0, g1]) rfl ?_
      have hTw := hT.widen (B' := w.heap.size + 2) (bx' := w.heap.size + 1) (Nat.le_refl _) (by omega)
      have hg : wo.grownBy ((wo.setCell ⟨w.heap.size + 1, 0, none⟩ (.slice Al (tTo a.nx f k).sets.length cl)).setCell ⟨w.heap.size + 1, 1, none⟩ (.map (some mb))) (some (w.heap.size + 1)) :=
        grown_trans (grown_setCell wo ⟨w.heap.size + 1, 0, none⟩ _) (grown_setCell _ ⟨w.heap.size + 1, 1, none⟩ _)
      refine ⟨_, _, rfl, New.fill hn (by omega) _ _, ?_⟩
      rw [HE.out]
      exact (hTw.box hg).widen (by omega) (by omega)

end Go.Proofs.Ytoeckejcmojeaaa
