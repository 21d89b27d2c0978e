/- The program's first words. -/
import Derived.Test.YtcjmcpfdpnakkaaRows
import Derived.Test.YtcjmcpfdpnakkaaCore
import Derived.Test.YtcjmcpfdpnakkaaInfo
import Derived.Test.YtcjmcpfdpnakkaaMaps
import Derived.Test.YtcjmcpfdpnakkaaBfsW
import Derived.Test.YtcjmcpfdpnakkaaPlains
import Derived.Test.YtcjmcpfdpnakkaaPlainApart
import Derived.Test.YtcjmcpfdpnakkaaPlainTrim
import Derived.Test.YtcjmcpfdpnakkaaIClone
import Derived.WalkKit
import Derived.WalkSpells
import Derived.WalkLawsBesides
import Derived.Deep.QuietTactic
import Derived.Deep.OwnRows
import Derived.BigQuiet
import Derived.KernelRfl
import Derived.Carry
import Derived.Deep.RegionHeld3
namespace Go.Proofs.Ytcjmcpfdpnakkaa
open Go.RowKit

def intM : BMem Int where
  K := 2
  e := 2
  z := 1
  cells := fun x => [.int .i64 x]
  val := fun x => .int .i64 x
  key := fun x => .int .i64 x
  ok := fun x => 0 ≤ x ∧ x < 1024
theorem int_law : Go.Maps.Keyed Try.prog intM.K := Go.Maps.int_keyed Try.underlying2
theorem int_key (x : Int) (h : intM.ok x) : keyOf Try.prog intM.K (intM.val x) = some (intM.key x) := by
  obtain ⟨h0, h1⟩ := h
  exact Go.Maps.keyOf_int_mk Try.underlying2 (by simp [Lit.wf, IntKind.min, IntKind.max, IntKind.bits, IntKind.signed]; omega)
theorem int_inj (x y : Int) (_ : intM.ok x) (_ : intM.ok y) (e : intM.key x = intM.key y) : x = y := by
  have : (Lit.int .i64 x) = .int .i64 y := e
  injection this
theorem zero_intsT (w : World) : (zeroValue 26).run Try.prog w = .ok (.slice none 0 0) w := by kernel_rfl
set_option maxRecDepth 20000 in
set_option maxHeartbeats 4000000 in
theorem firstWords_any (v : Value) (m : Mach) (w : World) (h : MachAt w v m) (hm : machOk m = true) :
    Calls Try.prog 94 #[v] w fun e w' => ∃ r rm, e = .returned (.tuple #[r, rm]) ∧ New w w' ∧ OwnInts w.heap.size w'.heap.size w' r (orderOf m) := by
  obtain ⟨r1, r2, rfl, hr1, hr2⟩ := h
  obtain ⟨A1, c1, rfl, _, hc1⟩ := hr1
  obtain ⟨A2, c2, rfl⟩ := hr2.form
  have hmn := mach_n hm
  have hml := mach_l hm
  have HC1 := hid hc1
  have HB := hid (fun k => tr_bok hm k)
  have HBD := hid (fun (t : Bfs Int) (h : BOk (trP m) m.nx.length t) => tr_bound hm h)
  have HROW := hid (fun (t' : Bfs Int) (h : BOk (trP m) m.nx.length t') k (hk : k < t'.list.length) l (hl' : l ≤ m.nx.length) => h.row (g := trG m) (fun l x y hl'' hx hg => trG_ok hm l x y hl'' hx hg) k hk l hl')
  have HR := hid (fun l (h : l < m.nx.length) => mach_row hm l h)
  have HE := hid (fun k (h1 : k ≤ 11) h2 => tr_end hm k h2)
  have HOKI := hid (fun (x : Int) (h : trP m x) => (show intM.ok x from ⟨h.1, by have := h.2; omega⟩))
  clear hm hc1 hr2
  obtain ⟨OL, hOL⟩ : ∃ z, z = orderOf m := ⟨_, rfl⟩
  rw [← hOL] at HE
  rw [← hOL]
  clear hOL
  have hmm := @run_makeMap Try.prog
  obtain ⟨wb, hwb⟩ : ∃ wb, wb = w.alloc (.cells #[.int .i64 m.n, .int .i64 m.o, .slice A1 m.nx.length c1, .slice A2 m.out.length c2] 29) := ⟨_, rfl⟩
  have hnb : New w wb := by rw [hwb]; exact (by repeat (first | with_reducible exact New.refl _ | with_reducible assumption | with_reducible refine New.alloc ?_ _ | with_reducible refine New.drew ?_ | with_reducible refine New.drewN ?_ _ | with_reducible refine New.setCell ?_ (by simp <;> omega) _))
  have a2 : wb.cell? ⟨w.heap.size, 2, none⟩ = some (.slice A1 m.nx.length c1) := by rw [hwb]; go_simp
  have hzb : w.heap.size < wb.heap.size := by rw [hwb]; exact (by (try simp only [sizes]) <;> omega)
  have hM0 : MapAt Try.prog 2 (((wb.alloc (.cells #[.int .i64 0] 2)).alloc (.map #[] 0)).alloc (.cells #[] 2)) (wb.heap.size + 1) 0 (fun _ => none) := by
    have h := MapAt.made Try.prog 2 (wb.alloc (.cells #[.int .i64 0] 2))
    simp only [size_alloc] at h
    exact h.new ((New.refl _).alloc _)
  have hv0 : OwnInts wb.heap.size (((wb.alloc (.cells #[.int .i64 0] 2)).alloc (.map #[] 0)).alloc (.cells #[] 2)).heap.size (((wb.alloc (.cells #[.int .i64 0] 2)).alloc (.map #[] 0)).alloc (.cells #[] 2)) (.slice (some ⟨wb.heap.size + 1 + 1, 0, none⟩) 0 0) [] := OwnInts.none' _ (by omega) (by (try simp only [sizes]) <;> omega)
  have hok0 : intM.ok 0 := ⟨by decide, by decide⟩
  obtain ⟨w5, run0, og0, or0, ok0⟩ := BLoop.begin (M := intM) (P := Try.prog) 0 hM0 (Nat.le_succ _) hv0 int_law (T := 119) (E := 26) Try.underlying119 int_inj hok0 (int_key _ hok0)
  have run1 : (Instr.mapUpdate 119 (.map (some (wb.heap.size + 1))) (.int .i64 0) (.slice (some ⟨wb.heap.size + 1 + 1, 0, none⟩) 0 0)).run Try.prog (((wb.alloc (.cells #[.int .i64 0] 2)).alloc (.map #[] 0)).alloc (.cells #[] 2)) = .ok () w5 := run0
  have hn5 : New wb w5 := New.grown (a := wb) (w := ((wb.alloc (.cells #[.int .i64 0] 2)).alloc (.map #[] 0)).alloc (.cells #[] 2)) (by repeat (first | with_reducible exact New.refl _ | with_reducible assumption | with_reducible refine New.alloc ?_ _ | with_reducible refine New.drew ?_ | with_reducible refine New.drewN ?_ _ | with_reducible refine New.setCell ?_ (by simp <;> omega) _)) og0 (fun k hk => by cases hk; omega)
  have hT0 : BLoop intM Try.prog wb.heap.size w5 (.slice (some ⟨wb.heap.size, 0, none⟩) 1 1) (wb.heap.size + 1) (trT m 0) := by
    refine ok0 w5 _ (New.refl _) (or0 ?_) (Or.inl (by simp [Value.ownBlock] <;> omega))
    exact ownsRow_new (ownsRow_one (B := wb.heap.size) (e := 2) (w := wb) (x := .int .i64 0) (Nat.le_refl _)) ((((New.refl _).alloc _).alloc _))
  clear run0 og0 or0 ok0 hM0 hv0
  have run2 := run1
  rw [hwb] at run2
  simp only [size_alloc] at run2
  go_enter Try.func94, Try.ntmps94
  go_wp2_with fail
  clear run2
  have hsz : w.heap.size + 1 = wb.heap.size := by rw [hwb, size_alloc]
  rw [hsz]
  obtain ⟨mb, hmb⟩ : ∃ mb, mb = wb.heap.size + 1 := ⟨_, rfl⟩
  rw [← hmb] at hT0 ⊢
  have hmbB : wb.heap.size ≤ mb := by omega
  clear run1 hwb hsz hmb hmm
  go_loopw [4, 6] (fun lv i wr => ∃ k : Nat, i = .int .i64 k ∧ k ≤ (trT m k).list.length ∧ New wb wr ∧ BLoop intM Try.prog wb.heap.size wr lv mb (trT m k)) (fun _ i _ => 1025 - (intOf i).toNat)
  case atStart => exact ⟨0, rfl, Nat.zero_le _, hn5, hT0⟩
  case round =>
    obtain ⟨k, rfl, hk, hn, hT⟩ := hrel
    clear hn5 hT0
    obtain ⟨wo, rfl⟩ : ∃ wo : World, wo = wr := ⟨_, rfl⟩
    have hbok := HB.out k
    have hk10 := HBD.out _ hbok
    have HLW := hid hbok.lw
    obtain ⟨B1, cc1, rfl⟩ := hT.form
    have y2 := hn.cell a2
    by_cases hlt : k < (trT m k).list.length
    · have b1 : (k : Int) < ((trT m k).list.length : Int) := by omega
      obtain ⟨X, hX⟩ : ∃ X, X = nth (trT m k).list k := ⟨_, rfl⟩
      have hXok := hbok.ok X (by rw [hX]; exact nth_mem _ _ hlt)
      obtain ⟨lb, lc, e1, hcell⟩ := hT.cell (fun _ => rfl) k hlt (by decide)
      injection e1 with e1 e1' e1''
      subst e1
      rw [← hX] at hcell
      have hx0 : wo.cell? ⟨lb, k, none⟩ = some (.int .i64 X) := by
        have := hcell 0 (.int .i64 X) rfl
        rwa [show k * intM.z + 0 = k from by show k * 1 + 0 = k; omega] at this
      have HXD := hid hX
      obtain ⟨X1, X2⟩ := hXok
      clear hX e1' e1'' hcell
      go_wp2_with fail
      go_loopw [4, 29] (fun lv i wr => ∃ l : Nat, i = .int .i64 l ∧ l ≤ m.nx.length ∧ New wb wr ∧ BLoop intM Try.prog wb.heap.size wr lv mb (bRow (trG m) k (trT m k) l)) (fun _ i _ => m.nx.length - (intOf i).toNat)
      case atStart => exact ⟨0, rfl, Nat.zero_le _, hn, hT⟩
      case round =>
        obtain ⟨l, rfl, hll, hNi, hTi⟩ := hrel
        clear hT hn y2 hx0
        obtain ⟨wi, rfl⟩ : ∃ wi : World, wi = wr := ⟨_, rfl⟩
        have hbok2 := HROW.out _ hbok k hlt l hll
        have hlen2 := HBD.out _ hbok2
        have HPRE := hid (bRow_pre' (g := trG m) k (trT m k) l)
        by_cases hltl : l < m.nx.length
        · have b2 : (l : Int) < (m.nx.length : Int) := by omega
          have hk2 : k < (bRow (trG m) k (trT m k) l).list.length := by have := HPRE.out.1; omega
          have hlw2 := hid hbok2.lw
          have hwl := hbok2.wl k hk2
          have HSUCC := hid (bRow_succ (trG m) k (trT m k) l)
          have hnth : nth (bRow (trG m) k (trT m k) l).list k = X := by rw [(HPRE.out.2 k hlt).1, HXD.out]
          have HNTH := hid hnth
          have HOKL := hid hbok2.ok
          obtain ⟨T', hT'⟩ : ∃ T', T' = bRow (trG m) k (trT m k) l := ⟨_, rfl⟩
          rw [← hT'] at hTi hlen2 hk2 hwl HSUCC HNTH hbok2 hlw2 hnth HOKL
          clear hT'
          obtain ⟨R1, R2⟩ := HR.out l hltl
          obtain ⟨b4, o4, rv4, rfl, hx4, hr4⟩ := HC1.out l hltl
          obtain ⟨A5, c5, rfl, _, hc5⟩ := hr4
          obtain ⟨b5, o5, rfl, hx5⟩ := hc5 X.toNat (by omega)
          replace hx4 := (hnb.trans hNi).cell hx4
          replace hx5 := (hnb.trans hNi).cell hx5
          have g1 : X < ((nth m.nx l).length : Int) := by omega
          obtain ⟨y0, y1⟩ := R2 X.toNat (by omega)
          obtain ⟨Y, hY⟩ : ∃ Y, Y = nth (nth m.nx l) X.toNat := ⟨_, rfl⟩
          have HG := hid (show trG m l X = some Y by rw [hY]; rfl)
          rw [← hY] at hx5 y0 y1
          have hQ := HOKI.out Y ⟨y0, y1⟩
          have HQ := hid hQ
          obtain ⟨v9, hlk⟩ := hTi.look int_law (T := 119) (E := 26) Try.underlying119 zero_intsT Y hQ (int_key _ hQ)
          clear hY hc5 R2 y0 y1 hQ
          obtain ⟨B1, cc1, rfl⟩ := hTi.form
          by_cases hmY : Y ∈ T'.list
          · have hlk' : (Instr.lookup 119 (.map (some mb)) (.int .i64 Y) true).run Try.prog wi = .ok (.tuple #[v9, .bool true]) wi := hlk.1 hmY
            have HS := hid (show bRow (trG m) k (trT m k) (l + 1) = T' by rw [HSUCC.out, bStep_has _ _ _ _ Y (by rw [HNTH.out]; exact HG.out) hmY])
            clear hlk hmY hnth
            go_wp2_with fail
            go_roundw
            case rel => exact ⟨l + 1, by go_num, by omega, hNi, by rw [HS.out]; exact hTi⟩
            case measure => simp [intOf]; omega
          · have hlk' : (Instr.lookup 119 (.map (some mb)) (.int .i64 Y) true).run Try.prog wi = .ok (.tuple #[v9, .bool false]) wi := hlk.2 hmY
            have HS := hid (show bRow (trG m) k (trT m k) (l + 1) = ⟨T'.list ++ [Y], T'.words ++ [nth T'.words k ++ [(l : Int)]]⟩ by rw [HSUCC.out, bStep_new _ _ _ _ Y (by rw [HNTH.out]; exact HG.out) hmY])
            have HM := hid hmY
            have HYX := hid (show X ≠ Y from fun e => hmY (by rw [← e, ← hnth]; exact nth_mem _ _ hk2))
            obtain ⟨Aw, cw, how, hlook⟩ := hTi.word int_law (T := 119) (E := 26) Try.underlying119 zero_intsT k hk2 (by rw [hnth]; exact int_key _ (HOKI.out _ ⟨X1, X2⟩))
            rw [hnth] at hlook
            have HLOOK := hid (fun w' (hm : New wi w') => (show (Instr.lookup 119 (.map (some mb)) (.int .i64 X) false).run Try.prog w' = .ok (.slice Aw (nth T'.words k).length cw) w' from hlook w' hm))
            have HOW := hid how
            have hzi := hNi.size
            clear hlk hmY hnth hlook how
            go_wp2_with fail
            clear hlk'
            go_region_held3 (fun w' => w'.cell? ⟨b5, o5 + X.toNat, none⟩ = some (.int .i64 Y) ∧ (Instr.lookup 119 (.map (some mb)) (.int .i64 X) false).run Try.prog w' = .ok (.slice Aw (nth T'.words k).length cw) w')
              (refine ⟨?_, ?_⟩ <;> first | exact hc11 | exact hlk11 | exact hn10.cell hx5 | exact hn9.cell hx5 | (refine HLOOK.out _ ?_; (repeat (first | with_reducible exact New.refl _ | with_reducible assumption | with_reducible refine New.alloc ?_ _ | with_reducible refine New.drewN ?_ _ | with_reducible refine New.drew ?_ | with_reducible refine New.trans ?_ (by with_reducible assumption))); done) | go_keep)
              (first
                | (go_at_call 78; refine (Clone64_any _ _ _ (HOW.out.at.new (by repeat (first | with_reducible exact New.refl _ | with_reducible assumption | with_reducible refine New.alloc ?_ _ | with_reducible refine New.drewN ?_ _ | with_reducible refine New.drew ?_ | with_reducible refine New.trans ?_ (by with_reducible assumption)))) (by omega)).mono ?_; rintro e w9 ⟨r, he, hq9, ho9⟩; obtain ⟨Ar, cr, rfl⟩ := ho9.form; subst he; have hn9 : New wi w9 := (by repeat (first | with_reducible exact New.refl _ | with_reducible assumption | with_reducible refine New.alloc ?_ _ | with_reducible refine New.drewN ?_ _ | with_reducible refine New.drew ?_ | with_reducible refine New.trans ?_ (by with_reducible assumption))); have hz9 := hq9.size; try simp only [size_alloc, size_drew] at hz9)
                | (refine step_app1 rfl _ _ _ rfl Try.underlying26 info_i64 _ _ (l : Int) _ rfl (ho9.new (by repeat (first | with_reducible exact New.refl _ | with_reducible assumption | with_reducible refine New.alloc ?_ _ | with_reducible refine New.drewN ?_ _ | with_reducible refine New.drew ?_ | with_reducible refine New.trans ?_ (by with_reducible assumption)))) rfl (by first | (refine hq9.cell ?_; go_simp; done) | (go_simp; done)) (by omega) (by (try simp only [sizes]) <;> omega) ?_; intro g cap w10 ho10 hg10; have hn10 : New wi w10 := New.app (a := wi) (by repeat (first | with_reducible exact New.refl _ | with_reducible assumption | with_reducible refine New.alloc ?_ _ | with_reducible refine New.drewN ?_ _ | with_reducible refine New.drew ?_ | with_reducible refine New.trans ?_ (by with_reducible assumption))) hg10 (ho9.new (by repeat (first | with_reducible exact New.refl _ | with_reducible assumption | with_reducible refine New.alloc ?_ _ | with_reducible refine New.drewN ?_ _ | with_reducible refine New.drew ?_ | with_reducible refine New.trans ?_ (by with_reducible assumption)))) (by (try simp only [sizes]) <;> omega); obtain ⟨w11, hrun, hg11, hP, hlks⟩ := hTi.put2 hn10 ((ho10.own (by simp; omega)).widen (by (try simp only [sizes]) <;> omega) (Nat.le_refl _)) hzi int_law (T := 119) (E := 26) Try.underlying119 zero_intsT int_inj (fun x hx => HOKI.out _ (HOKL.out x hx)) Y HQ.out (int_key _ HQ.out) HM.out (by omega); have hrun' : (Instr.mapUpdate 119 (.map (some mb)) (.int .i64 Y) (.slice (some ⟨g, 0, none⟩) ((nth T'.words k).length + 1) cap)).run Try.prog w10 = .ok () w11 := hrun; have hc11 := hg11.cell (hn10.cell hx5) (by simpa using (hTi.new hn10).cell_ne (hn10.cell hx5)); have hlk11 : (Instr.lookup 119 (.map (some mb)) (.int .i64 X) false).run Try.prog w11 = .ok (.slice Aw (nth T'.words k).length cw) w11 := hlks X _ (HOKI.out _ ⟨X1, X2⟩) HYX.out (int_key _ (HOKI.out _ ⟨X1, X2⟩)) (HLOOK.out _ hn10)))
            all_goals have hlst := hP.list
            all_goals have hl1 : w11.ownsRow wb.heap.size 2 1 (.slice B1 T'.list.length cc1) T'.list.length (T'.list.flatMap intM.cells) := hlst
            all_goals have hN11 : New wb w11 := New.grown (hNi.trans hn10) hg11 (fun q hq => by cases hq; exact hmbB)
            all_goals have hz11 := hN11.size
            all_goals (go_wp2_with (at_builtin; refine wpList_appV (w1 := w11) rfl _ _ _ rfl (B := wb.heap.size) Try.underlying26 info_i64 rfl (by decide) rfl (.slice B1 T'.list.length cc1) T'.list.length _ rfl hl1 rfl (by omega) hz11 ?_; intro g4 cap4 w12 ho12 hg12 hloc12))
            all_goals (refine ⟨⟨l + 1, by go_num, by omega, New.grown hN11 hg12 (fun q hq => (World.ownsRow.lt hlst q hq).1), by rw [HS.out]; exact hP.app hlw2.out HM.out ho12 hg12 (hloc12.imp id Nat.le_of_lt)⟩, ?_⟩; simp [intOf]; omega)
        · have e : l = m.nx.length := by omega
          subst e
          have HE1 := hid (show trT m (k + 1) = bRow (trG m) k (trT m k) m.nx.length by unfold trT at hlt ⊢; rw [bTo_succ, if_pos hlt])
          have hpre1 := HPRE.out.1
          obtain ⟨B1, cc1, rfl⟩ := hTi.form
          go_wp2_with fail
          go_roundw
          case rel => exact ⟨k + 1, by go_num, by rw [HE1.out]; omega, hNi, by rw [HE1.out]; exact hTi⟩
          case measure => simp [intOf]; omega
    · have e : k = (trT m k).list.length := by omega
      have HF := hid (HE.out k (by omega) e.symm)
      have b1 : ¬ (k : Int) < ((trT m k).list.length : Int) := by omega
      have ho : OwnInts wb.heap.size wo.heap.size wo (.slice B1 (trT m k).list.length cc1) (trT m k).list := by
        have := hT.list
        refine OwnInts.of_row (n := (trT m k).list.length) (e := 2) ?_ (by omega)
        have e2 : (trT m k).list.flatMap intM.cells = (trT m k).list.map (Value.int .i64) := by
          generalize (trT m k).list = L
          induction L with
          | nil => rfl
          | cons x r ih => rw [List.flatMap_cons, ih]; rfl
        rw [← e2]; exact this
      clear e
      go_wp2_with fail
      go_ret2
      rw [HF.out]
      exact ⟨_, ⟨_, rfl⟩, hnb.trans hn, ho.widen (by omega) (Nat.le_refl _)⟩

end Go.Proofs.Ytcjmcpfdpnakkaa
