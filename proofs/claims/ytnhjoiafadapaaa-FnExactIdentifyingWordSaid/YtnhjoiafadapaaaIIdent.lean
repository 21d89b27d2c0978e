/- The program's IdentifyingWord. -/
import Derived.Test.YtnhjoiafadapaaaRows
import Derived.Test.YtnhjoiafadapaaaCore
import Derived.Test.YtnhjoiafadapaaaInfos
import Derived.Test.YtnhjoiafadapaaaPlains
import Derived.Test.YtnhjoiafadapaaaPlainApart
import Derived.Test.YtnhjoiafadapaaaPlainIdent
import Derived.Test.YtnhjoiafadapaaaMaps
import Derived.Test.YtnhjoiafadapaaaBfsW
import Derived.Test.YtnhjoiafadapaaaKeyLook
import Derived.Test.YtnhjoiafadapaaaArrs
import Derived.Test.YtnhjoiafadapaaaIBase
import Derived.Test.YtnhjoiafadapaaaI01c
import Derived.Test.YtnhjoiafadapaaaI06a
import Derived.Test.YtnhjoiafadapaaaI06b
import Derived.Test.YtnhjoiafadapaaaIClone
import Derived.Test.YtnhjoiafadapaaaIFlk
import Derived.WalkKit
import Derived.WalkSpells
import Derived.WalkLawsBesides
import Derived.Deep.QuietTactic
import Derived.Deep.OwnRows
import Derived.BigQuiet
import Derived.KernelRfl
import Derived.Carry
import Derived.Deep.RegionHeld3
import Derived.Deep.RegionLaw
import Derived.Deep.Cut
namespace Go.Proofs.Ytnhjoiafadapaaa
open Go.RowKit

def lookM : BMem (Int × Nat) where
  K := 96
  e := 96
  z := 2
  cells := fun p => [.int .i64 p.1, .int .u64 (p.2 : Nat)]
  val := fun p => .agg #[.int .i64 p.1, .int .u64 (p.2 : Nat)]
  key := fun p => .string (keyBytes [.int .i64 p.1, .int .u64 (p.2 : Nat)])
  ok := fun p => (0 ≤ p.1 ∧ p.1 < 1024) ∧ p.2 < 1024
theorem wfL_i64 (x : Int) (h0 : 0 ≤ x) (h1 : x < 1024) : (Lit.int .i64 x).wf = true := by simp [Lit.wf, IntKind.min, IntKind.max, IntKind.bits, IntKind.signed]; omega
theorem wfL_u64 (x : Nat) (h1 : x < 1024) : (Lit.int .u64 (x : Nat)).wf = true := by simp [Lit.wf, IntKind.min, IntKind.max, IntKind.bits, IntKind.signed]; omega
theorem look_key (p : Int × Nat) (h : lookM.ok p) : keyOf Try.prog lookM.K (lookM.val p) = some (lookM.key p) := key_look p.1 p.2 (wfL_i64 _ h.1.1 h.1.2) (wfL_u64 _ h.2)
theorem look_inj (x y : Int × Nat) (hx : lookM.ok x) (hy : lookM.ok y) (e : lookM.key x = lookM.key y) : x = y := by
  have h1 := look_key x hx
  have h2 := look_key y hy
  rw [e] at h1
  have h3 : lookM.val x = lookM.val y := law_look.inj h1 h2
  cases x; cases y
  simp [lookM] at h3
  exact Prod.ext h3.1 (by exact_mod_cast h3.2)
theorem info_look : (Try.prog.info? 96).map (fun i => (i.zero, i.size, i.bytes)) = some (some (.agg #[.int .i64 0, .int .u64 0]), 2, 16) := by kernel_rfl
theorem zero_intsL (w : World) : (zeroValue 26).run Try.prog w = .ok (.slice none 0 0) w := by kernel_rfl
theorem Box2.madeI {w w' : World} {u v : Value} {t : TypeId} (h : New (w.alloc (.cells #[u, v] t)).drew w') : Box2 w' w.heap.size u v :=
  Box2.new ⟨by unfold World.cell?; rw [heap_alloc_new]; rfl, by unfold World.cell?; rw [heap_alloc_new]; rfl, by unfold World.frozen?; rw [heap_alloc_new]; rfl, by unfold World.frozen?; rw [heap_alloc_new]; rfl⟩ ((New.refl _).drew.trans h)
theorem Box2.butI {S : Nat → Prop} {w w' : World} {b : Nat} {u v : Value} (h : Box2 w b u v) (hb : But S w w') (hS : ¬ S b) : Box2 w' b u v :=
  ⟨hb.cell h.1 hS, hb.cell h.2.1 hS, by rw [hb.frozen h.1 hS]; exact h.2.2.1, by rw [hb.frozen h.2.1 hS]; exact h.2.2.2⟩
theorem mem_setOfI {f n : Nat} (hf : f < 2 ^ n) (hn : n ≤ 10) (x : Int) (hx : x ∈ setOf f) : 0 ≤ x ∧ x < n := by
  rw [setOf_eq hf hn, mem_bitsTo] at hx
  omega
theorem start_bits : ∀ (n : Fin 11) (s : Fin 10), s.val < n.val → bits .andNot .u64 (IntKind.u64.wrap (IntKind.u64.wrap ((2 : Int) ^ n.val) - 1)) (IntKind.u64.wrap ((2 : Int) ^ s.val)) = ((2 ^ n.val - 1 - 2 ^ s.val : Nat) : Int) := by decide +kernel
set_option maxHeartbeats 800000 in
theorem IdentifyingWord1_any (b1 b2 : Nat) (r1 r2 : Value) (m : Mach) (s : Int) (w : World) (hm : machOk m = true)
    (h0 : w.cell? ⟨b1, 0, none⟩ = some (.int .i64 m.n)) (h1 : w.cell? ⟨b1, 1, none⟩ = some (.int .i64 m.o)) (h2 : w.cell? ⟨b1, 2, none⟩ = some r1) (h3 : w.cell? ⟨b1, 3, none⟩ = some r2) (hr1 : RowsAt w r1 m.nx) (hr2 : RowsAt w r2 m.out)
    (hs : w.cell? ⟨b2, 0, none⟩ = some (.int .i64 s)) :
    Calls Try.prog 58 #[.pointer (some ⟨b1, 0, none⟩), .pointer (some ⟨b2, 0, none⟩)] w fun e w' => e = .returned (.bool (inB s 0 (m.n - 1))) ∧ New w w' := by
  obtain ⟨n1, n2⟩ := mach_n hm
  have hM : MachAt w (.agg #[.int .i64 m.n, .int .i64 m.o, r1, r2]) m := ⟨_, _, rfl, hr1, hr2⟩
  clear hm
  have C := MisState_any _ m s _ hM (by omega) (by omega)
  go_enter Try.func58, Try.ntmps58
  go_wp2_with (go_at_call 59; refine C.mono ?_; rintro e w1 ⟨rfl, hn1⟩)
  go_ret
  exact ⟨rfl, hn1⟩
set_option maxRecDepth 20000 in
set_option maxHeartbeats 16000000 in
theorem implIdentifyingWord_any (v1 : Value) (m : Mach) (s : Int) (w : World) (h1 : MachAt w v1 m) :
    Calls Try.prog 20 #[v1, .int .i64 s] w fun e w' => ∃ r, e = .returned (.tuple #[r, .int .i64 (IdentifyingWord m s).2]) ∧ New w w' ∧ OwnInts w.heap.size w'.heap.size w' r (IdentifyingWord m s).1 := by
  obtain ⟨r1, r2, rfl, hr1, hr2⟩ := h1
  obtain ⟨A1, c1, rfl⟩ := hr1.form
  obtain ⟨A2, c2, rfl⟩ := hr2.form
  have h1 : MachAt w (.agg #[.int .i64 m.n, .int .i64 m.o, .slice A1 m.nx.length c1, .slice A2 m.out.length c2]) m := ⟨_, _, rfl, hr1, hr2⟩
  obtain ⟨wb, hwb⟩ : ∃ wb, wb = (w.alloc (.cells #[.int .i64 m.n, .int .i64 m.o, .slice A1 m.nx.length c1, .slice A2 m.out.length c2] 40)).alloc (.cells #[.int .i64 s] 2) := ⟨_, rfl⟩
  have hnb : New w wb := by rw [hwb]; exact (by repeat (first | with_reducible exact New.refl _ | with_reducible assumption | with_reducible refine New.alloc ?_ _ | with_reducible refine New.drew ?_ | with_reducible refine New.drewN ?_ _ | with_reducible refine New.setCell ?_ (by simp <;> omega) _))
  have z0 : wb.cell? ⟨w.heap.size, 0, none⟩ = some (.int .i64 m.n) := by rw [hwb]; go_simp
  have z1 : wb.cell? ⟨w.heap.size, 1, none⟩ = some (.int .i64 m.o) := by rw [hwb]; go_simp
  have z2 : wb.cell? ⟨w.heap.size, 2, none⟩ = some (.slice A1 m.nx.length c1) := by rw [hwb]; go_simp
  have z3 : wb.cell? ⟨w.heap.size, 3, none⟩ = some (.slice A2 m.out.length c2) := by rw [hwb]; go_simp
  have z4 : wb.cell? ⟨w.heap.size + 1, 0, none⟩ = some (.int .i64 s) := by rw [hwb]; go_simp
  have HC : Calls Try.prog 57 #[.agg #[.int .i64 m.n, .int .i64 m.o, .slice A1 m.nx.length c1, .slice A2 m.out.length c2], .func (.func 58) #[] #[.pointer (some ⟨w.heap.size, 0, none⟩), .pointer (some ⟨w.heap.size + 1, 0, none⟩)]] wb
      fun e w' => e = .returned (.int .i64 (codeOf (machOk m) (inB s 0 (m.n - 1)))) ∧ New wb w' := by
    refine Mcode_any _ m _ _ _ _ (h1.new hnb) (enters Try.func58 (by decide) (by simp [Try.f58])) fun hm w' hw => ?_
    exact IdentifyingWord1_any _ _ _ _ m s _ hm (hw.cell z0) (hw.cell z1) (hw.cell z2) (hw.cell z3) (hr1.new (hnb.trans hw)) (hr2.new (hnb.trans hw)) (hw.cell z4)
  obtain ⟨R, hR⟩ : ∃ R, R = IdentifyingWord m s := ⟨_, rfl⟩
  rw [← hR]
  unfold IdentifyingWord at hR
  have HR := hid hR
  clear hR
  cases ha : machOk m with
  | false =>
    rw [ha] at HC
    have e : codeOf false (inB s 0 (m.n - 1)) = 1 := rfl
    rw [e] at HC
    go_enter Try.func20, Try.ntmps20
    go_wp2_with fail
    rw [← hwb]
    refine HC.mono ?_
    rintro e w1 ⟨rfl, hn1⟩
    go_wp2
    go_ret2
    have e : R = ([], 1) := by rw [HR.out, ha]; rfl
    rw [e]
    exact ⟨_, rfl, hnb.trans hn1, OwnInts.nil _ _ _⟩
  | true =>
    rw [ha] at HC
    have HA := hid ha
    cases hs : inB s 0 (m.n - 1) with
    | false =>
      rw [hs] at HC
      have e : codeOf true false = 2 := rfl
      rw [e] at HC
      go_enter Try.func20, Try.ntmps20
      go_wp2_with fail
      rw [← hwb]
      refine HC.mono ?_
      rintro e w1 ⟨rfl, hn1⟩
      go_wp2
      go_ret2
      have e : R = ([], 2) := by rw [HR.out, HA.out, hs]; rfl
      rw [e]
      exact ⟨_, rfl, hnb.trans hn1, OwnInts.nil _ _ _⟩
    | true =>
      rw [hs] at HC
      have e : codeOf true true = 0 := rfl
      rw [e] at HC
      have hs' := hs
      rw [inB_iff] at hs'
      have HE := hid (show R = told (idWord m s) by rw [HR.out, if_pos HA.out, if_pos hs])
      have hmn := mach_n ha
      obtain ⟨n, hn⟩ : ∃ n : Nat, m.n = (n : Int) := ⟨m.n.toNat, by omega⟩
      obtain ⟨x, hx⟩ : ∃ x : Nat, s = (x : Int) := ⟨s.toNat, by omega⟩
      subst hx
      have hn10 : n ≤ 10 := by omega
      have hxn : x < n := by omega
      have HN := hid hn
      have hst := start_bits ⟨n, by omega⟩ ⟨x, by omega⟩ hxn
      simp only at hst
      obtain ⟨F0, hF0⟩ : ∃ F0, F0 = 2 ^ n - 1 - 2 ^ x := ⟨_, rfl⟩
      rw [← hF0] at hst
      rw [hn] at z0
      have HF0 := hid hF0
      have hb2 : (2 : Int) ^ n ≤ 1024 := by rw [cast_pow]; have := pow10' n hn10; omega
      clear hs hs' e hn ha hF0
      go_enter Try.func20, Try.ntmps20
      go_wp2_with fail
      rw [← hwb]
      clear hwb
      refine HC.mono ?_
      rintro e w1 ⟨rfl, hn1⟩
      clear HC
      replace z0 := hn1.cell z0
      replace z2 := hn1.cell z2
      replace z3 := hn1.cell z3
      replace z4 := hn1.cell z4
      have hN1 := hnb.trans hn1
      have lw := World.block_lt_of_cell? w1 _ z4
      dsimp only at lw
      clear z1 hn1 hnb h1
      go_wp2_with fail
      go_region_held3 (fun w' => w'.cell? ⟨w.heap.size, 0, none⟩ = some (.int .i64 n) ∧ w'.cell? ⟨w.heap.size + 1, 0, none⟩ = some (.int .i64 x)) (first | exact ⟨z0, z4⟩ | go_keep) (fail)
      go_wp2_with fail
      have wqdef : ∃ wq, wq = (w1.alloc (.cells #[.int .i64 x, .int .u64 F0] 96)).drew := ⟨_, rfl⟩
      obtain ⟨wq, hwq⟩ := wqdef
      have hnq : New w1 wq := by rw [hwq]; exact (by repeat (first | with_reducible exact New.refl _ | with_reducible assumption | with_reducible refine New.alloc ?_ _ | with_reducible refine New.drew ?_ | with_reducible refine New.drewN ?_ _ | with_reducible refine New.setCell ?_ (by simp <;> omega) _))
      have q0 : wq.cell? ⟨w1.heap.size, 0, none⟩ = some (.int .i64 x) := by rw [hwq]; go_simp
      have q1 : wq.cell? ⟨w1.heap.size, 1, none⟩ = some (.int .u64 F0) := by rw [hwq]; go_simp
      have lq := World.block_lt_of_cell? wq _ q0
      dsimp only at lq
      have lq1 : w1.heap.size < wq.heap.size + 1 := by omega
      have lq2 : w1.heap.size < wq.heap.size + 1 + 1 := by omega
      have hmm := @run_makeMap Try.prog
      have hst9 : lookM.ok ((x : Int), F0) := ⟨⟨by show (0 : Int) ≤ (x : Int); omega, by show (x : Int) < 1024; omega⟩, by
        show F0 < 1024
        rw [HF0.out]
        have h1 := pow10' n hn10
        have h2 := Nat.two_pow_pos n
        exact Nat.lt_of_le_of_lt (Nat.sub_le _ _) (by omega)⟩
      rw [← hwq]
      clear hwq hst hb2
      have BEG := fun (mb va : Nat) (wx : World) (hM : MapAt Try.prog 96 wx mb 0 (fun _ => none)) (hB : wq.heap.size ≤ mb) (hv : OwnInts wq.heap.size wx.heap.size wx (.slice (some ⟨va, 0, none⟩) 0 0) []) => BLoop.begin (M := lookM) (P := Try.prog) ((x : Int), F0) hM hB hv law_look (T := 98) (E := 26) Try.underlying98 look_inj hst9 (look_key _ hst9)
      have hM0 : MapAt Try.prog 96 ((((wq.alloc (.cells #[.int .i64 x, .int .u64 F0] 96)).alloc (.map #[] 0)).alloc (.cells #[] 2)).drew) (wq.heap.size + 1) 0 (fun _ => none) := by
        have h := MapAt.made Try.prog 96 (wq.alloc (.cells #[.int .i64 x, .int .u64 F0] 96))
        try simp only [sizes] at h
        exact h.new (by exact ((New.refl _).alloc _).drew)
      have hv0 : OwnInts wq.heap.size ((((wq.alloc (.cells #[.int .i64 x, .int .u64 F0] 96)).alloc (.map #[] 0)).alloc (.cells #[] 2)).drew).heap.size ((((wq.alloc (.cells #[.int .i64 x, .int .u64 F0] 96)).alloc (.map #[] 0)).alloc (.cells #[] 2)).drew) (.slice (some ⟨wq.heap.size + 1 + 1, 0, none⟩) 0 0) [] := OwnInts.none' _ (by omega) (by (try simp only [sizes]) <;> omega)
      obtain ⟨o0, run0, og0, or0, ok0⟩ := BEG _ _ _ hM0 (by omega) hv0
      have hM1 : MapAt Try.prog 96 ((((wq.alloc (.cells #[.int .i64 x, .int .u64 F0] 96)).alloc (.cells #[] 2)).alloc (.map #[] 0)).drew) (wq.heap.size + 1 + 1) 0 (fun _ => none) := by
        have h := MapAt.made Try.prog 96 ((wq.alloc (.cells #[.int .i64 x, .int .u64 F0] 96)).alloc (.cells #[] 2))
        try simp only [sizes] at h
        exact h.new (by exact (New.refl _).drew)
      have hv1 : OwnInts wq.heap.size ((((wq.alloc (.cells #[.int .i64 x, .int .u64 F0] 96)).alloc (.cells #[] 2)).alloc (.map #[] 0)).drew).heap.size ((((wq.alloc (.cells #[.int .i64 x, .int .u64 F0] 96)).alloc (.cells #[] 2)).alloc (.map #[] 0)).drew) (.slice (some ⟨wq.heap.size + 1, 0, none⟩) 0 0) [] := OwnInts.none' _ (by omega) (by (try simp only [sizes]) <;> omega)
      obtain ⟨o1, run1, og1, or1, ok1⟩ := BEG _ _ _ hM1 (by omega) hv1
      have hM2 : MapAt Try.prog 96 ((((wq.alloc (.map #[] 0)).alloc (.cells #[.int .i64 x, .int .u64 F0] 96)).alloc (.cells #[] 2)).drew) (wq.heap.size) 0 (fun _ => none) := by
        have h := MapAt.made Try.prog 96 wq
        try simp only [sizes] at h
        exact h.new (by exact (((New.refl _).alloc _).alloc _).drew)
      have hv2 : OwnInts wq.heap.size ((((wq.alloc (.map #[] 0)).alloc (.cells #[.int .i64 x, .int .u64 F0] 96)).alloc (.cells #[] 2)).drew).heap.size ((((wq.alloc (.map #[] 0)).alloc (.cells #[.int .i64 x, .int .u64 F0] 96)).alloc (.cells #[] 2)).drew) (.slice (some ⟨wq.heap.size + 1 + 1, 0, none⟩) 0 0) [] := OwnInts.none' _ (by omega) (by (try simp only [sizes]) <;> omega)
      obtain ⟨o2, run2, og2, or2, ok2⟩ := BEG _ _ _ hM2 (by omega) hv2
      have hM3 : MapAt Try.prog 96 ((((wq.alloc (.map #[] 0)).alloc (.cells #[] 2)).alloc (.cells #[.int .i64 x, .int .u64 F0] 96)).drew) (wq.heap.size) 0 (fun _ => none) := by
        have h := MapAt.made Try.prog 96 wq
        try simp only [sizes] at h
        exact h.new (by exact (((New.refl _).alloc _).alloc _).drew)
      have hv3 : OwnInts wq.heap.size ((((wq.alloc (.map #[] 0)).alloc (.cells #[] 2)).alloc (.cells #[.int .i64 x, .int .u64 F0] 96)).drew).heap.size ((((wq.alloc (.map #[] 0)).alloc (.cells #[] 2)).alloc (.cells #[.int .i64 x, .int .u64 F0] 96)).drew) (.slice (some ⟨wq.heap.size + 1, 0, none⟩) 0 0) [] := OwnInts.none' _ (by omega) (by (try simp only [sizes]) <;> omega)
      obtain ⟨o3, run3, og3, or3, ok3⟩ := BEG _ _ _ hM3 (by omega) hv3
      have hM4 : MapAt Try.prog 96 ((((wq.alloc (.cells #[] 2)).alloc (.cells #[.int .i64 x, .int .u64 F0] 96)).alloc (.map #[] 0)).drew) (wq.heap.size + 1 + 1) 0 (fun _ => none) := by
        have h := MapAt.made Try.prog 96 ((wq.alloc (.cells #[] 2)).alloc (.cells #[.int .i64 x, .int .u64 F0] 96))
        try simp only [sizes] at h
        exact h.new (by exact (New.refl _).drew)
      have hv4 : OwnInts wq.heap.size ((((wq.alloc (.cells #[] 2)).alloc (.cells #[.int .i64 x, .int .u64 F0] 96)).alloc (.map #[] 0)).drew).heap.size ((((wq.alloc (.cells #[] 2)).alloc (.cells #[.int .i64 x, .int .u64 F0] 96)).alloc (.map #[] 0)).drew) (.slice (some ⟨wq.heap.size, 0, none⟩) 0 0) [] := OwnInts.none' _ (by omega) (by (try simp only [sizes]) <;> omega)
      obtain ⟨o4, run4, og4, or4, ok4⟩ := BEG _ _ _ hM4 (by omega) hv4
      have hM5 : MapAt Try.prog 96 ((((wq.alloc (.cells #[] 2)).alloc (.map #[] 0)).alloc (.cells #[.int .i64 x, .int .u64 F0] 96)).drew) (wq.heap.size + 1) 0 (fun _ => none) := by
        have h := MapAt.made Try.prog 96 (wq.alloc (.cells #[] 2))
        try simp only [sizes] at h
        exact h.new (by exact ((New.refl _).alloc _).drew)
      have hv5 : OwnInts wq.heap.size ((((wq.alloc (.cells #[] 2)).alloc (.map #[] 0)).alloc (.cells #[.int .i64 x, .int .u64 F0] 96)).drew).heap.size ((((wq.alloc (.cells #[] 2)).alloc (.map #[] 0)).alloc (.cells #[.int .i64 x, .int .u64 F0] 96)).drew) (.slice (some ⟨wq.heap.size, 0, none⟩) 0 0) [] := OwnInts.none' _ (by omega) (by (try simp only [sizes]) <;> omega)
      obtain ⟨o5, run5, og5, or5, ok5⟩ := BEG _ _ _ hM5 (by omega) hv5
      have hM6 : MapAt Try.prog 96 (((wq.alloc (.map #[] 0)).alloc (.cells #[] 2)).drew) (wq.heap.size) 0 (fun _ => none) := by
        have h := MapAt.made Try.prog 96 wq
        try simp only [sizes] at h
        exact h.new (by exact ((New.refl _).alloc _).drew)
      have hv6 : OwnInts wq.heap.size (((wq.alloc (.map #[] 0)).alloc (.cells #[] 2)).drew).heap.size (((wq.alloc (.map #[] 0)).alloc (.cells #[] 2)).drew) (.slice (some ⟨wq.heap.size + 1, 0, none⟩) 0 0) [] := OwnInts.none' _ (by omega) (by (try simp only [sizes]) <;> omega)
      obtain ⟨o6, run6, og6, or6, ok6⟩ := BEG _ _ _ hM6 (by omega) hv6
      have hM7 : MapAt Try.prog 96 (((wq.alloc (.cells #[] 2)).alloc (.map #[] 0)).drew) (wq.heap.size + 1) 0 (fun _ => none) := by
        have h := MapAt.made Try.prog 96 (wq.alloc (.cells #[] 2))
        try simp only [sizes] at h
        exact h.new (by exact (New.refl _).drew)
      have hv7 : OwnInts wq.heap.size (((wq.alloc (.cells #[] 2)).alloc (.map #[] 0)).drew).heap.size (((wq.alloc (.cells #[] 2)).alloc (.map #[] 0)).drew) (.slice (some ⟨wq.heap.size, 0, none⟩) 0 0) [] := OwnInts.none' _ (by omega) (by (try simp only [sizes]) <;> omega)
      obtain ⟨o7, run7, og7, or7, ok7⟩ := BEG _ _ _ hM7 (by omega) hv7
      have ev : lookM.val ((x : Int), F0) = .agg #[.int .i64 x, .int .u64 F0] := rfl
      rw [ev] at run0 run1 run2 run3 run4 run5 run6 run7
      have nw0 : New wq o0 := New.grown (a := wq) (w := (((wq.alloc (.cells #[.int .i64 x, .int .u64 F0] 96)).alloc (.map #[] 0)).alloc (.cells #[] 2)).drew) (by exact ((((New.refl _).alloc _).alloc _).alloc _).drew) og0 (fun k hk => by cases hk; omega)
      have fin0 : New wq o0 ∧ BLoop lookM Try.prog wq.heap.size o0 (.slice (some ⟨wq.heap.size, 0, none⟩) 1 1) (wq.heap.size + 1) (bStart ((x : Int), F0)) := ⟨nw0, ok0 o0 _ (New.refl _) (or0 (by
        have h := ownsRow_startZ (B := wq.heap.size) (e := 96) (w := wq) (zs := [.int .i64 x, .int .u64 F0]) (by (try simp only [sizes]) <;> omega) (by simp)
        try simp only [sizes] at h
        exact ownsRow_new h (by exact (((New.refl _).alloc _).alloc _).drew))) (Or.inl (by simp [Value.ownBlock] <;> omega))⟩
      have nw1 : New wq o1 := New.grown (a := wq) (w := (((wq.alloc (.cells #[.int .i64 x, .int .u64 F0] 96)).alloc (.cells #[] 2)).alloc (.map #[] 0)).drew) (by exact ((((New.refl _).alloc _).alloc _).alloc _).drew) og1 (fun k hk => by cases hk; omega)
      have fin1 : New wq o1 ∧ BLoop lookM Try.prog wq.heap.size o1 (.slice (some ⟨wq.heap.size, 0, none⟩) 1 1) (wq.heap.size + 1 + 1) (bStart ((x : Int), F0)) := ⟨nw1, ok1 o1 _ (New.refl _) (or1 (by
        have h := ownsRow_startZ (B := wq.heap.size) (e := 96) (w := wq) (zs := [.int .i64 x, .int .u64 F0]) (by (try simp only [sizes]) <;> omega) (by simp)
        try simp only [sizes] at h
        exact ownsRow_new h (by exact (((New.refl _).alloc _).alloc _).drew))) (Or.inl (by simp [Value.ownBlock] <;> omega))⟩
      have nw2 : New wq o2 := New.grown (a := wq) (w := (((wq.alloc (.map #[] 0)).alloc (.cells #[.int .i64 x, .int .u64 F0] 96)).alloc (.cells #[] 2)).drew) (by exact ((((New.refl _).alloc _).alloc _).alloc _).drew) og2 (fun k hk => by cases hk; omega)
      have fin2 : New wq o2 ∧ BLoop lookM Try.prog wq.heap.size o2 (.slice (some ⟨wq.heap.size + 1, 0, none⟩) 1 1) (wq.heap.size) (bStart ((x : Int), F0)) := ⟨nw2, ok2 o2 _ (New.refl _) (or2 (by
        have h := ownsRow_startZ (B := wq.heap.size) (e := 96) (w := (wq.alloc (.map #[] 0))) (zs := [.int .i64 x, .int .u64 F0]) (by (try simp only [sizes]) <;> omega) (by simp)
        try simp only [sizes] at h
        exact ownsRow_new h (by exact ((New.refl _).alloc _).drew))) (Or.inl (by simp [Value.ownBlock] <;> omega))⟩
      have nw3 : New wq o3 := New.grown (a := wq) (w := (((wq.alloc (.map #[] 0)).alloc (.cells #[] 2)).alloc (.cells #[.int .i64 x, .int .u64 F0] 96)).drew) (by exact ((((New.refl _).alloc _).alloc _).alloc _).drew) og3 (fun k hk => by cases hk; omega)
      have fin3 : New wq o3 ∧ BLoop lookM Try.prog wq.heap.size o3 (.slice (some ⟨wq.heap.size + 1 + 1, 0, none⟩) 1 1) (wq.heap.size) (bStart ((x : Int), F0)) := ⟨nw3, ok3 o3 _ (New.refl _) (or3 (by
        have h := ownsRow_startZ (B := wq.heap.size) (e := 96) (w := ((wq.alloc (.map #[] 0)).alloc (.cells #[] 2))) (zs := [.int .i64 x, .int .u64 F0]) (by (try simp only [sizes]) <;> omega) (by simp)
        try simp only [sizes] at h
        exact ownsRow_new h (by exact (New.refl _).drew))) (Or.inl (by simp [Value.ownBlock] <;> omega))⟩
      have nw4 : New wq o4 := New.grown (a := wq) (w := (((wq.alloc (.cells #[] 2)).alloc (.cells #[.int .i64 x, .int .u64 F0] 96)).alloc (.map #[] 0)).drew) (by exact ((((New.refl _).alloc _).alloc _).alloc _).drew) og4 (fun k hk => by cases hk; omega)
      have fin4 : New wq o4 ∧ BLoop lookM Try.prog wq.heap.size o4 (.slice (some ⟨wq.heap.size + 1, 0, none⟩) 1 1) (wq.heap.size + 1 + 1) (bStart ((x : Int), F0)) := ⟨nw4, ok4 o4 _ (New.refl _) (or4 (by
        have h := ownsRow_startZ (B := wq.heap.size) (e := 96) (w := (wq.alloc (.cells #[] 2))) (zs := [.int .i64 x, .int .u64 F0]) (by (try simp only [sizes]) <;> omega) (by simp)
        try simp only [sizes] at h
        exact ownsRow_new h (by exact ((New.refl _).alloc _).drew))) (Or.inl (by simp [Value.ownBlock] <;> omega))⟩
      have nw5 : New wq o5 := New.grown (a := wq) (w := (((wq.alloc (.cells #[] 2)).alloc (.map #[] 0)).alloc (.cells #[.int .i64 x, .int .u64 F0] 96)).drew) (by exact ((((New.refl _).alloc _).alloc _).alloc _).drew) og5 (fun k hk => by cases hk; omega)
      have fin5 : New wq o5 ∧ BLoop lookM Try.prog wq.heap.size o5 (.slice (some ⟨wq.heap.size + 1 + 1, 0, none⟩) 1 1) (wq.heap.size + 1) (bStart ((x : Int), F0)) := ⟨nw5, ok5 o5 _ (New.refl _) (or5 (by
        have h := ownsRow_startZ (B := wq.heap.size) (e := 96) (w := ((wq.alloc (.cells #[] 2)).alloc (.map #[] 0))) (zs := [.int .i64 x, .int .u64 F0]) (by (try simp only [sizes]) <;> omega) (by simp)
        try simp only [sizes] at h
        exact ownsRow_new h (by exact (New.refl _).drew))) (Or.inl (by simp [Value.ownBlock] <;> omega))⟩
      have oq6 := og6.cell (New.cell (w := wq) (by with_reducible exact (((New.refl _).alloc _).alloc _).drew) q0) (by simp <;> omega)
      have or6' := og6.cell (New.cell (w := wq) (by with_reducible exact (((New.refl _).alloc _).alloc _).drew) q1) (by simp <;> omega)
      have nw6 : New wq o6 := New.grown (a := wq) (w := ((wq.alloc (.map #[] 0)).alloc (.cells #[] 2)).drew) (by exact (((New.refl _).alloc _).alloc _).drew) og6 (fun k hk => by cases hk; omega)
      have fin6 : New wq (o6.alloc (.cells #[.int .i64 x, .int .u64 F0] 96)) ∧ BLoop lookM Try.prog wq.heap.size (o6.alloc (.cells #[.int .i64 x, .int .u64 F0] 96)) (.slice (some ⟨o6.heap.size, 0, none⟩) 1 1) (wq.heap.size) (bStart ((x : Int), F0)) := ⟨nw6.alloc _, ok6 _ _ ((New.refl _).alloc _) (ownsRow_startZ (zs := [.int .i64 x, .int .u64 F0]) nw6.size (by simp)) (Or.inl (by have := og6.size; simp only [sizes] at this; simp [Value.ownBlock] <;> omega))⟩
      have oq7 := og7.cell (New.cell (w := wq) (by with_reducible exact (((New.refl _).alloc _).alloc _).drew) q0) (by simp <;> omega)
      have or7' := og7.cell (New.cell (w := wq) (by with_reducible exact (((New.refl _).alloc _).alloc _).drew) q1) (by simp <;> omega)
      have nw7 : New wq o7 := New.grown (a := wq) (w := ((wq.alloc (.cells #[] 2)).alloc (.map #[] 0)).drew) (by exact (((New.refl _).alloc _).alloc _).drew) og7 (fun k hk => by cases hk; omega)
      have fin7 : New wq (o7.alloc (.cells #[.int .i64 x, .int .u64 F0] 96)) ∧ BLoop lookM Try.prog wq.heap.size (o7.alloc (.cells #[.int .i64 x, .int .u64 F0] 96)) (.slice (some ⟨o7.heap.size, 0, none⟩) 1 1) (wq.heap.size + 1) (bStart ((x : Int), F0)) := ⟨nw7.alloc _, ok7 _ _ ((New.refl _).alloc _) (ownsRow_startZ (zs := [.int .i64 x, .int .u64 F0]) nw7.size (by simp)) (Or.inl (by have := og7.size; simp only [sizes] at this; simp [Value.ownBlock] <;> omega))⟩
      clear BEG ev ok0 ok1 ok2 ok3 ok4 ok5 ok6 ok7 or0 or1 or2 or3 or4 or5 or6 or7 og0 og1 og2 og3 og4 og5 og6 og7 hM0 hM1 hM2 hM3 hM4 hM5 hM6 hM7 hv0 hv1 hv2 hv3 hv4 hv5 hv6 hv7 nw0 nw1 nw2 nw3 nw4 nw5 nw6 nw7
      go_cut [8, 9] from 18 (fun lv mv wr => ∃ mb, mv = .map (some mb) ∧ New wq wr ∧ BLoop lookM Try.prog wq.heap.size wr lv mb (bStart ((x : Int), F0)))
      case first =>
        go_region_law (fail)
        all_goals go_wp2_with fail
        all_goals go_meet
        all_goals first | exact ⟨_, rfl, fin0⟩ | exact ⟨_, rfl, fin1⟩ | exact ⟨_, rfl, fin2⟩ | exact ⟨_, rfl, fin3⟩ | exact ⟨_, rfl, fin4⟩ | exact ⟨_, rfl, fin5⟩ | exact ⟨_, rfl, fin6⟩ | exact ⟨_, rfl, fin7⟩
      case rest =>
        obtain ⟨mb, rfl, hn0, hT0⟩ := hcut
        clear run0 run1 run2 run3 run4 run5 run6 run7 fin0 fin1 fin2 fin3 fin4 fin5 fin6 fin7 oq6 oq7 or6' or7' o0 o1 o2 o3 o4 o5 o6 o7 hmm
        have hmbB := hT0.low.1
        have hml := mach_l HA.out
        have hsx : (0 : Int) ≤ (x : Int) ∧ (x : Int) < m.n := ⟨by omega, by rw [HN.out]; omega⟩
        obtain ⟨_, _, e1, _, hc1⟩ := hr1
        cases e1
        obtain ⟨_, _, e1, _, hc2⟩ := hr2
        cases e1
        have HC1 := hid hc1
        have HC2 := hid hc2
        have HST0 := hid (show idT m x 0 = bStart ((x : Int), F0) by
          unfold idT
          rw [bTo_zero, idSt, HN.out, HF0.out]
          simp)
        rw [← HST0.out] at hT0
        have HB := hid (fun (t' : Bfs (Int × Nat)) (h : BOk (idP m) m.nx.length t') => id_bound HA.out h)
        have HT := hid (fun k => id_bok HA.out (x : Int) hsx k)
        have HRW := hid (fun l (h : l < m.nx.length) => mach_row HA.out l h)
        have HO := hid (mach_out HA.out)
        have HEND := hid (fun k h1 h2 h3 => id_end HA.out (x : Int) hsx k h1 h2 h3)
        have HSTOP := hid (fun k h1 h2 => id_stop HA.out (x : Int) hsx k h1 h2)
        have HROW := hid (fun (t' : Bfs (Int × Nat)) (h : BOk (idP m) m.nx.length t') k (hk : k < t'.list.length) l (hl' : l ≤ m.nx.length) => h.row (g := idG m) (fun l x y hl'' hx hg => idG_ok HA.out l x y hl'' hx hg) k hk l hl')
        have HPOK := hid (fun (y : Int × Nat) (h : idP m y) => show lookM.ok y from ⟨⟨h.1.1, by have := h.1.2; rw [HN.out] at this; show y.1 < 1024; omega⟩, by have h2 := h.2; rw [HN.out] at h2; exact Nat.lt_of_lt_of_le h2 (pow10' _ (by simpa using hn10))⟩)
        have y2' := hnq.cell z2
        have y3' := hnq.cell z3
        have hNq := hN1.trans hnq
        have lwq : w.heap.size < wq.heap.size := World.block_lt_of_cell? wq _ y2'
        clear hc1 hc2 hst9 z0 z2 z3 z4 q0 q1 lq lq1 lq2 lw hnq hN1
        go_wp2_with fail
        go_loopw [8, 10] (fun lv i wr => ∃ k : Nat, i = .int .i64 k ∧ k ≤ (idT m x k).list.length ∧ New wq wr ∧ BLoop lookM Try.prog wq.heap.size wr lv mb (idT m x k) ∧ Hid (∀ i, i < k → idEnd (nth (idT m x k).list i) = false)) (fun _ i _ => 10242 - (intOf i).toNat)
        case atStart => exact ⟨0, rfl, Nat.zero_le _, hn0, hT0, hid (fun i hi => absurd hi (by omega))⟩
        case round =>
          obtain ⟨k, rfl, hk, hn, hT, hno⟩ := hrel
          clear hT0 hn0
          obtain ⟨wo, rfl⟩ : ∃ wo : World, wo = wr := ⟨_, rfl⟩
          have hbok := HT.out k
          have hlen := HB.out _ hbok
          have HLW := hid hbok.lw
          obtain ⟨Al, cl, rfl⟩ := hT.form
          by_cases hlt : k < (idT m x k).list.length
          · have b1 : (k : Int) < ((idT m x k).list.length : Int) := by omega
            obtain ⟨P, hP⟩ : ∃ P, P = nth (idT m x k).list k := ⟨_, rfl⟩
            obtain ⟨bl, cl', e1, hcell⟩ := hT.cell (fun _ => rfl) k hlt (by decide)
            injection e1 with e1 e1' e1''
            subst e1
            clear e1' e1''
            rw [← hP] at hcell
            have hc0 : wo.cell? ⟨bl, k * 2 + 0, none⟩ = some (.int .i64 P.1) := hcell 0 _ rfl
            have hc1 : wo.cell? ⟨bl, k * 2 + 1, none⟩ = some (.int .u64 (P.2 : Nat)) := hcell 1 _ rfl
            rw [Nat.add_zero] at hc0
            have hPok := hbok.ok P (by rw [hP]; exact nth_mem _ _ hlt)
            have HPO := hid hPok
            obtain ⟨⟨s0, s1⟩, t1⟩ := hPok
            have HPD := hid hP
            have hwl := hbok.wl k hlt
            clear hP hcell
            have y2 := hn.cell y2'
            have lw1 : w.heap.size < wo.heap.size := by have := hn.size; omega
            by_cases hz : P.2 = 0
            · have hbz : (((P.2 : Nat) : Int) == 0) = true := by rw [hz]; rfl
              have HRES := hid (HEND.out k hlt (by rw [← HPD.out]; unfold idEnd; rw [hz]; rfl) hno.out)
              obtain ⟨Aw, cw, how, hlook⟩ := hT.word law_look (T := 98) (E := 26) Try.underlying98 zero_intsL k hlt (by rw [← HPD.out]; exact look_key _ (HPOK.out _ HPO.out))
              rw [← HPD.out] at hlook
              have hlook' : (Instr.lookup 98 (.map (some mb)) (.agg #[.int .i64 P.1, .int .u64 (P.2 : Nat)]) false).run Try.prog (wo.alloc (.cells #[.int .i64 P.1, .int .u64 (P.2 : Nat)] 96)) = .ok (.slice Aw (nth (idT m x k).words k).length cw) (wo.alloc (.cells #[.int .i64 P.1, .int .u64 (P.2 : Nat)] 96)) := hlook _ (by repeat (first | with_reducible exact New.refl _ | with_reducible assumption | with_reducible refine New.alloc ?_ _ | with_reducible refine New.drew ?_ | with_reducible refine New.drewN ?_ _ | with_reducible refine New.setCell ?_ (by simp <;> omega) _))
              have HOW := hid how
              clear hlook how hz
              go_wp2_with fail
              go_ret2
              have hnp : New wo (wo.alloc (.cells #[.int .i64 P.1, .int .u64 (P.2 : Nat)] 96)) := (by repeat (first | with_reducible exact New.refl _ | with_reducible assumption | with_reducible refine New.alloc ?_ _ | with_reducible refine New.drew ?_ | with_reducible refine New.drewN ?_ _ | with_reducible refine New.setCell ?_ (by simp <;> omega) _))
              rw [HE.out, HRES.out]
              exact ⟨_, rfl, (hNq.trans hn).trans hnp, (HOW.out.new hnp).widen hNq.size hnp.size⟩
            · have hbz : (((P.2 : Nat) : Int) == 0) = false := by simp; omega
              have HNO := hid (show idEnd (nth (idT m x k).list k) = false by rw [← HPD.out]; unfold idEnd; simpa using hz)
              clear hz
              go_wp2_with fail
              have hnp : New wo (wo.alloc (.cells #[.int .i64 P.1, .int .u64 (P.2 : Nat)] 96)) := (by repeat (first | with_reducible exact New.refl _ | with_reducible assumption | with_reducible refine New.alloc ?_ _ | with_reducible refine New.drew ?_ | with_reducible refine New.drewN ?_ _ | with_reducible refine New.setCell ?_ (by simp <;> omega) _))
              have q0 : (wo.alloc (.cells #[.int .i64 P.1, .int .u64 (P.2 : Nat)] 96)).cell? ⟨wo.heap.size, 0, none⟩ = some (.int .i64 P.1) := by go_simp
              have q1 : (wo.alloc (.cells #[.int .i64 P.1, .int .u64 (P.2 : Nat)] 96)).cell? ⟨wo.heap.size, 1, none⟩ = some (.int .u64 (P.2 : Nat)) := by go_simp
              have hTp := hT.new hnp
              have hNp := hn.trans hnp
              obtain ⟨pb, hpb⟩ : ∃ pb, pb = wo.heap.size := ⟨_, rfl⟩
              have hpl : pb < (wo.alloc (.cells #[.int .i64 P.1, .int .u64 (P.2 : Nat)] 96)).heap.size := by rw [hpb, size_alloc]; exact Nat.lt_succ_self _
              have hlpb : ∀ q, (Value.slice (some ⟨bl, 0, none⟩) (idT m x k).list.length cl).ownBlock = some q → q ≠ pb := fun q hq => by have := (World.ownsRow.lt hT.list q hq).2; omega
              rw [← hpb] at q0 q1 ⊢
              clear hT hn hc0 hc1 y2 lw1 hnp hpb
              generalize wo.alloc (.cells #[.int .i64 P.1, .int .u64 (P.2 : Nat)] 96) = wp at q0 q1 hTp hNp hpl ⊢
              go_loopw [8, 58] (fun lv x' wr => ∃ l : Nat, x' = .int .i64 l ∧ l ≤ m.nx.length ∧ New wq wr ∧ wr.cell? ⟨pb, 0, none⟩ = some (.int .i64 P.1) ∧ wr.cell? ⟨pb, 1, none⟩ = some (.int .u64 (P.2 : Nat)) ∧ (∀ q, lv.ownBlock = some q → q ≠ pb) ∧ BLoop lookM Try.prog wq.heap.size wr lv mb (bRow (idG m) k (idT m x k) l)) (fun _ x' _ => m.nx.length - (intOf x').toNat)
              case atStart => exact ⟨0, rfl, Nat.zero_le _, hNp, q0, q1, hlpb, hTp⟩
              case round =>
                obtain ⟨l, rfl, hll, hNi, p0, p1, hlq, hTl⟩ := hrel
                clear hTp hlpb q0 q1
                obtain ⟨wi, rfl⟩ : ∃ wi : World, wi = wr := ⟨_, rfl⟩
                by_cases hltl : l < m.nx.length
                · have b2 : (l : Int) < (m.nx.length : Int) := by omega
                  have hbok2 := HROW.out _ hbok k hlt l hll
                  have hlen2 := HB.out _ hbok2
                  have HPRE := hid (bRow_pre' (g := idG m) k (idT m x k) l)
                  have hk2 : k < (bRow (idG m) k (idT m x k) l).list.length := by have := HPRE.out.1; omega
                  have HSUCC := hid (bRow_succ (idG m) k (idT m x k) l)
                  have hnthk : nth (bRow (idG m) k (idT m x k) l).list k = P := by rw [(HPRE.out.2 k hlt).1, HPD.out]
                  have HLW2 := hid hbok2.lw
                  have HOK2 := hid hbok2.ok
                  have hwl2 := hbok2.wl k hk2
                  obtain ⟨T', hT'⟩ : ∃ T', T' = bRow (idG m) k (idT m x k) l := ⟨_, rfl⟩
                  rw [← hT'] at hTl hlen2 hk2 HSUCC hnthk HLW2 HOK2 hwl2
                  clear hT' hbok2
                  have HNTH := hid hnthk
                  obtain ⟨Aw, cw, how, hlook⟩ := hTl.word law_look (T := 98) (E := 26) Try.underlying98 zero_intsL k hk2 (by rw [hnthk]; exact look_key _ (HPOK.out _ HPO.out))
                  rw [hnthk] at hlook
                  have HLOOK := hid (show ∀ w', New wi w' → (Instr.lookup 98 (.map (some mb)) (.agg #[.int .i64 P.1, .int .u64 (P.2 : Nat)]) false).run Try.prog w' = .ok (.slice Aw (nth T'.words k).length cw) w' from hlook)
                  clear hlook hnthk
                  obtain ⟨B1, cc1, rfl⟩ := hTl.form
                  have HOW := hid how
                  clear how
                  have hr1 := HRW.out l hltl
                  have hq1 := HO.out.2 l (by rw [HO.out.1]; exact hltl)
                  have ho1l := HO.out.1
                  have HNl : ((nth m.nx l).length : Int) = n := by rw [hr1.1, HN.out]
                  have HOl : ((nth m.out l).length : Int) = n := by rw [hq1.1, HN.out]
                  have s1' : P.1 < (n : Int) := by have := HN.out; omega
                  obtain ⟨b4, o4, rv4, rfl, hx4, hr4⟩ := HC1.out l hltl
                  obtain ⟨A5, c5, rfl, _, hc5⟩ := hr4
                  obtain ⟨b5, o5, rfl, hx5⟩ := hc5 P.1.toNat (by omega)
                  obtain ⟨b6, o6, rv6, rfl, hx6, hr6⟩ := HC2.out l (by omega)
                  obtain ⟨A7, c7, rfl, _, hc7⟩ := hr6
                  obtain ⟨b7, o7, rfl, hx7⟩ := hc7 P.1.toNat (by omega)
                  have HX5 := hid (show ∀ i, i < n → w.cell? ⟨b5, o5 + i, none⟩ = some (.int .i64 (nth (nth m.nx l) i)) from fun i hi => by
                    obtain ⟨_, _, e, h⟩ := hc5 i (by omega)
                    cases e; exact h)
                  have HX7 := hid (show ∀ i, i < n → w.cell? ⟨b7, o7 + i, none⟩ = some (.int .i64 (nth (nth m.out l) i)) from fun i hi => by
                    obtain ⟨_, _, e, h⟩ := hc7 i (by omega)
                    cases e; exact h)
                  have g1 : P.1 < ((nth m.nx l).length : Int) := by omega
                  have g3 : P.1 < ((nth m.out l).length : Int) := by omega
                  have g5 : (l : Int) < (m.out.length : Int) := by omega
                  clear hc5 hc7
                  have HBN := hid (fun i (hi : i < n) => hr1.2 i (by omega))
                  clear hr1 hq1 ho1l
                  obtain ⟨va, hva⟩ : ∃ z, z = nth (nth m.out l) P.1.toNat := ⟨_, rfl⟩
                  obtain ⟨na, hna⟩ : ∃ z, z = nth (nth m.nx l) P.1.toNat := ⟨_, rfl⟩
                  rw [← hva] at hx7
                  rw [← hna] at hx5
                  have HNA := hid (show 0 ≤ na ∧ na < (n : Int) by have := HBN.out P.1.toNat (by omega); rw [← hna] at this; rw [← HN.out]; exact this)
                  have HVA := hid hva
                  have HNAE := hid hna
                  clear hva hna
                  have hnW := hNq.trans hNi
                  have y2 := hNi.cell y2'
                  have y3 := hNi.cell y3'
                  have u4 := hnW.cell hx4
                  have u5 := hnW.cell hx5
                  have u6 := hnW.cell hx6
                  have u7 := hnW.cell hx7
                  have na0 := HNA.out.1
                  go_wp2_with fail
                  go_region_held3 (fun w' => w'.cell? ⟨w.heap.size, 2, none⟩ = some (.slice (some ⟨b4, o4, none⟩) m.nx.length c1) ∧ w'.cell? ⟨pb, 0, none⟩ = some (.int .i64 P.1) ∧ w'.cell? ⟨b4, o4 + l, none⟩ = some (.slice (some ⟨b5, o5, none⟩) (nth m.nx l).length c5) ∧ w'.cell? ⟨b5, o5 + P.1.toNat, none⟩ = some (.int .i64 na)) (first | exact ⟨y2, p0, u4, u5⟩ | go_keep) (fail)
                  have hcc : New wi (wi.alloc (.cells #[.int .i64 na, .int .u64 0] 96)).drew := (by repeat (first | with_reducible exact New.refl _ | with_reducible assumption | with_reducible refine New.alloc ?_ _ | with_reducible refine New.drew ?_ | with_reducible refine New.drewN ?_ _ | with_reducible refine New.setCell ?_ (by simp <;> omega) _))
                  have hbx : Box2 (wi.alloc (.cells #[.int .i64 na, .int .u64 0] 96)).drew wi.heap.size (.int .i64 na) (.int .u64 0) := Box2.madeI (New.refl _)
                  obtain ⟨qb, hqb⟩ : ∃ qb, qb = wi.heap.size := ⟨_, rfl⟩
                  rw [← hqb] at hbx ⊢
                  have HQB := hid hqb
                  have hpqb : pb < qb := by rw [hqb]; exact World.block_lt_of_cell? wi _ p0
                  have hwqb : w.heap.size < qb := by rw [hqb]; exact World.block_lt_of_cell? wi _ y2
                  clear hqb
                  generalize (wi.alloc (.cells #[.int .i64 na, .int .u64 0] 96)).drew = wd at hcc hbx ⊢
                  replace p0 := hcc.cell p0
                  replace p1 := hcc.cell p1
                  replace y2 := hcc.cell y2
                  replace y3 := hcc.cell y3
                  replace u4 := hcc.cell u4
                  replace u5 := hcc.cell u5
                  replace u6 := hcc.cell u6
                  replace u7 := hcc.cell u7
                  have hP10 : P.2 < 1024 := (HPOK.out _ HPO.out).2
                  have CS := set_any P.2 wd hP10
                  have HXS := hid (fun z hz => mem_setOfI (n := n) (by have h := HPO.out.2; rw [HN.out] at h; simpa using h) hn10 z hz)
                  have HOTH := hid (show othL (nth m.nx l) (nth m.out l) va (setOf P.2) = oth m l P by
                    have h := HPO.out.2
                    unfold oth
                    rw [HN.out] at h ⊢
                    rw [Int.toNat_natCast] at h ⊢
                    rw [setOf_eq h hn10, othB_list, HVA.out])
                  have hXl : (setOf P.2).length ≤ 10 := bitsTo_len _ _
                  obtain ⟨XS, hXS⟩ : ∃ z, z = setOf P.2 := ⟨_, rfl⟩
                  rw [← hXS] at CS HXS HOTH hXl
                  clear hXS
                  go_wp2_with (go_at_call 60; refine CS.mono ?_; rintro e we ⟨r2, rfl, hne, hoe⟩; obtain ⟨A2', c2', rfl⟩ := hoe.form)
                  have hbe := hbx.new hne
                  have hze := hne.size
                  have hzd := hbx.lt
                  have hXA : Solid (fun q => q = qb) we (fun w' => IntsAt w' (.slice A2' XS.length c2') XS) := hoe.at.solid (fun q hq hs => by have h1 := (hoe.block q hq).1; omega)
                  have hnie := hcc.trans hne
                  replace p0 := hne.cell p0
                  replace p1 := hne.cell p1
                  replace y2 := hne.cell y2
                  replace y3 := hne.cell y3
                  replace u4 := hne.cell u4
                  replace u5 := hne.cell u5
                  replace u6 := hne.cell u6
                  replace u7 := hne.cell u7
                  have hnWe := hnW.trans hnie
                  have HLTQ := hid (show ∀ b off v, w.cell? ⟨b, off, none⟩ = some v → b < qb from fun b off v h => by
                    have h1 := World.block_lt_of_cell? w _ h
                    dsimp only at h1
                    omega)
                  clear hbx hoe CS
                  go_loopw [75] (fun jv wr => ∃ j : Nat, jv = .int .i64 j ∧ j ≤ XS.length ∧ But (fun q => q = qb) we wr ∧ Box2 wr qb (.int .i64 na) (.int .u64 (othL (nth m.nx l) (nth m.out l) va (XS.take j) : Nat))) (fun jv _ => XS.length - (intOf jv).toNat)
                  case atStart => exact ⟨0, rfl, Nat.zero_le _, But.refl, hbe⟩
                  case round =>
                    obtain ⟨j, rfl, hj, hbt, hbj⟩ := hrel
                    clear hbe
                    obtain ⟨wj, rfl⟩ : ∃ wj : World, wj = wr := ⟨_, rfl⟩
                    have hne4 := HLTQ.out _ _ _ hx4
                    have hne5 := HLTQ.out _ _ _ hx5
                    have hne6 := HLTQ.out _ _ _ hx6
                    have hne7 := HLTQ.out _ _ _ hx7
                    by_cases hltj : j < XS.length
                    · have b3 : (j : Int) < (XS.length : Int) := by omega
                      obtain ⟨_, _, e9, _, hc9⟩ := hXA _ hbt
                      cases e9
                      obtain ⟨b9, o9, rfl, hx9⟩ := hc9 j hltj
                      have hXj := HXS.out (nth XS j) (nth_mem XS j hltj)
                      have htk := othL_take (nth m.nx l) (nth m.out l) va XS j hltj
                      have hac : othL (nth m.nx l) (nth m.out l) va (XS.take j) < 1024 := othL_lt _ _ _ 10 _ (fun y hy => by
                        have h1 := HXS.out y (List.mem_of_mem_take hy)
                        have h2 := HBN.out y.toNat (by omega)
                        rw [HN.out] at h2
                        omega)
                      obtain ⟨X, hX⟩ : ∃ X, X = nth XS j := ⟨_, rfl⟩
                      rw [← hX] at hx9 hXj htk
                      clear hX hc9
                      obtain ⟨X0, X1⟩ := hXj
                      have v7 := HX7.out X.toNat (by omega)
                      have v5 := HX5.out X.toNat (by omega)
                      have hv5 := HLTQ.out _ _ _ v5
                      have hv7 := HLTQ.out _ _ _ v7
                      have t7 := hbt.cell (hnWe.cell v7) (Nat.ne_of_lt hv7)
                      have t5 := hbt.cell (hnWe.cell v5) (Nat.ne_of_lt hv5)
                      have r3 := hbt.cell y3 (Nat.ne_of_lt hwqb)
                      have r2 := hbt.cell y2 (Nat.ne_of_lt hwqb)
                      have r4 := hbt.cell u4 (Nat.ne_of_lt hne4)
                      have r6 := hbt.cell u6 (Nat.ne_of_lt hne6)
                      have r7 := hbt.cell u7 (Nat.ne_of_lt hne7)
                      have r0 := hbt.cell p0 (Nat.ne_of_lt hpqb)
                      have hb5 := HBN.out X.toNat (by omega)
                      rw [HN.out] at hb5
                      obtain ⟨vx, hvx⟩ : ∃ z, z = nth (nth m.out l) X.toNat := ⟨_, rfl⟩
                      obtain ⟨zx, hzx⟩ : ∃ z, z = nth (nth m.nx l) X.toNat := ⟨_, rfl⟩
                      obtain ⟨ac, hacd⟩ : ∃ z, z = othL (nth m.nx l) (nth m.out l) va (XS.take j) := ⟨_, rfl⟩
                      rw [← hvx] at t7 htk
                      rw [← hzx] at t5 htk hb5
                      rw [← hacd] at hbj hac htk
                      have HTK := hid htk
                      have gX : X < ((nth m.out l).length : Int) := by omega
                      have gX5 : X < ((nth m.nx l).length : Int) := by omega
                      obtain ⟨zx0, zx1⟩ := hb5
                      clear hvx hzx hacd htk v5 v7 hv5 hv7
                      by_cases hveq : vx = va
                      · have hq : (vx == va) = true := by simp [hveq]
                        have HTK2 := hid (show othL (nth m.nx l) (nth m.out l) va (XS.take (j + 1)) = ac ||| 2 ^ zx.toNat by rw [HTK.out, if_pos hveq])
                        have hor := or_u64 ac zx.toNat hac (by omega)
                        obtain ⟨x0, x1, xf0, xf1⟩ := id hbj
                        clear hveq
                        go_wp2_with fail
                        go_quiet (fail)
                        have hnd : New wj (wj.drewN nq) := (New.refl _).drewN nq
                        have hbt2 : But (fun q => q = qb) we (wj.drewN nq) := hbt.trans (But.of_new (S := fun _ => False) hnd) (fun q hq => hq.elim)
                        have hbj2 := hbj.new hnd
                        replace t5 := hnd.cell t5
                        replace r2 := hnd.cell r2
                        replace r4 := hnd.cell r4
                        replace r0 := hnd.cell r0
                        clear r3 r6 r7 t7 x0 x1 xf0 xf1 hbj hbt hnd
                        generalize wj.drewN nq = wk at hbt2 hbj2 t5 r2 r4 r0 ⊢
                        obtain ⟨x0, x1, xf0, xf1⟩ := id hbj2
                        go_wp2_with fail
                        go_region_law (fail)
                        all_goals go_wp2_with fail
                        all_goals go_roundw
                        all_goals first
                          | (simp [intOf]; omega)
                          | exact ⟨j + 1, by go_num, by omega, (hbt2.trans (But.setCell (S := fun q => q = qb) ⟨qb, 1, none⟩ (.int .u64 ((ac ||| 2 ^ zx.toNat : Nat) : Int)) rfl) (fun q hq => Or.inl hq)).trans (But.of_new (S := fun _ => False) (by repeat (first | with_reducible exact New.refl _ | with_reducible assumption | with_reducible refine New.alloc ?_ _ | with_reducible refine New.drew ?_ | with_reducible refine New.drewN ?_ _ | with_reducible refine New.setCell ?_ (by simp <;> omega) _))) (fun q hq => hq.elim), by rw [HTK2.out]; exact (hbj2.set1 _).new (by repeat (first | with_reducible exact New.refl _ | with_reducible assumption | with_reducible refine New.alloc ?_ _ | with_reducible refine New.drew ?_ | with_reducible refine New.drewN ?_ _ | with_reducible refine New.setCell ?_ (by simp <;> omega) _))⟩
                      · have hq : (vx == va) = false := by simp [hveq]
                        have HTK2 := hid (show othL (nth m.nx l) (nth m.out l) va (XS.take (j + 1)) = ac by rw [HTK.out, if_neg hveq])
                        clear hveq
                        go_wp2_with fail
                        go_quiet (fail)
                        go_wp2_with fail
                        go_roundw
                        case rel => exact ⟨j + 1, by go_num, by omega, hbt.trans (But.of_new (S := fun _ => False) ((New.refl _).drewN _)) (fun q hq => hq.elim), by rw [HTK2.out]; exact hbj.new ((New.refl _).drewN _)⟩
                        case measure => simp [intOf]; omega
                    · have b3 : ¬ (j : Int) < (XS.length : Int) := by omega
                      have hje : j = XS.length := by omega
                      rw [hje, List.take_length, HOTH.out] at hbj
                      have hniw : New wi wj := But.new hnie hbt (fun q hq => by have := HQB.out; omega)
                      have hbit9 := fun (h8 : oth m l P < 1024) => show bits .and .u64 ((oth m l P : Nat) / 2 ^ (min na.toNat 64)) 1 = if (oth m l P).testBit na.toNat = true then 1 else 0 by rw [show min na.toNat 64 = na.toNat by have := HNA.out; omega]; exact bit_u64 (oth m l P) na.toNat h8
                      have hF10 : oth m l P < 1024 := by
                        have h1 := oth_lt HA.out l hltl P
                        rw [HN.out] at h1
                        exact Nat.lt_of_lt_of_le h1 (pow10' _ (by simpa using hn10))
                      replace hbit9 := hbit9 hF10
                      have hGd : idG m l P = if (oth m l P).testBit na.toNat = true then none else some (na, oth m l P) := by rw [HNAE.out]; rfl
                      have HOKN := hid (show lookM.ok (na, oth m l P) from ⟨⟨by show 0 ≤ na; omega, by show na < 1024; have := HNA.out.2; omega⟩, hF10⟩)
                      obtain ⟨F, hF⟩ : ∃ F, F = oth m l P := ⟨_, rfl⟩
                      rw [← hF] at hbj hbit9 hF10 hGd HOKN
                      clear hF hje hj
                      have hTj := hTl.new hniw
                      have r0 := hbt.cell p0 (Nat.ne_of_lt hpqb)
                      have r1 := hbt.cell p1 (Nat.ne_of_lt hpqb)
                      obtain ⟨x0, x1, xf0, xf1⟩ := id hbj
                      have hNj := hNi.trans hniw
                      have hlj := hbj.lt
                      clear hne4 hne5 hne6 hne7 y2 y3 u4 u5 u6 u7 p0 p1 hbt hnWe hXA hnie hcc hne hze hzd hXl hnW
                      obtain ⟨v9, hlk⟩ := hTj.look law_look (T := 98) (E := 26) Try.underlying98 zero_intsL (na, F) HOKN.out (look_key _ HOKN.out)
                      by_cases hm9 : (na, F) ∈ T'.list
                      · have hlk' : (Instr.lookup 98 (.map (some mb)) (.agg #[.int .i64 na, .int .u64 (F : Nat)]) true).run Try.prog wj = .ok (.tuple #[v9, .bool true]) wj := hlk.1 hm9
                        have HS := hid (show bRow (idG m) k (idT m x k) (l + 1) = T' by
                          rw [HSUCC.out]
                          cases hbt : F.testBit na.toNat with
                          | true => exact bStep_none _ _ _ _ (by rw [HNTH.out, hGd, if_pos hbt])
                          | false => exact bStep_has _ _ _ _ (na, F) (by rw [HNTH.out, hGd, if_neg (by rw [hbt]; simp)]) hm9)
                        clear hm9 hlk hGd hbit9
                        go_wp2_with fail
                        go_roundw
                        case rel => exact ⟨l + 1, by go_num, by omega, hNj, r0, r1, hlq, by rw [HS.out]; exact hTj⟩
                        case measure => simp [intOf]; omega
                      · have hlk' : (Instr.lookup 98 (.map (some mb)) (.agg #[.int .i64 na, .int .u64 (F : Nat)]) true).run Try.prog wj = .ok (.tuple #[v9, .bool false]) wj := hlk.2 hm9
                        clear hlk
                        cases hbt : F.testBit na.toNat with
                        | true =>
                          have HS := hid (show bRow (idG m) k (idT m x k) (l + 1) = T' by
                            rw [HSUCC.out]
                            exact bStep_none _ _ _ _ (by rw [HNTH.out, hGd, if_pos hbt]))
                          rw [hbt, if_pos rfl] at hbit9
                          clear hm9 hGd hbt
                          go_wp2_with fail
                          go_roundw
                          case rel => exact ⟨l + 1, by go_num, by omega, hNj, r0, r1, hlq, by rw [HS.out]; exact hTj⟩
                          case measure => simp [intOf]; omega
                        | false =>
                          have HS := hid (show bRow (idG m) k (idT m x k) (l + 1) = ⟨T'.list ++ [(na, F)], T'.words ++ [nth T'.words k ++ [(l : Int)]]⟩ by
                            rw [HSUCC.out, bStep_new _ _ _ _ (na, F) (by rw [HNTH.out, hGd, if_neg (by rw [hbt]; simp)]) hm9])
                          rw [hbt, if_neg (by simp)] at hbit9
                          have HM := hid hm9
                          have HPNE := hid (show P ≠ (na, F) from fun e => hm9 (by rw [← e, ← HNTH.out]; exact nth_mem _ _ hk2))
                          clear hm9 hGd hbt
                          go_wp2_with fail
                          have hmb9 := hTj.low
                          have hpbmb : pb ≠ mb := hTj.cell_ne r0
                          have hqbmb : qb ≠ mb := hTj.cell_ne x0
                          have HOWJ := hid (HOW.out.new hniw)
                          have HLJ := hid (fun w' (h : New wj w') => HLOOK.out w' (hniw.trans h))
                          have hlkj := HLJ.out wj (New.refl _)
                          go_region_held3 (fun w' => w'.cell? ⟨qb, 0, none⟩ = some (.int .i64 na) ∧ w'.cell? ⟨qb, 1, none⟩ = some (.int .u64 (F : Nat)) ∧ w'.cell? ⟨pb, 0, none⟩ = some (.int .i64 P.1) ∧ w'.cell? ⟨pb, 1, none⟩ = some (.int .u64 (P.2 : Nat)) ∧ (Instr.lookup 98 (.map (some mb)) (.agg #[.int .i64 P.1, .int .u64 (P.2 : Nat)]) false).run Try.prog w' = .ok (.slice Aw (nth T'.words k).length cw) w')
            (refine ⟨?_, ?_, ?_, ?_, ?_⟩ <;> first | exact k0 | exact k1 | exact k2 | exact k3 | exact k4 | exact hn10.cell x0 | exact hn10.cell x1 | exact hn10.cell r0 | exact hn10.cell r1 | exact New.cell (w := wj) (by repeat (first | with_reducible exact New.refl _ | with_reducible assumption | with_reducible refine New.alloc ?_ _ | with_reducible refine New.drewN ?_ _ | with_reducible refine New.drew ?_ | with_reducible refine New.trans ?_ (by with_reducible assumption))) x0 | exact New.cell (w := wj) (by repeat (first | with_reducible exact New.refl _ | with_reducible assumption | with_reducible refine New.alloc ?_ _ | with_reducible refine New.drewN ?_ _ | with_reducible refine New.drew ?_ | with_reducible refine New.trans ?_ (by with_reducible assumption))) x1 | exact New.cell (w := wj) (by repeat (first | with_reducible exact New.refl _ | with_reducible assumption | with_reducible refine New.alloc ?_ _ | with_reducible refine New.drewN ?_ _ | with_reducible refine New.drew ?_ | with_reducible refine New.trans ?_ (by with_reducible assumption))) r0 | exact New.cell (w := wj) (by repeat (first | with_reducible exact New.refl _ | with_reducible assumption | with_reducible refine New.alloc ?_ _ | with_reducible refine New.drewN ?_ _ | with_reducible refine New.drew ?_ | with_reducible refine New.trans ?_ (by with_reducible assumption))) r1 | (refine HLJ.out _ ?_; (repeat (first | with_reducible exact New.refl _ | with_reducible assumption | with_reducible refine New.alloc ?_ _ | with_reducible refine New.drewN ?_ _ | with_reducible refine New.drew ?_ | with_reducible refine New.trans ?_ (by with_reducible assumption))); done) | go_keep)
            (first
              | (go_at_call 61; refine (Clone64_any _ _ _ (HOWJ.out.at.new (by repeat (first | with_reducible exact New.refl _ | with_reducible assumption | with_reducible refine New.alloc ?_ _ | with_reducible refine New.drewN ?_ _ | with_reducible refine New.drew ?_ | with_reducible refine New.trans ?_ (by with_reducible assumption)))) (by omega)).mono ?_; rintro e w9 ⟨r, he, hq9, ho9⟩; obtain ⟨Ar, cr, rfl⟩ := ho9.form; subst he; have hn9 : New wj w9 := (by repeat (first | with_reducible exact New.refl _ | with_reducible assumption | with_reducible refine New.alloc ?_ _ | with_reducible refine New.drewN ?_ _ | with_reducible refine New.drew ?_ | with_reducible refine New.trans ?_ (by with_reducible assumption))); have hz9 := hq9.size; (try simp only [size_alloc, size_drew] at hz9))
              | (refine step_app1 rfl _ _ _ rfl Try.underlying26 info_i64 _ _ (l : Int) _ rfl (ho9.new (by repeat (first | with_reducible exact New.refl _ | with_reducible assumption | with_reducible refine New.alloc ?_ _ | with_reducible refine New.drewN ?_ _ | with_reducible refine New.drew ?_ | with_reducible refine New.trans ?_ (by with_reducible assumption)))) rfl (by first | (refine hq9.cell ?_; go_simp; done) | (go_simp; done)) (by omega) (by (try simp only [sizes]) <;> omega) ?_; intro g cap w10 ho10 hg10; have hn10 : New wj w10 := New.app (a := wj) (by repeat (first | with_reducible exact New.refl _ | with_reducible assumption | with_reducible refine New.alloc ?_ _ | with_reducible refine New.drewN ?_ _ | with_reducible refine New.drew ?_ | with_reducible refine New.trans ?_ (by with_reducible assumption))) hg10 (ho9.new (by repeat (first | with_reducible exact New.refl _ | with_reducible assumption | with_reducible refine New.alloc ?_ _ | with_reducible refine New.drewN ?_ _ | with_reducible refine New.drew ?_ | with_reducible refine New.trans ?_ (by with_reducible assumption)))) (by (try simp only [sizes]) <;> omega); obtain ⟨w11, hrun, hg11, hP, hlks⟩ := BLoop.put2 hTj hn10 ((ho10.own (by simp; omega)).widen (by (try simp only [sizes]) <;> omega) (Nat.le_refl _)) hNj.size law_look (T := 98) (E := 26) Try.underlying98 zero_intsL look_inj (fun y hy => HPOK.out _ (HOK2.out y hy)) (na, F) HOKN.out (look_key _ HOKN.out) HM.out (by omega); have k0 := hg11.cell (hn10.cell x0) (by simpa using hqbmb); have k1 := hg11.cell (hn10.cell x1) (by simpa using hqbmb); have k2 := hg11.cell (hn10.cell r0) (by simpa using hpbmb); have k3 := hg11.cell (hn10.cell r1) (by simpa using hpbmb); have k4 := hlks _ _ (HPOK.out _ HPO.out) HPNE.out (look_key _ (HPOK.out _ HPO.out)) (HLJ.out _ hn10); have hrun' : (Instr.mapUpdate 98 (.map (some mb)) (.agg #[.int .i64 na, .int .u64 (F : Nat)]) (.slice (some ⟨g, 0, none⟩) ((nth T'.words k).length + 1) cap)).run Try.prog w10 = .ok () w11 := hrun))
                          all_goals (
                            have hlst := hP.list
                            have hs10 := hn10.size
                            have hs11 := hg11.size
                            have hN11 : New wq w11 := New.grown (hNj.trans hn10) hg11 (fun q hq => by cases hq; exact hmbB)
                            have hTn1 : T'.list.length < 1099511627776 := by omega
                            clear hrun hrun' hlks k4
                            go_wp2_with (at_builtin; refine wpList_appC (zs := [.int .i64 na, .int .u64 (F : Nat)]) rfl _ _ _ rfl (B := wq.heap.size) Try.underlying97 info_look rfl (by decide) (by decide) rfl (by intro u hu; simp at hu; rcases hu with rfl | rfl <;> rfl) (.slice B1 T'.list.length cc1) T'.list.length _ rfl hlst rfl hTn1 hN11.size ?_; intro g4 cap4 w4 ho4 hg4 hloc4)
                            go_roundw
                            case rel =>
                              have hlt4 := World.ownsRow.lt hlst
                              have hN4 : New wq w4 := New.grown hN11 hg4 (fun q hq => (hlt4 q hq).1)
                              have f0 := hg4.cell k2 (fun e => by have := hlq pb e.symm; exact this rfl)
                              have f1 := hg4.cell k3 (fun e => by have := hlq pb e.symm; exact this rfl)
                              have hpb3 : pb < w11.heap.size := World.block_lt_of_cell? w11 _ k2
                              refine ⟨l + 1, by go_num, by omega, hN4, f0, f1, fun q hq => ?_, ?_⟩
                              · simp [Value.ownBlock] at hq
                                subst hq
                                rcases hloc4 with h | h
                                · exact hlq _ h
                                · omega
                              · rw [HS.out]
                                exact hP.app HLW2.out HM.out ho4 hg4 (hloc4.imp id Nat.le_of_lt)
                            case measure => simp [intOf]; omega)
                · have e : l = m.nx.length := by omega
                  subst e
                  have HE2 := hid (show idT m x (k + 1) = bRow (idG m) k (idT m x k) m.nx.length by unfold idT at hlt ⊢; rw [bTo_succ, if_pos hlt])
                  have HPRE := hid (bRow_pre' (g := idG m) k (idT m x k) m.nx.length)
                  go_wp2_with fail
                  go_roundw
                  case rel => exact ⟨k + 1, by go_num, by rw [HE2.out]; have := HPRE.out.1; omega, hNi, by rw [HE2.out]; exact hTl, hid (fun i hi => by
                      rw [HE2.out]
                      rcases Nat.lt_succ_iff_lt_or_eq.1 hi with h | h
                      · rw [(HPRE.out.2 i (by omega)).1]; exact hno.out i h
                      · subst h; rw [(HPRE.out.2 i hlt).1]; exact HNO.out)⟩
                  case measure => simp [intOf]; omega
          · have e : k = (idT m x k).list.length := by omega
            have HRES := hid (HSTOP.out k e.symm hno.out)
            have b1 : ¬ (k : Int) < ((idT m x k).list.length : Int) := by omega
            clear e
            go_wp2_with fail
            go_ret2
            rw [HE.out, HRES.out]
            exact ⟨_, rfl, hNq.trans hn, OwnInts.nil _ _ _⟩

end Go.Proofs.Ytnhjoiafadapaaa
