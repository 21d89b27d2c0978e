/- The program's first words for which two states have different outputs. -/
import Derived.Test.YtcjmcpfdpnakkaaRows
import Derived.Test.YtcjmcpfdpnakkaaBase
import Derived.Test.YtcjmcpfdpnakkaaAut
import Derived.Test.YtcjmcpfdpnakkaaMach
import Derived.Test.YtcjmcpfdpnakkaaApp
import Derived.Test.YtcjmcpfdpnakkaaAppRows
import Derived.Test.YtcjmcpfdpnakkaaAppStep
import Derived.Test.YtcjmcpfdpnakkaaInfo
import Derived.Test.YtcjmcpfdpnakkaaPlain1
import Derived.Test.YtcjmcpfdpnakkaaPlainRun
import Derived.Test.YtcjmcpfdpnakkaaPMach
import Derived.Test.YtcjmcpfdpnakkaaPlainSet
import Derived.Test.YtcjmcpfdpnakkaaPlainBits
import Derived.Test.YtcjmcpfdpnakkaaPlainTour
import Derived.Test.YtcjmcpfdpnakkaaPlainFirst
import Derived.Test.YtcjmcpfdpnakkaaPlainBfs
import Derived.Test.YtcjmcpfdpnakkaaPlainApart
import Derived.Test.YtcjmcpfdpnakkaaMapV
import Derived.Test.YtcjmcpfdpnakkaaTourV
import Derived.Test.YtcjmcpfdpnakkaaGrow2
import Derived.Test.YtcjmcpfdpnakkaaBfsV
import Derived.Test.YtcjmcpfdpnakkaaKeyPair
import Derived.Test.YtcjmcpfdpnakkaaI01a
import Derived.Test.YtcjmcpfdpnakkaaI01b
import Derived.Test.YtcjmcpfdpnakkaaIClone
import Derived.WalkKit
import Derived.WalkSpells
import Derived.WalkLawsBesides
import Derived.Deep.QuietTactic
import Derived.Deep.OwnRows
import Derived.BigQuiet
import Derived.KernelRfl
import Derived.Carry
import Derived.Deep.RegionHeld3
import Derived.Deep.RegionLaw
import Derived.Deep.Cut
namespace Go.Proofs.Ytcjmcpfdpnakkaa
open Go.RowKit

def pairM : BMem (Int × Int) where
  K := 183
  e := 183
  z := 2
  cells := fun p => [.int .i64 p.1, .int .i64 p.2]
  val := fun p => .agg #[.int .i64 p.1, .int .i64 p.2]
  key := fun p => .string (keyBytes [.int .i64 p.1, .int .i64 p.2])
  ok := fun p => (0 ≤ p.1 ∧ p.1 < 1024) ∧ 0 ≤ p.2 ∧ p.2 < 1024
theorem wf_i64 (x : Int) (h0 : 0 ≤ x) (h1 : x < 1024) : (Lit.int .i64 x).wf = true := by simp [Lit.wf, IntKind.min, IntKind.max, IntKind.bits, IntKind.signed]; omega
theorem pair_key (p : Int × Int) (h : pairM.ok p) : keyOf Try.prog pairM.K (pairM.val p) = some (pairM.key p) := key_pair p.1 p.2 (wf_i64 _ h.1.1 h.1.2) (wf_i64 _ h.2.1 h.2.2)
theorem pair_inj (x y : Int × Int) (hx : pairM.ok x) (hy : pairM.ok y) (e : pairM.key x = pairM.key y) : x = y := by
  have h1 := pair_key x hx
  have h2 := pair_key y hy
  rw [e] at h1
  have h3 : pairM.val x = pairM.val y := law_pair.inj h1 h2
  cases x; cases y
  simpa [pairM] using h3
theorem info_pair : (Try.prog.info? 183).map (fun i => (i.zero, i.size, i.bytes)) = some (some (.agg #[.int .i64 0, .int .i64 0]), 2, 16) := by kernel_rfl
theorem zero_intsA (w : World) : (zeroValue 26).run Try.prog w = .ok (.slice none 0 0) w := by kernel_rfl
set_option maxRecDepth 20000 in
set_option maxHeartbeats 4000000 in
theorem apart_any (v1 v2 : Value) (m1 m2 : Mach) (s t : Int) (w : World) (h1 : MachAt w v1 m1) (h2 : MachAt w v2 m2) (mo1 : machOk m1 = true) (mo2 : machOk m2 = true) (hl : m1.nx.length = m2.nx.length) (hp : apP m1 m2 (s, t)) :
    Calls Try.prog 70 #[v1, v2, .int .i64 s, .int .i64 t] w fun e w' => ∃ r, e = .returned (.tuple #[r, .bool (apartOf m1 m2 s t).2]) ∧ New w w' ∧ OwnInts w.heap.size w'.heap.size w' r (apartOf m1 m2 s t).1 := by
  obtain ⟨r1, r2, rfl, hr1, hr2⟩ := h1
  obtain ⟨r3, r4, rfl, hr3, hr4⟩ := h2
  obtain ⟨A1, c1, rfl, _, hc1⟩ := hr1
  obtain ⟨A2, c2, rfl, _, hc2⟩ := hr2
  obtain ⟨A3, c3, rfl, _, hc3⟩ := hr3
  obtain ⟨A4, c4, rfl, _, hc4⟩ := hr4
  obtain ⟨wb, hwb⟩ : ∃ wb, wb = (w.alloc (.cells #[.int .i64 m1.n, .int .i64 m1.o, .slice A1 m1.nx.length c1, .slice A2 m1.out.length c2] 29)).alloc (.cells #[.int .i64 m2.n, .int .i64 m2.o, .slice A3 m2.nx.length c3, .slice A4 m2.out.length c4] 29) := ⟨_, rfl⟩
  have hnb : New w wb := by rw [hwb]; exact (by repeat (first | with_reducible exact New.refl _ | with_reducible assumption | with_reducible refine New.alloc ?_ _ | with_reducible refine New.drew ?_ | with_reducible refine New.drewN ?_ _ | with_reducible refine New.setCell ?_ (by simp <;> omega) _))
  have hzb : wb.heap.size = w.heap.size + 1 + 1 := by rw [hwb]; simp only [size_alloc]
  have a2 : wb.cell? ⟨w.heap.size, 2, none⟩ = some (.slice A1 m1.nx.length c1) := by rw [hwb]; go_simp
  have a3 : wb.cell? ⟨w.heap.size, 3, none⟩ = some (.slice A2 m1.out.length c2) := by rw [hwb]; go_simp
  have d2 : wb.cell? ⟨w.heap.size + 1, 2, none⟩ = some (.slice A3 m2.nx.length c3) := by rw [hwb]; go_simp
  have d3 : wb.cell? ⟨w.heap.size + 1, 3, none⟩ = some (.slice A4 m2.out.length c4) := by rw [hwb]; go_simp
  have n1 := mach_n mo1
  have n2 := mach_n mo2
  have hmm := @run_makeMap Try.prog
  have hst : pairM.ok (s, t) := by
    obtain ⟨⟨x0, x1⟩, y0, y1⟩ := hp
    exact ⟨⟨x0, by show s < 1024; have : s < m1.n := x1; omega⟩, y0, by show t < 1024; have : t < m2.n := y1; omega⟩
  have BEG := fun (mb va : Nat) (wx : World) (hM : MapAt Try.prog 183 wx mb 0 (fun _ => none)) (hB : wb.heap.size ≤ mb) (hv : OwnInts wb.heap.size wx.heap.size wx (.slice (some ⟨va, 0, none⟩) 0 0) []) => BLoop.begin (M := pairM) (P := Try.prog) (s, t) hM hB hv law_pair (T := 185) (E := 26) Try.underlying185 pair_inj hst (pair_key _ hst)
  have HLL := hid hl
  clear hl
  go_enter Try.func70, Try.ntmps70
  go_wp2_with fail
  rw [← hwb]
  clear hwb
  have lz1 : w.heap.size < wb.heap.size := by omega
  have lz2 : w.heap.size + 1 < wb.heap.size := by omega
  have HZB := hid hzb
  clear hzb
  have hM0 : MapAt Try.prog 183 ((((wb.alloc (.cells #[.int .i64 s, .int .i64 t] 183)).alloc (.map #[] 0)).alloc (.cells #[] 2)).drew) (wb.heap.size + 1) 0 (fun _ => none) := by
    have h := MapAt.made Try.prog 183 (wb.alloc (.cells #[.int .i64 s, .int .i64 t] 183))
    try simp only [sizes] at h
    exact h.new (by exact ((New.refl _).alloc _).drew)
  have hv0 : OwnInts wb.heap.size ((((wb.alloc (.cells #[.int .i64 s, .int .i64 t] 183)).alloc (.map #[] 0)).alloc (.cells #[] 2)).drew).heap.size ((((wb.alloc (.cells #[.int .i64 s, .int .i64 t] 183)).alloc (.map #[] 0)).alloc (.cells #[] 2)).drew) (.slice (some ⟨wb.heap.size + 1 + 1, 0, none⟩) 0 0) [] := OwnInts.none' _ (by omega) (by (try simp only [sizes]) <;> omega)
  obtain ⟨o0, run0, og0, or0, ok0⟩ := BEG _ _ _ hM0 (by omega) hv0
  have hM1 : MapAt Try.prog 183 ((((wb.alloc (.cells #[.int .i64 s, .int .i64 t] 183)).alloc (.cells #[] 2)).alloc (.map #[] 0)).drew) (wb.heap.size + 1 + 1) 0 (fun _ => none) := by
    have h := MapAt.made Try.prog 183 ((wb.alloc (.cells #[.int .i64 s, .int .i64 t] 183)).alloc (.cells #[] 2))
    try simp only [sizes] at h
    exact h.new (by exact (New.refl _).drew)
  have hv1 : OwnInts wb.heap.size ((((wb.alloc (.cells #[.int .i64 s, .int .i64 t] 183)).alloc (.cells #[] 2)).alloc (.map #[] 0)).drew).heap.size ((((wb.alloc (.cells #[.int .i64 s, .int .i64 t] 183)).alloc (.cells #[] 2)).alloc (.map #[] 0)).drew) (.slice (some ⟨wb.heap.size + 1, 0, none⟩) 0 0) [] := OwnInts.none' _ (by omega) (by (try simp only [sizes]) <;> omega)
  obtain ⟨o1, run1, og1, or1, ok1⟩ := BEG _ _ _ hM1 (by omega) hv1
  have hM2 : MapAt Try.prog 183 ((((wb.alloc (.map #[] 0)).alloc (.cells #[.int .i64 s, .int .i64 t] 183)).alloc (.cells #[] 2)).drew) (wb.heap.size) 0 (fun _ => none) := by
    have h := MapAt.made Try.prog 183 wb
    try simp only [sizes] at h
    exact h.new (by exact (((New.refl _).alloc _).alloc _).drew)
  have hv2 : OwnInts wb.heap.size ((((wb.alloc (.map #[] 0)).alloc (.cells #[.int .i64 s, .int .i64 t] 183)).alloc (.cells #[] 2)).drew).heap.size ((((wb.alloc (.map #[] 0)).alloc (.cells #[.int .i64 s, .int .i64 t] 183)).alloc (.cells #[] 2)).drew) (.slice (some ⟨wb.heap.size + 1 + 1, 0, none⟩) 0 0) [] := OwnInts.none' _ (by omega) (by (try simp only [sizes]) <;> omega)
  obtain ⟨o2, run2, og2, or2, ok2⟩ := BEG _ _ _ hM2 (by omega) hv2
  have hM3 : MapAt Try.prog 183 ((((wb.alloc (.map #[] 0)).alloc (.cells #[] 2)).alloc (.cells #[.int .i64 s, .int .i64 t] 183)).drew) (wb.heap.size) 0 (fun _ => none) := by
    have h := MapAt.made Try.prog 183 wb
    try simp only [sizes] at h
    exact h.new (by exact (((New.refl _).alloc _).alloc _).drew)
  have hv3 : OwnInts wb.heap.size ((((wb.alloc (.map #[] 0)).alloc (.cells #[] 2)).alloc (.cells #[.int .i64 s, .int .i64 t] 183)).drew).heap.size ((((wb.alloc (.map #[] 0)).alloc (.cells #[] 2)).alloc (.cells #[.int .i64 s, .int .i64 t] 183)).drew) (.slice (some ⟨wb.heap.size + 1, 0, none⟩) 0 0) [] := OwnInts.none' _ (by omega) (by (try simp only [sizes]) <;> omega)
  obtain ⟨o3, run3, og3, or3, ok3⟩ := BEG _ _ _ hM3 (by omega) hv3
  have hM4 : MapAt Try.prog 183 ((((wb.alloc (.cells #[] 2)).alloc (.cells #[.int .i64 s, .int .i64 t] 183)).alloc (.map #[] 0)).drew) (wb.heap.size + 1 + 1) 0 (fun _ => none) := by
    have h := MapAt.made Try.prog 183 ((wb.alloc (.cells #[] 2)).alloc (.cells #[.int .i64 s, .int .i64 t] 183))
    try simp only [sizes] at h
    exact h.new (by exact (New.refl _).drew)
  have hv4 : OwnInts wb.heap.size ((((wb.alloc (.cells #[] 2)).alloc (.cells #[.int .i64 s, .int .i64 t] 183)).alloc (.map #[] 0)).drew).heap.size ((((wb.alloc (.cells #[] 2)).alloc (.cells #[.int .i64 s, .int .i64 t] 183)).alloc (.map #[] 0)).drew) (.slice (some ⟨wb.heap.size, 0, none⟩) 0 0) [] := OwnInts.none' _ (by omega) (by (try simp only [sizes]) <;> omega)
  obtain ⟨o4, run4, og4, or4, ok4⟩ := BEG _ _ _ hM4 (by omega) hv4
  have hM5 : MapAt Try.prog 183 ((((wb.alloc (.cells #[] 2)).alloc (.map #[] 0)).alloc (.cells #[.int .i64 s, .int .i64 t] 183)).drew) (wb.heap.size + 1) 0 (fun _ => none) := by
    have h := MapAt.made Try.prog 183 (wb.alloc (.cells #[] 2))
    try simp only [sizes] at h
    exact h.new (by exact ((New.refl _).alloc _).drew)
  have hv5 : OwnInts wb.heap.size ((((wb.alloc (.cells #[] 2)).alloc (.map #[] 0)).alloc (.cells #[.int .i64 s, .int .i64 t] 183)).drew).heap.size ((((wb.alloc (.cells #[] 2)).alloc (.map #[] 0)).alloc (.cells #[.int .i64 s, .int .i64 t] 183)).drew) (.slice (some ⟨wb.heap.size, 0, none⟩) 0 0) [] := OwnInts.none' _ (by omega) (by (try simp only [sizes]) <;> omega)
  obtain ⟨o5, run5, og5, or5, ok5⟩ := BEG _ _ _ hM5 (by omega) hv5
  have hM6 : MapAt Try.prog 183 (((wb.alloc (.map #[] 0)).alloc (.cells #[] 2)).drew) (wb.heap.size) 0 (fun _ => none) := by
    have h := MapAt.made Try.prog 183 wb
    try simp only [sizes] at h
    exact h.new (by exact ((New.refl _).alloc _).drew)
  have hv6 : OwnInts wb.heap.size (((wb.alloc (.map #[] 0)).alloc (.cells #[] 2)).drew).heap.size (((wb.alloc (.map #[] 0)).alloc (.cells #[] 2)).drew) (.slice (some ⟨wb.heap.size + 1, 0, none⟩) 0 0) [] := OwnInts.none' _ (by omega) (by (try simp only [sizes]) <;> omega)
  obtain ⟨o6, run6, og6, or6, ok6⟩ := BEG _ _ _ hM6 (by omega) hv6
  have hM7 : MapAt Try.prog 183 (((wb.alloc (.cells #[] 2)).alloc (.map #[] 0)).drew) (wb.heap.size + 1) 0 (fun _ => none) := by
    have h := MapAt.made Try.prog 183 (wb.alloc (.cells #[] 2))
    try simp only [sizes] at h
    exact h.new (by exact (New.refl _).drew)
  have hv7 : OwnInts wb.heap.size (((wb.alloc (.cells #[] 2)).alloc (.map #[] 0)).drew).heap.size (((wb.alloc (.cells #[] 2)).alloc (.map #[] 0)).drew) (.slice (some ⟨wb.heap.size, 0, none⟩) 0 0) [] := OwnInts.none' _ (by omega) (by (try simp only [sizes]) <;> omega)
  obtain ⟨o7, run7, og7, or7, ok7⟩ := BEG _ _ _ hM7 (by omega) hv7
  have ev : pairM.val (s, t) = .agg #[.int .i64 s, .int .i64 t] := rfl
  rw [ev] at run0 run1 run2 run3 run4 run5 run6 run7
  have nw0 : New wb o0 := New.grown (a := wb) (w := (((wb.alloc (.cells #[.int .i64 s, .int .i64 t] 183)).alloc (.map #[] 0)).alloc (.cells #[] 2)).drew) (by exact ((((New.refl _).alloc _).alloc _).alloc _).drew) og0 (fun k hk => by cases hk; omega)
  have fin0 : New wb o0 ∧ BLoop pairM Try.prog wb.heap.size o0 (.slice (some ⟨wb.heap.size, 0, none⟩) 1 1) (wb.heap.size + 1) (apT m1 m2 s t 0) := ⟨nw0, ok0 o0 _ (New.refl _) (or0 (by
    have h := ownsRow_startZ (B := wb.heap.size) (e := 183) (w := wb) (zs := [.int .i64 s, .int .i64 t]) (by (try simp only [sizes]) <;> omega) (by simp)
    try simp only [sizes] at h
    exact ownsRow_new h (by exact (((New.refl _).alloc _).alloc _).drew))) (Or.inl (by simp [Value.ownBlock] <;> omega))⟩
  have nw1 : New wb o1 := New.grown (a := wb) (w := (((wb.alloc (.cells #[.int .i64 s, .int .i64 t] 183)).alloc (.cells #[] 2)).alloc (.map #[] 0)).drew) (by exact ((((New.refl _).alloc _).alloc _).alloc _).drew) og1 (fun k hk => by cases hk; omega)
  have fin1 : New wb o1 ∧ BLoop pairM Try.prog wb.heap.size o1 (.slice (some ⟨wb.heap.size, 0, none⟩) 1 1) (wb.heap.size + 1 + 1) (apT m1 m2 s t 0) := ⟨nw1, ok1 o1 _ (New.refl _) (or1 (by
    have h := ownsRow_startZ (B := wb.heap.size) (e := 183) (w := wb) (zs := [.int .i64 s, .int .i64 t]) (by (try simp only [sizes]) <;> omega) (by simp)
    try simp only [sizes] at h
    exact ownsRow_new h (by exact (((New.refl _).alloc _).alloc _).drew))) (Or.inl (by simp [Value.ownBlock] <;> omega))⟩
  have nw2 : New wb o2 := New.grown (a := wb) (w := (((wb.alloc (.map #[] 0)).alloc (.cells #[.int .i64 s, .int .i64 t] 183)).alloc (.cells #[] 2)).drew) (by exact ((((New.refl _).alloc _).alloc _).alloc _).drew) og2 (fun k hk => by cases hk; omega)
  have fin2 : New wb o2 ∧ BLoop pairM Try.prog wb.heap.size o2 (.slice (some ⟨wb.heap.size + 1, 0, none⟩) 1 1) (wb.heap.size) (apT m1 m2 s t 0) := ⟨nw2, ok2 o2 _ (New.refl _) (or2 (by
    have h := ownsRow_startZ (B := wb.heap.size) (e := 183) (w := (wb.alloc (.map #[] 0))) (zs := [.int .i64 s, .int .i64 t]) (by (try simp only [sizes]) <;> omega) (by simp)
    try simp only [sizes] at h
    exact ownsRow_new h (by exact ((New.refl _).alloc _).drew))) (Or.inl (by simp [Value.ownBlock] <;> omega))⟩
  have nw3 : New wb o3 := New.grown (a := wb) (w := (((wb.alloc (.map #[] 0)).alloc (.cells #[] 2)).alloc (.cells #[.int .i64 s, .int .i64 t] 183)).drew) (by exact ((((New.refl _).alloc _).alloc _).alloc _).drew) og3 (fun k hk => by cases hk; omega)
  have fin3 : New wb o3 ∧ BLoop pairM Try.prog wb.heap.size o3 (.slice (some ⟨wb.heap.size + 1 + 1, 0, none⟩) 1 1) (wb.heap.size) (apT m1 m2 s t 0) := ⟨nw3, ok3 o3 _ (New.refl _) (or3 (by
    have h := ownsRow_startZ (B := wb.heap.size) (e := 183) (w := ((wb.alloc (.map #[] 0)).alloc (.cells #[] 2))) (zs := [.int .i64 s, .int .i64 t]) (by (try simp only [sizes]) <;> omega) (by simp)
    try simp only [sizes] at h
    exact ownsRow_new h (by exact (New.refl _).drew))) (Or.inl (by simp [Value.ownBlock] <;> omega))⟩
  have nw4 : New wb o4 := New.grown (a := wb) (w := (((wb.alloc (.cells #[] 2)).alloc (.cells #[.int .i64 s, .int .i64 t] 183)).alloc (.map #[] 0)).drew) (by exact ((((New.refl _).alloc _).alloc _).alloc _).drew) og4 (fun k hk => by cases hk; omega)
  have fin4 : New wb o4 ∧ BLoop pairM Try.prog wb.heap.size o4 (.slice (some ⟨wb.heap.size + 1, 0, none⟩) 1 1) (wb.heap.size + 1 + 1) (apT m1 m2 s t 0) := ⟨nw4, ok4 o4 _ (New.refl _) (or4 (by
    have h := ownsRow_startZ (B := wb.heap.size) (e := 183) (w := (wb.alloc (.cells #[] 2))) (zs := [.int .i64 s, .int .i64 t]) (by (try simp only [sizes]) <;> omega) (by simp)
    try simp only [sizes] at h
    exact ownsRow_new h (by exact ((New.refl _).alloc _).drew))) (Or.inl (by simp [Value.ownBlock] <;> omega))⟩
  have nw5 : New wb o5 := New.grown (a := wb) (w := (((wb.alloc (.cells #[] 2)).alloc (.map #[] 0)).alloc (.cells #[.int .i64 s, .int .i64 t] 183)).drew) (by exact ((((New.refl _).alloc _).alloc _).alloc _).drew) og5 (fun k hk => by cases hk; omega)
  have fin5 : New wb o5 ∧ BLoop pairM Try.prog wb.heap.size o5 (.slice (some ⟨wb.heap.size + 1 + 1, 0, none⟩) 1 1) (wb.heap.size + 1) (apT m1 m2 s t 0) := ⟨nw5, ok5 o5 _ (New.refl _) (or5 (by
    have h := ownsRow_startZ (B := wb.heap.size) (e := 183) (w := ((wb.alloc (.cells #[] 2)).alloc (.map #[] 0))) (zs := [.int .i64 s, .int .i64 t]) (by (try simp only [sizes]) <;> omega) (by simp)
    try simp only [sizes] at h
    exact ownsRow_new h (by exact (New.refl _).drew))) (Or.inl (by simp [Value.ownBlock] <;> omega))⟩
  have nw6 : New wb o6 := New.grown (a := wb) (w := ((wb.alloc (.map #[] 0)).alloc (.cells #[] 2)).drew) (by exact (((New.refl _).alloc _).alloc _).drew) og6 (fun k hk => by cases hk; omega)
  have fin6 : New wb (o6.alloc (.cells #[.int .i64 s, .int .i64 t] 183)) ∧ BLoop pairM Try.prog wb.heap.size (o6.alloc (.cells #[.int .i64 s, .int .i64 t] 183)) (.slice (some ⟨o6.heap.size, 0, none⟩) 1 1) (wb.heap.size) (apT m1 m2 s t 0) := ⟨nw6.alloc _, ok6 _ _ ((New.refl _).alloc _) (ownsRow_startZ (zs := [.int .i64 s, .int .i64 t]) nw6.size (by simp)) (Or.inl (by have := og6.size; simp only [sizes] at this; simp [Value.ownBlock] <;> omega))⟩
  have nw7 : New wb o7 := New.grown (a := wb) (w := ((wb.alloc (.cells #[] 2)).alloc (.map #[] 0)).drew) (by exact (((New.refl _).alloc _).alloc _).drew) og7 (fun k hk => by cases hk; omega)
  have fin7 : New wb (o7.alloc (.cells #[.int .i64 s, .int .i64 t] 183)) ∧ BLoop pairM Try.prog wb.heap.size (o7.alloc (.cells #[.int .i64 s, .int .i64 t] 183)) (.slice (some ⟨o7.heap.size, 0, none⟩) 1 1) (wb.heap.size + 1) (apT m1 m2 s t 0) := ⟨nw7.alloc _, ok7 _ _ ((New.refl _).alloc _) (ownsRow_startZ (zs := [.int .i64 s, .int .i64 t]) nw7.size (by simp)) (Or.inl (by have := og7.size; simp only [sizes] at this; simp [Value.ownBlock] <;> omega))⟩
  clear BEG ev ok0 ok1 ok2 ok3 ok4 ok5 ok6 ok7 or0 or1 or2 or3 or4 or5 or6 or7 og0 og1 og2 og3 og4 og5 og6 og7 hM0 hM1 hM2 hM3 hM4 hM5 hM6 hM7 hv0 hv1 hv2 hv3 hv4 hv5 hv6 hv7 nw0 nw1 nw2 nw3 nw4 nw5 nw6 nw7
  go_cut [10, 11] from 12 (fun lv mv wr => ∃ mb, mv = .map (some mb) ∧ New wb wr ∧ BLoop pairM Try.prog wb.heap.size wr lv mb (apT m1 m2 s t 0))
  case first =>
    go_region_law (fail)
    all_goals go_wp2_with fail
    all_goals go_meet
    all_goals first | exact ⟨_, rfl, fin0⟩ | exact ⟨_, rfl, fin1⟩ | exact ⟨_, rfl, fin2⟩ | exact ⟨_, rfl, fin3⟩ | exact ⟨_, rfl, fin4⟩ | exact ⟨_, rfl, fin5⟩ | exact ⟨_, rfl, fin6⟩ | exact ⟨_, rfl, fin7⟩
  case rest =>
    obtain ⟨mb, rfl, hn0, hT0⟩ := hcut
    clear run0 run1 run2 run3 run4 run5 run6 run7 fin0 fin1 fin2 fin3 fin4 fin5 fin6 fin7 o0 o1 o2 o3 o4 o5 o6 o7 hmm
    have hmbB := hT0.low.1
    have l3' := mach_l mo1
    have HC1 := hid hc1
    have HC2 := hid hc2
    have HC3 := hid hc3
    have HC4 := hid hc4
    have HB := hid (fun (t' : Bfs (Int × Int)) (h : BOk (apP m1 m2) m1.nx.length t') => ap_bound mo1 mo2 h)
    have HT := hid (fun k => ap_bok mo1 mo2 HLL.out s t hp k)
    have HR1 := hid (fun l (h : l < m1.nx.length) => mach_row mo1 l h)
    have HR2 := hid (fun l (h : l < m2.nx.length) => mach_row mo2 l h)
    have HO1 := hid (mach_out mo1)
    have HO2 := hid (mach_out mo2)
    have HHIT := hid (fun k l h1 h2 h3 h4 h5 => apart_hit mo1 mo2 HLL.out s t hp k l h1 h2 h3 h4 h5)
    have HNONE := hid (fun k h1 h2 => apart_none mo1 mo2 HLL.out s t hp k h1 h2)
    have HROW := hid (fun (t' : Bfs (Int × Int)) (h : BOk (apP m1 m2) m1.nx.length t') k (hk : k < t'.list.length) l (hl' : l ≤ m1.nx.length) => h.row (g := apG m1 m2) (fun l x y hl'' hx hg => apG_ok mo1 mo2 HLL.out l x y hl'' hx hg) k hk l hl')
    have HPOK := hid (fun (x : Int × Int) (h : apP m1 m2 x) => show pairM.ok x from ⟨⟨h.1.1, by have := h.1.2; omega⟩, h.2.1, by have := h.2.2; omega⟩)
    have HMO1 := hid mo1
    have HMO2 := hid mo2
    clear hc1 hc2 hc3 hc4 hst mo1 mo2
    go_wp2_with fail
    go_loopw [10, 12] (fun lv i wr => ∃ k : Nat, i = .int .i64 k ∧ k ≤ (apT m1 m2 s t k).list.length ∧ New wb wr ∧ BLoop pairM Try.prog wb.heap.size wr lv mb (apT m1 m2 s t k) ∧ Hid (∀ i j, i < k → j < m1.nx.length → apHit m1 m2 j (nth (apT m1 m2 s t k).list i) = false)) (fun _ i _ => 1025 - (intOf i).toNat)
    case atStart => exact ⟨0, rfl, Nat.zero_le _, hn0, hT0, hid (fun i j hi => absurd hi (by omega))⟩
    case round =>
      obtain ⟨k, rfl, hk, hn, hT, hno⟩ := hrel
      clear hT0 hn0
      obtain ⟨wo, rfl⟩ : ∃ wo : World, wo = wr := ⟨_, rfl⟩
      have hbok := HT.out k
      have hlen := HB.out _ hbok
      have hlw := hbok.lw
      have HLW := hid hlw
      obtain ⟨Al, cl, rfl⟩ := hT.form
      clear hlw
      by_cases hlt : k < (apT m1 m2 s t k).list.length
      · have b1 : (k : Int) < ((apT m1 m2 s t k).list.length : Int) := by omega
        obtain ⟨P, hP⟩ : ∃ P, P = nth (apT m1 m2 s t k).list k := ⟨_, rfl⟩
        obtain ⟨bl, cl', e1, hcell⟩ := hT.cell (fun _ => rfl) k hlt (by decide)
        injection e1 with e1 e1' e1''
        subst e1
        clear e1' e1''
        rw [← hP] at hcell
        have hc0 : wo.cell? ⟨bl, k * 2 + 0, none⟩ = some (.int .i64 P.1) := hcell 0 _ rfl
        have hc1 : wo.cell? ⟨bl, k * 2 + 1, none⟩ = some (.int .i64 P.2) := hcell 1 _ rfl
        rw [Nat.add_zero] at hc0
        have hPok := hbok.ok P (by rw [hP]; exact nth_mem _ _ hlt)
        have HPO := hid hPok
        obtain ⟨⟨s0, s1⟩, t0, t1⟩ := hPok
        have HPD := hid hP
        clear hP hcell
        have y2 := hn.cell a2
        have lw1 : w.heap.size < wo.heap.size := by have := hn.size; omega
        go_wp2_with fail
        have hnp : New wo (wo.alloc (.cells #[.int .i64 P.1, .int .i64 P.2] 183)) := (by repeat (first | with_reducible exact New.refl _ | with_reducible assumption | with_reducible refine New.alloc ?_ _ | with_reducible refine New.drew ?_ | with_reducible refine New.drewN ?_ _ | with_reducible refine New.setCell ?_ (by simp <;> omega) _))
        have q0 : (wo.alloc (.cells #[.int .i64 P.1, .int .i64 P.2] 183)).cell? ⟨wo.heap.size, 0, none⟩ = some (.int .i64 P.1) := by go_simp
        have q1 : (wo.alloc (.cells #[.int .i64 P.1, .int .i64 P.2] 183)).cell? ⟨wo.heap.size, 1, none⟩ = some (.int .i64 P.2) := by go_simp
        have hTp := hT.new hnp
        have hNp := hn.trans hnp
        obtain ⟨pb, hpb⟩ : ∃ pb, pb = wo.heap.size := ⟨_, rfl⟩
        have hpl : pb < (wo.alloc (.cells #[.int .i64 P.1, .int .i64 P.2] 183)).heap.size := by rw [hpb, size_alloc]; exact Nat.lt_succ_self _
        have hlpb : ∀ q, (Value.slice (some ⟨bl, 0, none⟩) (apT m1 m2 s t k).list.length cl).ownBlock = some q → q ≠ pb := fun q hq => by have := (World.ownsRow.lt hT.list q hq).2; omega
        rw [← hpb] at q0 q1 ⊢
        clear hT hn hc0 hc1 y2 lw1 hnp hpb
        generalize wo.alloc (.cells #[.int .i64 P.1, .int .i64 P.2] 183) = wp at q0 q1 hTp hNp hpl ⊢
        go_loopw [10, 42] (fun lv x wr => ∃ l : Nat, x = .int .i64 l ∧ l ≤ m1.nx.length ∧ New wb wr ∧ wr.cell? ⟨pb, 0, none⟩ = some (.int .i64 P.1) ∧ wr.cell? ⟨pb, 1, none⟩ = some (.int .i64 P.2) ∧ (∀ q, lv.ownBlock = some q → q ≠ pb) ∧ BLoop pairM Try.prog wb.heap.size wr lv mb (bRow (apG m1 m2) k (apT m1 m2 s t k) l) ∧ Hid (∀ j, j < l → apHit m1 m2 j P = false)) (fun _ x _ => m1.nx.length - (intOf x).toNat)
        case atStart => exact ⟨0, rfl, Nat.zero_le _, hNp, q0, q1, hlpb, hTp, hid (fun j hj => absurd hj (by omega))⟩
        case round =>
          obtain ⟨l, rfl, hll, hNi, p0, p1, hlq, hTl, hno2⟩ := hrel
          clear hTp hlpb q0 q1
          obtain ⟨wi, rfl⟩ : ∃ wi : World, wi = wr := ⟨_, rfl⟩
          by_cases hltl : l < m1.nx.length
          · have b2 : (l : Int) < (m1.nx.length : Int) := by omega
            have hbok2 := HROW.out _ hbok k hlt l hll
            have hlen2 := HB.out _ hbok2
            have HPRE := hid (bRow_pre' (g := apG m1 m2) k (apT m1 m2 s t k) l)
            have hk2 : k < (bRow (apG m1 m2) k (apT m1 m2 s t k) l).list.length := by have := HPRE.out.1; omega
            have HWE := hid (show nth (bRow (apG m1 m2) k (apT m1 m2 s t k) l).words k = nth (apT m1 m2 s t k).words k from (HPRE.out.2 k hlt).2 HLW.out)
            have hwl := hbok2.wl k hk2
            have HSUCC := hid (bRow_succ (apG m1 m2) k (apT m1 m2 s t k) l)
            have hnthk : nth (bRow (apG m1 m2) k (apT m1 m2 s t k) l).list k = P := by rw [(HPRE.out.2 k hlt).1, HPD.out]
            have HLW2 := hid hbok2.lw
            have HOK2 := hid hbok2.ok
            obtain ⟨T', hT'⟩ : ∃ T', T' = bRow (apG m1 m2) k (apT m1 m2 s t k) l := ⟨_, rfl⟩
            rw [← hT'] at hTl hlen2 hk2 HWE hwl HSUCC hnthk HLW2 HOK2
            clear hT' hbok2
            have HNTH := hid hnthk
            obtain ⟨Aw, cw, how, hlook⟩ := hTl.word law_pair (T := 185) (E := 26) Try.underlying185 zero_intsA k hk2 (by rw [hnthk]; exact pair_key _ (HPOK.out _ HPO.out))
            rw [hnthk] at hlook
            have hlook' : (Instr.lookup 185 (.map (some mb)) (.agg #[.int .i64 P.1, .int .i64 P.2]) false).run Try.prog wi = .ok (.slice Aw (nth T'.words k).length cw) wi := hlook wi (New.refl _)
            clear hlook hnthk
            obtain ⟨B1, cc1, rfl⟩ := hTl.form
            have HOW := hid how
            clear how
            go_wp2_with (first
              | (go_at_call 78; refine (Clone64_any _ _ _ HOW.out.at (by omega)).mono ?_; rintro e w7 ⟨r7, he, hn7, ho7⟩; obtain ⟨A77, c77, rfl⟩ := ho7.form; subst he; have hz7 := hn7.size)
              | (at_builtin; refine wpList_app rfl _ _ _ rfl Try.underlying26 info_i64 _ _ rfl ho7 rfl (by omega) (by omega) ?_; intro g8 cap8 w8 ho8 hg8; have hn8 : New wi w8 := New.app (a := wi) hn7 hg8 ho7 (Nat.le_refl _)))
            have hr1 := (HR1.out l hltl).1
            have hr2 := (HR2.out l (by have := HLL.out; omega)).1
            have hl2 : l < m2.nx.length := by have := HLL.out; omega
            have hq1 := HO1.out.2 l (by rw [HO1.out.1]; exact hltl)
            have hq2 := HO2.out.2 l (by rw [HO2.out.1]; exact hl2)
            have ho1l := HO1.out.1
            have ho2l := HO2.out.1
            obtain ⟨b4, o4, rv4, rfl, hx4, hr4⟩ := HC1.out l hltl
            obtain ⟨A5, c5, rfl, _, hc5⟩ := hr4
            obtain ⟨b5, o5, rfl, hx5⟩ := hc5 P.1.toNat (by omega)
            obtain ⟨b6, o6, rv6, rfl, hx6, hr6⟩ := HC2.out l (by omega)
            obtain ⟨A7, c7, rfl, _, hc7⟩ := hr6
            obtain ⟨b7, o7, rfl, hx7⟩ := hc7 P.1.toNat (by omega)
            obtain ⟨b8, o8, rv8, rfl, hx8, hr8⟩ := HC3.out l hl2
            obtain ⟨A9, c9, rfl, _, hc9⟩ := hr8
            obtain ⟨b9, o9, rfl, hx9⟩ := hc9 P.2.toNat (by omega)
            obtain ⟨b10, o10, rv10, rfl, hx10, hr10⟩ := HC4.out l (by omega)
            obtain ⟨A11, c11, rfl, _, hc11⟩ := hr10
            obtain ⟨b11, o11, rfl, hx11⟩ := hc11 P.2.toNat (by omega)
            have g1 : P.1 < ((nth m1.nx l).length : Int) := by omega
            have g2 : P.2 < ((nth m2.nx l).length : Int) := by omega
            have g3 : P.1 < ((nth m1.out l).length : Int) := by omega
            have g4 : P.2 < ((nth m2.out l).length : Int) := by omega
            have g5 : (l : Int) < (m1.out.length : Int) := by omega
            have g6 : (l : Int) < (m2.out.length : Int) := by omega
            have g7 : (l : Int) < (m2.nx.length : Int) := by omega
            clear hc5 hc7 hc9 hc11 hq1 hq2 hr1 hr2 ho1l ho2l
            obtain ⟨va, hva⟩ : ∃ z, z = nth (nth m1.out l) P.1.toNat := ⟨_, rfl⟩
            obtain ⟨vb, hvb⟩ : ∃ z, z = nth (nth m2.out l) P.2.toNat := ⟨_, rfl⟩
            obtain ⟨na, hna⟩ : ∃ z, z = nth (nth m1.nx l) P.1.toNat := ⟨_, rfl⟩
            obtain ⟨nb, hnb'⟩ : ∃ z, z = nth (nth m2.nx l) P.2.toNat := ⟨_, rfl⟩
            rw [← hva] at hx7
            rw [← hvb] at hx11
            rw [← hna] at hx5
            rw [← hnb'] at hx9
            have HHI := hid (show apHit m1 m2 l P = decide (va ≠ vb) by rw [hva, hvb]; rfl)
            have HG := hid (show apG m1 m2 l P = some (na, nb) by rw [hna, hnb']; rfl)
            clear hva hvb hna hnb'
            have hs8 := hn8.size
            have hN8 := hNi.trans hn8
            have HO8 := hid ((ho8.own (by simp; omega)).widen (E' := w8.heap.size) (Nat.le_refl _) (Nat.le_refl _))
            replace p0 := hn8.cell p0
            replace p1 := hn8.cell p1
            have hnW := hnb.trans hN8
            have y2 := hN8.cell a2
            have y3 := hN8.cell a3
            have z2 := hN8.cell d2
            have z3 := hN8.cell d3
            have u4 := hnW.cell hx4
            have u5 := hnW.cell hx5
            have u6 := hnW.cell hx6
            have u7 := hnW.cell hx7
            have u8 := hnW.cell hx8
            have u9 := hnW.cell hx9
            have u10 := hnW.cell hx10
            have u11 := hnW.cell hx11
            clear hlook' ho7 hn7 hg8 ho8 hz7
            by_cases hab : va = vb
            · have hq : (va != vb) = false := by simp [hab]
              have HNO := hid (show apHit m1 m2 l P = false by rw [HHI.out]; simp [hab])
              clear hab
              go_quiet (fail)
              have hnd : New w8 (w8.drewN nq) := (New.refl _).drewN nq
              have hNa := hN8.trans hnd
              have hna8 : New wi (w8.drewN nq) := hn8.trans hnd
              have HOa := hid (HO8.out.new hnd)
              have hsa : w8.heap.size = (w8.drewN nq).heap.size := rfl
              replace p0 := hnd.cell p0
              replace p1 := hnd.cell p1
              clear y2 y3 z2 z3 u4 u5 u6 u7 u8 u9 u10 u11 hn8 hN8 hnW HO8 hnd
              generalize w8.drewN nq = wa at hNa hna8 HOa hsa p0 p1 ⊢
              have hnW := hnb.trans hNa
              have y2 := hNa.cell a2
              have z2 := hNa.cell d2
              have u4 := hnW.cell hx4
              have u5 := hnW.cell hx5
              have u8 := hnW.cell hx8
              have u9 := hnW.cell hx9
              have hQ := apG_ok HMO1.out HMO2.out HLL.out l P (na, nb) hltl HPO.out HG.out
              have HSS := hid (fun (w' : World) (hm : New wa w') => (show w'.cell? ⟨w.heap.size, 2, none⟩ = some (.slice (some ⟨b4, o4, none⟩) m1.nx.length c1) ∧ w'.cell? ⟨w.heap.size + 1, 2, none⟩ = some (.slice (some ⟨b8, o8, none⟩) m2.nx.length c3) ∧ w'.cell? ⟨pb, 0, none⟩ = some (.int .i64 P.1) ∧ w'.cell? ⟨pb, 1, none⟩ = some (.int .i64 P.2) ∧
                  w'.cell? ⟨b4, o4 + l, none⟩ = some (.slice (some ⟨b5, o5, none⟩) (nth m1.nx l).length c5) ∧ w'.cell? ⟨b5, o5 + P.1.toNat, none⟩ = some (.int .i64 na) ∧ w'.cell? ⟨b8, o8 + l, none⟩ = some (.slice (some ⟨b9, o9, none⟩) (nth m2.nx l).length c9) ∧ w'.cell? ⟨b9, o9 + P.2.toNat, none⟩ = some (.int .i64 nb) from
                ⟨hm.cell y2, hm.cell z2, hm.cell p0, hm.cell p1, hm.cell u4, hm.cell u5, hm.cell u8, hm.cell u9⟩))
              clear y2 z2 u4 u5 u8 u9 p0 p1
              go_wp2_with fail
              go_region_held3 (fun w' => w'.cell? ⟨w.heap.size, 2, none⟩ = some (.slice (some ⟨b4, o4, none⟩) m1.nx.length c1) ∧ w'.cell? ⟨w.heap.size + 1, 2, none⟩ = some (.slice (some ⟨b8, o8, none⟩) m2.nx.length c3) ∧ w'.cell? ⟨pb, 0, none⟩ = some (.int .i64 P.1) ∧ w'.cell? ⟨pb, 1, none⟩ = some (.int .i64 P.2) ∧
                  w'.cell? ⟨b4, o4 + l, none⟩ = some (.slice (some ⟨b5, o5, none⟩) (nth m1.nx l).length c5) ∧ w'.cell? ⟨b5, o5 + P.1.toNat, none⟩ = some (.int .i64 na) ∧ w'.cell? ⟨b8, o8 + l, none⟩ = some (.slice (some ⟨b9, o9, none⟩) (nth m2.nx l).length c9) ∧ w'.cell? ⟨b9, o9 + P.2.toNat, none⟩ = some (.int .i64 nb))
                (first | exact HSS.out _ (by repeat (first | with_reducible exact New.refl _ | with_reducible assumption | with_reducible refine New.alloc ?_ _ | with_reducible refine New.drew ?_ | with_reducible refine New.drewN ?_ _ | with_reducible refine New.setCell ?_ (by simp <;> omega) _)) | go_keep)
                (first | fail)
              have hnc : New wa (wa.alloc (.cells #[.int .i64 na, .int .i64 nb] 183)).drew := (by repeat (first | with_reducible exact New.refl _ | with_reducible assumption | with_reducible refine New.alloc ?_ _ | with_reducible refine New.drew ?_ | with_reducible refine New.drewN ?_ _ | with_reducible refine New.setCell ?_ (by simp <;> omega) _))
              have c0 : (wa.alloc (.cells #[.int .i64 na, .int .i64 nb] 183)).drew.cell? ⟨wa.heap.size, 0, none⟩ = some (.int .i64 na) := by go_simp
              have c1' : (wa.alloc (.cells #[.int .i64 na, .int .i64 nb] 183)).drew.cell? ⟨wa.heap.size, 1, none⟩ = some (.int .i64 nb) := by go_simp
              have p0 := (HSS.out _ hnc).2.2.1
              have p1 := (HSS.out _ hnc).2.2.2.1
              have hNc := hNa.trans hnc
              have hnic := hna8.trans hnc
              have HOc := hid (HOa.out.new hnc)
              have hsc : wa.heap.size ≤ (wa.alloc (.cells #[.int .i64 na, .int .i64 nb] 183)).drew.heap.size := hnc.size
              obtain ⟨qb, hqb⟩ : ∃ qb, qb = wa.heap.size := ⟨_, rfl⟩
              rw [← hqb] at c0 c1' ⊢
              clear hqb HSS hnW hNa hna8 HOa hnc
              generalize (wa.alloc (.cells #[.int .i64 na, .int .i64 nb] 183)).drew = wc at c0 c1' p0 p1 hNc hnic HOc hsc ⊢
              have hTc := hTl.new hnic
              obtain ⟨v9, hlk⟩ := hTc.look law_pair (T := 185) (E := 26) Try.underlying185 zero_intsA (na, nb) (HPOK.out _ hQ) (pair_key _ (HPOK.out _ hQ))
              by_cases hm : (na, nb) ∈ T'.list
              · have hlk' : (Instr.lookup 185 (.map (some mb)) (.agg #[.int .i64 na, .int .i64 nb]) true).run Try.prog wc = .ok (.tuple #[v9, .bool true]) wc := hlk.1 hm
                clear hlk
                have HS := hid (show bRow (apG m1 m2) k (apT m1 m2 s t k) (l + 1) = T' by rw [HSUCC.out, bStep_has _ _ _ _ (na, nb) (by rw [HNTH.out]; exact HG.out) hm])
                clear hm
                go_wp2_with fail
                go_roundw
                case rel => exact ⟨l + 1, by go_num, by omega, hNc, p0, p1, hlq, by rw [HS.out]; exact hTc, hid (fun j hj => by
                    rcases Nat.lt_succ_iff_lt_or_eq.1 hj with h | h
                    · exact hno2.out j h
                    · subst h; exact HNO.out)⟩
                case measure => simp [intOf]; omega
              · have hlk' : (Instr.lookup 185 (.map (some mb)) (.agg #[.int .i64 na, .int .i64 nb]) true).run Try.prog wc = .ok (.tuple #[v9, .bool false]) wc := hlk.2 hm
                clear hlk
                have HS := hid (show bRow (apG m1 m2) k (apT m1 m2 s t k) (l + 1) = ⟨T'.list ++ [(na, nb)], T'.words ++ [nth T'.words k ++ [(l : Int)]]⟩ by rw [HSUCC.out, bStep_new _ _ _ _ (na, nb) (by rw [HNTH.out]; exact HG.out) hm])
                obtain ⟨w3, hrun, hg3, hP3⟩ := hTl.put hnic (HOc.out.widen (Nat.le_refl _) (by omega)) hNi.size law_pair (T := 185) (E := 26) Try.underlying185 pair_inj (fun x hx => HPOK.out _ (HOK2.out x hx)) (na, nb) (HPOK.out _ hQ) (pair_key _ (HPOK.out _ hQ)) hm (by omega)
                have hrun' : (Instr.mapUpdate 185 (.map (some mb)) (.agg #[.int .i64 na, .int .i64 nb]) (.slice (some ⟨g8, 0, none⟩) ((nth T'.words k).length + 1) cap8)).run Try.prog wc = .ok () w3 := hrun
                have e0 := hg3.cell c0 (by simpa using hTc.cell_ne c0)
                have e1 := hg3.cell c1' (by simpa using hTc.cell_ne c1')
                have e2 := hg3.cell p0 (by simpa using hTc.cell_ne p0)
                have e3 := hg3.cell p1 (by simpa using hTc.cell_ne p1)
                have hN3 : New wb w3 := New.grown hNc hg3 (fun q hq => by cases hq; exact hmbB)
                have hlst := hP3.list
                have HM := hid hm
                have hs3 := hg3.size
                have hTn1 : T'.list.length < 1099511627776 := by omega
                clear hm hrun
                go_wp2_with (at_builtin; refine wpList_appC (zs := [.int .i64 na, .int .i64 nb]) rfl _ _ _ rfl (B := wb.heap.size) Try.underlying184 info_pair rfl (by decide) (by decide) rfl (by intro u hu; simp at hu; rcases hu with rfl | rfl <;> rfl) (.slice B1 T'.list.length cc1) T'.list.length _ rfl hlst rfl hTn1 hN3.size ?_; intro g4 cap4 w4 ho4 hg4 hloc4)
                go_roundw
                case rel =>
                  have hlt4 := World.ownsRow.lt hlst
                  have hN4 : New wb w4 := New.grown hN3 hg4 (fun q hq => (hlt4 q hq).1)
                  have f0 := hg4.cell e2 (fun e => by have := hlq pb e.symm; exact this rfl)
                  have f1 := hg4.cell e3 (fun e => by have := hlq pb e.symm; exact this rfl)
                  have hpb3 : pb < w3.heap.size := World.block_lt_of_cell? w3 _ e2
                  refine ⟨l + 1, by go_num, by omega, hN4, f0, f1, fun q hq => ?_, ?_, hid (fun j hj => ?_)⟩
                  · simp [Value.ownBlock] at hq
                    subst hq
                    rcases hloc4 with h | h
                    · exact hlq _ h
                    · omega
                  · rw [HS.out]
                    exact hP3.app HLW2.out HM.out ho4 hg4 (hloc4.imp id Nat.le_of_lt)
                  · rcases Nat.lt_succ_iff_lt_or_eq.1 hj with h | h
                    · exact hno2.out j h
                    · subst h; exact HNO.out
                case measure => simp [intOf]; omega
            · have hq : (va != vb) = true := by simp [hab]
              have HRES := hid (HHIT.out k l hlt hltl (by rw [← HPD.out, HHI.out]; simp [hab]) (fun j hj => by rw [← HPD.out]; exact hno2.out j hj) hno.out)
              clear hab
              go_quiet (fail)
              go_wp2_with fail
              go_ret2
              rw [HRES.out, ← HWE.out]
              exact ⟨_, rfl, hnW.drewN _, (HO8.out.new ((New.refl _).drewN nq)).widen (by have := (hnb.trans hNi).size; omega) (Nat.le_refl _)⟩
          · have e : l = m1.nx.length := by omega
            subst e
            have HE := hid (show apT m1 m2 s t (k + 1) = bRow (apG m1 m2) k (apT m1 m2 s t k) m1.nx.length by unfold apT at hlt ⊢; rw [bTo_succ, if_pos hlt])
            have HPRE := hid (bRow_pre' (g := apG m1 m2) k (apT m1 m2 s t k) m1.nx.length)
            go_wp2_with fail
            go_roundw
            case rel => exact ⟨k + 1, by go_num, by rw [HE.out]; have := HPRE.out.1; omega, hNi, by rw [HE.out]; exact hTl, hid (fun i j hi hj => by
                rw [HE.out]
                rcases Nat.lt_succ_iff_lt_or_eq.1 hi with h | h
                · rw [(HPRE.out.2 i (by omega)).1]; exact hno.out i j h hj
                · subst h; rw [(HPRE.out.2 i hlt).1, ← HPD.out]; exact hno2.out j hj)⟩
            case measure => simp [intOf]; omega
      · have e : k = (apT m1 m2 s t k).list.length := by omega
        have HE := hid (HNONE.out k e.symm hno.out)
        have b1 : ¬ (k : Int) < ((apT m1 m2 s t k).list.length : Int) := by omega
        clear e
        go_wp2_with fail
        go_ret2
        rw [HE.out]
        exact ⟨_, rfl, hnb.trans hn, OwnInts.nil _ _ _⟩

end Go.Proofs.Ytcjmcpfdpnakkaa
