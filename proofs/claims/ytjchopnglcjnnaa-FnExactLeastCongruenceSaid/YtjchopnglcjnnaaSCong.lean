/- The reference's least congruence. -/
import Derived.Test.YtjchopnglcjnnaaRows
import Derived.Test.YtjchopnglcjnnaaBase
import Derived.Test.YtjchopnglcjnnaaAut
import Derived.Test.YtjchopnglcjnnaaApp
import Derived.Test.YtjchopnglcjnnaaInfo
import Derived.Test.YtjchopnglcjnnaaPlain1
import Derived.Test.YtjchopnglcjnnaaPlainRun
import Derived.Test.YtjchopnglcjnnaaPlainSet
import Derived.Test.YtjchopnglcjnnaaPlainTidy
import Derived.Test.YtjchopnglcjnnaaPlainCong
import Derived.Test.YtjchopnglcjnnaaOwnC
import Derived.Test.YtjchopnglcjnnaaS01a
import Derived.Test.YtjchopnglcjnnaaS01b
import Derived.Test.YtjchopnglcjnnaaSTidy
import Derived.WalkKit
import Derived.WalkSpells
import Derived.WalkLawsBesides
import Derived.Deep.QuietTactic
import Derived.Deep.OwnRows
import Derived.BigQuiet
import Derived.KernelRfl
namespace Go.Proofs.Ytjchopnglcjnnaa
open Go.RowKit

set_option maxHeartbeats 400000 in
theorem l01All_any (n : Int) (w : World) (h0 : 0 ≤ n) (h1 : n ≤ 1048576) :
    Calls Try.prog 114 #[.int .i64 n] w fun e w' => ∃ r, e = .returned r ∧ New w w' ∧ OwnInts w.heap.size w'.heap.size w' r (iota 0 n.toNat) := by
  go_enter Try.func114, Try.ntmps114
  go_wp2
  go_loopw [3, 4] (fun o i wr => ∃ k : Nat, (k : Int) ≤ n ∧ i = .int .i64 k ∧ Grow w.heap.size 2 wr o (iota 0 k) ∧ New w wr) (fun _ i _ => n.toNat - (intOf i).toNat)
  case atStart => exact ⟨0, by omega, rfl, Grow.empty _ _ _ (Nat.le_refl _), (by repeat (first | with_reducible exact New.refl _ | with_reducible assumption | with_reducible refine New.alloc ?_ _ | with_reducible refine New.drew ?_ | with_reducible refine New.drewN ?_ _ | with_reducible refine New.setCell ?_ (by simp <;> omega) _))⟩
  case round =>
    obtain ⟨k, hk, rfl, ho, hn⟩ := hrel
    have hzr := hn.size
    have hl := iota_length 0 k
    by_cases hlt : (k : Int) < n
    · go_wp2_with (at_builtin; refine wpList_app rfl _ _ _ rfl Try.underlying25 info_i64 _ (iota 0 k) rfl ho rfl (by omega) (by omega) ?_; intro g cap w2 ho2 hg2)
      go_roundw
      case rel => exact ⟨k + 1, by omega, by go_num, by rw [iota_snoc, Int.zero_add]; rw [hl] at ho2; exact ho2, hn.app hg2 ho (Nat.le_refl _)⟩
      case measure => simp [intOf]; omega
    · have e : (k : Int) = n := by omega
      subst e
      go_wp2
      go_ret
      exact ⟨_, rfl, hn, by simpa using ho.own (by omega)⟩
set_option maxHeartbeats 400000 in
theorem l01Merge_any {B E : Nat} (b off n c : Nat) (m : List Int) (p q : Int) (w : World) (h : OwnInts B E w (.slice (some ⟨b, off, none⟩) n c) m) (hml : m.length ≤ 1000) :
    Calls Try.prog 115 #[.slice (some ⟨b, off, none⟩) n c, .int .i64 p, .int .i64 q] w fun e w' => e = .returned (.tuple #[]) ∧ OwnInts B E w' (.slice (some ⟨b, off, none⟩) n c) (mergeC m p q) ∧ w.grownBy w' (some b) := by
  obtain ⟨hl, _⟩ := h.cells
  have HN := hid (show n = m.length from hl)
  have hn1000 : n ≤ 1000 := by have := HN.out; omega
  have HH := hid h
  clear h hl
  go_enter Try.func115, Try.ntmps115
  go_wp2
  go_loopw [6] (fun i wr => ∃ k : Nat, k ≤ n ∧ i = .int .i64 k ∧ Hid (OwnInts B E wr (.slice (some ⟨b, off, none⟩) n c) (mixC m p q k)) ∧ Hid (w.grownBy wr (some b))) (fun i _ => n - (intOf i).toNat)
  case atStart => exact ⟨0, Nat.zero_le _, rfl, hid (by rw [mixC_zero]; exact HH.out), hid (grown_refl _ _)⟩
  case round =>
    obtain ⟨k, hk, rfl, ho, hg⟩ := hrel
    by_cases hlt : k < n
    · have b1 : (k : Int) < (n : Int) := by omega
      obtain ⟨_, _, _, hc⟩ := ho.out.cells
      obtain ⟨hx, hf⟩ := hc k (by rw [mixC_len]; have := HN.out; omega)
      rw [mixC_here m p q k (by have := HN.out; omega)] at hx
      clear hc
      by_cases hq : nth m k = p
      · have hq' : (nth m k == p) = true := by simp [hq]
        have HQ := hid hq
        clear hq
        go_wp2
        go_roundw
        case rel => exact ⟨k + 1, by omega, by go_num, hid (by rw [← mixC_hit m p q k (by have := HN.out; omega) HQ.out]; exact ho.out.set k (by rw [mixC_len]; have := HN.out; omega) q), hid (grown_trans hg.out (grown_setCell _ ⟨b, off + k, none⟩ _))⟩
        case measure => simp [intOf]; omega
      · have hq' : (nth m k == p) = false := by simp [hq]
        have HQ := hid hq
        clear hq
        go_wp2
        go_roundw
        case rel => exact ⟨k + 1, by omega, by go_num, hid (by rw [mixC_miss m p q k (by have := HN.out; omega) HQ.out]; exact ho.out), hg⟩
        case measure => simp [intOf]; omega
    · have e : k = n := by omega
      have HO := hid ho.out
      rw [e, HN.out, mixC_all] at HO
      rw [← HN.out] at HO
      clear ho e
      have hkn : ¬ (k : Int) < (n : Int) := by omega
      have hkn' : decide ((k : Int) < (n : Int)) = false := by simpa using hkn
      go_wp2
      go_end0
      exact ⟨rfl, HO.out, hg.out⟩

theorem New.wr {a w w' : World} {b : Nat} (h : New a w) (hg : w.grownBy w' (some b)) (hb : a.heap.size ≤ b) : New a w' := h.grown hg (fun k hk => by cases hk; exact hb)
/-- What is known of the marks in the midst of a pass. -/
def Pass (a : Aut) (m0 m : List Int) (g : Bool) (done : Nat → Nat → Nat → Prop) : Prop :=
  (g = true ∧ nval a.n.toNat m < nval a.n.toNat m0) ∨ (g = false ∧ m = m0 ∧ ∀ u v l, u < a.n.toNat → v < u → l < a.nx.length → done u v l → ker m u v → ker m (nxt a l u) (nxt a l v))
theorem Pass.more {a : Aut} {m0 m : List Int} {g : Bool} {d d' : Nat → Nat → Nat → Prop} (h : Pass a m0 m g d) (hd : ∀ u v l, u < a.n.toNat → v < u → l < a.nx.length → d' u v l → d u v l ∨ ¬ ker m u v ∨ ker m (nxt a l u) (nxt a l v)) : Pass a m0 m g d' := by
  rcases h with h | ⟨h1, h2, h3⟩
  · exact Or.inl h
  · refine Or.inr ⟨h1, h2, fun u v l hu hv hl hd' hk => ?_⟩
    rcases hd u v l hu hv hl hd' with h | h | h
    · exact h3 u v l hu hv hl h hk
    · exact absurd hk h
    · exact h
set_option maxRecDepth 20000 in
set_option maxHeartbeats 1000000 in
theorem l01Least_any {E : Nat} (p v : Value) (a : Aut) (m : List Int) (s t : Nat) (w0 w : World) (hp : PAut w0 p a) (hn0 : New w0 w) (ha : autOk a = true) (hs : s < a.n.toNat) (ht : t < a.n.toNat)
    (hv : OwnInts w0.heap.size E w v m) (hE : E ≤ w.heap.size) (hL : LMarks a s t m) :
    Calls Try.prog 116 #[p, v] w fun e w' => ∃ r, e = .returned r ∧ New w0 w' ∧ OwnInts w.heap.size w'.heap.size w' r (lcOf a s t) := by
  obtain ⟨pb, rv, rfl, hp0, hp1, hpr⟩ := hp
  obtain ⟨A2, c2, rfl, hl2, hc2⟩ := hpr
  have hml := hL.marks.1
  have han := autOk_n ha
  obtain ⟨b, off, c, rfl⟩ := hv.addr (by omega)
  have hB := hv.cells.2.1
  have hbE := hv.cells.2.2.1
  obtain ⟨n, hnn⟩ : ∃ n, n = m.length := ⟨_, rfl⟩
  rw [← hnn] at hv ⊢
  have HN := hid (show n = a.n.toNat by omega)
  have hn10 : n ≤ 10 := by omega
  have HA := hid ha
  have HL0 := hid hL
  have hpb : pb < w0.heap.size := World.block_lt_of_cell? w0 _ hp0
  have HC2 := hid hc2
  clear hnn hml ha hL hc2 hp0
  go_enter Try.func116, Try.ntmps116
  go_wp2
  go_loopw [5] (fun g wr => ∃ (m : List Int) (gb : Bool), g = .bool gb ∧ Hid (LMarks a s t m) ∧ OwnInts w0.heap.size E wr (.slice (some ⟨b, off, none⟩) n c) m ∧ New w0 wr ∧ w.heap.size ≤ wr.heap.size ∧ Hid (Pass a m m gb (fun _ _ _ => True) ∨ gb = true))
    (fun g wr => 2 * nval a.n.toNat (readC wr b off n) + (match g with | .bool true => 1 | _ => 0))
  case atStart => exact ⟨m, true, rfl, HL0, hv, hn0, Nat.le_refl _, hid (Or.inr rfl)⟩
  case round =>
    obtain ⟨m, gb, rfl, hL, ho, hn, hsz, hP⟩ := hrel
    obtain ⟨wo, rfl⟩ : ∃ wo : World, wo = wr := ⟨_, rfl⟩
    have HR0 := hid (ho.read)
    cases gb with
    | true =>
      go_wp2
      go_loopw [5, 6] (fun g i wr => ∃ (m1 : List Int) (gb : Bool) (u : Nat), g = .bool gb ∧ i = .int .i64 u ∧ u ≤ n ∧ Hid (LMarks a s t m1) ∧ OwnInts w0.heap.size E wr (.slice (some ⟨b, off, none⟩) n c) m1 ∧ New w0 wr ∧ w.heap.size ≤ wr.heap.size ∧ Hid (Pass a m m1 gb (fun x _ _ => x < u)))
        (fun _ i _ => n - (intOf i).toNat)
      case atStart => exact ⟨m, false, 0, rfl, rfl, Nat.zero_le _, hL, ho, hn, hsz, hid (Or.inr ⟨rfl, rfl, fun u v l _ _ _ h => absurd h (by omega)⟩)⟩
      case round =>
        obtain ⟨m1, gb, u, rfl, rfl, hu, hL, ho, hn, hsz, hP⟩ := hrel
        by_cases hltu : u < n
        · have bu : (u : Int) < (n : Int) := by omega
          go_wp2
          go_loopw [5, 7] (fun g i wr => ∃ (m1 : List Int) (gb : Bool) (v : Nat), g = .bool gb ∧ i = .int .i64 v ∧ v ≤ u ∧ Hid (LMarks a s t m1) ∧ OwnInts w0.heap.size E wr (.slice (some ⟨b, off, none⟩) n c) m1 ∧ New w0 wr ∧ w.heap.size ≤ wr.heap.size ∧ Hid (Pass a m m1 gb (fun x y _ => x < u ∨ (x = u ∧ y < v))))
            (fun _ i _ => u - (intOf i).toNat)
          case atStart => exact ⟨m1, gb, 0, rfl, rfl, Nat.zero_le _, hL, ho, hn, hsz, hid (hP.out.more fun x y l _ _ _ h => Or.inl (by omega))⟩
          case round =>
            obtain ⟨m1, gb, v, rfl, rfl, hvu, hL, ho, hn, hsz, hP⟩ := hrel
            by_cases hltv : v < u
            · have bv : (v : Int) < (u : Int) := by omega
              have bv2 : (v : Int) < (n : Int) := by omega
              go_wp2
              go_loopw [5, 8] (fun g i wr => ∃ (m1 : List Int) (gb : Bool) (k : Nat), g = .bool gb ∧ i = .int .i64 k ∧ k ≤ a.nx.length ∧ Hid (LMarks a s t m1) ∧ OwnInts w0.heap.size E wr (.slice (some ⟨b, off, none⟩) n c) m1 ∧ New w0 wr ∧ w.heap.size ≤ wr.heap.size ∧ Hid (Pass a m m1 gb (fun x y l => x < u ∨ (x = u ∧ (y < v ∨ (y = v ∧ l < k))))))
                (fun _ i _ => a.nx.length - (intOf i).toNat)
              case atStart => exact ⟨m1, gb, 0, rfl, rfl, Nat.zero_le _, hL, ho, hn, hsz, hid (hP.out.more fun x y l _ _ _ h => Or.inl (by omega))⟩
              case round =>
                obtain ⟨m1, gb, k, rfl, rfl, hk, hL, ho, hn, hsz, hP⟩ := hrel
                have hz1 := hn.size
                have hmm := hL.out.marks.1
                obtain ⟨hnm, _, _, hcm⟩ := ho.cells
                obtain ⟨xu, fu⟩ := hcm u (by omega)
                obtain ⟨xv, fv⟩ := hcm v (by omega)
                have y1 := hn.cell hp1
                have HLM := hid hnm
                by_cases hltk : k < a.nx.length
                · have bk : (k : Int) < (a.nx.length : Int) := by omega
                  by_cases hker : nth m1 u = nth m1 v
                  · have hkb : (nth m1 u == nth m1 v) = true := by simp [hker]
                    obtain ⟨b2, off2, rv, rfl, hx2, hr⟩ := HC2.out k hltk
                    obtain ⟨r1, r2⟩ := autOk_row HA.out k hltk
                    obtain ⟨A3, c3, rfl, _, hc3⟩ := hr
                    obtain ⟨b3, off3, rfl, hx3⟩ := hc3 u (by have := HN.out; omega)
                    obtain ⟨b3', off3', e', hx4⟩ := hc3 v (by have := HN.out; omega)
                    cases e'
                    have q1 := r2 u (by have := HN.out; omega)
                    have q2 := r2 v (by have := HN.out; omega)
                    have hrl : (u : Int) < ((nth a.nx k).length : Int) := by have := HN.out; omega
                    have hrl2 : (v : Int) < ((nth a.nx k).length : Int) := by have := HN.out; omega
                    obtain ⟨xp, fp⟩ := hcm (nth (nth a.nx k) u).toNat (by have := HN.out; omega)
                    obtain ⟨xq, fq⟩ := hcm (nth (nth a.nx k) v).toNat (by have := HN.out; omega)
                    replace hx2 := hn.cell hx2
                    replace hx3 := hn.cell hx3
                    replace hx4 := hn.cell hx4
                    obtain ⟨q3, q4⟩ := q1
                    obtain ⟨q5, q6⟩ := q2
                    have q7 : nth (nth a.nx k) u < (n : Int) := by have := HN.out; omega
                    have q8 : nth (nth a.nx k) v < (n : Int) := by have := HN.out; omega
                    have HK := hid (show ker m1 u v from hker)
                    clear hcm hc3 r1 r2 hnm hmm fu fv fp fq
                    by_cases hpq : nth m1 (nth (nth a.nx k) u).toNat = nth m1 (nth (nth a.nx k) v).toNat
                    · have hpb' : (nth m1 (nth (nth a.nx k) u).toNat != nth m1 (nth (nth a.nx k) v).toNat) = false := by simp [hpq]
                      have HPQ := hid hpq
                      clear hpq hker
                      go_wp2_with fail
                      go_quiet (fail)
                      go_wp2
                      go_roundw
                      case rel =>
                        refine ⟨m1, gb, k + 1, rfl, by go_num, by omega, hL, ho.new ((New.refl _).drewN nq), hn.drewN nq, hsz, hid (hP.out.more fun x y l _ _ _ h => ?_)⟩
                        by_cases e : x = u ∧ y = v ∧ l = k
                        · obtain ⟨rfl, rfl, rfl⟩ := e
                          exact Or.inr (Or.inr HPQ.out)
                        · exact Or.inl (by omega)
                      case measure => simp [intOf]; omega
                    · have hpb' : (nth m1 (nth (nth a.nx k) u).toNat != nth m1 (nth (nth a.nx k) v).toNat) = true := by simp [hpq]
                      have HPQ := hid hpq
                      have HM := hid (fun w2 (h : OwnInts w0.heap.size E w2 (.slice (some ⟨b, off, none⟩) n c) m1) => l01Merge_any b off n c m1 (nth m1 (nth (nth a.nx k) u).toNat) (nth m1 (nth (nth a.nx k) v).toNat) w2 h (by have := HLM.out; omega))
                      clear hpq hker
                      go_wp2_with fail
                      go_quiet (fail)
                      go_wp2_with (go_at_call 115; refine (HM.out _ (ho.new ((New.refl _).drewN nq))).mono ?_; rintro e w2 ⟨rfl, ho2, hg2⟩)
                      go_roundw
                      case rel =>
                        have hL2 : LMarks a s t (mergeC m1 (nth m1 (nxt a k u)) (nth m1 (nxt a k v))) := hL.out.merge HA.out u v k (by have := HN.out; omega) (by have := HN.out; omega) hltk HK.out hs ht
                        have hlen := hL.out.marks.1
                        have hin : ∀ z, z < a.n.toNat → nth m1 z ∈ m1 := fun z hz => nth_mem _ _ (by omega)
                        have h1 := nxt_lt HA.out k u hltk (by have := HN.out; omega)
                        have h2 := nxt_lt HA.out k v hltk (by have := HN.out; omega)
                        have hd : nval a.n.toNat (mergeC m1 (nth m1 (nxt a k u)) (nth m1 (nxt a k v))) < nval a.n.toNat m1 :=
                          nval_merge _ _ _ _ (hin _ h1) (hin _ h2) HPQ.out (hL.out.marks.2 _ (by omega)).1 (by have := (hL.out.marks.2 (nxt a k u) (by omega)).2; omega)
                        have hs2 := hg2.size
                        refine ⟨_, true, k + 1, rfl, by go_num, by omega, hid hL2, ho2, (hn.drewN nq).wr hg2 hB, (by (try simp only [size_alloc, size_drew, size_drewN, size_setCell] at *) <;> omega), hid (Or.inl ⟨rfl, ?_⟩)⟩
                        rcases hP.out with h | ⟨_, h, _⟩
                        · omega
                        · rw [h] at hd ⊢; exact hd
                      case measure => simp [intOf]; omega
                  · have hkb : (nth m1 u == nth m1 v) = false := by simp [hker]
                    have HK := hid hker
                    clear hker hcm
                    go_wp2_with fail
                    go_quiet (fail)
                    go_wp2
                    go_roundw
                    case rel =>
                      refine ⟨m1, gb, v + 1, rfl, by go_num, by omega, hL, ho.new ((New.refl _).drewN nq), hn.drewN nq, hsz, hid (hP.out.more fun x y l _ _ _ h => ?_)⟩
                      by_cases e : x = u ∧ y = v
                      · obtain ⟨rfl, rfl⟩ := e
                        exact Or.inr (Or.inl HK.out)
                      · exact Or.inl (by omega)
                    case measure => simp [intOf]; omega
                · have e : k = a.nx.length := by omega
                  clear hcm
                  subst e
                  go_wp2_with fail
                  go_quiet (fail)
                  go_wp2
                  go_roundw
                  case rel =>
                    exact ⟨m1, gb, v + 1, rfl, by go_num, by omega, hL, ho.new ((New.refl _).drewN nq), hn.drewN nq, hsz, hid (hP.out.more fun x y l _ _ hl h => Or.inl (by omega))⟩
                  case measure => simp [intOf]; omega
            · have e : v = u := by omega
              subst e
              go_wp2
              go_roundw
              case rel => exact ⟨m1, gb, v + 1, rfl, by go_num, by omega, hL, ho, hn, hsz, hid (hP.out.more fun x y l _ hy _ h => Or.inl (by omega))⟩
              case measure => simp [intOf]; omega
        · have e : u = n := by omega
          subst e
          go_wp2
          go_roundw
          case rel =>
            refine ⟨m1, gb, rfl, hL, ho, hn, hsz, hid ?_⟩
            cases gb with
            | true => exact Or.inr rfl
            | false =>
              left
              rcases hP.out with ⟨h, _⟩ | ⟨_, h2, h3⟩
              · cases h
              · exact Or.inr ⟨rfl, rfl, fun x y l hx hy hl _ hk => by
                  subst h2
                  exact h3 x y l hx hy hl (by have := HN.out; omega) hk⟩
          case measure =>
            rw [ho.read, HR0.out]
            rcases hP.out with ⟨h, h2⟩ | ⟨h, h2, _⟩
            · subst h; simp; omega
            · subst h; subst h2; simp
    | false =>
      have hF : Final a s t m := by
        rcases hP.out with h | h
        · rcases h with ⟨h, _⟩ | ⟨_, _, h3⟩
          · cases h
          · exact hL.out.final fun u hu v hv hk l hl => h3 u v l hu hv hl trivial hk
        · cases h
      have HT := hid (lcOf_eq hF)
      have HLE := hid hL.out.marks.1
      clear hF
      go_wp2_with (go_at_call 89; refine (l01Tidied_any _ m _ ho.at (by have := HLE.out; have := HN.out; omega)).mono ?_; rintro e w2 ⟨r, rfl, hn2, ho2⟩)
      go_ret
      rw [HT.out]
      exact ⟨_, rfl, hn.trans hn2, ho2.widen hsz (Nat.le_refl _)⟩
set_option maxHeartbeats 400000 in
theorem specLeastCongruence_any (v1 : Value) (a : Aut) (s t : Int) (w : World) (h1 : AutAt w v1 a) :
    Calls Try.prog 43 #[v1, .int .i64 s, .int .i64 t] w fun e w' => ∃ r, e = .returned (.tuple #[r, .int .i64 (LeastCongruence a s t).2]) ∧ New w w' ∧ OwnInts w.heap.size w'.heap.size w' r (LeastCongruence a s t).1 := by
  obtain ⟨rv, rfl, hr⟩ := h1
  obtain ⟨A, c, rfl⟩ := hr.form
  obtain ⟨wb, hwb⟩ : ∃ wb, wb = w.alloc (.cells #[.int .i64 a.n, .slice A a.nx.length c] 37) := ⟨_, rfl⟩
  have hp : PAut wb (.pointer (some ⟨w.heap.size, 0, none⟩)) a := by rw [hwb]; exact PAut.box hr _
  have hnb : New w wb := by rw [hwb]; exact (by repeat (first | with_reducible exact New.refl _ | with_reducible assumption | with_reducible refine New.alloc ?_ _ | with_reducible refine New.drew ?_ | with_reducible refine New.drewN ?_ _ | with_reducible refine New.setCell ?_ (by simp <;> omega) _))
  have hzb : wb.heap.size = w.heap.size + 1 := by rw [hwb]; simp only [size_alloc]
  have hb0 : wb.cell? ⟨w.heap.size, 0, none⟩ = some (.int .i64 a.n) := by rw [hwb]; go_simp
  obtain ⟨R, hR⟩ : ∃ R, R = LeastCongruence a s t := ⟨_, rfl⟩
  rw [← hR]
  unfold LeastCongruence LeastCongruenceR at hR
  have HR := hid hR
  have C1 := l01Ok_any _ a _ hp
  clear hR
  cases ha : autOk a with
  | false =>
    rw [ha] at C1
    go_enter Try.func43, Try.ntmps43
    go_wp2_with fail
    rw [← hwb]
    refine C1.mono ?_
    rintro e w1 ⟨rfl, hn1⟩
    have hz1 := hn1.size
    go_wp2
    go_ret2
    have e : R = ([], 1) := by rw [HR.out, ha]; rfl
    rw [e]
    exact ⟨_, rfl, (by repeat (first | with_reducible exact New.refl _ | with_reducible assumption | with_reducible refine New.alloc ?_ _ | with_reducible refine New.drewN ?_ _ | with_reducible refine New.drew ?_ | with_reducible refine New.trans ?_ (by with_reducible assumption))), OwnInts.none' _ (by (try simp only [size_alloc, size_drew, size_drewN, size_setCell] at *) <;> omega) (by (try simp only [size_alloc, size_drew, size_drewN, size_setCell] at *) <;> omega)⟩
  | true =>
    rw [ha] at C1
    have han := autOk_n ha
    obtain ⟨n1, n2⟩ := han
    have HA := hid ha
    clear ha
    have C2 := l00In_any s 0 (a.n - 1)
    have C3 := l00In_any t 0 (a.n - 1)
    cases hs : inB s 0 (a.n - 1) with
    | false =>
      rw [hs] at C2
      go_enter Try.func43, Try.ntmps43
      go_wp2_with fail
      rw [← hwb]
      refine C1.mono ?_
      rintro e w1 ⟨rfl, hn1⟩
      have hz1 := hn1.size
      replace hb0 := hn1.cell hb0
      go_wp2_with fail
      refine (C2 _).mono ?_
      rintro e w' ⟨rfl, rfl⟩
      go_wp2
      go_ret2
      have e : R = ([], 2) := by rw [HR.out, HA.out, hs]; rfl
      rw [e]
      exact ⟨_, rfl, (by repeat (first | with_reducible exact New.refl _ | with_reducible assumption | with_reducible refine New.alloc ?_ _ | with_reducible refine New.drewN ?_ _ | with_reducible refine New.drew ?_ | with_reducible refine New.trans ?_ (by with_reducible assumption))), OwnInts.none' _ (by (try simp only [size_alloc, size_drew, size_drewN, size_setCell] at *) <;> omega) (by (try simp only [size_alloc, size_drew, size_drewN, size_setCell] at *) <;> omega)⟩
    | true =>
      rw [hs] at C2
      cases ht : inB t 0 (a.n - 1) with
      | false =>
        rw [ht] at C3
        go_enter Try.func43, Try.ntmps43
        go_wp2_with fail
        rw [← hwb]
        refine C1.mono ?_
        rintro e w1 ⟨rfl, hn1⟩
        have hz1 := hn1.size
        replace hb0 := hn1.cell hb0
        go_wp2_with fail
        refine (C2 _).mono ?_
        rintro e w' ⟨rfl, rfl⟩
        go_wp2_with fail
        refine (C3 _).mono ?_
        rintro e w' ⟨rfl, rfl⟩
        go_wp2
        go_ret2
        have e : R = ([], 2) := by rw [HR.out, HA.out, hs, ht]; rfl
        rw [e]
        exact ⟨_, rfl, (by repeat (first | with_reducible exact New.refl _ | with_reducible assumption | with_reducible refine New.alloc ?_ _ | with_reducible refine New.drewN ?_ _ | with_reducible refine New.drew ?_ | with_reducible refine New.trans ?_ (by with_reducible assumption))), OwnInts.none' _ (by (try simp only [size_alloc, size_drew, size_drewN, size_setCell] at *) <;> omega) (by (try simp only [size_alloc, size_drew, size_drewN, size_setCell] at *) <;> omega)⟩
      | true =>
        rw [ht] at C3
        have hs' := (inB_iff _ _ _).1 hs
        have ht' := (inB_iff _ _ _).1 ht
        have e : R = (lcOf a s.toNat t.toNat, 0) := by rw [HR.out, if_pos HA.out, if_pos (by rw [hs, ht]; rfl)]
        have HE := hid e
        have C4 := fun w1 => l01All_any a.n w1 (by omega) (by omega)
        have hil := iota_length 0 a.n.toNat
        have HM := hid (LMarks.start HA.out s.toNat t.toNat (by omega) (by omega))
        rw [show ((s.toNat : Nat) : Int) = s by omega, show ((t.toNat : Nat) : Int) = t by omega] at HM
        have HS := hid (show s.toNat < a.n.toNat ∧ t.toNat < a.n.toNat by omega)
        have HIL := hid (show (iota 0 a.n.toNat).length ≤ 1000 ∧ 0 < (iota 0 a.n.toNat).length by omega)
        clear e hs ht hs' ht' hil
        go_enter Try.func43, Try.ntmps43
        go_wp2_with fail
        rw [← hwb]
        refine C1.mono ?_
        rintro e w1 ⟨rfl, hn1⟩
        have hz1 := hn1.size
        replace hb0 := hn1.cell hb0
        replace hp := hp.new hn1
        go_wp2_with fail
        refine (C2 _).mono ?_
        rintro e w' ⟨rfl, rfl⟩
        go_wp2_with fail
        refine (C3 _).mono ?_
        rintro e w' ⟨rfl, rfl⟩
        go_wp2_with fail
        refine (C4 _).mono ?_
        rintro e w2 ⟨r, he, hn2, ho⟩
        obtain ⟨b, off, c3, rfl⟩ := ho.addr HIL.out.2
        subst he
        have hz2 := hn2.size
        go_wp2_with fail
        refine (l01Merge_any b off _ c3 _ s t _ ho HIL.out.1).mono ?_
        rintro e w3 ⟨rfl, ho3, hg3⟩
        have hz3 := hg3.size
        have hn3 := hn2.wr hg3 ho.cells.2.1
        go_wp2_with fail
        refine (l01Least_any _ _ a _ s.toNat t.toNat _ _ hp hn3 HA.out HS.out.1 HS.out.2 ho3 (by omega) HM.out).mono ?_
        rintro e w4 ⟨r4, rfl, hn4, ho4⟩
        go_wp2
        go_ret2
        rw [HE.out]
        exact ⟨_, rfl, (hnb.trans hn1).trans hn4, ho4.widen (by omega) (Nat.le_refl _)⟩

end Go.Proofs.Ytjchopnglcjnnaa
