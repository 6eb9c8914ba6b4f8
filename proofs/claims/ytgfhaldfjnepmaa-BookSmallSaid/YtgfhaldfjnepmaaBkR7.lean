/- Walk: Scan of the reference model of a book. -/
import Derived.Test.YtgfhaldfjnepmaaBkR6
namespace Go.Proofs.Ytgfhaldfjnepmaa
open Go Go.RowKit Go.Shelf Go.Proofs
attribute [local go_sem] Oper.semAt_some

theorem scan_big {ps : PS} {s : ByteArray} {n : Int} (h : ¬ s.size ≤ 16 ∨ n < 0 ∨ 4096 < n) : scanE s n = 2 ∧ scanL ps s n = [] := by
  have e : scanE s n = 2 := by
    unfold scanE
    rcases mayE_or s [] with e | e
    · rw [if_pos e]
      rcases h with h | h
      · exact absurd (mayE_zero.1 e).1 h
      · rw [if_pos h]
    · rw [if_neg (by omega)]
  unfold scanL
  rw [e]
  exact ⟨rfl, rfl⟩

theorem scan_small {ps : PS} {s : ByteArray} {n : Int} (h : s.size ≤ 16) (h1 : 0 ≤ n) (h2 : n ≤ 4096) : scanE s n = 0 ∧ scanL ps s n = (ps.drop (posP ps s)).take n.toNat := by
  have e : scanE s n = 0 := by
    unfold scanE
    rw [if_pos (mayE_zero.2 ⟨h, by simp⟩), if_neg (by omega)]
  unfold scanL
  rw [e]
  exact ⟨rfl, rfl⟩

theorem ispairs_ite_take {w : World} {g : Nat} {len cap : Nat} {ps : PS} (h : IsPairs w (some ⟨g, 0, none⟩) len ps) (hc : len ≤ cap) {n m : Nat} (hn : n ≤ len) (hm : m ≤ len - n) : IsPairs w (if cap = n then some ⟨g, 0, none⟩ else some ⟨g, n * 2, none⟩) m ((ps.drop n).take m) :=
  ispairs_take (ispairs_ite h hc hn) hm

set_option maxRecDepth 100000 in
set_option maxHeartbeats 4000000 in
theorem refscan_any {B : Nat} (a : Option Addr) (cap K M : Nat) (ps : PS) (w : World) (h : PRow w B (.slice a ps.length cap) ps) (hl : ps.length < 80000) (hs : SortedP ps) (hsm : ∀ p ∈ ps, p.1.size ≤ 16 ∧ p.2.size ≤ 32) (s : ByteArray) (hs1 : s.size ≤ 140737488351232) (n : Int) (hn1 : -9223372036854775808 ≤ n) (hn2 : n ≤ 9223372036854775807) :
    Calls Try.prog 40 #[.agg #[.slice a ps.length cap, .int .u64 K, .int .u64 M], .string s, .int .i64 n] w fun e w' => ∃ pv, e = .returned (.tuple #[pv, .int .i64 (scanE s n)]) ∧ PRow w' w.heap.size pv (scanL ps s n) ∧ Below w.heap.size w w' := by
  obtain ⟨w1, hw1⟩ : ∃ w1, w1 = w.alloc (.cells #[.slice a ps.length cap, .int .u64 K, .int .u64 M] 62) := ⟨_, rfl⟩
  have hB1 : Below w.heap.size w w1 := by rw [hw1]; exact (Below.refl _ _).alloc (Nat.le_refl _) _
  have hs1' : w1.heap.size = w.heap.size + 1 := by rw [hw1]; simp
  by_cases hbig : ¬ s.size ≤ 16 ∨ n < 0 ∨ 4096 < n
  · obtain ⟨q1, q2⟩ := scan_big (ps := ps) hbig
    rw [q1, q2]
    clear q1 q2
    by_cases h16 : s.size ≤ 16
    · have i16 : decide ((16 : Int) < (s.size : Int)) = false := decide_eq_false (by omega)
      by_cases hn0 : n < 0
      · go_enter Try.func40, Try.ntmps40
        go_wp2
        go_ret2
        rw [← hw1]
        exact ⟨_, rfl, prow_nil _ _, hB1⟩
      · have hn0' : decide (n < 0) = false := decide_eq_false hn0
        have hn4 : 4096 < n := by omega
        go_enter Try.func40, Try.ntmps40
        go_wp2
        go_ret2
        rw [← hw1]
        exact ⟨_, rfl, prow_nil _ _, hB1⟩
    · have i16 : (16 : Int) < (s.size : Int) := by omega
      go_enter Try.func40, Try.ntmps40
      go_wp2
      go_ret2
      rw [← hw1]
      exact ⟨_, rfl, prow_nil _ _, hB1⟩
  · have h16 : s.size ≤ 16 := Classical.byContradiction (fun h => hbig (.inl h))
    have i16 : decide ((16 : Int) < (s.size : Int)) = false := decide_eq_false (by omega)
    have hn0' : decide (n < 0) = false := decide_eq_false (by omega)
    have hn4 : ¬ 4096 < n := by omega
    obtain ⟨q1, q2⟩ := scan_small (ps := ps) (n := n) h16 (by omega) (by omega)
    rw [q1, q2]
    obtain ⟨N, rfl⟩ : ∃ N : Nat, n = (N : Int) := Int.eq_ofNat_of_zero_le (by omega)
    clear q1 q2 hbig
    have hsm' : ∀ p ∈ ps, p.1.size ≤ 1000 ∧ p.2.size ≤ 1000 := fun p hp => by have := hsm p hp; omega
    obtain ⟨hp, hc1, hc2, hsh⟩ := prow_in (prow_below hB1 h) hsm'
    have HC := Lib.hid (refbox w (.slice a ps.length cap) (.int .u64 K) (.int .u64 M))
    rw [← hw1, ← hs1'] at HC
    have HP := Lib.hid hp
    have HA := Lib.hid (fun W (hb : Below w1.heap.size w1 W) => refat_any a ps.length cap K M ps W (HP.out.below hb) (by omega) hs s)
    have hpl := posP_le ps s
    obtain ⟨c0, c1, c2⟩ := HC.out _ (Below.refl _ _)
    clear h hp
    generalize posP ps s = p at *
    simp only [Int.toNat_natCast]
    have hmn : min (N : Int) ((ps.length - p : Nat) : Int) = ((min N (ps.length - p) : Nat) : Int) := by omega
    have HT : Hid ((ps.drop p).take N = (ps.drop p).take (min N (ps.length - p))) := Lib.hid (by rw [← List.length_drop, ← List.take_eq_take_min])
    rw [HT.out]
    have HQL : Hid (((ps.drop p).take (min N (ps.length - p))).length = min N (ps.length - p)) := Lib.hid (by simp)
    have hqle : min N (ps.length - p) ≤ ps.length - p := Nat.min_le_right _ _
    clear HT
    generalize min N (ps.length - p) = q at *
    have k0 := fun dd os => cell_regrown c0 dd os
    have k1 := fun dd os => cell_regrown c1 dd os
    have k2 := fun dd os => cell_regrown c2 dd os
    have ipl : (p : Int) ≤ (ps.length : Int) := by omega
    rcases hsh with ⟨rfl, rfl, rfl⟩ | ⟨g, rfl⟩
    · obtain rfl : p = 0 := by simpa using hpl
      obtain rfl : q = 0 := by simpa using hqle
      simp only [List.length_nil] at hw1 c0 k0 HA
      replace hmn : min (N : Int) 0 = 0 := by omega
      go_enter Try.func40, Try.ntmps40
      go_wp2
      rw [← hw1]
      clear hw1
      refine wp_region_quiet_below (by kernel_rfl) (by kernel_rfl) ?_
      repeat (go_big_quiet_step (first | (go_at_call 70; exact Calls.regrown_of (HA.out _ (below_regrown _ _ _)))))
      refine wpQuiet_nil ?_
      intro _ hw'
      obtain ⟨⟨dq, osq⟩, rfl⟩ := hw'
      have hg8 := below_regrown w1 dq osq
      clear k0 k1 k2
      generalize Sort.grow (redrawn w1 dq) osq = w8 at hg8 ⊢
      have hb8 := hg8.alloc hg8.size (.cells #[] 57)
      go_wp2
      go_ret2
      exact ⟨.slice (some ⟨w8.heap.size, 0, none⟩) 0 0, rfl, ownsRow_base (pown_zero w8 w1.heap.size hg8.size) (show w.heap.size ≤ w1.heap.size by omega), hB1.trans (hb8.mono (by omega))⟩
    · have HI1 : Hid (∀ W, Below w1.heap.size w1 W → IsPairs W (if cap = p then some ⟨g, 0, none⟩ else some ⟨g, p * 2, none⟩) q ((ps.drop p).take q)) := Lib.hid (fun W hb => ispairs_ite_take (HP.out.below hb) hc1 hpl hqle)
      have hx : ∀ e : cap = p, q = 0 := fun e => by omega
      have hqc : (q : Int) ≤ ((cap - p : Nat) : Int) := by omega
      generalize hlen : ps.length = len at *
      by_cases hcp : cap = p
      · simp only [if_pos hcp] at HI1
        obtain rfl := hx hcp
        obtain rfl : len = p := by omega
        subst hcp
        replace hmn : min (N : Int) 0 = 0 := by omega
        go_enter Try.func40, Try.ntmps40
        go_wp2
        rw [← hw1]
        clear hw1
        refine wp_region_quiet_below (by kernel_rfl) (by kernel_rfl) ?_
        repeat (go_big_quiet_step (first | (go_at_call 70; exact Calls.regrown_of (HA.out _ (below_regrown _ _ _)))))
        refine wpQuiet_nil ?_
        intro _ hw'
        obtain ⟨⟨dq, osq⟩, rfl⟩ := hw'
        have hg8 := below_regrown w1 dq osq
        clear k0 k1 k2
        generalize Sort.grow (redrawn w1 dq) osq = w8 at hg8 ⊢
        have hb8 := hg8.alloc hg8.size (.cells #[] 57)
        go_wp2
        go_ret2
        rw [List.take_zero]
        exact ⟨.slice (some ⟨w8.heap.size, 0, none⟩) 0 0, rfl, ownsRow_base (pown_zero w8 w1.heap.size hg8.size) (show w.heap.size ≤ w1.heap.size by omega), hB1.trans (hb8.mono (by omega))⟩
      · simp only [if_neg hcp] at HI1
        go_enter Try.func40, Try.ntmps40
        go_wp2
        rw [← hw1]
        clear hw1
        refine wp_region_quiet_below (by kernel_rfl) (by kernel_rfl) ?_
        repeat (go_big_quiet_step (first | (go_at_call 70; exact Calls.regrown_of (HA.out _ (below_regrown _ _ _)))))
        refine wpQuiet_nil ?_
        intro _ hw'
        obtain ⟨⟨dq, osq⟩, rfl⟩ := hw'
        have hg8 := below_regrown w1 dq osq
        clear k0 k1 k2
        generalize Sort.grow (redrawn w1 dq) osq = w8 at hg8 ⊢
        have hb8 := hg8.alloc hg8.size (.cells #[] 57)
        go_wp2_with (at_builtin; refine wpList_appP _ rfl _ _ rfl w1.heap.size w8.heap.size 0 0 [] rfl (pown_zero w8 _ hg8.size) _ _ _ _ rfl (by simp) (HI1.out _ hb8) (by simp; have := hg8.size; omega) (by omega) ?_; intro g4 k4 w4 hown4 hgrow4; have hb4 : Below w1.heap.size w1 w4 := hb8.grown hgrow4 (by simp; have := hg8.size; omega) (fun k e => by cases e; exact hg8.size))
        go_ret2
        rw [Nat.zero_add, List.nil_append] at hown4
        have hown5 : PRow w4 w1.heap.size (.slice (some ⟨g4, 0, none⟩) q k4) ((ps.drop p).take q) := by unfold PRow; rw [HQL.out]; exact hown4
        exact ⟨_, rfl, ownsRow_base hown5 (show w.heap.size ≤ w1.heap.size by omega), hB1.trans (hb4.mono (by omega))⟩

end Go.Proofs.Ytgfhaldfjnepmaa
