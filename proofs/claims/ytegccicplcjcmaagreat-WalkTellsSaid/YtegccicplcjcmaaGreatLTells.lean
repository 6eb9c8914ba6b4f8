/- Walk: the law WalkTells returns true, whatever the operations, the bounds and the number. -/
import Derived.Test.YtegccicplcjcmaaGreatWL3
namespace Go.Proofs.YtegccicplcjcmaaGreat
open Go Go.RowKit Go.Shelf Go.Proofs
attribute [local go_sem] Oper.semAt_some

theorem pick_val (x n : Int) (w : World) (h : 1 ≤ n) (h2 : n ≤ 4611686018427387904) :
    Calls Tryz.prog 8 #[.int .i64 x, .int .i64 n] w fun e w' => e = .returned (.int .i64 (x % n)) ∧ Below w.heap.size w w' := by
  refine (pick_any x n w h h2).mono ?_
  rintro e w' ⟨⟨k, rfl, _, e2⟩, rfl⟩
  exact ⟨by rw [e2], Below.refl _ _⟩

set_option linter.unusedVariables false in
set_option maxRecDepth 100000 in
set_option maxHeartbeats 8000000 in
theorem law_WalkTells (a : Option Addr) (len cap : Nat) (ds : List Deed) (s : ByteArray) (hs : s.size ≤ 140737488351232) (t : ByteArray) (ht : t.size ≤ 140737488351232) (n : Int) (hn : -9223372036854775808 ≤ n ∧ n ≤ 9223372036854775807) (w : World) (hds : IsDeeds w a len ds) :
    Calls Tryz.prog 3 #[.slice a len cap, .string s, .string t, .int .i64 n] w fun e w' => e = .returned (.bool true) ∧ Below w.heap.size w w' := by
  by_cases hbig : 200 < s.size ∨ 200 < t.size
  · by_cases h1 : 200 < s.size
    · have i1 : (200 : Int) < (s.size : Int) := by omega
      go_enter Tryz.func3, Tryz.ntmps3
      go_wp2_with (go_at_call 4; refine (awake_any _).mono ?_; rintro e w3 ⟨rfl, hb3⟩)
      go_ret
      exact ⟨rfl, hb3⟩
    · have i1 : decide ((200 : Int) < (s.size : Int)) = false := decide_eq_false (by omega)
      have i2 : (200 : Int) < (t.size : Int) := by omega
      go_enter Tryz.func3, Tryz.ntmps3
      go_wp2_with (go_at_call 4; refine (awake_any _).mono ?_; rintro e w3 ⟨rfl, hb3⟩)
      go_ret
      exact ⟨rfl, hb3⟩
  · have i1 : decide ((200 : Int) < (s.size : Int)) = false := decide_eq_false (by omega)
    have i2 : ¬ (200 : Int) < (t.size : Int) := by omega
    have HB := Lib.hid (fun (W : World) (b m : Nat) (v : Value) (hA : ArtAt W w.heap.size b m v []) (hb : Below w.heap.size w W) => both_any W hA (by decide) hb.size none 0 (prow_nil _ _) w (Nat.le_refl _) hb a len cap ds hds)
    clear hds
    go_enter Tryz.func3, Tryz.ntmps3
    go_wp2_with (first
      | (go_at_call 5; refine (anew_any _).mono ?_; rintro e w1 ⟨b, m, rfl, hA1, hb1⟩; have HB2 := HB.out w1 b m _ hA1 hb1)
      | (go_at_call 6; refine HB2.mono ?_; rintro e w2 ⟨a2, c2, v2, rfl, hp2, hA2, hT2⟩; have hb2 := hb1.trans (Turned.below hA1 hT2 hb1.size)))
    have hQs := hA2.sorted
    have hQl := bothQ_len (ps := []) List.Pairwise.nil ds
    generalize bothQ [] ds = Q at *
    obtain ⟨w3, hw3⟩ : ∃ w3, w3 = w2.alloc (.cells #[.slice a2 Q.length c2] 28) := ⟨_, rfl⟩
    rw [← hw3]
    have hal : Below w2.heap.size w2 w3 := by rw [hw3]; exact (Below.refl _ _).alloc (Nat.le_refl _) _
    have hb3 := hb2.trans (hal.mono hb2.size)
    have hc3 : w3.cell? ⟨w2.heap.size, 0, none⟩ = some (.slice a2 Q.length c2) := by rw [hw3]; simp
    have HS := Lib.hid (fun W (hb : Below w3.heap.size w3 W) => Src.art ((hA2.below hal).below hb))
    have hsm := (HS.out w3 (Below.refl _ _)).small'
    have HI := Lib.hid (fun W (hb : Below w3.heap.size w3 W) => (prow_in (prow_below hal hp2) hsm).1.below hb)
    have HSA := Lib.hid (fun W (hb : Below w3.heap.size w3 W) (s t : ByteArray) (hs : s.size ≤ 281474976710656) (n : Int) => wsame_any a2 Q.length c2 Q W (HS.out W hb) (HI.out W hb) (by simp at hQl; omega) s t hs n)
    have k1 := fun d os => cell_regrown hc3 d os
    clear hw3 hp2 hA2 hT2 hA1 HB2 hal hc3 hsm hQs hQl
    have hp9 := Lib.hid (fun W => pick_val n 9 W (by decide) (by decide))
    refine wp_region_quiet_below (by kernel_rfl) (by kernel_rfl) ?_
    repeat (go_big_quiet_step (first
      | (go_at_call 7; exact Calls.regrown_of (HSA.out _ (below_regrown _ _ _) _ _ (by omega) _))
      | (go_at_call 8; exact Calls.regrown_of (hp9.out _))
      | (go_at_call 4; exact Calls.regrown_of (awake_any _))))
    refine wpQuiet_nil ?_
    intro _ hw'
    obtain ⟨⟨dq, osq⟩, rfl⟩ := hw'
    have hg9 := below_regrown w3 dq osq
    clear k1
    generalize Sort.grow (redrawn w3 dq) osq = w9 at hg9 ⊢
    have hb9 := hb3.trans (hg9.mono hb3.size)
    go_wp2
    go_ret
    exact ⟨rfl, hb9⟩

end Go.Proofs.YtegccicplcjcmaaGreat
