/- The law BookQuota: the walk. -/
import Derived.Test.YtgfhaldfjnepmaaBk23
namespace Go.Proofs.Ytgfhaldfjnepmaa
open Go Go.RowKit Go.Shelf Go.Proofs
attribute [local go_sem] Oper.semAt_some

theorem cell_below {w w' : World} (hb : Below w.heap.size w w') {p : Addr} {v : Value} (h : w.cell? p = some v) : w'.cell? p = some v := (hb.cell (block_lt_of_cell h)).trans h

theorem prow_isp {w : World} {B n c : Nat} {a : Option Addr} {ps : PS} (h : PRow w B (.slice a n c) ps) (hs : ∀ p ∈ ps, p.1.size ≤ 1000 ∧ p.2.size ≤ 1000) : IsPairs w a ps.length ps := by
  obtain ⟨a', c', e, h1, _⟩ := prow_is h hs
  cases e
  exact h1

theorem same_true {w : World} {pa qa : Option Addr} {pc qc : Nat} {ps qs : PS} (h1 : IsPairs w pa ps.length ps) (h2 : IsPairs w qa qs.length qs) (he : ps = qs) (l1 : ps.length < 100000) (l2 : qs.length < 100000) :
    Calls Try.prog 32 #[.slice pa ps.length pc, .slice qa qs.length qc] w fun e w' => e = .returned (.bool true) ∧ Below w.heap.size w w' := by
  have := same_any pa ps.length pc ps qa qs.length qc qs w h1 h2 l1 l2
  rw [decide_eq_true he] at this
  exact this

theorem calls_below {f : FuncId} {args : Array Value} {w : World} {v : Value} (h : Calls Try.prog f args w fun e w' => e = .returned v ∧ w' = w) : Calls Try.prog f args w fun e w' => e = .returned v ∧ Below w.heap.size w w' :=
  h.mono (fun e w' ⟨h1, h2⟩ => ⟨h1, by rw [h2]; exact Below.refl _ _⟩)

theorem calls_val {f : FuncId} {args : Array Value} {w : World} {v v' : Value} (hv : v = v') (h : Calls Try.prog f args w fun e w' => e = .returned v ∧ Below w.heap.size w w') : Calls Try.prog f args w fun e w' => e = .returned v' ∧ Below w.heap.size w w' := by
  rw [← hv]; exact h

theorem putE_cases (K M : Nat) (ps : PS) (s x : ByteArray) : putE K M ps s x = 0 ∨ putE K M ps s x = 2 ∨ putE K M ps s x = 10 := by
  unfold putE; split
  · split <;> simp
  · simp

theorem actE_cases (K M : Nat) (ps : PS) (d : Deed) : actE K M ps d = 0 ∨ actE K M ps d = 2 ∨ actE K M ps d = 5 ∨ actE K M ps d = 9 ∨ actE K M ps d = 10 := by
  unfold actE
  split
  · rcases getE_cases ps d.key with e | e | e <;> simp [e]
  · split
    · unfold swapE
      rcases thereE_cases ps d.key [d.old, d.value] with e | e | e
      · rw [if_pos e]
        split
        · rcases putE_cases K M ps d.key d.value with e | e | e <;> simp [e]
        · simp
      · rw [if_neg (by rw [e]; decide), e]; simp
      · rw [if_neg (by rw [e]; decide), e]; simp
    · split
      · unfold scanE
        split
        · split <;> simp
        · simp
      · rcases putE_cases K M ps d.key d.value with e | e | e <;> simp [e]

set_option maxRecDepth 100000 in
set_option maxHeartbeats 8000000 in
theorem law_BookQuota (K M : Nat) (hK : K < 2 ^ 64) (hM : M < 2 ^ 64) (a : Option Addr) (len cap : Nat) (ds : List Deed) (w : World) (hds : IsDeeds w a len ds) :
    Calls Try.prog 9 #[.agg #[.int .u64 K, .int .u64 M], .slice a len cap] w fun e w' => e = .returned (.bool true) ∧ Below w.heap.size w w' := by
  obtain ⟨w1, hw1⟩ : ∃ w1, w1 = w.alloc (.cells #[.int .u64 K, .int .u64 M] 41) := ⟨_, rfl⟩
  have hB1 : Below w.heap.size w w1 := by rw [hw1]; exact (Below.refl w.heap.size w).alloc (Nat.le_refl _) _
  have hl0 : w1.heap[w.heap.size]? = some (.cells #[.int .u64 K, .int .u64 M] 41) := by rw [hw1]; exact World.alloc_heap_new _ _
  have hs1 : w1.heap.size = w.heap.size + 1 := by rw [hw1]; simp
  have HDS := Lib.hid (fun w' (hb : Below w1.heap.size w1 w') => (hds.below hB1).below hb)
  have HL := Lib.hid (fun w' (hb : Below w1.heap.size w1 w') => (show w'.cell? ⟨w.heap.size, 0, none⟩ = some (.int .u64 K) ∧ w'.cell? ⟨w.heap.size, 1, none⟩ = some (.int .u64 M) by
    have e := (hb.block w.heap.size (by omega)).trans hl0
    constructor <;> simp [World.cell?, e]))
  have hlen := hds.2.1
  clear hds hl0
  go_enter Try.func9, Try.ntmps9
  go_wp2_with (first
    | (go_at_call 27; refine (awake_any _).mono ?_; rintro e w2 ⟨rfl, hn2⟩; rw [← hw1] at hn2; obtain ⟨c1, c2⟩ := HL.out _ hn2)
    | (go_at_call 28; refine (new_any K M _ hK hM).mono ?_; rintro e w3 ⟨b, m, rfl, hbk, hn3⟩))
  clear hw1 c1 c2
  have hB3 : Below w1.heap.size w1 w3 := hn2.trans (hn3.mono hn2.size)
  have hsz2 := hn2.size
  have hsz3 := hn3.size
  have HBK := Lib.hid hbk
  have hle3 := Nat.le_refl w2.heap.size
  clear hbk
  go_loopw [6, 7, 8, 9] (fun i _ _ _ wr => ∃ (k : Nat) (v : Value) (ps : PS), k ≤ len ∧ k ≤ 80 ∧ i = .int .i64 k ∧ Hid (BookAt wr w2.heap.size b m v K M ps) ∧ ps.length ≤ k ∧ Below w1.heap.size w1 wr ∧ w2.heap.size ≤ wr.heap.size) (fun i _ _ _ _ => 80 - (intOf i).toNat)
  case atStart => exact ⟨0, _, [], Nat.zero_le _, by omega, rfl, HBK, Nat.le_refl _, hB3, hsz3⟩
  case round =>
    obtain ⟨k, v, ps, hk, hk80, rfl, HB, hpl, hBr, hszr⟩ := hrel
    clear HBK hB3 hn3 hsz3 hle3
    by_cases hk1 : k < len
    · by_cases hk2 : k < 80
      · obtain ⟨g, off, d, rfl, hd, d0, d1, d2, d3, d4, z1, z2, z3, z4, z5⟩ := deed_cells_at (HDS.out _ (Below.refl _ _)) hk1
        have HDC := Lib.hid (fun w' (hb : Below w1.heap.size w1 w') => And.intro (cell_below hb d0) (And.intro (cell_below hb d1) (And.intro (cell_below hb d2) (And.intro (cell_below hb d3) (cell_below hb d4)))))
        clear d0 d1 d2 d3 d4
        obtain ⟨d0, d1, d2, d3, d4⟩ := HDC.out _ hBr
        cases hfit : fitsB d with
        | false =>
          have HF := Lib.hid (fits_any d wr z1 z2 z3)
          rw [hfit] at HF
          clear hd
          go_wp2_with (go_at_call 29; refine HF.out.mono ?_; rintro e w4 ⟨rfl, hn4⟩)
          have HB4 := Lib.hid (HB.out.below hn4)
          have hsz4 := Nat.le_trans hszr hn4.size
          go_roundw
          case rel => exact ⟨k + 1, v, ps, by omega, by omega, by go_num, HB4, by omega, hBr.trans (hn4.mono hBr.size), hsz4⟩
          case measure => simp [intOf]; omega
        | true =>
          have HF := Lib.hid (fits_any d wr z1 z2 z3)
          rw [hfit] at HF
          have hf2 := hfit
          simp only [fitsB, Bool.and_eq_true, decide_eq_true_eq] at hf2
          have HP1 := Lib.hid (fun w4 (hb : Below wr.heap.size wr w4) => pairs_any w4 (HB.out.below hb) (by omega))
          have HAL := actQ_len (K := K) (M := M) HB.out.sorted d
          have HSM := Lib.hid HB.out.small
          have HSO := Lib.hid HB.out.sorted
          have HAF := Lib.hid (act_fails (K := K) (M := M) (ps := ps) (d := d))
          have HAQ := Lib.hid (act_quota (K := K) (M := M) HB.out.sorted (d := d))
          have HA := Lib.hid (fun w4 (hb : Below wr.heap.size wr w4) => act_any w4 (HB.out.below hb) (by omega) (by have := hb.size; omega) d (by omega) (by omega) (by omega) z4 z5)
          have hEc := actE_cases K M ps d
          generalize hE : actE K M ps d = E at HA HAF HAQ hEc
          clear hE hd
          rcases hEc with rfl | rfl | rfl | rfl | rfl
          all_goals
            go_wp2_with (first
              | (go_at_call 29; refine HF.out.mono ?_; rintro e w4 ⟨rfl, hn4⟩)
              | (go_at_call 30; refine (HP1.out _ hn4).mono ?_; clear HP1; rintro e w5 ⟨pv, rfl, hp5, hn5⟩; obtain ⟨pa, pc, rfl, _⟩ := prow_is hp5 (fun p hp => ⟨Nat.le_trans (HSM.out p hp).1 (by omega), Nat.le_trans (HSM.out p hp).2 (by omega)⟩); have hr5 := hn4.trans (hn5.mono hn4.size); have hb5 := hBr.trans (hr5.mono hBr.size); obtain ⟨d0, d1, d2, d3, d4⟩ := HDC.out _ hb5)
              | (go_at_call 31; refine (HA.out _ hr5).mono ?_; clear HA; rintro e w6 ⟨rfl, v', hk6, ht6⟩; have hp6 := prow_turned (HB.out.below hr5) ht6 hp5; have hlow := Turned.below (HB.out.below hr5) ht6 (by have := hr5.size; omega); have hb6 := hb5.trans (hlow.mono (by omega)); have hsz6 := ht6.size)
              | (go_at_call 30; refine (pairs_any _ hk6 (by omega)).mono ?_; rintro e w7 ⟨qv, rfl, hp7, hn7⟩; obtain ⟨qa, qc, rfl, hi7, _⟩ := prow_is hp7 (fun p hp => ⟨Nat.le_trans (hk6.small p hp).1 (by omega), Nat.le_trans (hk6.small p hp).2 (by omega)⟩); have hb7 := hb6.trans (hn7.mono hb6.size)))
            have hp7' := prow_isp (prow_below hn7 hp6) (fun p hp => ⟨Nat.le_trans (HSM.out p hp).1 (by omega), Nat.le_trans (HSM.out p hp).2 (by omega)⟩)
            have hk7 := hk6.below hn7
            have iK : ¬ (K : Int) < (((actQ K M ps d).length : Nat) : Int) := by have := hk7.keys; omega
            have iM : ¬ (M : Int) < ((totP (actQ K M ps d) : Nat) : Int) := by have := hk7.bytes; omega
            have HS := Lib.hid (fun (hq : actQ K M ps d = ps) Wx (hb : Below w7.heap.size w7 Wx) => same_true (hp7'.below hb) (hi7.below hb) (pc := pc) (qc := qc) hq.symm (by omega) (by omega))
            have HCT := Lib.hid (fun Wx (hb : Below w7.heap.size w7 Wx) => counted_any Wx (hk7.below hb) (by omega) qa qc (hi7.below hb))
            have HKY := Lib.hid (fun Wx (hb : Below w7.heap.size w7 Wx) => calls_below (keys_any Wx (hk7.below hb) (by omega)))
            have HBY := Lib.hid (fun Wx (hb : Below w7.heap.size w7 Wx) => calls_below (bytes_any Wx (hk7.below hb)))
            have HEX := Lib.hid (fun Wx (hb : Below w7.heap.size w7 Wx) => exceeds_any K M hK hM pa pc ps Wx (hp7'.below hb) (by omega) HSM.out d (by omega) (by omega))
            obtain ⟨l0, l1⟩ := HL.out _ hb7
            have lc0 := fun dd os => cell_regrown l0 dd os
            have lc1 := fun dd os => cell_regrown l1 dd os
            have HBK7 := Lib.hid hk7
            have hsz7 := hn7.size
            clear hp7' hk7 hp5 hp6 hk6 ht6 hp7 hi7 d0 d1 d2 d3 d4 l0 l1
            refine wp_region_quiet_below (by kernel_rfl) (by kernel_rfl) ?_
            repeat (go_big_quiet_step (first
              | (go_at_call 32; exact Calls.regrown_of (HS.out (HAF.out (by decide)) _ (below_regrown _ _ _)))
              | (go_at_call 33; exact Calls.regrown_of (HCT.out _ (below_regrown _ _ _)))
              | (go_at_call 34; exact Calls.regrown_of (HKY.out _ (below_regrown _ _ _)))
              | (go_at_call 35; exact Calls.regrown_of (HBY.out _ (below_regrown _ _ _)))))
            refine wpQuiet_nil ?_
            intro _ hw'
            obtain ⟨⟨dq, osq⟩, rfl⟩ := hw'
            have hg8 := below_regrown w7 dq osq
            clear lc0 lc1
            generalize Sort.grow (redrawn w7 dq) osq = w8 at hg8 ⊢
            have hb8 := hb7.trans (hg8.mono hb7.size)
            obtain ⟨l0, l1⟩ := HL.out _ hb8
            obtain ⟨d0, d1, d2, d3, d4⟩ := HDC.out _ hb8
            have lc0 := fun dd os => cell_regrown l0 dd os
            have lc1 := fun dd os => cell_regrown l1 dd os
            have dc0 := fun dd os => cell_regrown d0 dd os
            have dc1 := fun dd os => cell_regrown d1 dd os
            have dc2 := fun dd os => cell_regrown d2 dd os
            have dc3 := fun dd os => cell_regrown d3 dd os
            have dc4 := fun dd os => cell_regrown d4 dd os
            have HEX8 := Lib.hid (fun (he : excB K M ps d = true) Wx (hb : Below w8.heap.size w8 Wx) => calls_val (v' := .bool true) (by rw [he]) (HEX.out Wx (hg8.trans (hb.mono hg8.size))))
            unfold deedV at HEX8
            have HAQ2 := Lib.hid (fun (Wx : World) (h10 : excB K M ps d = true) (hb : Below w8.heap.size w8 Wx) => HEX8.out h10 Wx hb)
            go_wp2_with fail
            refine wp_region_quiet_below (by kernel_rfl) (by kernel_rfl) ?_
            repeat (go_big_quiet_step (first | (go_at_call 36; refine Calls.regrown_of (HAQ2.out _ ?_ (below_regrown _ _ _)); exact HAQ.out (by decide))))
            refine wpQuiet_nil ?_
            intro _ hw'
            obtain ⟨⟨dq2, osq2⟩, rfl⟩ := hw'
            have hg9 := below_regrown w8 dq2 osq2
            clear lc0 lc1 dc0 dc1 dc2 dc3 dc4
            generalize Sort.grow (redrawn w8 dq2) osq2 = w9 at hg9 ⊢
            have hg79 := hg8.trans (hg9.mono hg8.size)
            have hb9 := hb7.trans (hg79.mono hb7.size)
            have HB9 := Lib.hid (HBK7.out.below hg79)
            have hsz9 := hb9.size
            have hsz10 : w2.heap.size ≤ w9.heap.size := by have := hg79.size; have := hr5.size; omega
            go_wp2
            go_roundw
            case rel => exact ⟨k + 1, v', actQ K M ps d, by omega, by omega, by go_num, HB9, by omega, hb9, hsz10⟩
            case measure => simp [intOf]; omega
      · obtain rfl : k = 80 := by omega
        go_wp2
        go_ret
        exact ⟨rfl, hB1.trans (hBr.mono (by omega))⟩
    · obtain rfl : k = len := by omega
      go_wp2
      go_ret
      exact ⟨rfl, hB1.trans (hBr.mono (by omega))⟩

end Go.Proofs.Ytgfhaldfjnepmaa
