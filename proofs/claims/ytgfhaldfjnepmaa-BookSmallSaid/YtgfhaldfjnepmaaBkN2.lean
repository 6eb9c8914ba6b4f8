/- Walk: the example of the books that do not exist returns true. -/
import Derived.Test.YtgfhaldfjnepmaaBkN
import Derived.Laws.MakeOwn
namespace Go.Proofs.Ytgfhaldfjnepmaa
open Go Go.RowKit Go.Shelf Go.Proofs Go.Sort
attribute [local go_sem] Oper.semAt_some

theorem infoU8 : (Try.prog.info? 5).map (fun i => (i.zero, i.size, i.bytes)) = some (some (.int .u8 0), 1, 1) := by kernel_rfl

/-- n zero bytes. -/
def zerosB (n : Nat) : ByteArray := ⟨(List.replicate n (0 : UInt8)).toArray⟩
theorem zerosB_size (n : Nat) : (zerosB n).size = n := by simp [zerosB, ByteArray.size]

/-- make([]byte, n), and its text. -/
theorem makeB (n : Nat) (hn : n < 100000) (w : World) : ∃ cur : Array Value, (Instr.makeSlice 74 (.int .i64 (n : Int)) (.int .i64 (n : Int))).run Try.prog w = .ok (.slice (some ⟨w.heap.size, 0, none⟩) n n) (w.alloc (.cells cur 5)) ∧
    BytesAt (w.alloc (.cells cur 5)) (.slice (some ⟨w.heap.size, 0, none⟩) n n) (zerosB n) := by
  obtain ⟨i0, hi, hz0, hz1, hz2⟩ := info_parts2 infoU8
  refine ⟨_, run_makeSlice (P := Try.prog) (w := w) 74 5 i0 _ Try.underlying74 hi hz0 .i64 .i64 n n (by omega) (Int.le_refl _) (by rw [hz1]; omega) (by rw [hz2]; omega) (by omega), ?_⟩
  refine ⟨w.heap.size, n, _, (0, 0), by rw [zerosB_size], World.alloc_heap_new _ _, fun j hj => ?_⟩
  have hj2 : j < n := by simpa [zerosB] using hj
  simp [madeCells, hz1, hj2, zerosB, Value.cells, Nat.mod_one]

set_option linter.unusedVariables false in
set_option maxRecDepth 100000 in
set_option maxHeartbeats 8000000 in
theorem none_law (w : World) : Calls Try.prog 44 #[] w fun e w' => e = .returned (.bool true) ∧ Below w.heap.size w w' := by
  obtain ⟨w1, hw1⟩ : ∃ w1, w1 = (w.alloc (.cells #[.slice none 0 0, .map none, .int .u64 0, .int .u64 0, .int .u64 0] 95)).alloc (.cells #[.pointer none, .pointer (some ⟨w.heap.size, 0, none⟩)] 43) := ⟨_, rfl⟩
  have hb1 : Below w.heap.size w w1 := by rw [hw1]; exact ((Below.refl _ _).alloc (Nat.le_refl _) _).alloc (by simp) _
  have hz1 : w1.heap[w.heap.size]? = some (.cells #[.slice none 0 0, .map none, .int .u64 0, .int .u64 0, .int .u64 0] 95 (0, 0)) := by rw [hw1]; exact key1 _ _ _ _ (World.alloc_heap_new _ _)
  have hp1 : w1.heap[w.heap.size + 1]? = some (.cells #[.pointer none, .pointer (some ⟨w.heap.size, 0, none⟩)] 43 (0, 0)) := by
    rw [hw1]
    have := World.alloc_heap_new (w.alloc (.cells #[.slice none 0 0, .map none, .int .u64 0, .int .u64 0, .int .u64 0] 95)) (.cells #[.pointer none, .pointer (some ⟨w.heap.size, 0, none⟩)] 43)
    rw [World.size_alloc] at this
    exact this
  have HP : Hid (∀ W, Below w1.heap.size w1 W → ∀ k, k < 2 → ∃ a0, W.cell? ⟨w.heap.size + 1, k, none⟩ = some (.pointer a0) ∧ NoBook W (.pointer a0)) := Lib.hid (fun W hb k hk => by
    obtain rfl | rfl : k = 0 ∨ k = 1 := by omega
    · exact ⟨_, nb_cell hb (by simp [World.cell?, hp1]), .none⟩
    · exact ⟨_, nb_cell hb (by simp [World.cell?, hp1]), NoBook.below (.zero _ hz1) hb⟩)
  have hB0 := Below.refl w1.heap.size w1
  clear hz1 hp1
  go_enter Try.func44, Try.ntmps44
  go_wp2_with fail
  rw [← hw1]
  clear hw1
  go_loopw [2] (fun i wr => ∃ k : Nat, k ≤ 2 ∧ i = .int .i64 k ∧ Below w1.heap.size w1 wr) (fun i _ => 2 - (intOf i).toNat)
  case atStart => exact ⟨0, by omega, rfl, hB0⟩
  case round =>
    clear hB0
    obtain ⟨k, hk, rfl, hBr⟩ := hrel
    by_cases hk2 : k < 2
    · have ik : decide ((k : Int) < 2) = true := decide_eq_true (by omega)
      have hkI : (k : Int) < 2 := by omega
      obtain ⟨a0, c0, hN⟩ := HP.out _ hBr k hk2
      have HNB := Lib.hid (fun W (hb : Below wr.heap.size wr W) => hN.below hb)
      clear hN
      have HMK := Lib.hid (fun W => makeB 20 (by decide) W)
      go_wp2_with (first
        | (go_at_call 45; refine (nb_get (HNB.out _ (Below.refl _ _)) _).mono ?_; rintro e w3 ⟨rfl, hb3⟩)
        | (go_at_call 37; refine (nb_scan (HNB.out _ hb3) _ _).mono ?_; rintro e w4 ⟨rfl, hn4⟩; have hb4 := hb3.trans (hn4.mono hb3.size))
        | (go_at_call 48; refine (nb_put (HNB.out _ hb4) _ _).mono ?_; rintro e w5 ⟨rfl, hn5⟩; have hb5 := hb4.trans (hn5.mono hb4.size); obtain ⟨cur, hmk, hbt⟩ := HMK.out w5; have hmk2 : (Instr.makeSlice 74 (.int .i64 20) (.int .i64 20)).run Try.prog w5 = .ok (.slice (some ⟨w5.heap.size, 0, none⟩) 20 20) (w5.alloc (.cells cur 5)) := hmk; have hcv := bytesAt_conv hbt; clear hmk hbt)
        | (go_at_call 46; refine (nb_del (HNB.out _ (hb5.alloc hb5.size _)) _).mono ?_; rintro e w6 ⟨rfl, hn6⟩; have hb6 := (hb5.alloc hb5.size _).trans (hn6.mono (hb5.alloc hb5.size _).size))
        | (go_at_call 47; refine (nb_swap (HNB.out _ hb6) _ _ _).mono ?_; rintro e w7 ⟨rfl, hn7⟩; have hb7 := hb6.trans (hn7.mono hb6.size))
        | (go_at_call 34; refine (nb_keys (HNB.out _ hb7)).mono ?_; rintro e w8 ⟨rfl, rfl⟩)
        | (go_at_call 35; refine (nb_bytes (HNB.out _ hb7)).mono ?_; rintro e w8 ⟨rfl, rfl⟩)
        | (go_at_call 30; refine (nb_pairs (HNB.out _ hb7)).mono ?_; rintro e w9 ⟨rfl, hn9⟩; have hb9 := hb7.trans (hn9.mono hb7.size))
        | (go_at_call 42; refine (nb_copy (HNB.out _ hb9)).mono ?_; rintro e w10 ⟨rfl, rfl⟩))
      go_roundw
      case rel => exact ⟨k + 1, by omega, by go_num, hBr.trans (hb9.mono hBr.size)⟩
      case measure => simp [intOf]; omega
    · have ik : decide ((k : Int) < 2) = false := decide_eq_false (by omega)
      go_wp2_with fail
      go_ret
      exact ⟨rfl, hb1.trans (hBr.mono hb1.size)⟩

end Go.Proofs.Ytgfhaldfjnepmaa
