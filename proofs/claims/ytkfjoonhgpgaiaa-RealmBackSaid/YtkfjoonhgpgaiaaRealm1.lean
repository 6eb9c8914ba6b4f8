/- Walks of the prefixes of tenants, the program's and the reference's. -/
import Derived.Test.YtkfjoonhgpgaiaaLex
import Derived.Test.YtkfjoonhgpgaiaaProg
import Derived.Lib.QuietBelow
namespace Go.Proofs.Ytkfjoonhgpgaiaa
open Go Go.RowKit Go.Shelf Go.Proofs Go.Sort
attribute [local go_sem] Oper.semAt_some

/-- The eight bytes of a small number. -/
def preL (n : Nat) : List UInt8 := [0, 0, 0, 0, 0, 0, 0, UInt8.ofNat n]

theorem isowner_any (n : Int) (w : World) :
    Calls Try.prog 64 #[.agg #[.int .i64 n]] w fun e w' => e = .returned (.bool (decide (1 ≤ n ∧ n ≤ 16))) ∧ Below w.heap.size w w' := by
  have hcase : n < 1 ∨ (¬ n < 1 ∧ 16 < n) ∨ (¬ n < 1 ∧ ¬ 16 < n) := by omega
  rcases hcase with h | ⟨h, h2⟩ | ⟨h, h2⟩
  · have hr : Hid (decide (1 ≤ n ∧ n ≤ 16) = false) := Lib.hid (decide_eq_false (by omega))
    have hd : decide (1 ≤ n) = false := decide_eq_false (by omega)
    go_enter Try.func64, Try.ntmps64
    go_wp2
    go_ret
    exact ⟨by first | rfl | exact ret_bool hr.out.symm, (Below.refl _ _).alloc (Nat.le_refl _) _⟩
  · have hr : Hid (decide (1 ≤ n ∧ n ≤ 16) = false) := Lib.hid (decide_eq_false (by omega))
    have hd : decide (1 ≤ n) = true := decide_eq_true (by omega)
    have hd2 : decide (n ≤ 16) = false := decide_eq_false (by omega)
    go_enter Try.func64, Try.ntmps64
    go_wp2
    go_ret
    exact ⟨by first | rfl | exact ret_bool hr.out.symm, (Below.refl _ _).alloc (Nat.le_refl _) _⟩
  · have hr : Hid (decide (1 ≤ n ∧ n ≤ 16) = true) := Lib.hid (decide_eq_true (by omega))
    have hd : decide (1 ≤ n) = true := decide_eq_true (by omega)
    have hd2 : decide (n ≤ 16) = true := decide_eq_true (by omega)
    go_enter Try.func64, Try.ntmps64
    go_wp2
    go_ret
    exact ⟨by first | rfl | exact ret_bool hr.out.symm, (Below.refl _ _).alloc (Nat.le_refl _) _⟩

/-- The array after k rounds. -/
def preA (n k : Nat) : Array Value := if k < 8 then #[.int .u8 0, .int .u8 0, .int .u8 0, .int .u8 0, .int .u8 0, .int .u8 0, .int .u8 0, .int .u8 0] else #[.int .u8 0, .int .u8 0, .int .u8 0, .int .u8 0, .int .u8 0, .int .u8 0, .int .u8 0, .int .u8 n]

theorem setCell_block {W : World} {B k : Nat} {c : Array Value} {t : TypeId} (h : W.heap[B]? = some (.cells c t (0, 0))) (v : Value) : (W.setCell ⟨B, k, none⟩ v).heap[B]? = some (.cells (c.setIfInBounds k v) t (0, 0)) := by
  obtain ⟨hl, hk⟩ := Array.getElem?_eq_some_iff.1 h
  show (W.heap.modify B _)[B]? = _
  rw [Array.getElem?_eq_getElem (by rw [Array.size_modify]; exact hl), Array.getElem_modify_self, hk]
  rfl

theorem preA_cell (n k j : Nat) (hj : j < 8) (hk : k < 8) (W : World) (B : Nat) (h : W.heap[B]? = some (.cells (preA n k) 89 (0, 0))) : W.cell? ⟨B, j, none⟩ = some (.int .u8 0) ∧ W.frozen? ⟨B, j, none⟩ = false := by
  unfold preA at h
  rw [if_pos hk] at h
  constructor
  · simp only [World.cell?, h]
    rcases j with _ | _ | _ | _ | _ | _ | _ | _ | j <;> first | rfl | omega
  · simp [World.frozen?, h]

theorem preA_cells (n : Nat) (W : World) (B : Nat) (h : W.heap[B]? = some (.cells (preA n 8) 89 (0, 0))) : (convert 44 9 (.slice (some ⟨B, 0, none⟩) 8 8)).run Try.prog W = .ok (.string (bs (preL n))) W := by
  rw [run_convert_bytes_string W 44 9 5 _ _ _ Try.underlying44 Try.underlying5 Try.underlying9]
  have hc := run_loadCells_list (P := Try.prog) (w := W) ⟨B, 0, none⟩ (([0, 0, 0, 0, 0, 0, 0, (n : Int)] : List Int).map (Value.int .u8)) (fun j u hj => by
    rw [Addr.add_lit, Nat.zero_add]
    simp only [World.cell?, h]
    rcases j with _ | _ | _ | _ | _ | _ | _ | _ | j <;> first | exact hj | (simp at hj))
  rw [List.length_map] at hc
  rw [run_bytesToString _ _ 8 8 _ hc]
  simp [preL, bs, ByteArray.empty, ByteArray.emptyWithCapacity, ByteArray.push]
  rfl

set_option maxRecDepth 100000 in
set_option maxHeartbeats 4000000 in
theorem prefix_any (n : Nat) (w : World) (hn : n ≤ 255) :
    Calls Try.prog 63 #[.agg #[.int .i64 n]] w fun e w' => e = .returned (.string (bs (preL n))) ∧ Below w.heap.size w w' := by
  go_enter Try.func63, Try.ntmps63
  go_wp2_with fail
  go_loopw [5] (fun i wr => ∃ k : Nat, k ≤ 8 ∧ i = .int .i64 k ∧ wr.heap[w.heap.size]? = some (.cells #[.int .i64 n] 73 (0, 0)) ∧ wr.heap[w.heap.size + 1]? = some (.cells (preA n k) 89 (0, 0)) ∧ Below w.heap.size w wr) (fun i _ => 8 - (intOf i).toNat)
  case atStart =>
    refine ⟨0, by omega, rfl, ?_, ?_, ((Below.refl _ w).alloc (Nat.le_refl _) _).alloc (by simp) _⟩
    · exact (Below.heap_alloc _ _ _ (by simp)).trans (World.alloc_heap_new _ _)
    · have := World.alloc_heap_new (w.alloc (.cells #[.int .i64 n] 73)) (.cells (preA n 0) 89)
      rw [World.size_alloc] at this
      exact this
  case round =>
    obtain ⟨k, hk, rfl, hc0, ha, hB⟩ := hrel
    have hc : wr.cell? ⟨w.heap.size, 0, none⟩ = some (.int .i64 n) := by simp [World.cell?, hc0]
    have HC0 := Lib.hid hc0
    have HA := Lib.hid ha
    clear hc0 ha
    rcases k with _ | _ | _ | _ | _ | _ | _ | _ | k
    · obtain ⟨cj, fj⟩ := preA_cell n 0 0 (by omega) (by omega) wr _ HA.out
      have hdiv : (n : Int) / 72057594037927936 = 0 := by omega
      go_wp2_with fail
      go_roundw
      case rel => exact ⟨1, by omega, rfl, (Below.heap_setCell _ _ _ _ (by simp)).trans HC0.out, setCell_block HA.out _, hB.setCell (p := ⟨w.heap.size + 1, 0, none⟩) (by simp) _⟩
      case measure => simp [intOf]
    · obtain ⟨cj, fj⟩ := preA_cell n 1 1 (by omega) (by omega) wr _ HA.out
      have hdiv : (n : Int) / 281474976710656 = 0 := by omega
      go_wp2_with fail
      go_roundw
      case rel => exact ⟨2, by omega, rfl, (Below.heap_setCell _ _ _ _ (by simp)).trans HC0.out, setCell_block HA.out _, hB.setCell (p := ⟨w.heap.size + 1, 1, none⟩) (by simp) _⟩
      case measure => simp [intOf]
    · obtain ⟨cj, fj⟩ := preA_cell n 2 2 (by omega) (by omega) wr _ HA.out
      have hdiv : (n : Int) / 1099511627776 = 0 := by omega
      go_wp2_with fail
      go_roundw
      case rel => exact ⟨3, by omega, rfl, (Below.heap_setCell _ _ _ _ (by simp)).trans HC0.out, setCell_block HA.out _, hB.setCell (p := ⟨w.heap.size + 1, 2, none⟩) (by simp) _⟩
      case measure => simp [intOf]
    · obtain ⟨cj, fj⟩ := preA_cell n 3 3 (by omega) (by omega) wr _ HA.out
      have hdiv : (n : Int) / 4294967296 = 0 := by omega
      go_wp2_with fail
      go_roundw
      case rel => exact ⟨4, by omega, rfl, (Below.heap_setCell _ _ _ _ (by simp)).trans HC0.out, setCell_block HA.out _, hB.setCell (p := ⟨w.heap.size + 1, 3, none⟩) (by simp) _⟩
      case measure => simp [intOf]
    · obtain ⟨cj, fj⟩ := preA_cell n 4 4 (by omega) (by omega) wr _ HA.out
      have hdiv : (n : Int) / 16777216 = 0 := by omega
      go_wp2_with fail
      go_roundw
      case rel => exact ⟨5, by omega, rfl, (Below.heap_setCell _ _ _ _ (by simp)).trans HC0.out, setCell_block HA.out _, hB.setCell (p := ⟨w.heap.size + 1, 4, none⟩) (by simp) _⟩
      case measure => simp [intOf]
    · obtain ⟨cj, fj⟩ := preA_cell n 5 5 (by omega) (by omega) wr _ HA.out
      have hdiv : (n : Int) / 65536 = 0 := by omega
      go_wp2_with fail
      go_roundw
      case rel => exact ⟨6, by omega, rfl, (Below.heap_setCell _ _ _ _ (by simp)).trans HC0.out, setCell_block HA.out _, hB.setCell (p := ⟨w.heap.size + 1, 5, none⟩) (by simp) _⟩
      case measure => simp [intOf]
    · obtain ⟨cj, fj⟩ := preA_cell n 6 6 (by omega) (by omega) wr _ HA.out
      have hdiv : (n : Int) / 256 = 0 := by omega
      go_wp2_with fail
      go_roundw
      case rel => exact ⟨7, by omega, rfl, (Below.heap_setCell _ _ _ _ (by simp)).trans HC0.out, setCell_block HA.out _, hB.setCell (p := ⟨w.heap.size + 1, 6, none⟩) (by simp) _⟩
      case measure => simp [intOf]
    · obtain ⟨cj, fj⟩ := preA_cell n 7 7 (by omega) (by omega) wr _ HA.out
      go_wp2_with fail
      go_roundw
      case rel => exact ⟨8, by omega, rfl, (Below.heap_setCell _ _ _ _ (by simp)).trans HC0.out, setCell_block HA.out _, hB.setCell (p := ⟨w.heap.size + 1, 7, none⟩) (by simp) _⟩
      case measure => simp [intOf]
    · obtain rfl : k = 0 := by omega
      have hcv := preA_cells n wr _ HA.out
      go_wp2_with fail
      go_ret
      exact ⟨rfl, hB⟩
end Go.Proofs.Ytkfjoonhgpgaiaa
