/- Walks: the reference's prefix, strings.HasPrefix, the closure of Owner. -/
import Derived.Test.YtkfjoonhgpgaiaaRealm1
namespace Go.Proofs.Ytkfjoonhgpgaiaa
open Go Go.RowKit Go.Shelf Go.Proofs Go.Sort
attribute [local go_sem] Oper.semAt_some

/-- What the reference has built after k + 1 rounds. -/
def preK (n k : Nat) : ByteArray := bs (List.replicate k 0 ++ [UInt8.ofNat n])
theorem preK_succ (n k : Nat) : (⟨#[0]⟩ : ByteArray) ++ preK n k = preK n (k + 1) := by
  unfold preK
  rw [show (⟨#[0]⟩ : ByteArray) = bs [0] from rfl, bs_append]
  rfl

set_option maxRecDepth 100000 in
set_option maxHeartbeats 4000000 in
theorem refprefix_any (n : Nat) (w : World) (hn : n ≤ 255) :
    Calls Try.prog 70 #[.int .i64 n] w fun e w' => e = .returned (.string (bs (preL n))) ∧ Below w.heap.size w w' := by
  have hB0 := Below.refl w.heap.size w
  have hcv := fun n W c => conv1 (P := Try.prog) 44 9 5 Try.underlying44 Try.underlying5 Try.underlying9 n W c
  go_enter Try.func70, Try.ntmps70
  go_wp2_with fail
  go_loopw [0, 3, 4] (fun x o i wr => ∃ k : Nat, k ≤ 8 ∧ i = .int .i64 k ∧ ((k = 0 ∧ x = .int .i64 n ∧ o = .string ⟨#[]⟩) ∨ (∃ j, k = j + 1 ∧ x = .int .i64 0 ∧ o = .string (preK n j))) ∧ Below w.heap.size w wr) (fun _ _ i _ => 8 - (intOf i).toNat)
  case atStart => exact ⟨0, by omega, rfl, .inl ⟨rfl, rfl, rfl⟩, hB0⟩
  case round =>
    clear hB0
    obtain ⟨k, hk, rfl, (⟨rfl, rfl, rfl⟩ | ⟨j, rfl, rfl, rfl⟩), hB⟩ := hrel
    · have hm : (n : Int) % 256 = n := by omega
      have hq : (n : Int) / 256 = 0 := by omega
      have hp : Hid ((⟨#[UInt8.ofNat n]⟩ : ByteArray) = preK n 0) := Lib.hid rfl
      go_wp2_with fail
      go_roundw
      case rel => exact ⟨1, by omega, rfl, .inr ⟨0, rfl, rfl, by rw [← hp.out]; exact congrArg Value.string (by_inj (by rw [by_append]; simp [by_]))⟩, hB.alloc hB.size _⟩
      case measure => simp [intOf]
    · have hs : (preK n j).size ≤ 9 := by unfold preK; rw [size_bs, List.length_append, List.length_replicate]; simp; omega
      by_cases h8 : j + 1 < 8
      · have hst := Lib.hid (preK_succ n j)
        go_wp2_with fail
        go_roundw
        case rel => exact ⟨j + 1 + 1, by omega, by go_num, .inr ⟨j + 1, rfl, rfl, by rw [← hst.out]⟩, hB.alloc hB.size _⟩
        case measure => simp [intOf] <;> omega
      · obtain rfl : j = 7 := by omega
        go_wp2_with fail
        go_ret
        exact ⟨rfl, hB⟩

/-- Whether p is a beginning of s. -/
def begB (s p : ByteArray) : Bool := (by_ p).isPrefixOf (by_ s)

theorem begB_iff (s p : ByteArray) : begB s p = true ↔ by_ p <+: by_ s := List.isPrefixOf_iff_prefix

theorem begB_how (s p : ByteArray) : (begB s p = true ∧ (p.size : Int) ≤ (s.size : Int) ∧ ((s.extract 0 p.size).toList == p.toList) = true) ∨
    (begB s p = false ∧ (s.size : Int) < (p.size : Int)) ∨ (begB s p = false ∧ (p.size : Int) ≤ (s.size : Int) ∧ ((s.extract 0 p.size).toList == p.toList) = false) := by
  have h1 := size_by p
  have h2 := size_by s
  have e : by_ (s.extract 0 p.size) = (by_ s).take p.size := by rw [by_extract]; simp
  cases hb : begB s p with
  | true =>
    left
    have h := (begB_iff s p).1 hb
    have hl := h.length_le
    exact ⟨rfl, by omega, by rw [toList_by, toList_by, e, ← h1, ← List.prefix_iff_eq_take.1 h]; simp⟩
  | false =>
    right
    have h : ¬ by_ p <+: by_ s := fun h => by rw [(begB_iff s p).2 h] at hb; cases hb
    by_cases hl : s.size < p.size
    · left; exact ⟨rfl, by omega⟩
    · right; exact ⟨rfl, by omega, beq_eq_false_iff_ne.2 (by rw [toList_by, toList_by, e, ← h1]; intro h3; exact h (List.prefix_iff_eq_take.2 h3.symm))⟩

theorem hasprefix_any (s p : ByteArray) (w : World) :
    Calls Try.prog 62 #[.string s, .string p] w fun e w' => e = .returned (.bool (begB s p)) ∧ w = w' := by
  rcases begB_how s p with ⟨h0, h1, h2⟩ | ⟨h0, h1⟩ | ⟨h0, h1, h2⟩
  all_goals
    have H := Lib.hid h0
    clear h0
    go_enter Try.func62, Try.ntmps62
    go_wp2
    go_ret
    exact ⟨ret_bool H.out.symm, rfl⟩

set_option maxRecDepth 100000 in
set_option maxHeartbeats 4000000 in
theorem isowned_any (t : ByteArray) (n : Nat) (B : Nat) (w : World) (hn : n ≤ 255) (hc : w.cell? ⟨B, 0, none⟩ = some (.string t)) :
    Calls Try.prog 61 #[.agg #[.int .i64 n], .pointer (some ⟨B, 0, none⟩)] w fun e w' => e = .returned (.bool (begB t (bs (preL n)))) ∧ Below w.heap.size w w' := by
  have hB : Below w.heap.size w (w.alloc (.cells #[.int .i64 n] 73)) := (Below.refl _ w).alloc (Nat.le_refl _) _
  have c1 : (w.alloc (.cells #[.int .i64 n] 73)).cell? ⟨B, 0, none⟩ = some (.string t) := ((Below.refl w.heap.size w).alloc (Nat.le_refl _) _).cell (block_lt_of_cell hc) |>.trans hc
  have c2 : (w.alloc (.cells #[.int .i64 n] 73)).cell? ⟨w.heap.size, 0, none⟩ = some (.int .i64 n) := by simp
  have q1 := fun d os => cell_regrown c1 d os
  have q2 := fun d os => cell_regrown c2 d os
  clear hc c1 c2
  go_enter Try.func61, Try.ntmps61
  go_wp2_with fail
  refine wp_region_quiet_below (by kernel_rfl) (by kernel_rfl) ?_
  repeat (go_big_quiet_step (first | exact Calls.regrown_of (prefix_any _ _ hn) | exact Calls.regrown_of ((hasprefix_any _ _ _).mono (fun e w' h => ⟨by rw [h.1], by rw [← h.2]; exact Below.refl _ _⟩))))
  refine wpQuiet_nil ?_
  intro _ hw'
  obtain ⟨⟨dq, osq⟩, hw''⟩ := hw'
  subst hw''
  go_wp2_with fail
  go_ret
  exact ⟨rfl, hB.trans ((below_regrown _ dq osq).mono hB.size)⟩
end Go.Proofs.Ytkfjoonhgpgaiaa
