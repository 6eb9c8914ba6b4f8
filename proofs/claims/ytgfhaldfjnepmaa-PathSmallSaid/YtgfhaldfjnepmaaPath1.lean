/- Walks of the package path: the common part of two strings. -/
import Derived.Test.YtgfhaldfjnepmaaLex
import Derived.Test.YtgfhaldfjnepmaaProg
import Derived.Deep.RegionWith
import Derived.Lib.QuietBelow
namespace Go.Proofs.Ytgfhaldfjnepmaa
open Go Go.RowKit Go.Shelf Go.Proofs
attribute [local go_sem] Oper.semAt_some

/-- The length of the common beginning of two texts. -/
def commonL : List UInt8 → List UInt8 → Nat
  | a :: x, b :: y => if a = b then commonL x y + 1 else 0
  | _, _ => 0

theorem has_yes (s : ByteArray) (n : Int) (w : World) (h : 0 ≤ n) (h2 : n < s.size) :
    Calls Try.prog 58 #[.agg #[.string s], .int .i64 n] w fun e w' => e = .returned (.bool true) ∧ w.alloc (.cells #[.string s] 84) = w' := by
  go_enter Try.func58, Try.ntmps58
  go_wp2
  go_ret
  exact ⟨rfl, rfl⟩

theorem has_no (s : ByteArray) (n : Int) (w : World) (h : n < 0 ∨ (s.size : Int) ≤ n) :
    Calls Try.prog 58 #[.agg #[.string s], .int .i64 n] w fun e w' => e = .returned (.bool false) ∧ w.alloc (.cells #[.string s] 84) = w' := by
  by_cases h1 : 0 ≤ n
  · have h2 : (s.size : Int) ≤ n := by omega
    have hd : decide (n < (s.size : Int)) = false := decide_eq_false (by omega)
    clear h
    go_enter Try.func58, Try.ntmps58
    go_wp2
    go_ret
    exact ⟨ret_bool (by first | rfl | simp [hd]), rfl⟩
  · have h2 : n < 0 := by omega
    have hd : decide (0 ≤ n) = false := decide_eq_false (by omega)
    clear h h1
    go_enter Try.func58, Try.ntmps58
    go_wp2
    go_ret
    exact ⟨ret_bool (by first | rfl | simp [hd]), rfl⟩

/-- Whether the bytes at an index are alike in both texts. -/
def alikeB (a b : ByteArray) (k : Nat) : Bool := match (by_ a)[k]?, (by_ b)[k]? with
  | some x, some y => x == y
  | _, _ => false

set_option maxRecDepth 100000 in
set_option maxHeartbeats 4000000 in
theorem alikeB_in (a b : ByteArray) (k : Nat) (h1 : k < a.size) (h2 : k < b.size) : alikeB a b k = (((a[k].toNat : Nat) : Int) == ((b[k].toNat : Nat) : Int)) := by
  have e1 : (by_ a)[k]? = some a[k] := List.getElem?_eq_getElem (by rw [size_by]; exact h1)
  have e2 : (by_ b)[k]? = some b[k] := List.getElem?_eq_getElem (by rw [size_by]; exact h2)
  unfold alikeB
  rw [e1, e2]
  by_cases h : a[k] = b[k]
  · simp [h]
  · have h' : ¬ a[k].toNat = b[k].toNat := fun e => h (UInt8.toNat_inj.1 e)
    have h'' : ¬ ((a[k].toNat : Nat) : Int) = ((b[k].toNat : Nat) : Int) := by omega
    rw [beq_eq_false_iff_ne.2 h'']
    exact beq_eq_false_iff_ne.2 h

theorem alikeB_out (a b : ByteArray) (k : Nat) (h : a.size ≤ k ∨ b.size ≤ k) : alikeB a b k = false := by
  unfold alikeB
  rcases h with h | h
  · rw [List.getElem?_eq_none (by rw [size_by]; exact h)]
  · rw [List.getElem?_eq_none (l := by_ b) (by rw [size_by]; exact h)]
    cases (by_ a)[k]? <;> rfl

theorem alike_any (a b : ByteArray) (k : Nat) (B : Nat) (w : World) (hk : k ≤ a.size) (h0 : w.cell? ⟨B, 0, none⟩ = some (.string a)) (h1 : w.cell? ⟨B, 1, none⟩ = some (.string b)) :
    Calls Try.prog 81 #[.int .i64 k, .pointer (some ⟨B, 0, none⟩)] w fun e w' => e = .returned (.bool (alikeB a b k)) ∧ Below w.heap.size w w' := by
  have c0 := fun d os => cell_regrown h0 d os
  have c1 := fun d os => cell_regrown h1 d os
  by_cases k1 : k < a.size
  · by_cases k2 : k < b.size
    · have hal := Lib.hid (alikeB_in a b k k1 k2)
      go_enter Try.func81, Try.ntmps81
      go_wp2_with fail
      refine wp_region_quiet_below (by kernel_rfl) (by kernel_rfl) ?_
      repeat (go_big_quiet_step (exact Calls.regrown_of ((has_yes _ _ _ (by omega) (by omega)).mono fun e w' h => ⟨h.1, h.2 ▸ (Below.refl _ _).alloc (Nat.le_refl _) _⟩)))
      refine wpQuiet_nil ?_
      intro _ hw'
      obtain ⟨⟨dq, osq⟩, hw''⟩ := hw'
      subst hw''
      go_wp2
      go_ret
      exact ⟨ret_bool hal.out.symm, below_regrown w dq osq⟩
    · have hal := Lib.hid (alikeB_out a b k (.inr (by omega)))
      have hd : decide (k < b.size) = false := decide_eq_false k2
      clear k2
      go_enter Try.func81, Try.ntmps81
      go_wp2_with fail
      refine wp_region_quiet_below (by kernel_rfl) (by kernel_rfl) ?_
      repeat (go_big_quiet_step (exact Calls.regrown_of ((has_yes _ _ _ (by omega) (by omega)).mono fun e w' h => ⟨h.1, h.2 ▸ (Below.refl _ _).alloc (Nat.le_refl _) _⟩)))
      refine wpQuiet_nil ?_
      intro _ hw'
      obtain ⟨⟨dq, osq⟩, hw''⟩ := hw'
      subst hw''
      go_wp2
      go_ret
      exact ⟨ret_bool hal.out.symm, below_regrown w dq osq⟩
  · have hal := Lib.hid (alikeB_out a b k (.inl (by omega)))
    go_enter Try.func81, Try.ntmps81
    go_wp2_with fail
    refine wp_region_quiet_below (by kernel_rfl) (by kernel_rfl) ?_
    repeat (go_big_quiet_step (exact Calls.regrown_of ((has_no _ _ _ (by omega)).mono fun e w' h => ⟨h.1, h.2 ▸ (Below.refl _ _).alloc (Nat.le_refl _) _⟩)))
    refine wpQuiet_nil ?_
    intro _ hw'
    obtain ⟨⟨dq, osq⟩, hw''⟩ := hw'
    subst hw''
    go_wp2
    go_ret
    exact ⟨ret_bool hal.out.symm, below_regrown w dq osq⟩

theorem commonL_take : ∀ (x y : List UInt8) (k : Nat), k ≤ commonL x y → x.take k = y.take k ∧ k ≤ x.length ∧ k ≤ y.length
  | x, y, 0, _ => by simp
  | [], y, k + 1, h => by simp [commonL] at h
  | a :: x, [], k + 1, h => by simp [commonL] at h
  | a :: x, b :: y, k + 1, h => by
    simp only [commonL] at h
    split at h
    · rename_i e
      subst e
      have := commonL_take x y k (by omega)
      simp [this]
    · omega

theorem commonL_stop (x y : List UInt8) : ¬ ∃ c, x[commonL x y]? = some c ∧ y[commonL x y]? = some c := by
  induction x generalizing y with
  | nil => simp
  | cons a x ih =>
    cases y with
    | nil => simp
    | cons b y =>
      simp only [commonL]
      split
      · rename_i e; subst e; simpa using ih y
      · rename_i e
        rintro ⟨c, h1, h2⟩
        simp at h1 h2
        exact e (h1.trans h2.symm)

theorem commonL_next (x y : List UInt8) (k : Nat) (h : k < commonL x y) : ∃ c, x[k]? = some c ∧ y[k]? = some c := by
  obtain ⟨h1, h2, h3⟩ := commonL_take x y (k + 1) (by omega)
  have e1 : (x.take (k + 1))[k]? = x[k]? := List.getElem?_take_of_lt (by omega)
  have e2 : (y.take (k + 1))[k]? = y[k]? := List.getElem?_take_of_lt (by omega)
  refine ⟨x[k]'(by omega), List.getElem?_eq_getElem (by omega), ?_⟩
  rw [← e2, ← h1, e1]
  exact List.getElem?_eq_getElem (by omega)

theorem alike_lt (a b : ByteArray) (k : Nat) (h : k < commonL (by_ a) (by_ b)) : alikeB a b k = true := by
  obtain ⟨c, h1, h2⟩ := commonL_next _ _ k h
  unfold alikeB
  rw [h1, h2]
  simp

theorem alike_end (a b : ByteArray) : alikeB a b (commonL (by_ a) (by_ b)) = false := by
  have := commonL_stop (by_ a) (by_ b)
  unfold alikeB
  cases h1 : (by_ a)[commonL (by_ a) (by_ b)]? with
  | none => rfl
  | some x =>
    cases h2 : (by_ b)[commonL (by_ a) (by_ b)]? with
    | none => rfl
    | some y => exact beq_eq_false_iff_ne.2 (fun e => this ⟨x, h1, by rw [h2, e]⟩)

set_option maxRecDepth 100000 in
set_option maxHeartbeats 4000000 in
theorem paircommon_any (a b : ByteArray) (w : World) (ha : a.size ≤ 281474976710656) :
    Calls Try.prog 57 #[.agg #[.string a, .string b]] w fun e w' => e = .returned (.int .i64 (commonL (by_ a) (by_ b))) ∧ Below w.heap.size w w' := by
  have hmf : ∀ (fn : Fn) (first cap : Array Value) (w : World), (Instr.makeFunc fn first cap).run Try.prog w = .ok (.func fn first cap) w := fun _ _ _ _ => rfl
  obtain ⟨N, hN⟩ : ∃ N, N = commonL (by_ a) (by_ b) := ⟨_, rfl⟩
  have hNa : N ≤ a.size := by have := (commonL_take (by_ a) (by_ b) N (by omega)).2.1; rw [size_by] at this; exact this
  have hal := Lib.hid (fun k (h : k < N) => alike_lt a b k (by rw [← hN]; exact h))
  have hen := Lib.hid (show alikeB a b N = false by rw [hN]; exact alike_end a b)
  rw [← hN]
  clear hN
  go_enter Try.func57, Try.ntmps57
  go_wp2_with fail
  have q0 : (w.alloc (.cells #[.string a, .string b] 87)).cell? ⟨w.heap.size, 0, none⟩ = some (.string a) := by simp
  have q1 : (w.alloc (.cells #[.string a, .string b] 87)).cell? ⟨w.heap.size, 1, none⟩ = some (.string b) := by simp
  have hB0 : Below w.heap.size w (w.alloc (.cells #[.string a, .string b] 87)) := (Below.refl _ _).alloc (Nat.le_refl _) _
  go_loopw [4] (fun i wr => ∃ k : Nat, k ≤ N ∧ i = .int .i64 k ∧ Below w.heap.size w wr ∧ wr.cell? ⟨w.heap.size, 0, none⟩ = some (.string a) ∧ wr.cell? ⟨w.heap.size, 1, none⟩ = some (.string b)) (fun i _ => N - (intOf i).toNat)
  case atStart => exact ⟨0, Nat.zero_le _, rfl, hB0, q0, q1⟩
  case round =>
    obtain ⟨k, hk, rfl, hB, r0, r1⟩ := hrel
    clear q0 q1 hB0
    have hlt := block_lt_of_cell r0
    by_cases hkN : k < N
    · have hv := hal.out k hkN
      go_wp2_with (go_at_call 81; refine (alike_any _ _ _ _ _ (by omega) r0 r1).mono ?_; rintro e w' ⟨rfl, hn⟩)
      go_roundw
      case rel => exact ⟨k + 1, by omega, by go_num, hB.trans (hn.mono (by omega)), (hn.cell (p := ⟨w.heap.size, 0, none⟩) hlt).trans r0, (hn.cell (p := ⟨w.heap.size, 1, none⟩) hlt).trans r1⟩
      case measure => simp [intOf]; omega
    · obtain rfl : k = N := by omega
      have hv := hen.out
      go_wp2_with (go_at_call 81; refine (alike_any _ _ _ _ _ (by omega) r0 r1).mono ?_; rintro e w' ⟨rfl, hn⟩)
      go_ret
      exact ⟨rfl, hB.trans (hn.mono (by omega))⟩

set_option maxRecDepth 100000 in
theorem common_any (a b : ByteArray) (w : World) (ha : a.size ≤ 281474976710656) :
    Calls Try.prog 23 #[.string a, .string b] w fun e w' => e = .returned (.int .i64 (commonL (by_ a) (by_ b))) ∧ Below w.heap.size w w' := by
  have hbd : ∀ w : World, (Instr.build 87 #[(0, .agg #[.string a]), (1, .string b)]).run Try.prog w = .ok (.agg #[.string a, .string b]) w := fun _ => by kernel_rfl
  go_enter Try.func23, Try.ntmps23
  go_wp2_with (go_at_call 57; refine (paircommon_any _ _ _ ha).mono ?_; rintro e w' ⟨rfl, hn⟩)
  go_ret
  exact ⟨rfl, hn⟩
end Go.Proofs.Ytgfhaldfjnepmaa
