/- Walks of the reference model of layer 10: Common, All. -/
import Derived.Test.YtgfhaldfjnepmaaPath3
namespace Go.Proofs.Ytgfhaldfjnepmaa
open Go Go.RowKit Go.Shelf Go.Proofs
attribute [local go_sem] Oper.semAt_some

theorem common_stop_cases (a b : ByteArray) (N : Nat) (hN : N = commonL (by_ a) (by_ b)) :
    a.size ≤ N ∨ (N < a.size ∧ b.size ≤ N) ∨ ∃ (h1 : N < a.size) (h2 : N < b.size), (((a[N].toNat : Nat) : Int) == ((b[N].toNat : Nat) : Int)) = false := by
  by_cases h1 : N < a.size
  · right
    by_cases h2 : N < b.size
    · right
      refine ⟨h1, h2, ?_⟩
      have := alike_end a b
      rw [← hN, alikeB_in a b N h1 h2] at this
      exact this
    · left; exact ⟨h1, by omega⟩
  · left; omega

set_option maxRecDepth 100000 in
set_option maxHeartbeats 4000000 in
theorem refcommon_any (a b : ByteArray) (w : World) (ha : a.size ≤ 281474976710656) :
    Calls Try.prog 51 #[.string a, .string b] w fun e w' => e = .returned (.int .i64 (commonL (by_ a) (by_ b))) ∧ Below w.heap.size w w' := by
  obtain ⟨N, hN⟩ : ∃ N, N = commonL (by_ a) (by_ b) := ⟨_, rfl⟩
  have hNa : N ≤ a.size := by have := (commonL_take (by_ a) (by_ b) N (by omega)).2.1; rw [size_by] at this; exact this
  have hNb : N ≤ b.size := by have := (commonL_take (by_ a) (by_ b) N (by omega)).2.2; rw [size_by] at this; exact this
  have hal : Hid (∀ k (_ : k < N) (h1 : k < a.size) (h2 : k < b.size), (((a[k].toNat : Nat) : Int) == ((b[k].toNat : Nat) : Int)) = true) := Lib.hid (fun k h h1 h2 => by
    have h3 := alike_lt a b k (by rw [← hN]; exact h)
    rw [alikeB_in a b k h1 h2] at h3
    exact h3)
  have hen := Lib.hid (common_stop_cases a b N hN)
  rw [← hN]
  clear hN
  have hB0 := Below.refl w.heap.size w
  go_enter Try.func51, Try.ntmps51
  go_wp2_with fail
  go_loopw [5] (fun i wr => ∃ k : Nat, k ≤ N ∧ i = .int .i64 k ∧ Below w.heap.size w wr) (fun i _ => N - (intOf i).toNat)
  case atStart => exact ⟨0, Nat.zero_le _, rfl, hB0⟩
  case round =>
    obtain ⟨k, hk, rfl, hB⟩ := hrel
    clear hB0
    by_cases hkN : k < N
    · have k1 : k < a.size := by omega
      have k2 : k < b.size := by omega
      have hv := hal.out k hkN k1 k2
      go_wp2_with fail
      refine wp_region_quiet_below (by kernel_rfl) (by kernel_rfl) ?_
      repeat (go_big_quiet_step (fail))
      refine wpQuiet_nil ?_
      intro _ hw'
      obtain ⟨⟨dq, osq⟩, hw''⟩ := hw'
      subst hw''
      go_wp2_with fail
      go_roundw
      case rel => exact ⟨k + 1, by omega, by go_num, hB.trans ((below_regrown wr dq osq).mono hB.size)⟩
      case measure => simp [intOf]; omega
    · obtain rfl : k = N := by omega
      rcases hen.out with h | ⟨h, h2⟩ | ⟨h, h2, h3⟩
      · have hd : decide (k < a.size) = false := decide_eq_false (by omega)
        go_wp2_with fail
        refine wp_region_quiet_below (by kernel_rfl) (by kernel_rfl) ?_
        repeat (go_big_quiet_step (fail))
        refine wpQuiet_nil ?_
        intro _ hw'
        obtain ⟨⟨dq, osq⟩, hw''⟩ := hw'
        subst hw''
        go_wp2
        go_ret
        exact ⟨rfl, hB.trans ((below_regrown wr dq osq).mono hB.size)⟩
      · have hd : decide (k < b.size) = false := decide_eq_false (by omega)
        go_wp2_with fail
        refine wp_region_quiet_below (by kernel_rfl) (by kernel_rfl) ?_
        repeat (go_big_quiet_step (fail))
        refine wpQuiet_nil ?_
        intro _ hw'
        obtain ⟨⟨dq, osq⟩, hw''⟩ := hw'
        subst hw''
        go_wp2
        go_ret
        exact ⟨rfl, hB.trans ((below_regrown wr dq osq).mono hB.size)⟩
      · go_wp2_with fail
        refine wp_region_quiet_below (by kernel_rfl) (by kernel_rfl) ?_
        repeat (go_big_quiet_step (fail))
        refine wpQuiet_nil ?_
        intro _ hw'
        obtain ⟨⟨dq, osq⟩, hw''⟩ := hw'
        subst hw''
        go_wp2
        go_ret
        exact ⟨rfl, hB.trans ((below_regrown wr dq osq).mono hB.size)⟩

/-- The least common length. -/
def minL (f : List UInt8) (l : List ByteArray) : Nat := l.foldl (fun n s => min n (commonL f (by_ s))) f.length
theorem minL_snoc (f : List UInt8) (l : List ByteArray) (s : ByteArray) : minL f (l ++ [s]) = min (minL f l) (commonL f (by_ s)) := by simp [minL]

theorem commonL_takeL : ∀ (f s : List UInt8) (n : Nat), commonL (f.take n) s = min n (commonL f s)
  | [], s, n => by simp [commonL]
  | a :: f, s, 0 => by simp [commonL]
  | a :: f, [], n + 1 => by simp [commonL]
  | a :: f, b :: s, n + 1 => by
    simp only [List.take_succ_cons, commonL]
    split
    · rw [commonL_takeL f s n]; omega
    · omega

theorem headL_take (f : List UInt8) : ∀ (l : List ByteArray) (n : Nat), n ≤ f.length → headL (f.take n) l = f.take (l.foldl (fun n s => min n (commonL f (by_ s))) n) ∧ l.foldl (fun n s => min n (commonL f (by_ s))) n ≤ f.length
  | [], n, h => ⟨rfl, h⟩
  | s :: l, n, h => by
    have := headL_take f l (min n (commonL f (by_ s))) (by omega)
    simp only [headL, List.foldl_cons] at this ⊢
    rw [List.take_take, commonL_takeL, show min (min n (commonL f (by_ s))) n = min n (commonL f (by_ s)) from by omega]
    exact this

theorem allL_min (s : ByteArray) (r : List ByteArray) : allL (s :: r) = minL (by_ s) r := by
  have h := headL_take (by_ s) r (by_ s).length (Nat.le_refl _)
  rw [List.take_length] at h
  simp only [allL]
  rw [h.1, List.length_take]
  unfold minL
  have := h.2
  omega
end Go.Proofs.Ytgfhaldfjnepmaa
