/- Walks of the package path and of its reference model that the walk reaches: prefixes. -/
import Derived.Test.YtegccicplcjcmaaLex
import Derived.Test.YtegccicplcjcmaaProg
import Derived.Deep.RegionWith
import Derived.Lib.QuietBelow
namespace Go.Proofs.Ytegccicplcjcmaa
open Go Go.RowKit Go.Shelf Go.Proofs
attribute [local go_sem] Oper.semAt_some

/-- The length of the common beginning of two texts. -/
def commonL : List UInt8 → List UInt8 → Nat
  | a :: x, b :: y => if a = b then commonL x y + 1 else 0
  | _, _ => 0

/-- Whether the bytes at an index are alike in both texts. -/
def alikeB (a b : ByteArray) (k : Nat) : Bool := match (by_ a)[k]?, (by_ b)[k]? with
  | some x, some y => x == y
  | _, _ => false

set_option maxRecDepth 100000 in
set_option maxHeartbeats 4000000 in
theorem alikeB_in (a b : ByteArray) (k : Nat) (h1 : k < a.size) (h2 : k < b.size) : alikeB a b k = (((a[k].toNat : Nat) : Int) == ((b[k].toNat : Nat) : Int)) := by
  have e1 : (by_ a)[k]? = some a[k] := List.getElem?_eq_getElem (by rw [size_by]; exact h1)
  have e2 : (by_ b)[k]? = some b[k] := List.getElem?_eq_getElem (by rw [size_by]; exact h2)
  unfold alikeB
  rw [e1, e2]
  by_cases h : a[k] = b[k]
  · simp [h]
  · have h' : ¬ a[k].toNat = b[k].toNat := fun e => h (UInt8.toNat_inj.1 e)
    have h'' : ¬ ((a[k].toNat : Nat) : Int) = ((b[k].toNat : Nat) : Int) := by omega
    rw [beq_eq_false_iff_ne.2 h'']
    exact beq_eq_false_iff_ne.2 h

theorem alikeB_out (a b : ByteArray) (k : Nat) (h : a.size ≤ k ∨ b.size ≤ k) : alikeB a b k = false := by
  unfold alikeB
  rcases h with h | h
  · rw [List.getElem?_eq_none (by rw [size_by]; exact h)]
  · rw [List.getElem?_eq_none (l := by_ b) (by rw [size_by]; exact h)]
    cases (by_ a)[k]? <;> rfl

theorem commonL_take : ∀ (x y : List UInt8) (k : Nat), k ≤ commonL x y → x.take k = y.take k ∧ k ≤ x.length ∧ k ≤ y.length
  | x, y, 0, _ => by simp
  | [], y, k + 1, h => by simp [commonL] at h
  | a :: x, [], k + 1, h => by simp [commonL] at h
  | a :: x, b :: y, k + 1, h => by
    simp only [commonL] at h
    split at h
    · rename_i e
      subst e
      have := commonL_take x y k (by omega)
      simp [this]
    · omega

theorem commonL_stop (x y : List UInt8) : ¬ ∃ c, x[commonL x y]? = some c ∧ y[commonL x y]? = some c := by
  induction x generalizing y with
  | nil => simp
  | cons a x ih =>
    cases y with
    | nil => simp
    | cons b y =>
      simp only [commonL]
      split
      · rename_i e; subst e; simpa using ih y
      · rename_i e
        rintro ⟨c, h1, h2⟩
        simp at h1 h2
        exact e (h1.trans h2.symm)

theorem commonL_next (x y : List UInt8) (k : Nat) (h : k < commonL x y) : ∃ c, x[k]? = some c ∧ y[k]? = some c := by
  obtain ⟨h1, h2, h3⟩ := commonL_take x y (k + 1) (by omega)
  have e1 : (x.take (k + 1))[k]? = x[k]? := List.getElem?_take_of_lt (by omega)
  have e2 : (y.take (k + 1))[k]? = y[k]? := List.getElem?_take_of_lt (by omega)
  refine ⟨x[k]'(by omega), List.getElem?_eq_getElem (by omega), ?_⟩
  rw [← e2, ← h1, e1]
  exact List.getElem?_eq_getElem (by omega)

theorem alike_lt (a b : ByteArray) (k : Nat) (h : k < commonL (by_ a) (by_ b)) : alikeB a b k = true := by
  obtain ⟨c, h1, h2⟩ := commonL_next _ _ k h
  unfold alikeB
  rw [h1, h2]
  simp

theorem alike_end (a b : ByteArray) : alikeB a b (commonL (by_ a) (by_ b)) = false := by
  have := commonL_stop (by_ a) (by_ b)
  unfold alikeB
  cases h1 : (by_ a)[commonL (by_ a) (by_ b)]? with
  | none => rfl
  | some x =>
    cases h2 : (by_ b)[commonL (by_ a) (by_ b)]? with
    | none => rfl
    | some y => exact beq_eq_false_iff_ne.2 (fun e => this ⟨x, h1, by rw [h2, e]⟩)

theorem common_stop_cases (a b : ByteArray) (N : Nat) (hN : N = commonL (by_ a) (by_ b)) :
    a.size ≤ N ∨ (N < a.size ∧ b.size ≤ N) ∨ ∃ (h1 : N < a.size) (h2 : N < b.size), (((a[N].toNat : Nat) : Int) == ((b[N].toNat : Nat) : Int)) = false := by
  by_cases h1 : N < a.size
  · right
    by_cases h2 : N < b.size
    · right
      refine ⟨h1, h2, ?_⟩
      have := alike_end a b
      rw [← hN, alikeB_in a b N h1 h2] at this
      exact this
    · left; exact ⟨h1, by omega⟩
  · left; omega

set_option maxRecDepth 100000 in
set_option maxHeartbeats 4000000 in
theorem refcommon_any (a b : ByteArray) (w : World) (ha : a.size ≤ 281474976710656) :
    Calls Try.prog 72 #[.string a, .string b] w fun e w' => e = .returned (.int .i64 (commonL (by_ a) (by_ b))) ∧ Below w.heap.size w w' := by
  obtain ⟨N, hN⟩ : ∃ N, N = commonL (by_ a) (by_ b) := ⟨_, rfl⟩
  have hNa : N ≤ a.size := by have := (commonL_take (by_ a) (by_ b) N (by omega)).2.1; rw [size_by] at this; exact this
  have hNb : N ≤ b.size := by have := (commonL_take (by_ a) (by_ b) N (by omega)).2.2; rw [size_by] at this; exact this
  have hal : Hid (∀ k (_ : k < N) (h1 : k < a.size) (h2 : k < b.size), (((a[k].toNat : Nat) : Int) == ((b[k].toNat : Nat) : Int)) = true) := Lib.hid (fun k h h1 h2 => by
    have h3 := alike_lt a b k (by rw [← hN]; exact h)
    rw [alikeB_in a b k h1 h2] at h3
    exact h3)
  have hen := Lib.hid (common_stop_cases a b N hN)
  rw [← hN]
  clear hN
  have hB0 := Below.refl w.heap.size w
  go_enter Try.func72, Try.ntmps72
  go_wp2_with fail
  go_loopw [5] (fun i wr => ∃ k : Nat, k ≤ N ∧ i = .int .i64 k ∧ Below w.heap.size w wr) (fun i _ => N - (intOf i).toNat)
  case atStart => exact ⟨0, Nat.zero_le _, rfl, hB0⟩
  case round =>
    obtain ⟨k, hk, rfl, hB⟩ := hrel
    clear hB0
    by_cases hkN : k < N
    · have k1 : k < a.size := by omega
      have k2 : k < b.size := by omega
      have hv := hal.out k hkN k1 k2
      go_wp2_with fail
      refine wp_region_quiet_below (by kernel_rfl) (by kernel_rfl) ?_
      repeat (go_big_quiet_step (fail))
      refine wpQuiet_nil ?_
      intro _ hw'
      obtain ⟨⟨dq, osq⟩, hw''⟩ := hw'
      subst hw''
      go_wp2_with fail
      go_roundw
      case rel => exact ⟨k + 1, by omega, by go_num, hB.trans ((below_regrown wr dq osq).mono hB.size)⟩
      case measure => simp [intOf]; omega
    · obtain rfl : k = N := by omega
      rcases hen.out with h | ⟨h, h2⟩ | ⟨h, h2, h3⟩
      · have hd : decide (k < a.size) = false := decide_eq_false (by omega)
        go_wp2_with fail
        refine wp_region_quiet_below (by kernel_rfl) (by kernel_rfl) ?_
        repeat (go_big_quiet_step (fail))
        refine wpQuiet_nil ?_
        intro _ hw'
        obtain ⟨⟨dq, osq⟩, hw''⟩ := hw'
        subst hw''
        go_wp2
        go_ret
        exact ⟨rfl, hB.trans ((below_regrown wr dq osq).mono hB.size)⟩
      · have hd : decide (k < b.size) = false := decide_eq_false (by omega)
        go_wp2_with fail
        refine wp_region_quiet_below (by kernel_rfl) (by kernel_rfl) ?_
        repeat (go_big_quiet_step (fail))
        refine wpQuiet_nil ?_
        intro _ hw'
        obtain ⟨⟨dq, osq⟩, hw''⟩ := hw'
        subst hw''
        go_wp2
        go_ret
        exact ⟨rfl, hB.trans ((below_regrown wr dq osq).mono hB.size)⟩
      · go_wp2_with fail
        refine wp_region_quiet_below (by kernel_rfl) (by kernel_rfl) ?_
        repeat (go_big_quiet_step (fail))
        refine wpQuiet_nil ?_
        intro _ hw'
        obtain ⟨⟨dq, osq⟩, hw''⟩ := hw'
        subst hw''
        go_wp2
        go_ret
        exact ⟨rfl, hB.trans ((below_regrown wr dq osq).mono hB.size)⟩

def beginsB (s p : ByteArray) : Bool := (by_ p).isPrefixOf (by_ s)

theorem beginsB_iff (s p : ByteArray) : beginsB s p = true ↔ by_ p <+: by_ s := List.isPrefixOf_iff_prefix

theorem begins_how (s p : ByteArray) : (beginsB s p = true ∧ (p.size : Int) ≤ (s.size : Int) ∧ ((s.extract 0 p.size).toList == p.toList) = true) ∨
    (beginsB s p = false ∧ (s.size : Int) < (p.size : Int)) ∨ (beginsB s p = false ∧ (p.size : Int) ≤ (s.size : Int) ∧ ((s.extract 0 p.size).toList == p.toList) = false) := by
  have h1 := size_by p
  have h2 := size_by s
  have e : by_ (s.extract 0 p.size) = (by_ s).take p.size := by rw [by_extract]; simp
  cases hb : beginsB s p with
  | true =>
    left
    have h := (beginsB_iff s p).1 hb
    have hl := h.length_le
    exact ⟨rfl, by omega, by rw [toList_by, toList_by, e, ← h1, ← List.prefix_iff_eq_take.1 h]; simp⟩
  | false =>
    right
    have h : ¬ by_ p <+: by_ s := fun h => by rw [(beginsB_iff s p).2 h] at hb; cases hb
    by_cases hl : s.size < p.size
    · left; exact ⟨rfl, by omega⟩
    · right; exact ⟨rfl, by omega, beq_eq_false_iff_ne.2 (by rw [toList_by, toList_by, e, ← h1]; intro h3; exact h (List.prefix_iff_eq_take.2 h3.symm))⟩

theorem begins_any (s p : ByteArray) (w : World) :
    Calls Try.prog 20 #[.string s, .string p] w fun e w' => e = .returned (.bool (beginsB s p)) ∧ w = w' := by
  rcases begins_how s p with ⟨h0, h1, h2⟩ | ⟨h0, h1⟩ | ⟨h0, h1, h2⟩
  all_goals
    have H := Lib.hid h0
    clear h0
    go_enter Try.func20, Try.ntmps20
    go_wp2
    go_ret
    exact ⟨ret_bool H.out.symm, rfl⟩

theorem commonL_all : ∀ (x y : List UInt8), commonL x y = y.length ↔ y <+: x
  | x, [] => by
    constructor
    · intro _; exact List.nil_prefix
    · intro _
      have := (commonL_take x [] (commonL x []) (Nat.le_refl _)).2.2
      simpa using this
  | [], b :: y => by
    have := (commonL_take [] (b :: y) (commonL [] (b :: y)) (Nat.le_refl _)).2.1
    constructor
    · intro h; rw [h] at this; simp at this
    · intro h; simp at h
  | a :: x, b :: y => by
    have ih := commonL_all x y
    unfold commonL
    by_cases h : a = b
    · subst h
      simp [ih]
    · simp [h]
      intro h2
      exact absurd h2.symm h

theorem refbegins_any (s p : ByteArray) (w : World) (hs : s.size ≤ 281474976710656) :
    Calls Try.prog 57 #[.string s, .string p] w fun e w' => e = .returned (.bool (beginsB s p)) ∧ Below w.heap.size w w' := by
  have hb : Hid ((((commonL (by_ s) (by_ p) : Nat) : Int) == (p.size : Int)) = beginsB s p) := Lib.hid (by
    rw [Bool.eq_iff_iff, beginsB_iff, ← commonL_all, size_by]
    simp
    omega)
  go_enter Try.func57, Try.ntmps57
  go_wp2_with (go_at_call 72; refine (refcommon_any _ _ _ hs).mono ?_; rintro e w' ⟨rfl, hn⟩)
  go_ret
  exact ⟨ret_bool (by rw [← hb.out]), hn⟩

end Go.Proofs.Ytegccicplcjcmaa
