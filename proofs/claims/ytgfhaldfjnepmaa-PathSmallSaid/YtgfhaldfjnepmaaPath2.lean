/- Walks of the package path: cutting. -/
import Derived.Test.YtgfhaldfjnepmaaPath1
namespace Go.Proofs.Ytgfhaldfjnepmaa
open Go Go.RowKit Go.Shelf Go.Proofs
attribute [local go_sem] Oper.semAt_some

theorem to_any (s : ByteArray) (n : Int) (w : World) (h : 0 ≤ n) (h2 : n ≤ s.size) :
    Calls Try.prog 50 #[.agg #[.string s], .int .i64 n] w fun e w' => e = .returned (.string (bs ((by_ s).take n.toNat))) ∧ Below w.heap.size w w' := by
  have he := Lib.hid (show s.extract 0 n.toNat = bs ((by_ s).take n.toNat) by rw [extract_bs, List.drop_zero])
  go_enter Try.func50, Try.ntmps50
  go_wp2
  go_ret
  exact ⟨ret_str he.out, (Below.refl _ _).alloc (Nat.le_refl _) _⟩

theorem from_any (s : ByteArray) (n : Int) (w : World) (h : 0 ≤ n) (h2 : n ≤ s.size) :
    Calls Try.prog 59 #[.agg #[.string s], .int .i64 n] w fun e w' => e = .returned (.string (bs ((by_ s).drop n.toNat))) ∧ Below w.heap.size w w' := by
  have he := Lib.hid (show s.extract n.toNat s.size = bs ((by_ s).drop n.toNat) by rw [extract_bs, ← size_by, List.take_length])
  go_enter Try.func59, Try.ntmps59
  go_wp2
  go_ret
  exact ⟨ret_str he.out, (Below.refl _ _).alloc (Nat.le_refl _) _⟩

theorem rest_any (s : ByteArray) (n : Int) (w : World) :
    Calls Try.prog 26 #[.string s, .int .i64 n] w fun e w' => e = .returned (.string (bs ((by_ s).drop n.toNat))) ∧ Below w.heap.size w w' := by
  have he := Lib.hid (show bs ((by_ s).drop (min (max n 0) (s.size : Int)).toNat) = bs ((by_ s).drop n.toNat) by
    have h := size_by s
    by_cases h1 : n ≤ s.size
    · rw [show (min (max n 0) (s.size : Int)).toNat = n.toNat from by omega]
    · rw [List.drop_eq_nil_of_le (by omega), List.drop_eq_nil_of_le (by omega)])
  go_enter Try.func26, Try.ntmps26
  go_wp2_with (go_at_call 59; refine (from_any _ _ _ (by omega) (by omega)).mono ?_; rintro e w' ⟨rfl, hn⟩)
  go_ret
  exact ⟨ret_str he.out, hn⟩

/-- Whether p is a beginning of s. -/
def beginsB (s p : ByteArray) : Bool := (by_ p).isPrefixOf (by_ s)

theorem beginsB_iff (s p : ByteArray) : beginsB s p = true ↔ by_ p <+: by_ s := List.isPrefixOf_iff_prefix

theorem begins_how (s p : ByteArray) : (beginsB s p = true ∧ (p.size : Int) ≤ (s.size : Int) ∧ ((s.extract 0 p.size).toList == p.toList) = true) ∨
    (beginsB s p = false ∧ (s.size : Int) < (p.size : Int)) ∨ (beginsB s p = false ∧ (p.size : Int) ≤ (s.size : Int) ∧ ((s.extract 0 p.size).toList == p.toList) = false) := by
  have h1 := size_by p
  have h2 := size_by s
  have e : by_ (s.extract 0 p.size) = (by_ s).take p.size := by rw [by_extract]; simp
  cases hb : beginsB s p with
  | true =>
    left
    have h := (beginsB_iff s p).1 hb
    have hl := h.length_le
    exact ⟨rfl, by omega, by rw [toList_by, toList_by, e, ← h1, ← List.prefix_iff_eq_take.1 h]; simp⟩
  | false =>
    right
    have h : ¬ by_ p <+: by_ s := fun h => by rw [(beginsB_iff s p).2 h] at hb; cases hb
    by_cases hl : s.size < p.size
    · left; exact ⟨rfl, by omega⟩
    · right; exact ⟨rfl, by omega, beq_eq_false_iff_ne.2 (by rw [toList_by, toList_by, e, ← h1]; intro h3; exact h (List.prefix_iff_eq_take.2 h3.symm))⟩

theorem begins_any (s p : ByteArray) (w : World) :
    Calls Try.prog 20 #[.string s, .string p] w fun e w' => e = .returned (.bool (beginsB s p)) ∧ w = w' := by
  rcases begins_how s p with ⟨h0, h1, h2⟩ | ⟨h0, h1⟩ | ⟨h0, h1, h2⟩
  all_goals
    have H := Lib.hid h0
    clear h0
    go_enter Try.func20, Try.ntmps20
    go_wp2
    go_ret
    exact ⟨ret_bool H.out.symm, rfl⟩

/-- What Cut hands back. -/
def cutV (s : ByteArray) (n : Int) : Value :=
  if h : 0 ≤ n ∧ n < s.size then .tuple #[.string (bs ((by_ s).take n.toNat)), .int .u8 ((s[n.toNat]'(by omega)).toNat : Nat), .string (bs ((by_ s).drop (n.toNat + 1))), .bool true]
  else .tuple #[.string ⟨#[]⟩, .int .u8 0, .string ⟨#[]⟩, .bool false]

set_option maxRecDepth 100000 in
set_option maxHeartbeats 2000000 in
theorem cut_any (s : ByteArray) (n : Int) (w : World) (hs : s.size ≤ 281474976710656) :
    Calls Try.prog 24 #[.string s, .int .i64 n] w fun e w' => e = .returned (cutV s n) ∧ Below w.heap.size w w' := by
  by_cases h : 0 ≤ n ∧ n < s.size
  · obtain ⟨k, rfl⟩ := Int.eq_ofNat_of_zero_le h.1
    have hk : k < s.size := by omega
    have hV := Lib.hid (show cutV s (k : Int) = .tuple #[.string (bs ((by_ s).take k)), .int .u8 (s[k].toNat : Nat), .string (bs ((by_ s).drop (k + 1))), .bool true] by
      unfold cutV; rw [dif_pos h]; rfl)
    have h1 := h.1
    have h2 := h.2
    clear h
    have hx1 : (Int.toNat ((k : Int) + 1)) = k + 1 := by omega
    have hx2 : IntKind.i64.wrap ((k : Int) + 1) = (k : Int) + 1 := by rw [IntKind.wrap_i64]; omega
    have hHX := Lib.hid hx1
    have hHY := Lib.hid hx2
    clear hx1 hx2
    go_enter Try.func24, Try.ntmps24
    go_wp2_with (go_at_call 58; refine (has_yes _ _ _ (by omega) (by omega)).mono ?_; rintro e w' ⟨rfl, rfl⟩)
    have c0 : ((w.alloc (.cells #[.string s] 84)).alloc (.cells #[.string s] 84)).cell? ⟨w.heap.size, 0, none⟩ = some (.string s) := by simp
    have c1 := fun d os => cell_regrown c0 d os
    have hx1 := hHX.out
    have hx2 := hHY.out
    clear c0
    refine wp_region_quiet_below (by kernel_rfl) (by kernel_rfl) ?_
    repeat (go_big_quiet_step (first | exact Calls.regrown_of (to_any _ _ _ (by omega) (by omega)) | exact Calls.regrown_of (from_any _ _ _ (by omega) (by omega))))
    refine wpQuiet_nil ?_
    intro _ hw'
    obtain ⟨⟨dq, osq⟩, hw''⟩ := hw'
    subst hw''
    go_wp2
    have e1 : ((k : Nat) : Int).toNat = k := Int.toNat_natCast k
    have e2 := hHX.out
    refine bodyPost_ret (v := .tuple #[.string (bs ((by_ s).take ((k : Nat) : Int).toNat)), .int .u8 (s[k].toNat : Nat), .string (bs ((by_ s).drop ((k : Int) + 1).toNat)), .bool true]) (by simp [results, Try.f24, go_sem]) rfl ⟨by rw [hV.out, e1, e2], ?_⟩
    exact (((Below.refl w.heap.size w).alloc (Nat.le_refl _) _).alloc (by simp) _).trans ((below_regrown _ dq osq).mono (by simp; omega))
  · have hV := Lib.hid (show cutV s n = .tuple #[.string ⟨#[]⟩, .int .u8 0, .string ⟨#[]⟩, .bool false] by unfold cutV; rw [dif_neg h])
    have h' : n < 0 ∨ (s.size : Int) ≤ n := by omega
    clear h
    go_enter Try.func24, Try.ntmps24
    go_wp2_with (go_at_call 58; refine (has_no _ _ _ h').mono ?_; rintro e w' ⟨rfl, rfl⟩)
    refine bodyPost_ret (v := .tuple #[.string ⟨#[]⟩, .int .u8 0, .string ⟨#[]⟩, .bool false]) (by simp [results, Try.f24, go_sem]) rfl ⟨by rw [hV.out], ?_⟩
    exact ((Below.refl w.heap.size w).alloc (Nat.le_refl _) _).alloc (by simp) _
end Go.Proofs.Ytgfhaldfjnepmaa
