/- Walks of the reference's Begins, Rest, Cut and Join. -/
import Derived.Test.YtgfhaldfjnepmaaPath7
namespace Go.Proofs.Ytgfhaldfjnepmaa
open Go Go.RowKit Go.Shelf Go.Proofs
attribute [local go_sem] Oper.semAt_some

theorem commonL_all : ∀ (x y : List UInt8), commonL x y = y.length ↔ y <+: x
  | x, [] => by
    constructor
    · intro _; exact List.nil_prefix
    · intro _
      have := (commonL_take x [] (commonL x []) (Nat.le_refl _)).2.2
      simpa using this
  | [], b :: y => by
    have := (commonL_take [] (b :: y) (commonL [] (b :: y)) (Nat.le_refl _)).2.1
    constructor
    · intro h; rw [h] at this; simp at this
    · intro h; simp at h
  | a :: x, b :: y => by
    have ih := commonL_all x y
    unfold commonL
    by_cases h : a = b
    · subst h
      simp [ih]
    · simp [h]
      intro h2
      exact absurd h2.symm h

theorem refbegins_any (s p : ByteArray) (w : World) (hs : s.size ≤ 281474976710656) :
    Calls Try.prog 54 #[.string s, .string p] w fun e w' => e = .returned (.bool (beginsB s p)) ∧ Below w.heap.size w w' := by
  have hb : Hid ((((commonL (by_ s) (by_ p) : Nat) : Int) == (p.size : Int)) = beginsB s p) := Lib.hid (by
    rw [Bool.eq_iff_iff, beginsB_iff, ← commonL_all, size_by]
    simp
    omega)
  go_enter Try.func54, Try.ntmps54
  go_wp2_with (go_at_call 51; refine (refcommon_any _ _ _ hs).mono ?_; rintro e w' ⟨rfl, hn⟩)
  go_ret
  exact ⟨ret_bool (by rw [← hb.out]), hn⟩

theorem refrest_any (s : ByteArray) (n : Int) (w : World) :
    Calls Try.prog 55 #[.string s, .int .i64 n] w fun e w' => e = .returned (.string (bs ((by_ s).drop n.toNat))) ∧ w = w' := by
  have h3 : n < 0 ∨ (¬ n < 0 ∧ (s.size : Int) < n) ∨ (¬ n < 0 ∧ ¬ (s.size : Int) < n) := by omega
  have HL := Lib.hid (size_by s)
  rcases h3 with h | ⟨h, h2⟩ | ⟨h, h2⟩
  · have he : Hid (s = bs ((by_ s).drop n.toNat)) := Lib.hid (by rw [show n.toNat = 0 by omega, List.drop_zero, bs_by])
    go_enter Try.func55, Try.ntmps55
    go_wp2
    go_ret
    exact ⟨ret_str he.out, rfl⟩
  · have he : Hid ((⟨#[]⟩ : ByteArray) = bs ((by_ s).drop n.toNat)) := Lib.hid (by rw [List.drop_of_length_le (by rw [HL.out]; omega)]; rfl)
    go_enter Try.func55, Try.ntmps55
    go_wp2
    go_ret
    exact ⟨ret_str he.out, rfl⟩
  · have he := Lib.hid (show s.extract n.toNat s.size = bs ((by_ s).drop n.toNat) by rw [extract_bs, ← size_by, List.take_length])
    go_enter Try.func55, Try.ntmps55
    go_wp2
    go_ret
    exact ⟨ret_str he.out, rfl⟩

set_option maxRecDepth 100000 in
set_option maxHeartbeats 2000000 in
theorem refcut_any (s : ByteArray) (n : Int) (w : World) (hs : s.size ≤ 281474976710656) :
    Calls Try.prog 53 #[.string s, .int .i64 n] w fun e w' => e = .returned (cutV s n) ∧ Below w.heap.size w w' := by
  by_cases h : 0 ≤ n ∧ n < s.size
  · obtain ⟨k, rfl⟩ := Int.eq_ofNat_of_zero_le h.1
    have hk : k < s.size := by omega
    have hV := Lib.hid (show cutV s (k : Int) = .tuple #[.string (s.extract 0 k), .int .u8 (s[k].toNat : Nat), .string (s.extract (k + 1) s.size), .bool true] by
      unfold cutV; rw [dif_pos h, extract_bs, extract_bs, List.drop_zero, ← size_by, List.take_length]; rfl)
    have hx2 : IntKind.i64.wrap ((k : Int) + 1) = (k : Int) + 1 := by rw [IntKind.wrap_i64]; omega
    have h2 : (k : Int) ≤ (s.size : Int) := by omega
    have h3 : (k : Int) + 1 ≤ (s.size : Int) := by omega
    have h4 : decide ((s.size : Int) ≤ (k : Int)) = false := decide_eq_false (by omega)
    clear h
    go_enter Try.func53, Try.ntmps53
    go_wp2
    refine wp_region_quiet_below (by kernel_rfl) (by kernel_rfl) ?_
    repeat (go_big_quiet_step (fail))
    refine wpQuiet_nil ?_
    intro _ hw'
    obtain ⟨⟨dq, osq⟩, hw''⟩ := hw'
    subst hw''
    go_wp2
    refine bodyPost_ret (v := cutV s k) (by rw [hV.out]; simp [results, Try.f53, go_sem]) rfl ⟨rfl, below_regrown _ dq osq⟩
  · have hV := Lib.hid (show cutV s n = .tuple #[.string ⟨#[]⟩, .int .u8 0, .string ⟨#[]⟩, .bool false] by unfold cutV; rw [dif_neg h])
    have h' : n < 0 ∨ (¬ n < 0 ∧ decide ((s.size : Int) ≤ n) = true) := by
      by_cases h0 : n < 0
      · exact .inl h0
      · exact .inr ⟨h0, decide_eq_true (by omega)⟩
    clear h
    rcases h' with h | ⟨h, h2⟩
    all_goals
      go_enter Try.func53, Try.ntmps53
      go_wp2
      refine bodyPost_ret (v := cutV s n) (by rw [hV.out]; simp [results, Try.f53, go_sem]) rfl ⟨rfl, Below.refl _ _⟩

/-- A head, a byte, a tail. -/
def joinS (h : ByteArray) (n : Int) (t : ByteArray) : ByteArray := bs (by_ h ++ UInt8.ofNat n.toNat :: by_ t)

theorem joinS_eq (h : ByteArray) (n : Int) (t : ByteArray) : h ++ ⟨#[UInt8.ofNat n.toNat]⟩ ++ t = joinS h n t := by
  apply by_inj
  unfold joinS
  rw [by_append, by_append, by_bs]
  simp [by_]

theorem refjoin_any (h t : ByteArray) (n : Int) (w : World) (hh : h.size ≤ 140737488351232) (ht : t.size ≤ 140737488351232) :
    Calls Try.prog 56 #[.string h, .int .u8 n, .string t] w fun e w' => e = .returned (.string (joinS h n t)) ∧ Below w.heap.size w w' := by
  have hcv := fun n W c => conv1 (P := Try.prog) 74 9 5 Try.underlying74 Try.underlying5 Try.underlying9 n W c
  have hj := Lib.hid (joinS_eq h n t)
  have h1 : (⟨#[UInt8.ofNat n.toNat]⟩ : ByteArray).size = 1 := rfl
  go_enter Try.func56, Try.ntmps56
  go_wp2
  go_ret
  exact ⟨ret_str hj.out, (Below.refl _ _).alloc (Nat.le_refl _) _⟩
end Go.Proofs.Ytgfhaldfjnepmaa
