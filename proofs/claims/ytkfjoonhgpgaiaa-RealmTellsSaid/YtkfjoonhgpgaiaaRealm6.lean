/- Walks of realm.Split, realm.Range, and of the reference's Prefix, Join, Range. -/
import Derived.Test.YtkfjoonhgpgaiaaRealm5
namespace Go.Proofs.Ytkfjoonhgpgaiaa
open Go Go.RowKit Go.Shelf Go.Proofs Go.Sort
attribute [local go_sem] Oper.semAt_some

/-- What Split hands back. -/
def splitV (t : ByteArray) : Value := if 1 ≤ ownerN t then (match decL ((by_ t).drop 8) with
  | some xs => .tuple #[.int .i64 (ownerN t), .string (bs xs), .int .i64 0]
  | none => .tuple #[.int .i64 0, .string ⟨#[]⟩, .int .i64 4]) else .tuple #[.int .i64 0, .string ⟨#[]⟩, .int .i64 4]

theorem splitV_no (t : ByteArray) (h : ¬ 1 ≤ ownerN t) : splitV t = .tuple #[.int .i64 0, .string ⟨#[]⟩, .int .i64 4] := by unfold splitV; rw [if_neg h]
theorem splitV_bad (t : ByteArray) (h : decL ((by_ t).drop 8) = none) : splitV t = .tuple #[.int .i64 0, .string ⟨#[]⟩, .int .i64 4] := by
  unfold splitV
  rw [h]
  split <;> rfl
theorem splitV_ok (t : ByteArray) (h1 : 1 ≤ ownerN t) (xs : List UInt8) (h : decL ((by_ t).drop 8) = some xs) : splitV t = .tuple #[.int .i64 (ownerN t), .string (bs xs), .int .i64 0] := by
  unfold splitV
  rw [if_pos h1, h]

theorem owner_size {t : ByteArray} (h : 1 ≤ ownerN t) : 8 ≤ t.size := by
  rcases ownerN_cases t with ⟨h0, _⟩ | ⟨_, _, hb⟩
  · omega
  · rw [begB_iff, by_bs] at hb
    have := hb.length_le
    rw [size_by] at this
    exact this

theorem drop8 (t : ByteArray) : by_ (t.extract 8 t.size) = (by_ t).drop 8 := by rw [by_extract, ← size_by, List.take_length]

set_option maxRecDepth 100000 in
set_option maxHeartbeats 2000000 in
theorem realmsplit_any (t : ByteArray) (w : World) (ht : t.size ≤ 281474976710656) :
    Calls Try.prog 39 #[.string t] w fun e w' => e = .returned (splitV t) ∧ Below w.heap.size w w' := by
  have hB := Below.refl w.heap.size w
  by_cases h1 : 1 ≤ ownerN t
  · have h8 := owner_size h1
    have hd8 := drop8 t
    have hE : (t.extract 8 t.size).size ≤ 281474976710656 := by rw [ByteArray.size_extract]; omega
    have hd : decide (1 ≤ ownerN t) = true := decide_eq_true h1
    have h8' : (8 : Int) ≤ (t.size : Int) := by omega
    have hO := Lib.hid (owner_any t)
    rw [hd] at hO
    cases hx : decL ((by_ t).drop 8) with
    | none =>
      have HV := Lib.hid (splitV_bad t hx)
      have HD : Hid (decV (t.extract 8 t.size) = .tuple #[.string ⟨#[]⟩, .int .i64 4]) := Lib.hid (decV_non (by rw [hd8]; exact hx))
      clear hx hd8 h1 hd
      go_enter Try.func39, Try.ntmps39
      go_wp2_with (first
        | (go_at_call 36; refine (hO.out _).mono ?_; rintro e w1 ⟨rfl, hn⟩; replace hB := below_chain hB hn; clear hn)
        | (go_at_call 31; refine (decode_any _ _ hE).mono ?_; rw [HD.out]; rintro e w1 ⟨rfl, hn⟩; replace hB := below_chain hB hn; clear hn))
      refine bodyPost_ret (v := splitV t) (by rw [HV.out]; simp [results, Try.f39, go_sem]) rfl ⟨rfl, hB⟩
    | some xs =>
      have HV := Lib.hid (splitV_ok t h1 xs hx)
      have HD : Hid (decV (t.extract 8 t.size) = .tuple #[.string (bs xs), .int .i64 0]) := Lib.hid (decV_some (by rw [hd8]; exact hx))
      clear hx hd8 h1 hd
      generalize bs xs = k at HV HD
      generalize ownerN t = N at HV hO
      go_enter Try.func39, Try.ntmps39
      go_wp2_with (first
        | (go_at_call 36; refine (hO.out _).mono ?_; rintro e w1 ⟨rfl, hn⟩; replace hB := below_chain hB hn; clear hn)
        | (go_at_call 31; refine (decode_any _ _ hE).mono ?_; rw [HD.out]; rintro e w1 ⟨rfl, hn⟩; replace hB := below_chain hB hn; clear hn))
      refine bodyPost_ret (v := splitV t) (by rw [HV.out]; simp [results, Try.f39, go_sem]) rfl ⟨rfl, hB⟩
  · have HV := Lib.hid (splitV_no t h1)
    have hd : decide (1 ≤ ownerN t) = false := decide_eq_false h1
    have hO := Lib.hid (owner_any t)
    rw [hd] at hO
    clear hd h1
    go_enter Try.func39, Try.ntmps39
    go_wp2_with (go_at_call 36; refine (hO.out _).mono ?_; rintro e w1 ⟨rfl, hn⟩; replace hB := below_chain hB hn; clear hn)
    refine bodyPost_ret (v := splitV t) (by rw [HV.out]; simp [results, Try.f39, go_sem]) rfl ⟨rfl, hB⟩

/-- What Range hands back. -/
def rangeV (n : Int) : Value := if 1 ≤ n ∧ n ≤ 16 then .tuple #[.string (bs (preL n.toNat)), .string (bs (preL (n.toNat + 1))), .int .i64 0] else .tuple #[.string ⟨#[]⟩, .string ⟨#[]⟩, .int .i64 2]
theorem rangeV_ok (k : Nat) (h1 : 1 ≤ k) (h2 : k ≤ 16) : rangeV (k : Int) = .tuple #[.string (bs (preL k)), .string (bs (preL (k + 1))), .int .i64 0] := by
  unfold rangeV; rw [if_pos (by omega), Int.toNat_natCast]
theorem rangeV_no (n : Int) (h : ¬ (1 ≤ n ∧ n ≤ 16)) : rangeV n = .tuple #[.string ⟨#[]⟩, .string ⟨#[]⟩, .int .i64 2] := by unfold rangeV; rw [if_neg h]

theorem beyond_pre (k : Nat) (h1 : 1 ≤ k) (h2 : k ≤ 16) : beyondL (preL k) = some (preL (k + 1)) := by
  have : k = 1 ∨ k = 2 ∨ k = 3 ∨ k = 4 ∨ k = 5 ∨ k = 6 ∨ k = 7 ∨ k = 8 ∨ k = 9 ∨ k = 10 ∨ k = 11 ∨ k = 12 ∨ k = 13 ∨ k = 14 ∨ k = 15 ∨ k = 16 := by omega
  rcases this with rfl | rfl | rfl | rfl | rfl | rfl | rfl | rfl | rfl | rfl | rfl | rfl | rfl | rfl | rfl | rfl <;> decide +kernel

set_option maxRecDepth 100000 in
set_option maxHeartbeats 2000000 in
theorem realmrange_any (n : Int) (w : World) :
    Calls Try.prog 37 #[.int .i64 n] w fun e w' => e = .returned (rangeV n) ∧ Below w.heap.size w w' := by
  have hB := Below.refl w.heap.size w
  rcases tenant_cases n with ⟨hd, k, rfl, h1, h2⟩ | ⟨hd, h⟩
  · have HV := Lib.hid (rangeV_ok k h1 h2)
    have HP := Lib.hid (preV_ok k h1 h2)
    have HB : Hid (beyondV (bs (preL k)) = .tuple #[.string (bs (preL (k + 1))), .bool true]) := Lib.hid (by unfold beyondV; rw [by_bs, beyond_pre k h1 h2]; rfl)
    have hz : (bs (preL k)).size ≤ 281474976710656 := by rw [size_bs]; exact (by decide : (8 : Nat) ≤ 281474976710656)
    clear hd
    generalize bs (preL k) = p at HV HP HB hz
    generalize bs (preL (k + 1)) = q at HV HB
    go_enter Try.func37, Try.ntmps37
    go_wp2_with (first
      | (go_at_call 55; refine (realmprefix_any _ _).mono ?_; rw [HP.out]; rintro e w1 ⟨rfl, hn⟩; replace hB := below_chain hB hn; clear hn)
      | (go_at_call 17; refine (beyond_any _ _ hz).mono ?_; rw [HB.out]; rintro e w1 ⟨rfl, hn⟩; replace hB := below_chain hB hn; clear hn))
    refine bodyPost_ret (v := rangeV k) (by rw [HV.out]; simp [results, Try.f37, go_sem]) rfl ⟨rfl, hB⟩
  · have HV := Lib.hid (rangeV_no n h)
    have HP := Lib.hid (preV_no n h)
    clear hd h
    go_enter Try.func37, Try.ntmps37
    go_wp2_with (go_at_call 55; refine (realmprefix_any _ _).mono ?_; rw [HP.out]; rintro e w1 ⟨rfl, hn⟩; replace hB := below_chain hB hn; clear hn)
    refine bodyPost_ret (v := rangeV n) (by rw [HV.out]; simp [results, Try.f37, go_sem]) rfl ⟨rfl, hB⟩

theorem tenant_three (n : Int) : n < 1 ∨ (¬ n < 1 ∧ 16 < n) ∨ (¬ n < 1 ∧ ¬ 16 < n ∧ ∃ k : Nat, n = k ∧ 1 ≤ k ∧ k ≤ 16) := by
  by_cases h : n < 1
  · exact .inl h
  · by_cases h2 : 16 < n
    · exact .inr (.inl ⟨h, h2⟩)
    · exact .inr (.inr ⟨h, h2, n.toNat, by omega, by omega, by omega⟩)

set_option maxRecDepth 100000 in
set_option maxHeartbeats 2000000 in
theorem ref6prefix_any (n : Int) (w : World) :
    Calls Try.prog 56 #[.int .i64 n] w fun e w' => e = .returned (preV n) ∧ Below w.heap.size w w' := by
  have hB := Below.refl w.heap.size w
  rcases tenant_three n with h | ⟨h, h'⟩ | ⟨h, h', k, rfl, h1, h2⟩
  · have HV := Lib.hid (preV_no n (by omega))
    go_enter Try.func56, Try.ntmps56
    go_wp2_with fail
    refine bodyPost_ret (v := preV n) (by rw [HV.out]; simp [results, Try.f56, go_sem]) rfl ⟨rfl, hB⟩
  · have HV := Lib.hid (preV_no n (by omega))
    go_enter Try.func56, Try.ntmps56
    go_wp2_with fail
    refine bodyPost_ret (v := preV n) (by rw [HV.out]; simp [results, Try.f56, go_sem]) rfl ⟨rfl, hB⟩
  · have HV := Lib.hid (preV_ok k h1 h2)
    have d1 : decide ((k : Int) < 1) = false := decide_eq_false (by omega)
    have d2 : decide ((16 : Int) < (k : Int)) = false := decide_eq_false (by omega)
    clear h h'
    go_enter Try.func56, Try.ntmps56
    go_wp2_with (go_at_call 70; refine (refprefix_any _ _ (by omega)).mono ?_; rintro e w1 ⟨rfl, hn⟩; replace hB := below_chain hB hn; clear hn)
    refine bodyPost_ret (v := preV k) (by rw [HV.out]; simp [results, Try.f56, go_sem]) rfl ⟨rfl, hB⟩

set_option maxRecDepth 100000 in
set_option maxHeartbeats 2000000 in
theorem ref6join_any (n : Int) (s : ByteArray) (w : World) :
    Calls Try.prog 35 #[.int .i64 n, .string s] w fun e w' => e = .returned (joinV n s) ∧ Below w.heap.size w w' := by
  have hB := Below.refl w.heap.size w
  rcases tenant_cases n with ⟨hd, k, rfl, h1, h2⟩ | ⟨hd, h⟩
  · have HP := Lib.hid (preV_ok k h1 h2)
    clear hd
    by_cases h16 : s.size ≤ 16
    · have HV := Lib.hid (joinV_ok k s h1 h2 h16)
      have HE := Lib.hid (encV_ok h16)
      have hp := Lib.hid (pathL_eq k s)
      have hz : (bs (encC (by_ s))).size ≤ 34 := by have := (encC_length (by_ s)).2; rw [size_bs]; rw [size_by] at this; omega
      have hz2 : (bs (preL k)).size = 8 := rfl
      generalize bs (encC (by_ s)) = c at HE hp hz
      generalize bs (preL k) = q at HP hp hz2
      go_enter Try.func35, Try.ntmps35
      go_wp2_with (first
        | (go_at_call 56; refine (ref6prefix_any _ _).mono ?_; rw [HP.out]; rintro e w1 ⟨rfl, hn⟩; replace hB := below_chain hB hn; clear hn)
        | (go_at_call 50; refine (refenc_any _ _).mono ?_; rw [HE.out]; rintro e w1 ⟨rfl, rfl⟩))
      refine bodyPost_ret (v := joinV k s) (by rw [HV.out]; simp [results, Try.f35, go_sem, hp.out]) rfl ⟨rfl, hB⟩
    · have HV := Lib.hid (joinV_long k s h1 h2 h16)
      have HE := Lib.hid (encV_long h16)
      clear h16
      go_enter Try.func35, Try.ntmps35
      go_wp2_with (first
        | (go_at_call 56; refine (ref6prefix_any _ _).mono ?_; rw [HP.out]; rintro e w1 ⟨rfl, hn⟩; replace hB := below_chain hB hn; clear hn)
        | (go_at_call 50; refine (refenc_any _ _).mono ?_; rw [HE.out]; rintro e w1 ⟨rfl, rfl⟩))
      refine bodyPost_ret (v := joinV k s) (by rw [HV.out]; simp [results, Try.f35, go_sem]) rfl ⟨rfl, hB⟩
  · have HV := Lib.hid (joinV_no n s h)
    have HP := Lib.hid (preV_no n h)
    clear hd h
    go_enter Try.func35, Try.ntmps35
    go_wp2_with (go_at_call 56; refine (ref6prefix_any _ _).mono ?_; rw [HP.out]; rintro e w1 ⟨rfl, hn⟩; replace hB := below_chain hB hn; clear hn)
    refine bodyPost_ret (v := joinV n s) (by rw [HV.out]; simp [results, Try.f35, go_sem]) rfl ⟨rfl, hB⟩

set_option maxRecDepth 100000 in
set_option maxHeartbeats 2000000 in
theorem ref6range_any (n : Int) (w : World) :
    Calls Try.prog 58 #[.int .i64 n] w fun e w' => e = .returned (rangeV n) ∧ Below w.heap.size w w' := by
  have hB := Below.refl w.heap.size w
  rcases tenant_cases n with ⟨hd, k, rfl, h1, h2⟩ | ⟨hd, h⟩
  · have HV := Lib.hid (rangeV_ok k h1 h2)
    have HP := Lib.hid (preV_ok k h1 h2)
    have HQ := Lib.hid (fun w => refprefix_any (k + 1) w (by omega))
    clear hd
    generalize bs (preL k) = p at HV HP
    go_enter Try.func58, Try.ntmps58
    go_wp2_with (first
      | (go_at_call 56; refine (ref6prefix_any _ _).mono ?_; rw [HP.out]; rintro e w1 ⟨rfl, hn⟩; replace hB := below_chain hB hn; clear hn)
      | (go_at_call 70; refine (HQ.out _).mono ?_; rintro e w1 ⟨rfl, hn⟩; replace hB := below_chain hB hn; clear hn))
    refine bodyPost_ret (v := rangeV k) (by rw [HV.out]; simp [results, Try.f58, go_sem]) rfl ⟨rfl, hB⟩
  · have HV := Lib.hid (rangeV_no n h)
    have HP := Lib.hid (preV_no n h)
    clear hd h
    go_enter Try.func58, Try.ntmps58
    go_wp2_with (go_at_call 56; refine (ref6prefix_any _ _).mono ?_; rw [HP.out]; rintro e w1 ⟨rfl, hn⟩; replace hB := below_chain hB hn; clear hn)
    refine bodyPost_ret (v := rangeV n) (by rw [HV.out]; simp [results, Try.f58, go_sem]) rfl ⟨rfl, hB⟩
end Go.Proofs.Ytkfjoonhgpgaiaa
