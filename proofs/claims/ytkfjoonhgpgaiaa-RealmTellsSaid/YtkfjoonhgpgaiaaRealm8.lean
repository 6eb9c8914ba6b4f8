/- Walks of the statements of layer 6: awake, tells, RealmTells, RealmBack. -/
import Derived.Test.YtkfjoonhgpgaiaaRealm7
namespace Go.Proofs.Ytkfjoonhgpgaiaa
open Go Go.RowKit Go.Shelf Go.Proofs Go.Sort
attribute [local go_sem] Oper.semAt_some

set_option maxRecDepth 100000 in
set_option maxHeartbeats 2000000 in
theorem awake06 (w : World) :
    Calls Try.prog 33 #[] w fun e w' => e = .returned (.bool true) ∧ Below w.heap.size w w' := by
  have v1 : preV 3 = .tuple #[.string ⟨#[0, 0, 0, 0, 0, 0, 0, 3]⟩, .int .i64 0] := by kernel_rfl
  have v2 : joinV 3 ⟨#[97]⟩ = .tuple #[.string ⟨#[0, 0, 0, 0, 0, 0, 0, 3, 97, 0, 0]⟩, .int .i64 0] := by kernel_rfl
  have v3 : rangeV 3 = .tuple #[.string ⟨#[0, 0, 0, 0, 0, 0, 0, 3]⟩, .string ⟨#[0, 0, 0, 0, 0, 0, 0, 4]⟩, .int .i64 0] := by kernel_rfl
  have v4 : splitV ⟨#[0, 0, 0, 0, 0, 0, 0, 3, 97, 0, 0]⟩ = .tuple #[.int .i64 3, .string ⟨#[97]⟩, .int .i64 0] := by kernel_rfl
  have v5 : ((⟨#[0, 0, 0, 0, 0, 0, 0, 3]⟩ : ByteArray) ++ ⟨#[97, 0, 0]⟩).toList = [0, 0, 0, 0, 0, 0, 0, 3, 97, 0, 0] := by decide +kernel
  have hB := Below.refl w.heap.size w
  have V1 := Lib.hid v1
  have V2 := Lib.hid v2
  have V3 := Lib.hid v3
  have V4 := Lib.hid v4
  clear v1 v2 v3 v4
  go_enter Try.func33, Try.ntmps33
  go_wp2_with (first
    | (go_at_call 55; refine (realmprefix_any _ _).mono ?_; rw [V1.out]; rintro e w' ⟨rfl, hn⟩; replace hB := below_chain hB hn; clear hn)
    | (go_at_call 38; refine (realmjoin_any _ _ _ (by decide)).mono ?_; rw [V2.out]; rintro e w' ⟨rfl, hn⟩; replace hB := below_chain hB hn; clear hn)
    | (go_at_call 37; refine (realmrange_any _ _).mono ?_; rw [V3.out]; rintro e w' ⟨rfl, hn⟩; replace hB := below_chain hB hn; clear hn)
    | (go_at_call 39; refine (realmsplit_any _ _ (by decide)).mono ?_; rw [V4.out]; rintro e w' ⟨rfl, hn⟩; replace hB := below_chain hB hn; clear hn))
  go_ret
  exact ⟨rfl, hB⟩

theorem preV_parts (n : Int) : ∃ p e, preV n = .tuple #[.string p, .int .i64 e] := by unfold preV; split <;> exact ⟨_, _, rfl⟩
theorem rangeV_parts (n : Int) : ∃ p q e, rangeV n = .tuple #[.string p, .string q, .int .i64 e] := by unfold rangeV; split <;> exact ⟨_, _, _, rfl⟩
theorem splitV_parts (t : ByteArray) : ∃ n k e, splitV t = .tuple #[.int .i64 n, .string k, .int .i64 e] := by
  unfold splitV
  split
  · split <;> exact ⟨_, _, _, rfl⟩
  · exact ⟨_, _, _, rfl⟩

set_option maxRecDepth 100000 in
set_option maxHeartbeats 2000000 in
theorem tells06 (n : Int) (s t : ByteArray) (w : World) (hs : s.size ≤ 281474976710656) (ht : t.size ≤ 281474976710656) :
    Calls Try.prog 34 #[.int .i64 n, .string s, .string t] w fun e w' => e = .returned (.bool true) ∧ Below w.heap.size w w' := by
  obtain ⟨p1, e1, V1⟩ := preV_parts n
  obtain ⟨p2, e2, V2⟩ := joinV_parts n s
  obtain ⟨p3, q3, e3, V3⟩ := rangeV_parts n
  obtain ⟨n4, k4, e4, V4⟩ := splitV_parts t
  have hO := Lib.hid (owner_any t)
  have hR := Lib.hid (ref6owner_any t)
  generalize ownerN t = N at hO hR
  generalize decide (1 ≤ N) = D at hO hR
  have hB := Below.refl w.heap.size w
  have V1 := Lib.hid V1
  have V2 := Lib.hid V2
  have V3 := Lib.hid V3
  have V4 := Lib.hid V4
  go_enter Try.func34, Try.ntmps34
  go_wp2_with (first
    | (go_at_call 55; refine (realmprefix_any _ _).mono ?_; rw [V1.out]; rintro e w' ⟨rfl, hn⟩; replace hB := below_chain hB hn; clear hn)
    | (go_at_call 56; refine (ref6prefix_any _ _).mono ?_; rw [V1.out]; rintro e w' ⟨rfl, hn⟩; replace hB := below_chain hB hn; clear hn)
    | (go_at_call 38; refine (realmjoin_any _ _ _ hs).mono ?_; rw [V2.out]; rintro e w' ⟨rfl, hn⟩; replace hB := below_chain hB hn; clear hn)
    | (go_at_call 35; refine (ref6join_any _ _ _).mono ?_; rw [V2.out]; rintro e w' ⟨rfl, hn⟩; replace hB := below_chain hB hn; clear hn)
    | (go_at_call 37; refine (realmrange_any _ _).mono ?_; rw [V3.out]; rintro e w' ⟨rfl, hn⟩; replace hB := below_chain hB hn; clear hn)
    | (go_at_call 58; refine (ref6range_any _ _).mono ?_; rw [V3.out]; rintro e w' ⟨rfl, hn⟩; replace hB := below_chain hB hn; clear hn)
    | (go_at_call 39; refine (realmsplit_any _ _ ht).mono ?_; rw [V4.out]; rintro e w' ⟨rfl, hn⟩; replace hB := below_chain hB hn; clear hn)
    | (go_at_call 57; refine (ref6split_any _ _ ht).mono ?_; rw [V4.out]; rintro e w' ⟨rfl, hn⟩; replace hB := below_chain hB hn; clear hn)
    | (go_at_call 36; refine (hO.out _).mono ?_; rintro e w' ⟨rfl, hn⟩; replace hB := below_chain hB hn; clear hn)
    | (go_at_call 59; refine (hR.out _).mono ?_; rintro e w' ⟨rfl, hn⟩; replace hB := below_chain hB hn; clear hn))
  go_ret
  exact ⟨rfl, hB⟩

set_option maxRecDepth 100000 in
set_option maxHeartbeats 2000000 in
theorem law_RealmTells (n : Int) (_hn : -9223372036854775808 ≤ n ∧ n ≤ 9223372036854775807) (s : ByteArray) (hs : s.size ≤ 140737488351232) (t : ByteArray) (ht : t.size ≤ 140737488351232) (w : World) :
    Calls Try.prog 11 #[.int .i64 n, .string s, .string t] w fun e w' => e = .returned (.bool true) ∧ Below w.heap.size w w' := by
  clear _hn
  have hB := Below.refl w.heap.size w
  have hcase : (1000 : Int) < (s.size : Int) + (t.size : Int) ∨ ¬ (1000 : Int) < (s.size : Int) + (t.size : Int) := by omega
  rcases hcase with h | h
  all_goals
    go_enter Try.func11, Try.ntmps11
    go_wp2_with (first
      | (go_at_call 33; refine (awake06 _).mono ?_; rintro e w' ⟨rfl, hn⟩; replace hB := below_chain hB hn; clear hn)
      | (go_at_call 34; refine (tells06 _ _ _ _ (by omega) (by omega)).mono ?_; rintro e w' ⟨rfl, hn⟩; replace hB := below_chain hB hn; clear hn))
    go_ret
    exact ⟨rfl, hB⟩

theorem owner_path (k : Nat) (s : ByteArray) (h1 : 1 ≤ k) (h2 : k ≤ 16) : ownerN (pathL k s) = k := by
  refine ownerN_hit h1 h2 ?_
  rw [begB_iff, by_bs]
  unfold pathL
  rw [by_bs]
  exact List.prefix_append _ _

theorem drop_path (k : Nat) (s : ByteArray) : (by_ (pathL k s)).drop 8 = encC (by_ s) := by
  unfold pathL
  rw [by_bs]
  rfl

theorem size_path (k : Nat) (s : ByteArray) (h : s.size ≤ 16) : (pathL k s).size ≤ 42 := by
  have := (encC_length (by_ s)).2
  rw [size_by] at this
  unfold pathL
  rw [size_bs, List.length_append]
  show 8 + _ ≤ 42
  omega

theorem split_path (k : Nat) (s : ByteArray) (h1 : 1 ≤ k) (h2 : k ≤ 16) (h : s.size ≤ 16) : splitV (pathL k s) = .tuple #[.int .i64 k, .string s, .int .i64 0] := by
  have hk := owner_path k s h1 h2
  rw [splitV_ok (pathL k s) (by rw [hk]; exact h1) (by_ s) (by rw [drop_path, dec_enc (by rw [size_by]; exact h)]), hk, bs_by]

theorem path_split (t : ByteArray) (xs : List UInt8) (h1 : 1 ≤ ownerN t) (h : decL ((by_ t).drop 8) = some xs) : joinV (ownerN t : Nat) (bs xs) = .tuple #[.string t, .int .i64 0] ∧ ownerN t ≤ 16 ∧ (bs xs).size ≤ 16 := by
  rcases ownerN_cases t with ⟨h0, _⟩ | ⟨_, h2, hb⟩
  · omega
  · obtain ⟨h16, he⟩ := (decL_iff _ _).1 h
    refine ⟨?_, h2, by rw [size_bs]; exact h16⟩
    rw [joinV_ok _ _ h1 h2 (by rw [size_bs]; exact h16)]
    have ht : pathL (ownerN t) (bs xs) = t := by
      unfold pathL
      apply by_inj
      rw [by_bs, by_bs, ← he]
      rw [begB_iff, by_bs] at hb
      have := List.prefix_iff_eq_take.1 hb
      conv => lhs; rw [this]
      exact List.take_append_drop 8 (by_ t)
    rw [ht]

set_option maxRecDepth 100000 in
set_option maxHeartbeats 4000000 in
theorem law_RealmBack (n : Int) (_hn : -9223372036854775808 ≤ n ∧ n ≤ 9223372036854775807) (s : ByteArray) (hs : s.size ≤ 140737488351232) (t : ByteArray) (ht : t.size ≤ 140737488351232) (w : World) :
    Calls Try.prog 14 #[.int .i64 n, .string s, .string t] w fun e w' => e = .returned (.bool true) ∧ Below w.heap.size w w' := by
  clear _hn
  have hB := Below.refl w.heap.size w
  by_cases h1000 : s.size + t.size ≤ 1000
  · have hO := Lib.hid (owner_any t)
    -- the first half
    have A : (∃ (k : Nat) (p : ByteArray), n = k ∧ 1 ≤ k ∧ k ≤ 16 ∧ s.size ≤ 16 ∧ joinV n s = .tuple #[.string p, .int .i64 0] ∧ p.size ≤ 42 ∧ splitV p = .tuple #[.int .i64 k, .string s, .int .i64 0]) ∨ (joinV n s = .tuple #[.string ⟨#[]⟩, .int .i64 2]) ∨ (joinV n s = .tuple #[.string ⟨#[]⟩, .int .i64 3] ∧ ¬ s.size ≤ 16) := by
      rcases tenant_cases n with ⟨_, k, rfl, h1, h2⟩ | ⟨_, h⟩
      · by_cases h16 : s.size ≤ 16
        · exact .inl ⟨k, pathL k s, rfl, h1, h2, h16, joinV_ok k s h1 h2 h16, size_path k s h16, split_path k s h1 h2 h16⟩
        · exact .inr (.inr ⟨joinV_long k s h1 h2 h16, h16⟩)
      · exact .inr (.inl (joinV_no n s h))
    -- the second half
    have B : (splitV t = .tuple #[.int .i64 0, .string ⟨#[]⟩, .int .i64 4]) ∨ ∃ (N : Nat) (k : ByteArray), splitV t = .tuple #[.int .i64 N, .string k, .int .i64 0] ∧ joinV (N : Nat) k = .tuple #[.string t, .int .i64 0] ∧ k.size ≤ 16 ∧ (∀ w, Calls Try.prog 36 #[.string t] w fun e w' => e = .returned (.tuple #[.int .i64 N, .bool true]) ∧ Below w.heap.size w w') := by
      by_cases h1 : 1 ≤ ownerN t
      · cases hx : decL ((by_ t).drop 8) with
        | none => exact .inl (splitV_bad t hx)
        | some xs =>
          obtain ⟨a1, a2, a3⟩ := path_split t xs h1 hx
          refine .inr ⟨ownerN t, bs xs, splitV_ok t h1 xs hx, a1, a3, fun w => ?_⟩
          have := hO.out w
          rw [decide_eq_true h1] at this
          exact this
      · exact .inl (splitV_no t h1)
    clear hO
    rcases A with ⟨k, p, rfl, a1, a2, a3, a4, a5, a6⟩ | a4 | ⟨a4, a3⟩
    · have A4 := Lib.hid a4
      have A6 := Lib.hid a6
      have d1 : decide ((k : Int) < 1) = false := decide_eq_false (by omega)
      have d2 : decide ((16 : Int) < (k : Int)) = false := decide_eq_false (by omega)
      clear a4 a6
      rcases B with b1 | ⟨N, kk, b1, b2, b3, b4⟩
      · have B1 := Lib.hid b1
        clear b1
        go_enter Try.func14, Try.ntmps14
        go_wp2_with (first
          | (go_at_call 33; refine (awake06 _).mono ?_; rintro e w' ⟨rfl, hn⟩; replace hB := below_chain hB hn; clear hn)
          | (go_at_call 38; refine (realmjoin_any _ _ _ (by omega)).mono ?_; rw [A4.out]; rintro e w' ⟨rfl, hn⟩; replace hB := below_chain hB hn; clear hn)
          | (go_at_call 39; refine (realmsplit_any _ _ (by omega)).mono ?_; (first | rw [A6.out] | rw [B1.out]); rintro e w' ⟨rfl, hn⟩; replace hB := below_chain hB hn; clear hn))
        go_ret
        exact ⟨rfl, hB⟩
      · have B1 := Lib.hid b1
        have B2 := Lib.hid b2
        have B4 := Lib.hid b4
        clear b1 b2 b4
        go_enter Try.func14, Try.ntmps14
        go_wp2_with (first
          | (go_at_call 33; refine (awake06 _).mono ?_; rintro e w' ⟨rfl, hn⟩; replace hB := below_chain hB hn; clear hn)
          | (go_at_call 38; refine (realmjoin_any _ _ _ (by omega)).mono ?_; (first | rw [A4.out] | rw [B2.out]); rintro e w' ⟨rfl, hn⟩; replace hB := below_chain hB hn; clear hn)
          | (go_at_call 39; refine (realmsplit_any _ _ (by omega)).mono ?_; (first | rw [A6.out] | rw [B1.out]); rintro e w' ⟨rfl, hn⟩; replace hB := below_chain hB hn; clear hn)
          | (go_at_call 36; refine (B4.out _).mono ?_; rintro e w' ⟨rfl, hn⟩; replace hB := below_chain hB hn; clear hn))
        go_ret
        exact ⟨rfl, hB⟩
    · have A4 := Lib.hid a4
      clear a4
      rcases B with b1 | ⟨N, kk, b1, b2, b3, b4⟩
      · have B1 := Lib.hid b1
        clear b1
        go_enter Try.func14, Try.ntmps14
        go_wp2_with (first
          | (go_at_call 33; refine (awake06 _).mono ?_; rintro e w' ⟨rfl, hn⟩; replace hB := below_chain hB hn; clear hn)
          | (go_at_call 38; refine (realmjoin_any _ _ _ (by omega)).mono ?_; rw [A4.out]; rintro e w' ⟨rfl, hn⟩; replace hB := below_chain hB hn; clear hn)
          | (go_at_call 39; refine (realmsplit_any _ _ (by omega)).mono ?_; rw [B1.out]; rintro e w' ⟨rfl, hn⟩; replace hB := below_chain hB hn; clear hn))
        go_ret
        exact ⟨rfl, hB⟩
      · have B1 := Lib.hid b1
        have B2 := Lib.hid b2
        have B4 := Lib.hid b4
        clear b1 b2 b4
        go_enter Try.func14, Try.ntmps14
        go_wp2_with (first
          | (go_at_call 33; refine (awake06 _).mono ?_; rintro e w' ⟨rfl, hn⟩; replace hB := below_chain hB hn; clear hn)
          | (go_at_call 38; refine (realmjoin_any _ _ _ (by omega)).mono ?_; (first | rw [A4.out] | rw [B2.out]); rintro e w' ⟨rfl, hn⟩; replace hB := below_chain hB hn; clear hn)
          | (go_at_call 39; refine (realmsplit_any _ _ (by omega)).mono ?_; rw [B1.out]; rintro e w' ⟨rfl, hn⟩; replace hB := below_chain hB hn; clear hn)
          | (go_at_call 36; refine (B4.out _).mono ?_; rintro e w' ⟨rfl, hn⟩; replace hB := below_chain hB hn; clear hn))
        go_ret
        exact ⟨rfl, hB⟩
    · have A4 := Lib.hid a4
      clear a4
      have d1 : decide ((s.size : Int) ≤ 16) = false := decide_eq_false (by omega)
      rcases B with b1 | ⟨N, kk, b1, b2, b3, b4⟩
      · have B1 := Lib.hid b1
        clear b1
        go_enter Try.func14, Try.ntmps14
        go_wp2_with (first
          | (go_at_call 33; refine (awake06 _).mono ?_; rintro e w' ⟨rfl, hn⟩; replace hB := below_chain hB hn; clear hn)
          | (go_at_call 38; refine (realmjoin_any _ _ _ (by omega)).mono ?_; rw [A4.out]; rintro e w' ⟨rfl, hn⟩; replace hB := below_chain hB hn; clear hn)
          | (go_at_call 39; refine (realmsplit_any _ _ (by omega)).mono ?_; rw [B1.out]; rintro e w' ⟨rfl, hn⟩; replace hB := below_chain hB hn; clear hn))
        go_ret
        exact ⟨rfl, hB⟩
      · have B1 := Lib.hid b1
        have B2 := Lib.hid b2
        have B4 := Lib.hid b4
        clear b1 b2 b4
        go_enter Try.func14, Try.ntmps14
        go_wp2_with (first
          | (go_at_call 33; refine (awake06 _).mono ?_; rintro e w' ⟨rfl, hn⟩; replace hB := below_chain hB hn; clear hn)
          | (go_at_call 38; refine (realmjoin_any _ _ _ (by omega)).mono ?_; (first | rw [A4.out] | rw [B2.out]); rintro e w' ⟨rfl, hn⟩; replace hB := below_chain hB hn; clear hn)
          | (go_at_call 39; refine (realmsplit_any _ _ (by omega)).mono ?_; rw [B1.out]; rintro e w' ⟨rfl, hn⟩; replace hB := below_chain hB hn; clear hn)
          | (go_at_call 36; refine (B4.out _).mono ?_; rintro e w' ⟨rfl, hn⟩; replace hB := below_chain hB hn; clear hn))
        go_ret
        exact ⟨rfl, hB⟩
  · have h' : (1000 : Int) < (s.size : Int) + (t.size : Int) := by omega
    clear h1000
    go_enter Try.func14, Try.ntmps14
    go_wp2_with (go_at_call 33; refine (awake06 _).mono ?_; rintro e w' ⟨rfl, hn⟩; replace hB := below_chain hB hn; clear hn)
    go_ret
    exact ⟨rfl, hB⟩
end Go.Proofs.Ytkfjoonhgpgaiaa
