/- Walks of realm.find over the tenants, and of realm.Owner. -/
import Derived.Test.YtkfjoonhgpgaiaaRealm2
import Derived.Test.YtkfjoonhgpgaiaaRangeOwn
namespace Go.Proofs.Ytkfjoonhgpgaiaa
open Go Go.RowKit Go.Shelf Go.Proofs Go.Sort
attribute [local go_sem] Oper.semAt_some

set_option maxRecDepth 100000 in
set_option maxHeartbeats 4000000 in
theorem tenants1_in (n : Nat) (hn : 1 ≤ n) (l : Nat) (J : Nat → World → Prop) (Jx : Nat → World → Prop)
    (hY : ∀ k W, J k W → 1 ≤ k → k ≤ 16 → YieldAt Fence.wide (n - 1) Try.prog l #[.agg #[.int .i64 k]] W fun e W' => (e = .returned (.bool true) ∧ J (k + 1) W') ∨ (e = .returned (.bool false) ∧ Jx k W'))
    (W : World) (h0 : J 1 W) :
    CallsIn Fence.wide n Try.prog 73 #[.func (.yield l) #[] #[]] W fun e W' => (∃ v, e = .returned v) ∧ (J 17 W' ∨ ∃ k, 1 ≤ k ∧ k ≤ 16 ∧ Jx k W') := by
  have HY := Lib.hid hY
  clear hY
  refine callsIn_of_wp Try.func73 rfl trivial ?_ rfl
  simp only [Try.ntmps73, List.size_toArray, List.length_cons, List.length_nil, Nat.reduceAdd, Nat.reduceSub, Array.replicate_succ, Array.replicate_zero, List.push_toArray, List.append_toArray, List.nil_append, List.cons_append]
  gi_wp2
  gi_loopw [2] (fun i wr => ∃ k : Nat, 1 ≤ k ∧ k ≤ 17 ∧ i = .int .i64 k ∧ J k wr) (fun i _ => 17 - (intOf i).toNat)
  case atStart => exact ⟨1, by omega, by omega, rfl, h0⟩
  case round =>
    clear h0
    obtain ⟨k, hk1, hk, rfl, hj⟩ := hrel
    by_cases hk2 : k ≤ 16
    · obtain ⟨fn, tmps, assign, body, hy, hR⟩ := HY.out k wr hj hk1 hk2
      have hd : decide ((k : Int) ≤ 16) = true := decide_eq_true (by omega)
      gi_wp2
      refine hR.mono ?_
      rintro e W3 (⟨rfl, hJ3⟩ | ⟨rfl, hJx3⟩)
      · gi_wp2
        go_roundw
        case rel => exact ⟨k + 1, by omega, by omega, by go_num, hJ3⟩
        case measure => simp [intOf]; omega
      · gi_wp2
        refine bodyPost_ret (results_none rfl _ _ _) rfl ?_
        exact ⟨⟨_, rfl⟩, .inr ⟨k, hk1, hk2, hJx3⟩⟩
    · obtain rfl : k = 17 := by omega
      gi_wp2
      go_end0
      exact ⟨⟨_, rfl⟩, .inl hj⟩

/-- The tenant to whose realm a text belongs, from the n-th on; 0: none. -/
def ownerN (t : ByteArray) : Nat := if begB t (bs (preL 1)) then 1 else if begB t (bs (preL 2)) then 2 else if begB t (bs (preL 3)) then 3 else if begB t (bs (preL 4)) then 4 else if begB t (bs (preL 5)) then 5 else if begB t (bs (preL 6)) then 6 else if begB t (bs (preL 7)) then 7 else if begB t (bs (preL 8)) then 8 else if begB t (bs (preL 9)) then 9 else if begB t (bs (preL 10)) then 10 else if begB t (bs (preL 11)) then 11 else if begB t (bs (preL 12)) then 12 else if begB t (bs (preL 13)) then 13 else if begB t (bs (preL 14)) then 14 else if begB t (bs (preL 15)) then 15 else if begB t (bs (preL 16)) then 16 else 0

theorem preL_inj {n m : Nat} (hn : n ≤ 255) (hm : m ≤ 255) (h : preL n = preL m) : n = m := by
  have := congrArg (fun l => l.getD 7 0) h
  simp [preL] at this
  have h2 := congrArg UInt8.toNat this
  simp at h2
  omega

theorem begB_one {t : ByteArray} {n m : Nat} (hn : n ≤ 255) (hm : m ≤ 255) (h1 : begB t (bs (preL n)) = true) (h2 : begB t (bs (preL m)) = true) : n = m := by
  rw [begB_iff, by_bs] at h1 h2
  have e1 := List.prefix_iff_eq_take.1 h1
  have e2 := List.prefix_iff_eq_take.1 h2
  exact preL_inj hn hm (by rw [e1, e2]; rfl)

theorem ownerN_hit {t : ByteArray} {n : Nat} (h1 : 1 ≤ n) (h2 : n ≤ 16) (h : begB t (bs (preL n)) = true) : ownerN t = n := by
  have hne : ∀ m, m ≤ 16 → m ≠ n → begB t (bs (preL m)) = false := fun m hm hne => by
    cases hb : begB t (bs (preL m)) with
    | false => rfl
    | true => exact absurd (begB_one (by omega) (by omega) hb h) hne
  unfold ownerN
  have : n = 1 ∨ n = 2 ∨ n = 3 ∨ n = 4 ∨ n = 5 ∨ n = 6 ∨ n = 7 ∨ n = 8 ∨ n = 9 ∨ n = 10 ∨ n = 11 ∨ n = 12 ∨ n = 13 ∨ n = 14 ∨ n = 15 ∨ n = 16 := by omega
  rcases this with rfl | rfl | rfl | rfl | rfl | rfl | rfl | rfl | rfl | rfl | rfl | rfl | rfl | rfl | rfl | rfl
  all_goals
    first | rw [hne 1 (by decide) (by decide)] | skip
    first | rw [hne 2 (by decide) (by decide)] | skip
    first | rw [hne 3 (by decide) (by decide)] | skip
    first | rw [hne 4 (by decide) (by decide)] | skip
    first | rw [hne 5 (by decide) (by decide)] | skip
    first | rw [hne 6 (by decide) (by decide)] | skip
    first | rw [hne 7 (by decide) (by decide)] | skip
    first | rw [hne 8 (by decide) (by decide)] | skip
    first | rw [hne 9 (by decide) (by decide)] | skip
    first | rw [hne 10 (by decide) (by decide)] | skip
    first | rw [hne 11 (by decide) (by decide)] | skip
    first | rw [hne 12 (by decide) (by decide)] | skip
    first | rw [hne 13 (by decide) (by decide)] | skip
    first | rw [hne 14 (by decide) (by decide)] | skip
    first | rw [hne 15 (by decide) (by decide)] | skip
    rw [h]
    simp

theorem ownerN_miss {t : ByteArray} (h : ∀ n, 1 ≤ n → n ≤ 16 → begB t (bs (preL n)) = false) : ownerN t = 0 := by
  unfold ownerN
  rw [h 1 (by decide) (by decide), h 2 (by decide) (by decide), h 3 (by decide) (by decide), h 4 (by decide) (by decide), h 5 (by decide) (by decide), h 6 (by decide) (by decide), h 7 (by decide) (by decide), h 8 (by decide) (by decide),
    h 9 (by decide) (by decide), h 10 (by decide) (by decide), h 11 (by decide) (by decide), h 12 (by decide) (by decide), h 13 (by decide) (by decide), h 14 (by decide) (by decide), h 15 (by decide) (by decide), h 16 (by decide) (by decide)]
  simp

theorem ownerN_cases (t : ByteArray) : (ownerN t = 0 ∧ ∀ n, 1 ≤ n → n ≤ 16 → begB t (bs (preL n)) = false) ∨ (1 ≤ ownerN t ∧ ownerN t ≤ 16 ∧ begB t (bs (preL (ownerN t))) = true) := by
  by_cases h : ∀ n, 1 ≤ n → n ≤ 16 → begB t (bs (preL n)) = false
  · exact .inl ⟨ownerN_miss h, h⟩
  · right
    obtain ⟨n, hn⟩ := Classical.not_forall.1 h
    have h1 : 1 ≤ n := Classical.byContradiction fun h1 => hn (fun h2 => absurd h2 h1)
    have h2 : n ≤ 16 := Classical.byContradiction fun h2 => hn (fun _ h3 => absurd h3 h2)
    have h3 : begB t (bs (preL n)) = true := by
      cases hb : begB t (bs (preL n)) with
      | true => rfl
      | false => exact absurd (fun _ _ => hb) hn
    rw [ownerN_hit h1 h2 h3]
    exact ⟨h1, h2, h3⟩
end Go.Proofs.Ytkfjoonhgpgaiaa
