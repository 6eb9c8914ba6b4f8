/- Walk of RealmApart. -/
import Derived.Test.YtkfjoonhgpgaiaaRealm9
namespace Go.Proofs.Ytkfjoonhgpgaiaa
open Go Go.RowKit Go.Shelf Go.Proofs Go.Sort
attribute [local go_sem] Oper.semAt_some

set_option maxRecDepth 100000 in
set_option maxHeartbeats 8000000 in
theorem law_RealmApart (a : Int) (_ha : -9223372036854775808 ≤ a ∧ a ≤ 9223372036854775807) (b : Int) (_hb : -9223372036854775808 ≤ b ∧ b ≤ 9223372036854775807) (s : ByteArray) (hs : s.size ≤ 140737488351232) (t : ByteArray) (ht : t.size ≤ 140737488351232) (u : ByteArray) (hu : u.size ≤ 140737488351232) (w : World) :
    Calls Try.prog 13 #[.int .i64 a, .int .i64 b, .string s, .string t, .string u] w fun e w' => e = .returned (.bool true) ∧ Below w.heap.size w w' := by
  clear _ha _hb
  have hB := Below.refl w.heap.size w
  by_cases h1000 : s.size + t.size + u.size ≤ 1000
  · have hN16 : ownerN u ≤ 16 := by rcases ownerN_cases u with h | h <;> omega
    obtain ⟨D, hD⟩ : ∃ D, decide (1 ≤ ownerN u) = D := ⟨_, rfl⟩
    rcases tenant_cases a with ⟨_, k, rfl, h1, h2⟩ | ⟨_, h⟩
    · have hR := Lib.hid (rangeV_ok k h1 h2)
      have how := realm_how u k h1 h2
      generalize bs (preL k) = fr at hR how
      generalize bs (preL (k + 1)) = to at hR how
      obtain ⟨N, hU⟩ : ∃ N, ownerN u = N := ⟨_, rfl⟩
      rw [hU] at hN16 how hD
      have HU := Lib.hid hU
      have HDD := Lib.hid hD
      have HK : Hid (decide (1 ≤ k) = true) := Lib.hid (decide_eq_true h1)
      clear hU
      have n2 : decide ((16 : Int) < (N : Int)) = false := decide_eq_false (by omega)
      -- the second half
      have half : (∃ x y e2, Hid (joinV (k : Int) s = .tuple #[.string x, .int .i64 3]) ∧ Hid (joinV b t = .tuple #[.string y, .int .i64 e2])) ∨ (∃ x y, Hid (joinV (k : Int) s = .tuple #[.string x, .int .i64 0]) ∧ Hid (joinV b t = .tuple #[.string y, .int .i64 2])) ∨ (∃ x y, Hid (joinV (k : Int) s = .tuple #[.string x, .int .i64 0]) ∧ Hid (joinV b t = .tuple #[.string y, .int .i64 3])) ∨
          (∃ (m : Nat) (x y : ByteArray), b = (m : Int) ∧ Hid (joinV (k : Int) s = .tuple #[.string x, .int .i64 0]) ∧ Hid (joinV b t = .tuple #[.string y, .int .i64 0]) ∧ Hid (ownerN x = k) ∧
            (((decide ((k : Int) < (m : Int)) = true ∧ decide (k < m) = true ∧ (k == m) = false ∧ decide (k = m) = false) ∧ ((k : Int) == (m : Int)) = false ∧ Op.bytesLess x.toList y.toList = true ∧ (x.toList == y.toList) = false ∧ ((y.extract 0 x.size).toList == x.toList) = false) ∨
             (k = m ∧ Op.bytesLess x.toList y.toList = Op.bytesLess s.toList t.toList ∧ (x.toList == y.toList) = (s.toList == t.toList)) ∨
             ((decide ((k : Int) < (m : Int)) = false ∧ decide (k < m) = false ∧ (k == m) = false ∧ decide (k = m) = false) ∧ ((k : Int) == (m : Int)) = false ∧ Op.bytesLess x.toList y.toList = false ∧ (x.toList == y.toList) = false ∧ ((y.extract 0 x.size).toList == x.toList) = false))) := by
        obtain ⟨y, e2, hJ2⟩ := joinV_parts b t
        by_cases h16 : s.size ≤ 16
        · rcases tenant_cases b with ⟨_, m, rfl, m1, m2⟩ | ⟨_, h⟩
          · by_cases t16 : t.size ≤ 16
            · refine .inr (.inr (.inr ⟨m, pathL k s, pathL m t, rfl, Lib.hid (joinV_ok k s h1 h2 h16), Lib.hid (joinV_ok m t m1 m2 t16), Lib.hid (owner_path k s h1 h2), paths_how k m s t h1 h2 m1 m2⟩))
            · exact .inr (.inr (.inl ⟨_, _, Lib.hid (joinV_ok k s h1 h2 h16), Lib.hid (joinV_long m t m1 m2 t16)⟩))
          · exact .inr (.inl ⟨_, _, Lib.hid (joinV_ok k s h1 h2 h16), Lib.hid (joinV_no b t h)⟩)
        · exact .inl ⟨_, _, _, Lib.hid (joinV_long k s h1 h2 h16), Lib.hid hJ2⟩
      have first : (D = true ∧ N = k ∧ Op.bytesLess u.toList fr.toList = false ∧ Op.bytesLess u.toList to.toList = true ∧ ((N : Int) == (k : Int)) = true) ∨ (((N : Int) == (k : Int)) = false ∧ Op.bytesLess u.toList fr.toList = true) ∨ (((N : Int) == (k : Int)) = false ∧ Op.bytesLess u.toList fr.toList = false ∧ Op.bytesLess u.toList to.toList = false) := by
        rcases how with ⟨ho, c1, c2⟩ | ⟨ho, c1⟩ | ⟨ho, c1, c2⟩
        · exact .inl ⟨by rw [← hD]; exact decide_eq_true (by omega), ho, c1, c2, by rw [ho]; simp⟩
        · exact .inr (.inl ⟨beq_eq_false_iff_ne.2 (by omega), c1⟩)
        · exact .inr (.inr ⟨beq_eq_false_iff_ne.2 (by omega), c1, c2⟩)
      have n1 : D = true → decide ((N : Int) < 1) = false := fun h => by rw [h] at hD; exact decide_eq_false (by have := of_decide_eq_true hD; omega)
      clear hD how hN16
      have K1 : decide ((k : Int) < 1) = false := decide_eq_false (by omega)
      have K2 : decide ((16 : Int) < (k : Int)) = false := decide_eq_false (by omega)
      rcases first with ⟨rfl, rfl, c1, c2, -⟩ | ⟨ho, c1⟩ | ⟨ho, c1, c2⟩
      · clear n1
        rcases half with ⟨x, y, e2, JA, JB⟩ | ⟨x, y, JA, JB⟩ | ⟨x, y, JA, JB⟩ | ⟨m, x, y, rfl, JA, JB, HX, (⟨⟨q1, q1b, q1c, q1d⟩, q2, q3, q4, q5⟩ | ⟨rfl, q3, q4⟩ | ⟨⟨q1, q1b, q1c, q1d⟩, q2, q3, q4, q5⟩)⟩
        all_goals
          go_enter Try.func13, Try.ntmps13
          go_wp2_with (first
          | (go_at_call 33; refine (awake06 _).mono ?_; rintro e w' ⟨rfl, hn⟩; replace hB := below_chain hB hn; clear hn)
          | (go_at_call 36; refine (owner_any _ _).mono ?_; (first | rw [HU.out, HDD.out] | rw [HX.out, HK.out]); rintro e w' ⟨rfl, hn⟩; replace hB := below_chain hB hn; clear hn)
          | (go_at_call 37; refine (realmrange_any _ _).mono ?_; rw [hR.out]; rintro e w' ⟨rfl, hn⟩; replace hB := below_chain hB hn; clear hn)
          | (go_at_call 38; refine (realmjoin_any _ _ _ (by omega)).mono ?_; (first | rw [JA.out] | rw [JB.out]); rintro e w' ⟨rfl, hn⟩; replace hB := below_chain hB hn; clear hn))
          all_goals
            go_ret
            exact ⟨rfl, hB⟩
      · cases D with
        | true =>
          have n3 := n1 rfl
          clear n1
          rcases half with ⟨x, y, e2, JA, JB⟩ | ⟨x, y, JA, JB⟩ | ⟨x, y, JA, JB⟩ | ⟨m, x, y, rfl, JA, JB, HX, (⟨⟨q1, q1b, q1c, q1d⟩, q2, q3, q4, q5⟩ | ⟨rfl, q3, q4⟩ | ⟨⟨q1, q1b, q1c, q1d⟩, q2, q3, q4, q5⟩)⟩
          all_goals
            go_enter Try.func13, Try.ntmps13
            go_wp2_with (first
          | (go_at_call 33; refine (awake06 _).mono ?_; rintro e w' ⟨rfl, hn⟩; replace hB := below_chain hB hn; clear hn)
          | (go_at_call 36; refine (owner_any _ _).mono ?_; (first | rw [HU.out, HDD.out] | rw [HX.out, HK.out]); rintro e w' ⟨rfl, hn⟩; replace hB := below_chain hB hn; clear hn)
          | (go_at_call 37; refine (realmrange_any _ _).mono ?_; rw [hR.out]; rintro e w' ⟨rfl, hn⟩; replace hB := below_chain hB hn; clear hn)
          | (go_at_call 38; refine (realmjoin_any _ _ _ (by omega)).mono ?_; (first | rw [JA.out] | rw [JB.out]); rintro e w' ⟨rfl, hn⟩; replace hB := below_chain hB hn; clear hn))
            all_goals
              go_ret
              exact ⟨rfl, hB⟩
        | false =>
          clear n1
          rcases half with ⟨x, y, e2, JA, JB⟩ | ⟨x, y, JA, JB⟩ | ⟨x, y, JA, JB⟩ | ⟨m, x, y, rfl, JA, JB, HX, (⟨⟨q1, q1b, q1c, q1d⟩, q2, q3, q4, q5⟩ | ⟨rfl, q3, q4⟩ | ⟨⟨q1, q1b, q1c, q1d⟩, q2, q3, q4, q5⟩)⟩
          all_goals
            go_enter Try.func13, Try.ntmps13
            go_wp2_with (first
          | (go_at_call 33; refine (awake06 _).mono ?_; rintro e w' ⟨rfl, hn⟩; replace hB := below_chain hB hn; clear hn)
          | (go_at_call 36; refine (owner_any _ _).mono ?_; (first | rw [HU.out, HDD.out] | rw [HX.out, HK.out]); rintro e w' ⟨rfl, hn⟩; replace hB := below_chain hB hn; clear hn)
          | (go_at_call 37; refine (realmrange_any _ _).mono ?_; rw [hR.out]; rintro e w' ⟨rfl, hn⟩; replace hB := below_chain hB hn; clear hn)
          | (go_at_call 38; refine (realmjoin_any _ _ _ (by omega)).mono ?_; (first | rw [JA.out] | rw [JB.out]); rintro e w' ⟨rfl, hn⟩; replace hB := below_chain hB hn; clear hn))
            all_goals
              go_ret
              exact ⟨rfl, hB⟩
      · cases D with
        | true =>
          have n3 := n1 rfl
          clear n1
          rcases half with ⟨x, y, e2, JA, JB⟩ | ⟨x, y, JA, JB⟩ | ⟨x, y, JA, JB⟩ | ⟨m, x, y, rfl, JA, JB, HX, (⟨⟨q1, q1b, q1c, q1d⟩, q2, q3, q4, q5⟩ | ⟨rfl, q3, q4⟩ | ⟨⟨q1, q1b, q1c, q1d⟩, q2, q3, q4, q5⟩)⟩
          all_goals
            go_enter Try.func13, Try.ntmps13
            go_wp2_with (first
          | (go_at_call 33; refine (awake06 _).mono ?_; rintro e w' ⟨rfl, hn⟩; replace hB := below_chain hB hn; clear hn)
          | (go_at_call 36; refine (owner_any _ _).mono ?_; (first | rw [HU.out, HDD.out] | rw [HX.out, HK.out]); rintro e w' ⟨rfl, hn⟩; replace hB := below_chain hB hn; clear hn)
          | (go_at_call 37; refine (realmrange_any _ _).mono ?_; rw [hR.out]; rintro e w' ⟨rfl, hn⟩; replace hB := below_chain hB hn; clear hn)
          | (go_at_call 38; refine (realmjoin_any _ _ _ (by omega)).mono ?_; (first | rw [JA.out] | rw [JB.out]); rintro e w' ⟨rfl, hn⟩; replace hB := below_chain hB hn; clear hn))
            all_goals
              go_ret
              exact ⟨rfl, hB⟩
        | false =>
          clear n1
          rcases half with ⟨x, y, e2, JA, JB⟩ | ⟨x, y, JA, JB⟩ | ⟨x, y, JA, JB⟩ | ⟨m, x, y, rfl, JA, JB, HX, (⟨⟨q1, q1b, q1c, q1d⟩, q2, q3, q4, q5⟩ | ⟨rfl, q3, q4⟩ | ⟨⟨q1, q1b, q1c, q1d⟩, q2, q3, q4, q5⟩)⟩
          all_goals
            go_enter Try.func13, Try.ntmps13
            go_wp2_with (first
          | (go_at_call 33; refine (awake06 _).mono ?_; rintro e w' ⟨rfl, hn⟩; replace hB := below_chain hB hn; clear hn)
          | (go_at_call 36; refine (owner_any _ _).mono ?_; (first | rw [HU.out, HDD.out] | rw [HX.out, HK.out]); rintro e w' ⟨rfl, hn⟩; replace hB := below_chain hB hn; clear hn)
          | (go_at_call 37; refine (realmrange_any _ _).mono ?_; rw [hR.out]; rintro e w' ⟨rfl, hn⟩; replace hB := below_chain hB hn; clear hn)
          | (go_at_call 38; refine (realmjoin_any _ _ _ (by omega)).mono ?_; (first | rw [JA.out] | rw [JB.out]); rintro e w' ⟨rfl, hn⟩; replace hB := below_chain hB hn; clear hn))
            all_goals
              go_ret
              exact ⟨rfl, hB⟩
    · have hR := Lib.hid (rangeV_no a h)
      have JA := Lib.hid (joinV_no a s h)
      obtain ⟨y, e2, hJ2⟩ := joinV_parts b t
      have JB := Lib.hid hJ2
      have hN1 : D = true → decide (((ownerN u : Nat) : Int) < 1) = false := fun h => by rw [h] at hD; exact decide_eq_false (by have := of_decide_eq_true hD; omega)
      have n2 : decide ((16 : Int) < ((ownerN u : Nat) : Int)) = false := decide_eq_false (by omega)
      obtain ⟨N, hU⟩ : ∃ N, ownerN u = N := ⟨_, rfl⟩
      rw [hU] at hN1 n2 hD
      have HU := Lib.hid hU
      have HDD := Lib.hid hD
      clear hJ2 hD hN16 h hU
      cases D with
      | true =>
        have n3 := hN1 rfl
        clear hN1
        go_enter Try.func13, Try.ntmps13
        go_wp2_with (first
          | (go_at_call 33; refine (awake06 _).mono ?_; rintro e w' ⟨rfl, hn⟩; replace hB := below_chain hB hn; clear hn)
          | (go_at_call 36; refine (owner_any _ _).mono ?_; (first | rw [HU.out, HDD.out] | rw [HX.out, HK.out]); rintro e w' ⟨rfl, hn⟩; replace hB := below_chain hB hn; clear hn)
          | (go_at_call 37; refine (realmrange_any _ _).mono ?_; rw [hR.out]; rintro e w' ⟨rfl, hn⟩; replace hB := below_chain hB hn; clear hn)
          | (go_at_call 38; refine (realmjoin_any _ _ _ (by omega)).mono ?_; (first | rw [JA.out] | rw [JB.out]); rintro e w' ⟨rfl, hn⟩; replace hB := below_chain hB hn; clear hn))
        go_ret
        exact ⟨rfl, hB⟩
      | false =>
        clear hN1
        go_enter Try.func13, Try.ntmps13
        go_wp2_with (first
          | (go_at_call 33; refine (awake06 _).mono ?_; rintro e w' ⟨rfl, hn⟩; replace hB := below_chain hB hn; clear hn)
          | (go_at_call 36; refine (owner_any _ _).mono ?_; (first | rw [HU.out, HDD.out] | rw [HX.out, HK.out]); rintro e w' ⟨rfl, hn⟩; replace hB := below_chain hB hn; clear hn)
          | (go_at_call 37; refine (realmrange_any _ _).mono ?_; rw [hR.out]; rintro e w' ⟨rfl, hn⟩; replace hB := below_chain hB hn; clear hn)
          | (go_at_call 38; refine (realmjoin_any _ _ _ (by omega)).mono ?_; (first | rw [JA.out] | rw [JB.out]); rintro e w' ⟨rfl, hn⟩; replace hB := below_chain hB hn; clear hn))
        go_ret
        exact ⟨rfl, hB⟩
  · have h' : (1000 : Int) < (s.size : Int) + (t.size : Int) + (u.size : Int) := by omega
    clear h1000
    go_enter Try.func13, Try.ntmps13
    go_wp2_with (go_at_call 33; refine (awake06 _).mono ?_; rintro e w' ⟨rfl, hn⟩; replace hB := below_chain hB hn; clear hn)
    go_ret
    exact ⟨rfl, hB⟩
end Go.Proofs.Ytkfjoonhgpgaiaa
