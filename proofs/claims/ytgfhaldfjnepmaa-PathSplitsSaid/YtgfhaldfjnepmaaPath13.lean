/- Walk of PathSplits. -/
import Derived.Test.YtgfhaldfjnepmaaPath12
namespace Go.Proofs.Ytgfhaldfjnepmaa
open Go Go.RowKit Go.Shelf Go.Proofs
attribute [local go_sem] Oper.semAt_some

theorem commonL_comm : ∀ (x y : List UInt8), commonL x y = commonL y x
  | [], [] => rfl
  | [], b :: y => by simp [commonL]
  | a :: x, [] => by simp [commonL]
  | a :: x, b :: y => by
    unfold commonL
    by_cases h : a = b
    · subst h; simp [commonL_comm x y]
    · have h2 : ¬ b = a := fun e => h e.symm
      simp [h, h2]

theorem cut_facts (s : ByteArray) (N : Nat) (h : N < s.size) :
    cutV s (N : Int) = .tuple #[.string (s.extract 0 N), .int .u8 (s[N].toNat : Nat), .string (s.extract (N + 1) s.size), .bool true] ∧ joinS (s.extract 0 N) (s[N].toNat : Nat) (s.extract (N + 1) s.size) = s ∧
    bs ((by_ s).drop ((N : Int) + 1).toNat) = s.extract (N + 1) s.size := by
  have e1 : s.extract 0 N = bs ((by_ s).take N) := by rw [extract_bs, List.drop_zero]
  have e2 : s.extract (N + 1) s.size = bs ((by_ s).drop (N + 1)) := by rw [extract_bs, ← size_by, List.take_length]
  refine ⟨?_, ?_, ?_⟩
  · unfold cutV
    rw [dif_pos (by omega), e1, e2]
    rfl
  · unfold joinS
    rw [e1, e2, by_bs, by_bs]
    apply by_inj
    rw [by_bs]
    have hN : N < (by_ s).length := by rw [size_by]; exact h
    have hd : (by_ s).drop N = s[N] :: (by_ s).drop (N + 1) := by rw [List.drop_eq_getElem_cons hN]; rfl
    have hu : UInt8.ofNat (((s[N].toNat : Nat) : Int)).toNat = s[N] := by rw [Int.toNat_natCast]; exact UInt8.ofNat_toNat
    refine Eq.trans ?_ (List.take_append_drop N (by_ s))
    rw [hd]
    exact congrArg (fun x => (by_ s).take N ++ x :: (by_ s).drop (N + 1)) hu
  · rw [e2, show ((N : Int) + 1).toNat = N + 1 by omega]

theorem splits_facts (a b : ByteArray) (N : Nat) (hN : commonL (by_ a) (by_ b) = N) :
    N ≤ a.size ∧ N ≤ b.size ∧ a.extract 0 N = b.extract 0 N ∧ commonL (by_ b) (by_ a) = N ∧ (((N : Int) == (b.size : Int)) = beginsB a b) ∧ (((N : Int) == (a.size : Int)) = beginsB b a) ∧
    (∀ (h1 : N < a.size) (h2 : N < b.size), (((a[N].toNat : Nat) : Int) == ((b[N].toNat : Nat) : Int)) = false) := by
  have ht := commonL_take (by_ a) (by_ b) N (by omega)
  rw [size_by, size_by] at ht
  have hs := commonL_stop (by_ a) (by_ b)
  rw [hN] at hs
  refine ⟨ht.2.1, ht.2.2, ?_, by rw [commonL_comm]; exact hN, ?_, ?_, ?_⟩
  · rw [extract_bs, extract_bs, List.drop_zero, List.drop_zero, ht.1]
  · rw [Bool.eq_iff_iff, beginsB_iff, ← commonL_all, hN, size_by]
    simp
    omega
  · rw [Bool.eq_iff_iff, beginsB_iff, ← commonL_all, commonL_comm, hN, size_by]
    simp
    omega
  · intro h1 h2
    refine beq_eq_false_iff_ne.2 (fun e => hs ⟨a[N], ?_, ?_⟩)
    · rw [List.getElem?_eq_getElem (by rw [size_by]; exact h1)]; rfl
    · rw [List.getElem?_eq_getElem (by rw [size_by]; exact h2)]
      have : a[N] = b[N] := UInt8.toNat_inj.1 (by omega)
      rw [this]; rfl

theorem cut_none (s : ByteArray) (N : Nat) (h : ¬ N < s.size) : cutV s (N : Int) = .tuple #[.string ⟨#[]⟩, .int .u8 0, .string ⟨#[]⟩, .bool false] := by
  unfold cutV
  rw [dif_neg (by omega)]

set_option maxRecDepth 100000 in
set_option maxHeartbeats 8000000 in
theorem law_PathSplits (a : ByteArray) (ha : a.size ≤ 140737488351232) (b : ByteArray) (hb : b.size ≤ 140737488351232) (w : World) :
    Calls Try.prog 7 #[.string a, .string b] w fun e w' => e = .returned (.bool true) ∧ Below w.heap.size w w' := by
  have hB := Below.refl w.heap.size w
  have hcase : (2000 : Int) < (a.size : Int) ∨ (¬ (2000 : Int) < (a.size : Int) ∧ (2000 : Int) < (b.size : Int)) ∨ (¬ (2000 : Int) < (a.size : Int) ∧ ¬ (2000 : Int) < (b.size : Int)) := by omega
  rcases hcase with h1 | ⟨h1, h2⟩ | ⟨h1, h2⟩
  iterate 2
    · go_enter Try.func7, Try.ntmps7
      go_wp2_with (go_at_call 15; refine (awake10 _).mono ?_; rintro e w' ⟨rfl, hn⟩; replace hB := below_chain hB hn; clear hn)
      go_ret
      exact ⟨rfl, hB⟩
  obtain ⟨N, hN⟩ : ∃ N, commonL (by_ a) (by_ b) = N := ⟨_, rfl⟩
  obtain ⟨f1, f2, f3, f4, f5, f6, f7⟩ := splits_facts a b N hN
  have HN := Lib.hid hN
  have HM := Lib.hid f4
  have HRn := Lib.hid (show bs ((by_ a).drop ((N : Nat) : Int).toNat) = a.extract N a.size by rw [extract_bs, ← size_by, List.take_length, Int.toNat_natCast])
  have g1 : (N : Int) ≤ (a.size : Int) := by omega
  have g2 : (N : Int) ≤ (b.size : Int) := by omega
  obtain ⟨hx, hxa⟩ : ∃ hx, b.extract 0 N = hx := ⟨_, rfl⟩
  rw [hxa] at f3
  have hxs : hx.size ≤ 2000 := by rw [← hxa, ByteArray.size_extract]; omega
  have z0 : decide ((N : Int) < 0) = false := decide_eq_false (by omega)
  have z1 : decide ((a.size : Int) < (N : Int)) = false := decide_eq_false (by omega)
  have z2 : decide ((b.size : Int) < (N : Int)) = false := decide_eq_false (by omega)
  have w1 : decide (a.size < N) = false := decide_eq_false (by omega)
  have w2 : decide (b.size < N) = false := decide_eq_false (by omega)
  clear hN f4
  by_cases c1 : N < a.size
  · obtain ⟨ca1, ca2, ca3⟩ := cut_facts a N c1
    rw [f3] at ca1 ca2
    obtain ⟨at_, hat⟩ : ∃ t, a.extract (N + 1) a.size = t := ⟨_, rfl⟩
    have hats : at_.size ≤ 2000 := by rw [← hat, ByteArray.size_extract]; omega
    rw [hat] at ca1 ca2 ca3
    have v1 : decide (N < a.size) = true := decide_eq_true c1
    have y1 : decide ((N : Int) < (a.size : Int)) = true := decide_eq_true (by omega)
    have HCa := Lib.hid ca1
    have HJa := Lib.hid ca2
    have HRa := Lib.hid ca3
    clear ca1 ca2 ca3 hat
    by_cases c2 : N < b.size
    · obtain ⟨cb1, cb2, cb3⟩ := cut_facts b N c2
      rw [hxa] at cb1 cb2
      obtain ⟨bt, hbt⟩ : ∃ t, b.extract (N + 1) b.size = t := ⟨_, rfl⟩
      have hbts : bt.size ≤ 2000 := by rw [← hbt, ByteArray.size_extract]; omega
      rw [hbt] at cb1 cb2 cb3
      have v2 : decide (N < b.size) = true := decide_eq_true c2
      have y2 : decide ((N : Int) < (b.size : Int)) = true := decide_eq_true (by omega)
      have HCb := Lib.hid cb1
      have HJb := Lib.hid cb2
      have HRb := Lib.hid cb3
      have f8 := f7 c1 c2
      have f9 := fun e : a[N].toNat = b[N].toNat => (by rw [e] at f8; simp at f8 : False)
      clear cb1 cb2 cb3 hbt f7
      go_enter Try.func7, Try.ntmps7
      go_wp2_with (first
      | (go_at_call 15; refine (awake10 _).mono ?_; rintro e w' ⟨rfl, hn⟩; replace hB := below_chain hB hn; clear hn)
      | (go_at_call 23; refine (common_any _ _ _ (by omega)).mono ?_; (first | rw [HN.out] | rw [HM.out]); rintro e w' ⟨rfl, hn⟩; replace hB := below_chain hB hn; clear hn)
      | (go_at_call 20; refine (begins_any _ _ _).mono ?_; rintro e w' ⟨rfl, rfl⟩)
      | (go_at_call 24; refine (cut_any _ _ _ (by omega)).mono ?_; (first | rw [HCa.out] | rw [HCb.out]); rintro e w' ⟨rfl, hn⟩; replace hB := below_chain hB hn; clear hn))
      try simp only [List.append]
      refine wp_region_quiet_below (by kernel_rfl) (by kernel_rfl) ?_
      repeat (go_big_quiet_step (first | exact Calls.regrown_of ((common_any _ _ _ (by omega)).mono (fun e w' h => ⟨by rw [h.1, HM.out], h.2⟩)) | exact Calls.regrown_of ((begins_any _ _ _).mono (fun e w' h => ⟨by rw [h.1], by rw [← h.2]; exact Below.refl _ _⟩))))
      refine wpQuiet_nil ?_
      intro _ hw'
      obtain ⟨⟨dq0, osq0⟩, hw''⟩ := hw'
      subst hw''
      replace hB := below_chain hB (below_regrown _ dq0 osq0)
      go_wp2_with (first
      | (go_at_call 15; refine (awake10 _).mono ?_; rintro e w' ⟨rfl, hn⟩; replace hB := below_chain hB hn; clear hn)
      | (go_at_call 23; refine (common_any _ _ _ (by omega)).mono ?_; (first | rw [HN.out] | rw [HM.out]); rintro e w' ⟨rfl, hn⟩; replace hB := below_chain hB hn; clear hn)
      | (go_at_call 20; refine (begins_any _ _ _).mono ?_; rintro e w' ⟨rfl, rfl⟩)
      | (go_at_call 24; refine (cut_any _ _ _ (by omega)).mono ?_; (first | rw [HCa.out] | rw [HCb.out]); rintro e w' ⟨rfl, hn⟩; replace hB := below_chain hB hn; clear hn))
      try simp only [List.append]
      refine wp_region_quiet_below (by kernel_rfl) (by kernel_rfl) ?_
      repeat (go_big_quiet_step (first | exact Calls.regrown_of ((join_any _ _ _ _ (by omega) (by omega)).mono (fun e w' h => ⟨by rw [h.1, HJa.out], h.2⟩)) | exact Calls.regrown_of ((rest_any _ _ _).mono (fun e w' h => ⟨by rw [h.1, HRa.out], h.2⟩)) | exact Calls.regrown_of ((join_any _ _ _ _ (by omega) (by omega)).mono (fun e w' h => ⟨by rw [h.1, HJb.out], h.2⟩)) | exact Calls.regrown_of ((rest_any _ _ _).mono (fun e w' h => ⟨by rw [h.1, HRb.out], h.2⟩)) | exact Calls.regrown_of ((rest_any _ _ _).mono (fun e w' h => ⟨by rw [h.1, HRn.out], h.2⟩))))
      refine wpQuiet_nil ?_
      intro _ hw'
      obtain ⟨⟨dq, osq⟩, hw''⟩ := hw'
      subst hw''
      go_wp2_with fail
      go_ret
      exact ⟨rfl, below_chain hB (below_regrown _ dq osq)⟩
    · have cb1 := cut_none b N c2
      have HCb := Lib.hid cb1
      have v2 : decide (N < b.size) = false := decide_eq_false c2
      have e2 : decide ((N : Int) < (b.size : Int)) = false := decide_eq_false (by omega)
      clear cb1 f7 c2
      go_enter Try.func7, Try.ntmps7
      go_wp2_with (first
      | (go_at_call 15; refine (awake10 _).mono ?_; rintro e w' ⟨rfl, hn⟩; replace hB := below_chain hB hn; clear hn)
      | (go_at_call 23; refine (common_any _ _ _ (by omega)).mono ?_; (first | rw [HN.out] | rw [HM.out]); rintro e w' ⟨rfl, hn⟩; replace hB := below_chain hB hn; clear hn)
      | (go_at_call 20; refine (begins_any _ _ _).mono ?_; rintro e w' ⟨rfl, rfl⟩)
      | (go_at_call 24; refine (cut_any _ _ _ (by omega)).mono ?_; (first | rw [HCa.out] | rw [HCb.out]); rintro e w' ⟨rfl, hn⟩; replace hB := below_chain hB hn; clear hn))
      try simp only [List.append]
      refine wp_region_quiet_below (by kernel_rfl) (by kernel_rfl) ?_
      repeat (go_big_quiet_step (first | exact Calls.regrown_of ((common_any _ _ _ (by omega)).mono (fun e w' h => ⟨by rw [h.1, HM.out], h.2⟩)) | exact Calls.regrown_of ((begins_any _ _ _).mono (fun e w' h => ⟨by rw [h.1], by rw [← h.2]; exact Below.refl _ _⟩))))
      refine wpQuiet_nil ?_
      intro _ hw'
      obtain ⟨⟨dq0, osq0⟩, hw''⟩ := hw'
      subst hw''
      replace hB := below_chain hB (below_regrown _ dq0 osq0)
      go_wp2_with (first
      | (go_at_call 15; refine (awake10 _).mono ?_; rintro e w' ⟨rfl, hn⟩; replace hB := below_chain hB hn; clear hn)
      | (go_at_call 23; refine (common_any _ _ _ (by omega)).mono ?_; (first | rw [HN.out] | rw [HM.out]); rintro e w' ⟨rfl, hn⟩; replace hB := below_chain hB hn; clear hn)
      | (go_at_call 20; refine (begins_any _ _ _).mono ?_; rintro e w' ⟨rfl, rfl⟩)
      | (go_at_call 24; refine (cut_any _ _ _ (by omega)).mono ?_; (first | rw [HCa.out] | rw [HCb.out]); rintro e w' ⟨rfl, hn⟩; replace hB := below_chain hB hn; clear hn))
      try simp only [List.append]
      refine wp_region_quiet_below (by kernel_rfl) (by kernel_rfl) ?_
      repeat (go_big_quiet_step (first | exact Calls.regrown_of ((join_any _ _ _ _ (by omega) (by omega)).mono (fun e w' h => ⟨by rw [h.1, HJa.out], h.2⟩)) | exact Calls.regrown_of ((rest_any _ _ _).mono (fun e w' h => ⟨by rw [h.1, HRa.out], h.2⟩)) | exact Calls.regrown_of ((rest_any _ _ _).mono (fun e w' h => ⟨by rw [h.1, HRn.out], h.2⟩))))
      refine wpQuiet_nil ?_
      intro _ hw'
      obtain ⟨⟨dq, osq⟩, hw''⟩ := hw'
      subst hw''
      go_wp2_with fail
      go_ret
      exact ⟨rfl, below_chain hB (below_regrown _ dq osq)⟩
  · have ca1 := cut_none a N c1
    have HCa := Lib.hid ca1
    have v1 : decide (N < a.size) = false := decide_eq_false c1
    have e1 : decide ((N : Int) < (a.size : Int)) = false := decide_eq_false (by omega)
    clear ca1
    by_cases c2 : N < b.size
    · obtain ⟨cb1, cb2, cb3⟩ := cut_facts b N c2
      rw [hxa] at cb1 cb2
      obtain ⟨bt, hbt⟩ : ∃ t, b.extract (N + 1) b.size = t := ⟨_, rfl⟩
      have hbts : bt.size ≤ 2000 := by rw [← hbt, ByteArray.size_extract]; omega
      rw [hbt] at cb1 cb2 cb3
      have v2 : decide (N < b.size) = true := decide_eq_true c2
      have y2 : decide ((N : Int) < (b.size : Int)) = true := decide_eq_true (by omega)
      have HCb := Lib.hid cb1
      have HJb := Lib.hid cb2
      have HRb := Lib.hid cb3
      clear cb1 cb2 cb3 hbt f7 c1
      go_enter Try.func7, Try.ntmps7
      go_wp2_with (first
      | (go_at_call 15; refine (awake10 _).mono ?_; rintro e w' ⟨rfl, hn⟩; replace hB := below_chain hB hn; clear hn)
      | (go_at_call 23; refine (common_any _ _ _ (by omega)).mono ?_; (first | rw [HN.out] | rw [HM.out]); rintro e w' ⟨rfl, hn⟩; replace hB := below_chain hB hn; clear hn)
      | (go_at_call 20; refine (begins_any _ _ _).mono ?_; rintro e w' ⟨rfl, rfl⟩)
      | (go_at_call 24; refine (cut_any _ _ _ (by omega)).mono ?_; (first | rw [HCa.out] | rw [HCb.out]); rintro e w' ⟨rfl, hn⟩; replace hB := below_chain hB hn; clear hn))
      try simp only [List.append]
      refine wp_region_quiet_below (by kernel_rfl) (by kernel_rfl) ?_
      repeat (go_big_quiet_step (first | exact Calls.regrown_of ((common_any _ _ _ (by omega)).mono (fun e w' h => ⟨by rw [h.1, HM.out], h.2⟩)) | exact Calls.regrown_of ((begins_any _ _ _).mono (fun e w' h => ⟨by rw [h.1], by rw [← h.2]; exact Below.refl _ _⟩))))
      refine wpQuiet_nil ?_
      intro _ hw'
      obtain ⟨⟨dq0, osq0⟩, hw''⟩ := hw'
      subst hw''
      replace hB := below_chain hB (below_regrown _ dq0 osq0)
      go_wp2_with (first
      | (go_at_call 15; refine (awake10 _).mono ?_; rintro e w' ⟨rfl, hn⟩; replace hB := below_chain hB hn; clear hn)
      | (go_at_call 23; refine (common_any _ _ _ (by omega)).mono ?_; (first | rw [HN.out] | rw [HM.out]); rintro e w' ⟨rfl, hn⟩; replace hB := below_chain hB hn; clear hn)
      | (go_at_call 20; refine (begins_any _ _ _).mono ?_; rintro e w' ⟨rfl, rfl⟩)
      | (go_at_call 24; refine (cut_any _ _ _ (by omega)).mono ?_; (first | rw [HCa.out] | rw [HCb.out]); rintro e w' ⟨rfl, hn⟩; replace hB := below_chain hB hn; clear hn))
      try simp only [List.append]
      refine wp_region_quiet_below (by kernel_rfl) (by kernel_rfl) ?_
      repeat (go_big_quiet_step (first | exact Calls.regrown_of ((join_any _ _ _ _ (by omega) (by omega)).mono (fun e w' h => ⟨by rw [h.1, HJb.out], h.2⟩)) | exact Calls.regrown_of ((rest_any _ _ _).mono (fun e w' h => ⟨by rw [h.1, HRb.out], h.2⟩)) | exact Calls.regrown_of ((rest_any _ _ _).mono (fun e w' h => ⟨by rw [h.1, HRn.out], h.2⟩))))
      refine wpQuiet_nil ?_
      intro _ hw'
      obtain ⟨⟨dq, osq⟩, hw''⟩ := hw'
      subst hw''
      go_wp2_with fail
      go_ret
      exact ⟨rfl, below_chain hB (below_regrown _ dq osq)⟩
    · have cb1 := cut_none b N c2
      have HCb := Lib.hid cb1
      have v2 : decide (N < b.size) = false := decide_eq_false c2
      have e2 : decide ((N : Int) < (b.size : Int)) = false := decide_eq_false (by omega)
      clear cb1 f7 c2 c1
      go_enter Try.func7, Try.ntmps7
      go_wp2_with (first
      | (go_at_call 15; refine (awake10 _).mono ?_; rintro e w' ⟨rfl, hn⟩; replace hB := below_chain hB hn; clear hn)
      | (go_at_call 23; refine (common_any _ _ _ (by omega)).mono ?_; (first | rw [HN.out] | rw [HM.out]); rintro e w' ⟨rfl, hn⟩; replace hB := below_chain hB hn; clear hn)
      | (go_at_call 20; refine (begins_any _ _ _).mono ?_; rintro e w' ⟨rfl, rfl⟩)
      | (go_at_call 24; refine (cut_any _ _ _ (by omega)).mono ?_; (first | rw [HCa.out] | rw [HCb.out]); rintro e w' ⟨rfl, hn⟩; replace hB := below_chain hB hn; clear hn))
      try simp only [List.append]
      refine wp_region_quiet_below (by kernel_rfl) (by kernel_rfl) ?_
      repeat (go_big_quiet_step (first | exact Calls.regrown_of ((common_any _ _ _ (by omega)).mono (fun e w' h => ⟨by rw [h.1, HM.out], h.2⟩)) | exact Calls.regrown_of ((begins_any _ _ _).mono (fun e w' h => ⟨by rw [h.1], by rw [← h.2]; exact Below.refl _ _⟩))))
      refine wpQuiet_nil ?_
      intro _ hw'
      obtain ⟨⟨dq0, osq0⟩, hw''⟩ := hw'
      subst hw''
      replace hB := below_chain hB (below_regrown _ dq0 osq0)
      go_wp2_with (first
      | (go_at_call 15; refine (awake10 _).mono ?_; rintro e w' ⟨rfl, hn⟩; replace hB := below_chain hB hn; clear hn)
      | (go_at_call 23; refine (common_any _ _ _ (by omega)).mono ?_; (first | rw [HN.out] | rw [HM.out]); rintro e w' ⟨rfl, hn⟩; replace hB := below_chain hB hn; clear hn)
      | (go_at_call 20; refine (begins_any _ _ _).mono ?_; rintro e w' ⟨rfl, rfl⟩)
      | (go_at_call 24; refine (cut_any _ _ _ (by omega)).mono ?_; (first | rw [HCa.out] | rw [HCb.out]); rintro e w' ⟨rfl, hn⟩; replace hB := below_chain hB hn; clear hn))
      try simp only [List.append]
      refine wp_region_quiet_below (by kernel_rfl) (by kernel_rfl) ?_
      repeat (go_big_quiet_step (first | exact Calls.regrown_of ((rest_any _ _ _).mono (fun e w' h => ⟨by rw [h.1, HRn.out], h.2⟩))))
      refine wpQuiet_nil ?_
      intro _ hw'
      obtain ⟨⟨dq, osq⟩, hw''⟩ := hw'
      subst hw''
      go_wp2_with fail
      go_ret
      exact ⟨rfl, below_chain hB (below_regrown _ dq osq)⟩
end Go.Proofs.Ytgfhaldfjnepmaa
