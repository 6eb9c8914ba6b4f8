/- Walks of the reference's Owner and Split. -/
import Derived.Test.YtkfjoonhgpgaiaaRealm6
namespace Go.Proofs.Ytkfjoonhgpgaiaa
open Go Go.RowKit Go.Shelf Go.Proofs Go.Sort
attribute [local go_sem] Oper.semAt_some

theorem begB_eight (t : ByteArray) (k : Nat) (h : 8 ≤ t.size) : ((t.extract 0 8).toList == (bs (preL k)).toList) = begB t (bs (preL k)) := by
  rw [toList_by, toList_by, by_extract, by_bs, List.drop_zero]
  cases hb : begB t (bs (preL k)) with
  | true =>
    rw [begB_iff, by_bs] at hb
    have := List.prefix_iff_eq_take.1 hb
    rw [this]
    exact beq_self_eq_true _
  | false =>
    refine beq_eq_false_iff_ne.2 (fun e => ?_)
    have : begB t (bs (preL k)) = true := by rw [begB_iff, by_bs]; rw [← e]; exact List.take_prefix _ _
    rw [this] at hb
    cases hb

theorem begB_short (t : ByteArray) (k : Nat) (h : t.size < 8) : begB t (bs (preL k)) = false := by
  cases hb : begB t (bs (preL k)) with
  | false => rfl
  | true =>
    rw [begB_iff, by_bs] at hb
    have := hb.length_le
    rw [size_by] at this
    exact absurd this (by show ¬ 8 ≤ t.size; omega)

set_option maxRecDepth 100000 in
set_option maxHeartbeats 4000000 in
theorem ref6owner_any (t : ByteArray) (w : World) :
    Calls Try.prog 59 #[.string t] w fun e w' => e = .returned (.tuple #[.int .i64 (ownerN t), .bool (decide (1 ≤ ownerN t))]) ∧ Below w.heap.size w w' := by
  have hB0 := Below.refl w.heap.size w
  go_enter Try.func59, Try.ntmps59
  go_wp2_with fail
  go_loopw [4] (fun i wr => ∃ k : Nat, 1 ≤ k ∧ k ≤ 17 ∧ i = .int .i64 k ∧ Hid (∀ j, 1 ≤ j → j < k → begB t (bs (preL j)) = false) ∧ Below w.heap.size w wr) (fun i _ => 17 - (intOf i).toNat)
  case atStart => exact ⟨1, by omega, by omega, rfl, Lib.hid (fun j h1 h2 => by omega), hB0⟩
  case round =>
    clear hB0
    obtain ⟨k, hk1, hk, rfl, HM, hB⟩ := hrel
    by_cases hk2 : k ≤ 16
    · have hd : decide ((k : Int) ≤ 16) = true := decide_eq_true (by omega)
      by_cases h8 : t.size < 8
      · have hg : decide ((8 : Int) ≤ (t.size : Int)) = false := decide_eq_false (by omega)
        have HN := Lib.hid (begB_short t k h8)
        clear h8
        go_wp2_with fail
        refine wp_region_quiet_below (by kernel_rfl) (by kernel_rfl) ?_
        repeat (go_big_quiet_step (exact Calls.regrown_of (refprefix_any _ _ (by omega))))
        refine wpQuiet_nil ?_
        intro _ hw'
        obtain ⟨⟨dq, osq⟩, hw''⟩ := hw'
        subst hw''
        go_wp2_with fail
        go_roundw
        case rel => exact ⟨k + 1, by omega, by omega, by go_num, Lib.hid (fun j h1 h2 => if e : j = k then e ▸ HN.out else HM.out j h1 (by omega)), hB.trans ((below_regrown _ dq osq).mono hB.size)⟩
        case measure => simp [intOf]; omega
      · have hg : decide ((8 : Int) ≤ (t.size : Int)) = true := decide_eq_true (by omega)
        have h8' : (8 : Int) ≤ (t.size : Int) := by omega
        have hEq := begB_eight t k (by omega)
        cases hb : begB t (bs (preL k)) with
        | false =>
          rw [hb] at hEq
          have HNk := Lib.hid hb
          have HQ := Lib.hid (fun W => refprefix_any k W (by omega))
          clear hb h8
          generalize bs (preL k) = p at hEq HQ
          go_wp2_with fail
          refine wp_region_quiet_below (by kernel_rfl) (by kernel_rfl) ?_
          repeat (go_big_quiet_step (exact Calls.regrown_of (HQ.out _)))
          refine wpQuiet_nil ?_
          intro _ hw'
          obtain ⟨⟨dq, osq⟩, hw''⟩ := hw'
          subst hw''
          go_wp2_with fail
          go_roundw
          case rel => exact ⟨k + 1, by omega, by omega, by go_num, Lib.hid (fun j h1 h2 => if e : j = k then e ▸ HNk.out else HM.out j h1 (by omega)), hB.trans ((below_regrown _ dq osq).mono hB.size)⟩
          case measure => simp [intOf]; omega
        | true =>
          rw [hb] at hEq
          have HV : Hid (ownerN t = k) := Lib.hid (ownerN_hit hk1 hk2 hb)
          have HD : Hid (decide (1 ≤ k) = true) := Lib.hid (decide_eq_true hk1)
          have HQ := Lib.hid (fun W => refprefix_any k W (by omega))
          clear hb h8
          generalize bs (preL k) = p at hEq HQ
          go_wp2_with fail
          refine wp_region_quiet_below (by kernel_rfl) (by kernel_rfl) ?_
          repeat (go_big_quiet_step (exact Calls.regrown_of (HQ.out _)))
          refine wpQuiet_nil ?_
          intro _ hw'
          obtain ⟨⟨dq, osq⟩, hw''⟩ := hw'
          subst hw''
          go_wp2_with fail
          refine bodyPost_ret (v := .tuple #[.int .i64 k, .bool true]) (by simp [results, Try.f59, go_sem]) rfl ⟨by rw [HV.out, HD.out], hB.trans ((below_regrown _ dq osq).mono hB.size)⟩
    · obtain rfl : k = 17 := by omega
      have HV : Hid (ownerN t = 0) := Lib.hid (ownerN_miss (fun j h1 h2 => HM.out j h1 (by omega)))
      go_wp2_with fail
      refine bodyPost_ret (v := .tuple #[.int .i64 0, .bool false]) (by simp [results, Try.f59, go_sem]) rfl ⟨by rw [HV.out]; rfl, hB⟩

set_option maxRecDepth 100000 in
set_option maxHeartbeats 4000000 in
theorem ref6split_any (t : ByteArray) (w : World) (ht : t.size ≤ 281474976710656) :
    Calls Try.prog 57 #[.string t] w fun e w' => e = .returned (splitV t) ∧ Below w.heap.size w w' := by
  have hB0 := Below.refl w.heap.size w
  go_enter Try.func57, Try.ntmps57
  go_wp2_with fail
  go_loopw [5] (fun i wr => ∃ k : Nat, 1 ≤ k ∧ k ≤ 17 ∧ i = .int .i64 k ∧ Hid (∀ j, 1 ≤ j → j < k → begB t (bs (preL j)) = true → decL ((by_ t).drop 8) = none) ∧ Below w.heap.size w wr) (fun i _ => 17 - (intOf i).toNat)
  case atStart => exact ⟨1, by omega, by omega, rfl, Lib.hid (fun j h1 h2 => by omega), hB0⟩
  case round =>
    clear hB0
    obtain ⟨k, hk1, hk, rfl, HM, hB⟩ := hrel
    by_cases hk2 : k ≤ 16
    · have hd : decide ((k : Int) ≤ 16) = true := decide_eq_true (by omega)
      by_cases h8 : t.size < 8
      · have hg : decide ((t.size : Int) < 8) = true := decide_eq_true (by omega)
        have HN := Lib.hid (begB_short t k h8)
        go_wp2_with fail
        refine wp_region_quiet_below (by kernel_rfl) (by kernel_rfl) ?_
        repeat (go_big_quiet_step (exact Calls.regrown_of (refprefix_any _ _ (by omega))))
        refine wpQuiet_nil ?_
        intro _ hw'
        obtain ⟨⟨dq, osq⟩, hw''⟩ := hw'
        subst hw''
        go_wp2_with fail
        go_roundw
        case rel => exact ⟨k + 1, by omega, by omega, by go_num, Lib.hid (fun j h1 h2 h3 => if e : j = k then absurd (e ▸ h3) (by rw [HN.out]; simp) else HM.out j h1 (by omega) h3), hB.trans ((below_regrown _ dq osq).mono hB.size)⟩
        case measure => simp [intOf]; omega
      · have hg : decide ((t.size : Int) < 8) = false := decide_eq_false (by omega)
        have hg2 : decide (t.size < 8) = false := decide_eq_false h8
        have h8' : (8 : Int) ≤ (t.size : Int) := by omega
        have hEq := begB_eight t k (by omega)
        have hd8 := drop8 t
        have hE : (t.extract 8 t.size).size ≤ 281474976710656 := by rw [ByteArray.size_extract]; omega
        cases hb : begB t (bs (preL k)) with
        | false =>
          rw [hb] at hEq
          have HNk := Lib.hid hb
          have HQ := Lib.hid (fun W => refprefix_any k W (by omega))
          clear hb h8 hd8
          generalize bs (preL k) = p at hEq HQ
          go_wp2_with fail
          refine wp_region_quiet_below (by kernel_rfl) (by kernel_rfl) ?_
          repeat (go_big_quiet_step (exact Calls.regrown_of (HQ.out _)))
          refine wpQuiet_nil ?_
          intro _ hw'
          obtain ⟨⟨dq, osq⟩, hw''⟩ := hw'
          subst hw''
          go_wp2_with fail
          go_roundw
          case rel => exact ⟨k + 1, by omega, by omega, by go_num, Lib.hid (fun j h1 h2 h3 => if e : j = k then absurd (e ▸ h3) (by rw [HNk.out]; simp) else HM.out j h1 (by omega) h3), hB.trans ((below_regrown _ dq osq).mono hB.size)⟩
          case measure => simp [intOf]; omega
        | true =>
          rw [hb] at hEq
          have HV : Hid (ownerN t = k) := Lib.hid (ownerN_hit hk1 hk2 hb)
          have HQ := Lib.hid (fun W => refprefix_any k W (by omega))
          clear hb h8
          generalize bs (preL k) = p at hEq HQ
          cases hx : decL ((by_ t).drop 8) with
          | none =>
            have HX := Lib.hid hx
            have HD : Hid (decV (t.extract 8 t.size) = .tuple #[.string ⟨#[]⟩, .int .i64 4]) := Lib.hid (decV_non (by rw [hd8]; exact hx))
            clear hx hd8
            go_wp2_with fail
            refine wp_region_quiet_below (by kernel_rfl) (by kernel_rfl) ?_
            repeat (go_big_quiet_step (exact Calls.regrown_of (HQ.out _)))
            refine wpQuiet_nil ?_
            intro _ hw'
            obtain ⟨⟨dq, osq⟩, hw''⟩ := hw'
            subst hw''
            go_wp2_with (go_at_call 51; refine (refdecode_any _ _ hE).mono ?_; rw [HD.out]; rintro e w1 ⟨rfl, rfl⟩)
            go_roundw
            case rel => exact ⟨k + 1, by omega, by omega, by go_num, Lib.hid (fun j h1 h2 h3 => by first | exact HX.out | trivial), hB.trans ((below_regrown _ dq osq).mono hB.size)⟩
            case measure => simp [intOf]; omega
          | some xs =>
            have HW : Hid (splitV t = .tuple #[.int .i64 k, .string (bs xs), .int .i64 0]) := Lib.hid (by rw [splitV_ok t (by rw [HV.out]; exact hk1) xs hx, HV.out])
            have HD : Hid (decV (t.extract 8 t.size) = .tuple #[.string (bs xs), .int .i64 0]) := Lib.hid (decV_some (by rw [hd8]; exact hx))
            clear hx hd8
            generalize bs xs = kk at HW HD
            go_wp2_with fail
            refine wp_region_quiet_below (by kernel_rfl) (by kernel_rfl) ?_
            repeat (go_big_quiet_step (exact Calls.regrown_of (HQ.out _)))
            refine wpQuiet_nil ?_
            intro _ hw'
            obtain ⟨⟨dq, osq⟩, hw''⟩ := hw'
            subst hw''
            go_wp2_with (go_at_call 51; refine (refdecode_any _ _ hE).mono ?_; rw [HD.out]; rintro e w1 ⟨rfl, rfl⟩)
            refine bodyPost_ret (v := splitV t) (by rw [HW.out]; simp [results, Try.f57, go_sem]) rfl ⟨rfl, hB.trans ((below_regrown _ dq osq).mono hB.size)⟩
    · obtain rfl : k = 17 := by omega
      have HV : Hid (splitV t = .tuple #[.int .i64 0, .string ⟨#[]⟩, .int .i64 4]) := Lib.hid (by
        rcases ownerN_cases t with ⟨h0, _⟩ | ⟨h1, h2, hb⟩
        · exact splitV_no t (by omega)
        · exact splitV_bad t (HM.out _ h1 (by omega) hb))
      go_wp2_with fail
      refine bodyPost_ret (v := splitV t) (by rw [HV.out]; simp [results, Try.f57, go_sem]) rfl ⟨rfl, hB⟩
end Go.Proofs.Ytkfjoonhgpgaiaa
