/- Walks of the reference way to compare texts of layer 4. -/
import Derived.Test.YtgfhaldfjnepmaaLex
import Derived.Test.YtgfhaldfjnepmaaProg
import Derived.Lib.QuietBelow
import Derived.Deep.RegionHeld3
import Derived.Deep.DrawnRows
import Derived.Sort.Walk0
namespace Go.Proofs.Ytgfhaldfjnepmaa
open Go Go.RowKit Go.Shelf Go.Proofs
attribute [local go_sem] Oper.semAt_some
attribute [local go_sem ↓] Go.wp_at_zero Go.wp_at_succ

theorem by_getC (s : ByteArray) (k : Nat) (h : k < s.size) : (by_ s)[k]? = some s[k] := by
  have e : s[k] = (by_ s)[k]'(by rw [size_by]; exact h) := rfl
  rw [e]; exact List.getElem?_eq_getElem _

theorem less_howC : ∀ x y : List UInt8, ∃ N, N ≤ x.length ∧ N ≤ y.length ∧ (∀ k, k < N → x[k]? = y[k]?) ∧
    ((∃ c d, x[N]? = some c ∧ y[N]? = some d ∧ c ≠ d ∧ (x < y ↔ c < d)) ∨ ((N = x.length ∨ N = y.length) ∧ (x < y ↔ x.length < y.length)))
  | [], [] => ⟨0, by simp, by simp, by simp, .inr ⟨by simp, by simp⟩⟩
  | [], b :: y => ⟨0, by simp, by simp, by simp, .inr ⟨by simp, by simp⟩⟩
  | a :: x, [] => ⟨0, by simp, by simp, by simp, .inr ⟨by simp, by simp⟩⟩
  | a :: x, b :: y => by
    by_cases e : a = b
    · subst e
      obtain ⟨N, h1, h2, h3, h4⟩ := less_howC x y
      have hc : (a :: x < a :: y) ↔ x < y := by
        rw [lt_cons]
        exact ⟨fun h => h.elim (fun h => absurd h (u8_irrefl a)) (fun h => h.2), fun h => .inr ⟨rfl, h⟩⟩
      refine ⟨N + 1, by simp; omega, by simp; omega, fun k hk => ?_, ?_⟩
      · cases k with
        | zero => rfl
        | succ k => simpa using h3 k (by omega)
      · rcases h4 with ⟨c, d, h5, h6, h7, h8⟩ | ⟨h5, h6⟩
        · exact .inl ⟨c, d, by simpa using h5, by simpa using h6, h7, hc.trans h8⟩
        · exact .inr ⟨by simp only [List.length_cons]; omega, hc.trans (h6.trans (by simp))⟩
    · refine ⟨0, by simp, by simp, by simp, .inl ⟨a, b, rfl, rfl, e, ?_⟩⟩
      rw [lt_cons]
      exact ⟨fun h => h.elim id (fun h => absurd h.1 e), .inl⟩

/-- Whether a text is below another. -/
def lessBC (a b : ByteArray) : Bool := decide (by_ a < by_ b)

theorem at_byC {s : ByteArray} {k : Nat} {c : UInt8} (h : (by_ s)[k]? = some c) : ∃ h' : k < s.size, s[k] = c := by
  obtain ⟨h1, h2⟩ := List.getElem?_eq_some_iff.1 h
  rw [size_by] at h1
  exact ⟨h1, by have := by_getC s k h1; rw [h] at this; exact (Option.some.inj this).symm⟩

theorem by_atC {s : ByteArray} {k : Nat} (h : k < s.size) : (by_ s)[k]? = some s[k] := by_getC s k h

set_option maxRecDepth 100000 in
set_option maxHeartbeats 4000000 in
theorem refless04_any (a b : ByteArray) (w : World) (ha : a.size ≤ 281474976710656) :
    Calls Try.prog 89 #[.string a, .string b] w fun e w' => e = .returned (.bool (lessBC a b)) ∧ Below w.heap.size w w' := by
  obtain ⟨N, h1, h2, h3, h4⟩ := less_howC (by_ a) (by_ b)
  rw [size_by] at h1 h2
  have hal : Hid (∀ k (_ : k < N) (h1 : k < a.size) (h2 : k < b.size), (((a[k].toNat : Nat) : Int) == ((b[k].toNat : Nat) : Int)) = true) := Lib.hid (fun k hk k1 k2 => by
    have := h3 k hk
    rw [by_atC k1, by_atC k2] at this
    rw [Option.some.inj this]
    simp)
  have H4 := Lib.hid h4
  clear h3 h4
  have hB0 := Below.refl w.heap.size w
  go_enter Try.func89, Try.ntmps89
  go_wp2_with fail
  go_loopw [5] (fun i wr => ∃ k : Nat, k ≤ N ∧ i = .int .i64 k ∧ Below w.heap.size w wr) (fun i _ => N - (intOf i).toNat)
  case atStart => exact ⟨0, Nat.zero_le _, rfl, hB0⟩
  case round =>
    obtain ⟨k, hk, rfl, hB⟩ := hrel
    clear hB0
    by_cases hkN : k < N
    · have k1 : k < a.size := by omega
      have k2 : k < b.size := by omega
      have hv := hal.out k hkN k1 k2
      go_wp2_with fail
      refine wp_region_quiet_below (by kernel_rfl) (by kernel_rfl) ?_
      repeat (go_big_quiet_step (fail))
      refine wpQuiet_nil ?_
      intro _ hw'
      obtain ⟨⟨dq, osq⟩, hw''⟩ := hw'
      subst hw''
      go_wp2_with fail
      go_roundw
      case rel => exact ⟨k + 1, by omega, by go_num, hB.trans ((below_regrown wr dq osq).mono hB.size)⟩
      case measure => simp [intOf]; omega
    · obtain rfl : k = N := by omega
      rcases H4.out with ⟨c, d, hc, hd, hne, hlt⟩ | ⟨hend, hlt⟩
      · obtain ⟨k1, hc1⟩ := at_byC hc
        obtain ⟨k2, hd1⟩ := at_byC hd
        have hv : (((a[k].toNat : Nat) : Int) == ((b[k].toNat : Nat) : Int)) = false := by
          rw [hc1, hd1]
          refine beq_eq_false_iff_ne.2 (fun e => hne (UInt8.toNat_inj.1 (by omega)))
        have hres : lessBC a b = decide (a[k].toNat < b[k].toNat) := by
          unfold lessBC
          rw [hc1, hd1]
          exact decide_eq_decide.2 (hlt.trans UInt8.lt_iff_toNat_lt)
        have HR := Lib.hid hres
        clear hc hd hc1 hd1 hne hlt hres
        go_wp2_with fail
        refine wp_region_quiet_below (by kernel_rfl) (by kernel_rfl) ?_
        repeat (go_big_quiet_step (fail))
        refine wpQuiet_nil ?_
        intro _ hw'
        obtain ⟨⟨dq, osq⟩, hw''⟩ := hw'
        subst hw''
        go_wp2_with fail
        refine wp_region_quiet_below (by kernel_rfl) (by kernel_rfl) ?_
        repeat (go_big_quiet_step (fail))
        refine wpQuiet_nil ?_
        intro _ hw'
        obtain ⟨⟨dq2, osq2⟩, hw''⟩ := hw'
        subst hw''
        go_wp2
        go_ret
        exact ⟨ret_bool (by rw [HR.out]), below_chain (hB.trans ((below_regrown wr dq osq).mono hB.size)) (below_regrown _ dq2 osq2)⟩
      · rw [size_by, size_by] at hend hlt
        have HR : Hid (lessBC a b = decide (a.size < b.size)) := Lib.hid (decide_eq_decide.2 hlt)
        clear hlt
        rcases hend with hend | hend
        · have hd : decide (k < a.size) = false := decide_eq_false (by omega)
          clear hend
          go_wp2_with fail
          go_ret
          exact ⟨ret_bool (by rw [HR.out]), hB⟩
        · have hd : decide (k < b.size) = false := decide_eq_false (by omega)
          by_cases ha2 : k < a.size
          · clear hend
            go_wp2_with fail
            go_ret
            exact ⟨ret_bool (by rw [HR.out]), hB⟩
          · clear hend
            go_wp2_with fail
            go_ret
            exact ⟨ret_bool (by rw [HR.out]), hB⟩

end Go.Proofs.Ytgfhaldfjnepmaa
