/- Walks of the package bound. -/
import Derived.Test.YtegccicplcjcmaaBase
import Derived.Test.YtegccicplcjcmaaProg
namespace Go.Proofs.Ytegccicplcjcmaa
open Go Go.RowKit Go.Shelf Go.Proofs
attribute [local go_sem] Oper.semAt_some

theorem after_any (s : ByteArray) (w : World) (h : s.size ≤ 281474976710656) :
    Calls Try.prog 28 #[.string s] w fun e w' => e = .returned (.string (s ++ ⟨#[0]⟩)) ∧ w = w' := by
  go_enter Try.func28, Try.ntmps28
  go_wp2
  go_ret
  exact ⟨rfl, rfl⟩


/-- The last indices of a text, from the end on: all but the first d. -/
def revs (n d : Nat) : List (Fin n) := (List.finRange n).reverse.take (n - d)
theorem revs_all (n : Nat) : revs n 0 = (List.finRange n).reverse := by simp [revs, List.take_of_length_le]
theorem revs_none (n : Nat) : revs n n = [] := by simp [revs]
theorem revs_length (n d : Nat) : (revs n d).length = n - d := by simp [revs]
theorem revs_succ (n d : Nat) (h : d < n) : revs n (d + 1) ++ [⟨d, h⟩] = revs n d := by
  unfold revs
  have h1 : n - d = (n - (d + 1)) + 1 := by omega
  rw [h1, List.take_succ_eq_append_getElem (by simp; omega)]
  congr 2
  simp
  omega
theorem revs_prefix (n d : Nat) : revs n d <+: (List.finRange n).reverse := List.take_prefix _ _

set_option maxRecDepth 100000 in
set_option maxHeartbeats 1000000 in
theorem back1_in (n : Nat) (hn : 1 ≤ n) (l B : Nat) (s : ByteArray) (hs : s.size ≤ 281474976710656) (J Jx : List (Fin s.size) → World → Prop)
    (hY : ∀ pre x W, J pre W → pre.length < s.size → YieldAt Fence.wide (n - 1) Try.prog l #[.int .i64 (x.1 : Nat), .int .u8 (s[x.1].toNat : Nat)] W fun e W' =>
      (e = .returned (.bool true) ∧ J (pre ++ [x]) W' ∧ KeepB B W W') ∨ (e = .returned (.bool false) ∧ Jx (pre ++ [x]) W'))
    (W : World) (hc : Boxed W B 126 (.string s)) (h0 : J [] W) :
    CallsIn Fence.wide n Try.prog 93 #[.func (.yield l) #[] #[], .pointer (some ⟨B, 0, none⟩)] W fun e W' => (∃ v, e = .returned v) ∧
      ((∃ ys, ys = (List.finRange s.size).reverse ∧ J ys W') ∨ (∃ pre, (pre <+: (List.finRange s.size).reverse) ∧ Jx pre W')) := by
  refine callsIn_of_wp Try.func93 rfl trivial ?_ rfl
  simp only [Try.ntmps93, List.size_toArray, List.length_cons, List.length_nil, Nat.reduceAdd, Nat.reduceSub, Array.replicate_succ, Array.replicate_zero, List.push_toArray, List.append_toArray, List.nil_append, List.cons_append]
  have hcc := hc.cell
  gi_wp2
  gi_loopw [3] (fun i wr => ∃ d : Nat, d ≤ s.size ∧ i = .int .i64 ((d : Int) - 1) ∧ J (revs s.size d) wr ∧ Boxed wr B 126 (.string s))
    (fun i _ => (intOf i + 1).toNat)
  case atStart => exact ⟨s.size, Nat.le_refl _, rfl, by rw [revs_none]; exact h0, hc⟩
  case round =>
    obtain ⟨d, hd, rfl, hJs, hnx⟩ := hrel
    have hcx := hnx.cell
    rcases d with _ | d
    · gi_wp2
      go_end0
      exact ⟨⟨_, rfl⟩, .inl ⟨_, rfl, by rw [← revs_all]; exact hJs⟩⟩
    · rw [show (((d + 1 : Nat) : Int) - 1) = (d : Int) from by omega]
      have hds : d < s.size := by omega
      obtain ⟨fn, tmps, assign, body, hy, hR⟩ := hY _ ⟨d, hds⟩ wr hJs (by rw [revs_length]; omega)
      dsimp only at hy
      rw [revs_succ s.size d hds] at hR
      gi_wp2
      refine hR.mono ?_
      rintro e W3 (⟨rfl, hJ3, hk3⟩ | ⟨rfl, hJx3⟩)
      · gi_wp2
        go_roundw
        case rel => exact ⟨d, by omega, by go_num, hJ3, hk3.boxed hnx⟩
        case measure => simp [intOf]
      · gi_wp2
        refine bodyPost_ret (results_none rfl _ _ _) rfl ?_
        exact ⟨⟨_, rfl⟩, .inr ⟨_, revs_prefix _ _, hJx3⟩⟩
end Go.Proofs.Ytegccicplcjcmaa
