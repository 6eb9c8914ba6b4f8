/- Walks: the reference All, the chapter's examples. -/
import Derived.Test.YtgfhaldfjnepmaaPath4
namespace Go.Proofs.Ytgfhaldfjnepmaa
open Go Go.RowKit Go.Shelf Go.Proofs
attribute [local go_sem] Oper.semAt_some

set_option maxRecDepth 100000 in
set_option maxHeartbeats 4000000 in
theorem refall_any (a : Option Addr) (len cap : Nat) (ss : List ByteArray) (w : World) (hs : IsStrs w a len cap ss) (hl : len ≤ 1000) :
    Calls Try.prog 18 #[.slice a len cap] w fun e w' => e = .returned (.int .i64 (allL ss)) ∧ Below w.heap.size w w' := by
  obtain ⟨h1, h2, h3, h4, h5⟩ := hs
  cases ss with
  | nil =>
    obtain rfl : len = 0 := by simpa using h1.symm
    clear h5 h4
    go_enter Try.func18, Try.ntmps18
    go_wp2
    go_ret
    exact ⟨rfl, Below.refl _ _⟩
  | cons s r =>
    have hlr : r.length + 1 = len := by simpa using h1
    obtain ⟨b, off, rfl, hbl, hc⟩ : ∃ b off, a = some ⟨b, off, none⟩ ∧ b < w.heap.size ∧ ∀ j, j < len → w.cell? ⟨b, off + j, none⟩ = some (.string ((s :: r).getD j ByteArray.empty)) := by
      rcases h5 with h | h
      · omega
      · exact h
    have hc0 : w.cell? ⟨b, off, none⟩ = some (.string s) := by have := hc 0 (by omega); simpa using this
    have hcr : ∀ k, k < r.length → w.cell? ⟨b, off + (k + 1), none⟩ = some (.string (r.getD k ByteArray.empty)) := fun k hk => by
      have := hc (k + 1) (by omega)
      rw [List.getD_cons_succ] at this
      exact this
    have HC := Lib.hid hcr
    have hsz : s.size ≤ 140737488351232 := h4 s (by simp)
    have hss := Lib.hid (size_by s)
    have hB0 := Below.refl w.heap.size w
    have h1len : (1 : Int) ≤ (len : Int) := by omega
    have h0len : 0 < len := by omega
    have hne : ((len : Int) == 0) = false := by simp; omega
    have hmin := Lib.hid (allL_min s r)
    clear hc hcr h5 h4 h1
    go_enter Try.func18, Try.ntmps18
    go_wp2_with fail
    go_loopw [3, 4] (fun n i wr => ∃ (k : Nat) (N : Nat), k ≤ r.length ∧ i = .int .i64 ((k : Int) + 1) ∧ n = .int .i64 N ∧ N = minL (by_ s) (r.take k) ∧ Below w.heap.size w wr) (fun _ i _ => r.length + 1 - (intOf i).toNat)
    case atStart => exact ⟨0, s.size, Nat.zero_le _, rfl, rfl, by rw [← hss.out]; rfl, hB0⟩
    case round =>
      obtain ⟨k, N, hk, rfl, rfl, hN, hB⟩ := hrel
      have HN := Lib.hid hN
      clear hN hB0
      by_cases hk2 : k < r.length
      · have hck := (hB.cell (p := ⟨b, off + (k + 1), none⟩) hbl).trans (HC.out k hk2)
        have hc0' := (hB.cell (p := ⟨b, off, none⟩) hbl).trans hc0
        obtain ⟨x, hx⟩ : ∃ x, r[k]? = some x := ⟨_, List.getElem?_eq_getElem hk2⟩
        rw [List.getD_eq_getElem?_getD, hx] at hck
        simp only [Option.getD_some] at hck
        have HX := Lib.hid hx
        clear hx
        have q0 := fun d os => cell_regrown hc0' d os
        have q1 := fun d os => cell_regrown hck d os
        have hkl : (k : Int) + 1 < (len : Int) := by omega
        have hkn : k + 1 < len := by omega
        clear hc0' hck
        go_wp2_with fail
        refine wp_region_quiet_below (by kernel_rfl) (by kernel_rfl) ?_
        repeat (go_big_quiet_step (exact Calls.regrown_of (refcommon_any _ _ _ (by omega))))
        refine wpQuiet_nil ?_
        intro _ hw'
        obtain ⟨⟨dq, osq⟩, hw''⟩ := hw'
        subst hw''
        go_wp2_with fail
        go_roundw
        case rel =>
          refine ⟨k + 1, min N (commonL (by_ s) (by_ x)), by omega, by go_num, by go_num, ?_, hB.trans ((below_regrown wr dq osq).mono hB.size)⟩
          have : r[k] = x := by have := HX.out; rw [List.getElem?_eq_getElem hk2] at this; exact Option.some.inj this
          rw [List.take_succ_eq_append_getElem hk2, minL_snoc, ← HN.out, this]
        case measure => simp [intOf]; omega
      · obtain rfl : k = r.length := by omega
        have hlen : ¬ ((r.length : Int) + 1 < (len : Int)) := by omega
        go_wp2
        go_ret
        exact ⟨ret_int (by have h := HN.out; rw [List.take_length] at h; rw [hmin.out, h]), hB⟩

theorem isstrs_new (w : World) (ss : List ByteArray) (hl : ss.length ≤ 1000) (hb : ∀ s ∈ ss, s.size ≤ 140737488351232) (h0 : 0 < ss.length) :
    IsStrs (w.alloc (.cells (ss.map Value.string).toArray 9)) (some ⟨w.heap.size, 0, none⟩) ss.length ss.length ss := by
  refine ⟨rfl, Nat.le_refl _, by omega, hb, .inr ⟨_, _, rfl, by simp, fun j hj => ?_⟩⟩
  simp [List.getD, List.getElem?_eq_getElem hj]

set_option maxRecDepth 100000 in
set_option maxHeartbeats 4000000 in
theorem awake10 (w : World) :
    Calls Try.prog 15 #[] w fun e w' => e = .returned (.bool true) ∧ Below w.heap.size w w' := by
  have v1 : cutV ⟨#[97, 98, 99, 100]⟩ 2 = .tuple #[.string ⟨#[97, 98]⟩, .int .u8 99, .string ⟨#[100]⟩, .bool true] := by kernel_rfl
  have v2 : cutV ⟨#[97, 98, 99, 100]⟩ 4 = .tuple #[.string ⟨#[]⟩, .int .u8 0, .string ⟨#[]⟩, .bool false] := by kernel_rfl
  have r1 : commonL (by_ ⟨#[97, 98, 99, 100]⟩) (by_ ⟨#[97, 98, 120, 100]⟩) = 2 := by decide +kernel
  have r2 : allL [⟨#[97, 98, 99, 100]⟩, ⟨#[97, 98, 120]⟩, ⟨#[97, 98]⟩] = 2 := by decide +kernel
  have hnew := fun w => isstrs_new w [⟨#[97, 98, 99, 100]⟩, ⟨#[97, 98, 120]⟩, ⟨#[97, 98]⟩] (by decide) (by decide) (by decide)
  have HNEW := Lib.hid hnew
  clear hnew
  have hB := Below.refl w.heap.size w
  go_enter Try.func15, Try.ntmps15
  go_wp2_with (first
    | (go_at_call 24; refine (cut_any _ _ _ (by decide)).mono ?_; rintro e w' ⟨rfl, hn⟩; replace hB := below_chain hB hn; clear hn)
    | (go_at_call 23; refine (common_any _ _ _ (by decide)).mono ?_; rintro e w' ⟨rfl, hn⟩; replace hB := below_chain hB hn; clear hn)
    | (go_at_call 17; refine (all_any _ _ _ _ _ (HNEW.out _) (by decide)).mono ?_; rintro e w' ⟨rfl, hn⟩; replace hB := below_chain (hB.alloc hB.size _) hn; clear hn))
  go_ret
  exact ⟨rfl, hB⟩
end Go.Proofs.Ytgfhaldfjnepmaa
