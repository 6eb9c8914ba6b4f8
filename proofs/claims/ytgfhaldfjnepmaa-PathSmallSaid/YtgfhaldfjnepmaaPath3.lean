/- Walk of path.All. -/
import Derived.Test.YtgfhaldfjnepmaaPath2
import Derived.Test.YtgfhaldfjnepmaaKit1
namespace Go.Proofs.Ytgfhaldfjnepmaa
open Go Go.RowKit Go.Shelf Go.Proofs
attribute [local go_sem] Oper.semAt_some

/-- The common beginning of a first text and others. -/
def headL (f : List UInt8) (l : List ByteArray) : List UInt8 := l.foldl (fun f s => f.take (commonL f (by_ s))) f
def allL (l : List ByteArray) : Nat := match l with
  | [] => 0
  | s :: r => (headL (by_ s) r).length

theorem headL_snoc (f : List UInt8) (l : List ByteArray) (s : ByteArray) : headL f (l ++ [s]) = (headL f l).take (commonL (headL f l) (by_ s)) := by simp [headL]
theorem headL_le (f : List UInt8) (l : List ByteArray) : (headL f l).length ≤ f.length := by
  induction l generalizing f with
  | nil => simp [headL]
  | cons s l ih =>
    have h := ih (f.take (commonL f (by_ s)))
    simp only [headL, List.foldl_cons] at h ⊢
    have : (f.take (commonL f (by_ s))).length ≤ f.length := by simp; omega
    omega

set_option maxRecDepth 100000 in
set_option maxHeartbeats 4000000 in
theorem all_any (a : Option Addr) (len cap : Nat) (ss : List ByteArray) (w : World) (hs : IsStrs w a len cap ss) (hl : len ≤ 1000) :
    Calls Try.prog 17 #[.slice a len cap] w fun e w' => e = .returned (.int .i64 (allL ss)) ∧ Below w.heap.size w w' := by
  obtain ⟨h1, h2, h3, h4, h5⟩ := hs
  cases ss with
  | nil =>
    obtain rfl : len = 0 := by simpa using h1.symm
    clear h5 h4
    go_enter Try.func17, Try.ntmps17
    go_wp2
    go_ret
    exact ⟨rfl, Below.refl _ _⟩
  | cons s r =>
    have hlr : r.length + 1 = len := by simpa using h1
    obtain ⟨b, off, rfl, hbl, hc⟩ : ∃ b off, a = some ⟨b, off, none⟩ ∧ b < w.heap.size ∧ ∀ j, j < len → w.cell? ⟨b, off + j, none⟩ = some (.string ((s :: r).getD j ByteArray.empty)) := by
      rcases h5 with h | h
      · omega
      · exact h
    have hc0 : w.cell? ⟨b, off, none⟩ = some (.string s) := by have := hc 0 (by omega); simpa using this
    have hcr : ∀ k, k < r.length → w.cell? ⟨b, off + 1 + k, none⟩ = some (.string (r.getD k ByteArray.empty)) := fun k hk => by
      have := hc (1 + k) (by omega)
      rw [← Nat.add_assoc, Nat.add_comm 1 k, List.getD_cons_succ] at this
      exact this
    have HC := Lib.hid hcr
    have H4 := Lib.hid h4
    have hsz : s.size ≤ 140737488351232 := h4 s (by simp)
    have hss := Lib.hid (size_by s)
    have hB0 := Below.refl w.heap.size w
    have h1len : (1 : Int) ≤ (len : Int) := by omega
    have hne : ((len : Int) == 0) = false := by simp; omega
    clear hc hcr h5 h4 h1
    by_cases hcap : cap = 1
    · obtain rfl : r = [] := List.eq_nil_of_length_eq_zero (by omega)
      obtain rfl : len = 1 := by simpa using hlr.symm
      subst hcap
      go_enter Try.func17, Try.ntmps17
      go_wp2_with fail
      refine wp_loop_rounds 1 ?_
      rw [rounds_succ]
      go_wp2
      go_ret
      exact ⟨ret_int (by have := hss.out; simp [allL, headL]; omega), Below.refl _ _⟩
    · have hcap1 : 1 < cap := by omega
      go_enter Try.func17, Try.ntmps17
      go_wp2_with fail
      go_loopw [3, 5, 15] (fun f x i wr => ∃ (k : Nat) (F : ByteArray), k ≤ r.length ∧ i = .int .i64 k ∧ f = .string F ∧ by_ F = headL (by_ s) (r.take k) ∧ F.size ≤ 140737488351232 ∧ Below w.heap.size w wr) (fun _ _ i _ => r.length - (intOf i).toNat)
      case atStart => exact ⟨0, s, Nat.zero_le _, rfl, rfl, by simp [headL], hsz, hB0⟩
      case round =>
        obtain ⟨k, F, hk, rfl, rfl, hF, hFs, hB⟩ := hrel
        clear hB0
        have HF := Lib.hid hF
        clear hF
        by_cases hk2 : k < r.length
        · have hck := (hB.cell (p := ⟨b, off + 1 + k, none⟩) hbl).trans (HC.out k hk2)
          obtain ⟨x, hx⟩ : ∃ x, r[k]? = some x := ⟨_, List.getElem?_eq_getElem hk2⟩
          rw [List.getD_eq_getElem?_getD, hx] at hck
          simp only [Option.getD_some] at hck
          have HX := Lib.hid hx
          clear hx
          have hlen : (k : Int) < (len : Int) - 1 := by omega
          obtain ⟨c, hcm⟩ : ∃ c, c = commonL (by_ F) (by_ x) := ⟨_, rfl⟩
          have hcF : c ≤ F.size := by have := (commonL_take (by_ F) (by_ x) c (by omega)).2.1; rw [size_by] at this; exact this
          have HCM := Lib.hid hcm
          clear hcm
          go_wp2_with (first
            | (go_at_call 23; refine (common_any _ _ _ (by omega)).mono ?_; rintro e w' ⟨rfl, hn⟩; rw [← HCM.out])
            | (go_at_call 50; refine (to_any _ _ _ (by omega) (by omega)).mono ?_; rintro e w' ⟨rfl, hn2⟩))
          go_roundw
          case rel =>
            refine ⟨k + 1, _, by omega, by go_num, rfl, ?_, ?_, hB.trans ((hn.trans (hn2.mono hn.size)).mono hB.size)⟩
            · rw [by_bs, List.take_succ_eq_append_getElem hk2, headL_snoc, ← HF.out, HCM.out]
              have : r[k] = x := by have := HX.out; rw [List.getElem?_eq_getElem hk2] at this; exact Option.some.inj this
              rw [this]
            · rw [size_bs]; simp; rw [size_by]; omega
          case measure => simp [intOf]; omega
        · obtain rfl : k = r.length := by omega
          go_wp2
          go_ret
          exact ⟨ret_int (by have h := HF.out; rw [List.take_length] at h; simp only [allL]; rw [← h, size_by]), hB⟩
end Go.Proofs.Ytgfhaldfjnepmaa
