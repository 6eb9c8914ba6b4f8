/- Plain law of the common beginning of lists: it does not hang on the order; Pick. -/
import Derived.Test.YtgfhaldfjnepmaaPath5
namespace Go.Proofs.Ytgfhaldfjnepmaa
open Go Go.RowKit Go.Shelf Go.Proofs
attribute [local go_sem] Oper.semAt_some

theorem headL_prefix (f : List UInt8) : ∀ (l : List ByteArray), headL f l <+: f ∧ ∀ s ∈ l, headL f l <+: by_ s := by
  intro l
  induction l generalizing f with
  | nil => exact ⟨List.prefix_refl _, by simp⟩
  | cons s l ih =>
    have h := ih (f.take (commonL f (by_ s)))
    have h1 := commonL_take f (by_ s) _ (Nat.le_refl _)
    refine ⟨h.1.trans (List.take_prefix _ _), ?_⟩
    intro t ht
    rcases List.mem_cons.1 ht with rfl | ht
    · exact (h.1.trans (by rw [h1.1]; exact List.take_prefix _ _) : headL (f.take (commonL f (by_ t))) l <+: by_ t)
    · exact h.2 t ht

theorem commonL_ge : ∀ (p f s : List UInt8), p <+: f → p <+: s → p.length ≤ commonL f s
  | [], _, _, _, _ => Nat.zero_le _
  | c :: p, [], _, h, _ => by simp at h
  | c :: p, _ :: _, [], _, h => by simp at h
  | c :: p, a :: f, b :: s, h1, h2 => by
    obtain ⟨e1, h3⟩ := List.cons_prefix_cons.1 h1
    obtain ⟨e2, h4⟩ := List.cons_prefix_cons.1 h2
    subst e1 e2
    have := commonL_ge p f s h3 h4
    simp [commonL]
    omega

theorem headL_greatest (p : List UInt8) : ∀ (l : List ByteArray) (f : List UInt8), p <+: f → (∀ s ∈ l, p <+: by_ s) → p <+: headL f l := by
  intro l
  induction l with
  | nil => intro f h _; exact h
  | cons s l ih =>
    intro f h1 h2
    have h3 := commonL_ge p f (by_ s) h1 (h2 s (by simp))
    refine ih (f.take (commonL f (by_ s))) ?_ (fun t ht => h2 t (by simp [ht]))
    rw [List.prefix_take_iff]
    exact ⟨h1, h3⟩

/-- There is a text of n bytes with which all begin. -/
def Shares (ss : List ByteArray) (n : Nat) : Prop := ∃ p : List UInt8, p.length = n ∧ ∀ s ∈ ss, p <+: by_ s

theorem allL_shares (ss : List ByteArray) (h : ss ≠ []) : Shares ss (allL ss) := by
  cases ss with
  | nil => exact absurd rfl h
  | cons s r => exact ⟨headL (by_ s) r, rfl, fun t ht => by
      rcases List.mem_cons.1 ht with rfl | ht
      · exact (headL_prefix _ r).1
      · exact (headL_prefix _ r).2 t ht⟩

theorem allL_greatest (ss : List ByteArray) (h : ss ≠ []) (n : Nat) (hn : Shares ss n) : n ≤ allL ss := by
  cases ss with
  | nil => exact absurd rfl h
  | cons s r =>
    obtain ⟨p, hp, h2⟩ := hn
    have := (headL_greatest p r (by_ s) (h2 s (by simp)) (fun t ht => h2 t (by simp [ht]))).length_le
    simp only [allL]
    omega

theorem allL_same (ss tt : List ByteArray) (h : ss ≠ []) (h2 : tt ≠ []) (hm : ∀ s, s ∈ ss ↔ s ∈ tt) : allL ss = allL tt := by
  have h3 : ∀ n, Shares ss n ↔ Shares tt n := fun n => by
    constructor
    · rintro ⟨p, h1, h2⟩; exact ⟨p, h1, fun s hs => h2 s ((hm s).2 hs)⟩
    · rintro ⟨p, h1, h2⟩; exact ⟨p, h1, fun s hs => h2 s ((hm s).1 hs)⟩
  have a := allL_greatest tt h2 _ ((h3 _).1 (allL_shares ss h))
  have b := allL_greatest ss h _ ((h3 _).2 (allL_shares tt h2))
  omega

/-- What PathShares says of each element, and of one byte more. -/
theorem shares_each (s0 : ByteArray) (r : List ByteArray) : allL (s0 :: r) ≤ s0.size ∧ ∀ s ∈ (s0 :: r), beginsB s (bs ((by_ s0).take (allL (s0 :: r)))) = true := by
  obtain ⟨p, h1, h2⟩ := allL_shares (s0 :: r) (by simp)
  have h3 := (h2 s0 (by simp))
  have h4 : (by_ s0).take (allL (s0 :: r)) = p := by rw [← h1]; exact (List.prefix_iff_eq_take.1 h3).symm
  refine ⟨by have := h3.length_le; rw [size_by] at this; omega, fun s hs => ?_⟩
  rw [beginsB_iff, by_bs, h4]
  exact h2 s hs

theorem shares_more (s0 : ByteArray) (r : List ByteArray) (h : allL (s0 :: r) < s0.size) : ∃ s ∈ (s0 :: r), beginsB s (bs ((by_ s0).take (allL (s0 :: r) + 1))) = false := by
  apply Classical.byContradiction
  intro hc
  have h1 : Shares (s0 :: r) (allL (s0 :: r) + 1) := by
    refine ⟨(by_ s0).take (allL (s0 :: r) + 1), ?_, fun s hs => ?_⟩
    · rw [List.length_take, size_by]; omega
    · have h2 : beginsB s (bs ((by_ s0).take (allL (s0 :: r) + 1))) = true := by
        cases hb : beginsB s (bs ((by_ s0).take (allL (s0 :: r) + 1))) with
        | true => rfl
        | false => exact absurd ⟨s, hs, hb⟩ hc
      rw [beginsB_iff, by_bs] at h2
      exact h2
  have := allL_greatest _ (by simp) _ h1
  omega

set_option maxRecDepth 100000 in
theorem pick_any (x n : Int) (w : World) (h : 1 ≤ n) (h2 : n ≤ 4611686018427387904) :
    Calls Try.prog 21 #[.int .i64 x, .int .i64 n] w fun e w' => (∃ k : Nat, e = .returned (.int .i64 k) ∧ (k : Int) < n ∧ (k : Int) = x % n) ∧ w = w' := by
  have hm := Lib.hid (show x.tmod n = if 0 ≤ x then x % n else if x % n = 0 then 0 else x % n - n by
    by_cases h0 : 0 ≤ x
    · rw [if_pos h0, Int.tmod_eq_emod_of_nonneg h0]
    · rw [if_neg h0, Int.tmod_eq_emod]
      by_cases h1 : x % n = 0
      · rw [if_pos h1, if_pos (by right; exact Int.dvd_of_emod_eq_zero h1), h1]; rfl
      · rw [if_neg h1, if_neg (by rintro (h3 | h3); exact h0 h3; exact h1 (Int.emod_eq_zero_of_dvd h3))]
        omega)
  have he1 := Int.emod_nonneg x (show n ≠ 0 by omega)
  have he2 := Int.emod_lt_of_pos x (show 0 < n by omega)
  have hn1 : ¬ n < 1 := by omega
  have hn0 : (n == 0) = false := by simp; omega
  have hn0' : n ≠ 0 := by omega
  obtain ⟨q, hq⟩ : ∃ q, q = x.tmod n := ⟨_, rfl⟩
  have hq2 := hm.out
  rw [← hq] at hq2
  by_cases hneg : q < 0
  · have hr : q + n = x % n := by
      by_cases h0 : 0 ≤ x
      · rw [if_pos h0] at hq2; omega
      · rw [if_neg h0] at hq2
        by_cases h1 : x % n = 0
        · rw [if_pos h1] at hq2; omega
        · rw [if_neg h1] at hq2; omega
    clear hq2 hm
    go_enter Try.func21, Try.ntmps21
    go_wp2
    go_ret
    exact ⟨⟨(x % n).toNat, ret_int (by omega), by omega, by omega⟩, rfl⟩
  · have hr : q = x % n := by
      by_cases h0 : 0 ≤ x
      · rw [if_pos h0] at hq2; omega
      · rw [if_neg h0] at hq2
        by_cases h1 : x % n = 0
        · rw [if_pos h1] at hq2; omega
        · rw [if_neg h1] at hq2; omega
    clear hq2 hm
    go_enter Try.func21, Try.ntmps21
    go_wp2
    go_ret
    exact ⟨⟨(x % n).toNat, ret_int (by omega), by omega, by omega⟩, rfl⟩
end Go.Proofs.Ytgfhaldfjnepmaa
