/- Plain law of RealmApart. -/
import Derived.Test.YtkfjoonhgpgaiaaRealm8
namespace Go.Proofs.Ytkfjoonhgpgaiaa
open Go Go.RowKit Go.Shelf Go.Proofs Go.Sort
attribute [local go_sem] Oper.semAt_some

theorem beyondL_aboveA (k : Nat) (h1 : 1 ≤ k) (h2 : k ≤ 16) (t : List UInt8) : preL k <+: t ↔ (¬ t < preL k ∧ t < preL (k + 1)) := by
  have hne : UInt8.ofNat k ≠ 255 := fun e => by
    have := congrArg UInt8.toNat e
    simp at this
    omega
  have hs : UInt8.ofNat k + 1 = UInt8.ofNat (k + 1) := by
    apply UInt8.toNat_inj.1
    simp
  constructor
  · rintro ⟨r, rfl⟩
    refine ⟨not_lt_append _ _, ?_⟩
    have e1 : preL k ++ r = [0, 0, 0, 0, 0, 0, 0] ++ UInt8.ofNat k :: r := rfl
    have e2 : preL (k + 1) = [0, 0, 0, 0, 0, 0, 0] ++ UInt8.ofNat (k + 1) :: [] := rfl
    rw [e1, e2, lt_append_left, lt_cons]
    left
    rw [← hs]
    exact u8_succ_lt hne
  · rintro ⟨h3, h4⟩
    have := begins_mid (a := [0, 0, 0, 0, 0, 0, 0]) (f := []) (s := t) (c := UInt8.ofNat k) (by simp) hne h3 (by rw [hs]; exact h4)
    exact this

theorem preL_lt {k m : Nat} (hk : k ≤ 255) (hm : m ≤ 255) (x y : List UInt8) : (k < m → preL k ++ x < preL m ++ y) ∧ (k = m → (preL k ++ x < preL m ++ y ↔ x < y)) := by
  constructor
  · intro h
    have e1 : preL k ++ x = [0, 0, 0, 0, 0, 0, 0] ++ UInt8.ofNat k :: x := rfl
    have e2 : preL m ++ y = [0, 0, 0, 0, 0, 0, 0] ++ UInt8.ofNat m :: y := rfl
    rw [e1, e2, lt_append_left, lt_cons]
    left
    rw [UInt8.lt_iff_toNat_lt]
    simp
    omega
  · rintro rfl
    exact lt_append_left _

theorem preL_apart {k m : Nat} (hk : k ≤ 255) (hm : m ≤ 255) (h : k ≠ m) (x y : List UInt8) : ¬ (preL k ++ x) <+: (preL m ++ y) := by
  rintro ⟨r, e⟩
  have := congrArg (List.take 8) e
  exact h (preL_inj hk hm (by simpa [preL] using this))

theorem paths_how (k m : Nat) (s t : ByteArray) (hk1 : 1 ≤ k) (hk2 : k ≤ 16) (hm1 : 1 ≤ m) (hm2 : m ≤ 16) :
    ((decide ((k : Int) < (m : Int)) = true ∧ decide (k < m) = true ∧ (k == m) = false ∧ decide (k = m) = false) ∧ ((k : Int) == (m : Int)) = false ∧ Op.bytesLess (pathL k s).toList (pathL m t).toList = true ∧ ((pathL k s).toList == (pathL m t).toList) = false ∧ (((pathL m t).extract 0 (pathL k s).size).toList == (pathL k s).toList) = false) ∨
    (k = m ∧ Op.bytesLess (pathL k s).toList (pathL m t).toList = Op.bytesLess s.toList t.toList ∧ ((pathL k s).toList == (pathL m t).toList) = (s.toList == t.toList)) ∨
    ((decide ((k : Int) < (m : Int)) = false ∧ decide (k < m) = false ∧ (k == m) = false ∧ decide (k = m) = false) ∧ ((k : Int) == (m : Int)) = false ∧ Op.bytesLess (pathL k s).toList (pathL m t).toList = false ∧ ((pathL k s).toList == (pathL m t).toList) = false ∧ (((pathL m t).extract 0 (pathL k s).size).toList == (pathL k s).toList) = false) := by
  have hb : ∀ k s, by_ (pathL k s) = preL k ++ encC (by_ s) := fun k s => by unfold pathL; rw [by_bs]
  have hpre : k ≠ m → (((pathL m t).extract 0 (pathL k s).size).toList == (pathL k s).toList) = false := fun h => by
    refine beq_eq_false_iff_ne.2 (fun e => ?_)
    rw [toList_by, toList_by, by_extract, List.drop_zero, ← size_by, hb, hb] at e
    exact preL_apart (by omega) (by omega) h (encC (by_ s)) (encC (by_ t)) (List.prefix_iff_eq_take.2 e.symm)
  have heq : k ≠ m → ((pathL k s).toList == (pathL m t).toList) = false := fun h => by
    refine beq_eq_false_iff_ne.2 (fun e => ?_)
    rw [toList_by, toList_by, hb, hb] at e
    exact preL_apart (by omega) (by omega) h (encC (by_ s)) (encC (by_ t)) (by rw [e]; exact List.prefix_refl _)
  rcases Nat.lt_trichotomy k m with h | h | h
  · refine .inl ⟨⟨decide_eq_true (by omega), decide_eq_true (by omega), beq_eq_false_iff_ne.2 (by omega), decide_eq_false (by omega)⟩, beq_eq_false_iff_ne.2 (by omega), ?_, heq (by omega), hpre (by omega)⟩
    rw [bytesLess_eq, toList_by, toList_by, hb, hb]
    exact decide_eq_true ((preL_lt (by omega) (by omega) _ _).1 h)
  · refine .inr (.inl ⟨h, ?_, ?_⟩)
    · rw [bytesLess_eq, bytesLess_eq, toList_by, toList_by, toList_by, toList_by, hb, hb]
      exact decide_eq_decide.2 (((preL_lt (by omega) (by omega) _ _).2 h).trans (enc_order _ _))
    · subst h
      rw [toList_by, toList_by, toList_by, toList_by, hb, hb]
      rw [Bool.eq_iff_iff, beq_iff_eq, beq_iff_eq]
      exact ⟨fun e => enc_inj (List.append_cancel_left e), fun e => by rw [e]⟩
  · refine .inr (.inr ⟨⟨decide_eq_false (by omega), decide_eq_false (by omega), beq_eq_false_iff_ne.2 (by omega), decide_eq_false (by omega)⟩, beq_eq_false_iff_ne.2 (by omega), ?_, heq (by omega), hpre (by omega)⟩)
    rw [bytesLess_eq, toList_by, toList_by, hb, hb]
    exact decide_eq_false (lex_asymm ((preL_lt (by omega) (by omega) _ _).1 h))

/-- How a text lies to a realm: it belongs to it, or lies outside. -/
theorem realm_how (t : ByteArray) (k : Nat) (h1 : 1 ≤ k) (h2 : k ≤ 16) :
    (ownerN t = k ∧ Op.bytesLess t.toList (bs (preL k)).toList = false ∧ Op.bytesLess t.toList (bs (preL (k + 1))).toList = true) ∨
    (ownerN t ≠ k ∧ Op.bytesLess t.toList (bs (preL k)).toList = true) ∨
    (ownerN t ≠ k ∧ Op.bytesLess t.toList (bs (preL k)).toList = false ∧ Op.bytesLess t.toList (bs (preL (k + 1))).toList = false) := by
  have hB := beyondL_aboveA k h1 h2 (by_ t)
  rw [bytesLess_eq, bytesLess_eq, toList_by, toList_by, toList_by, by_bs, by_bs]
  by_cases ho : ownerN t = k
  · left
    rcases ownerN_cases t with ⟨h0, _⟩ | ⟨_, _, hb⟩
    · omega
    · rw [ho, begB_iff, by_bs] at hb
      obtain ⟨h3, h4⟩ := hB.1 hb
      exact ⟨ho, decide_eq_false h3, decide_eq_true h4⟩
  · right
    have hnb : ¬ preL k <+: by_ t := fun h => ho (ownerN_hit h1 h2 (by rw [begB_iff, by_bs]; exact h))
    by_cases h3 : by_ t < preL k
    · exact .inl ⟨ho, decide_eq_true h3⟩
    · exact .inr ⟨ho, decide_eq_false h3, decide_eq_false (fun h4 => hnb (hB.2 ⟨h3, h4⟩))⟩
end Go.Proofs.Ytkfjoonhgpgaiaa
