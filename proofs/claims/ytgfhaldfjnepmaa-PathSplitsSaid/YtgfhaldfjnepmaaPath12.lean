/- Walk of PathJoins. -/
import Derived.Test.YtgfhaldfjnepmaaPath11
namespace Go.Proofs.Ytgfhaldfjnepmaa
open Go Go.RowKit Go.Shelf Go.Proofs
attribute [local go_sem] Oper.semAt_some

theorem commonL_cons (c : UInt8) (x y : List UInt8) : commonL (c :: x) (c :: y) = commonL x y + 1 := by simp [commonL]
theorem commonL_append : ∀ (h x y : List UInt8), commonL (h ++ x) (h ++ y) = h.length + commonL x y
  | [], x, y => by simp
  | c :: h, x, y => by
    rw [List.cons_append, List.cons_append, commonL_cons, commonL_append h x y, List.length_cons]
    omega

theorem u8_of (n : Int) (h : 0 ≤ n ∧ n ≤ 255) : (((UInt8.ofNat n.toNat).toNat : Nat) : Int) = n := by
  simp
  omega

theorem joinS_facts (h t : ByteArray) (n : Int) (hn : 0 ≤ n ∧ n ≤ 255) :
    (joinS h n t).size = h.size + 1 + t.size ∧ cutV (joinS h n t) (h.size : Int) = .tuple #[.string h, .int .u8 n, .string t, .bool true] ∧ beginsB (joinS h n t) h = true ∧ bs ((by_ (joinS h n t)).drop ((h.size : Int) + 1).toNat) = t := by
  have hs : (joinS h n t).size = h.size + 1 + t.size := by unfold joinS; rw [size_bs, List.length_append, List.length_cons, size_by, size_by]; omega
  have hb : by_ (joinS h n t) = by_ h ++ UInt8.ofNat n.toNat :: by_ t := by unfold joinS; rw [by_bs]
  have hd : bs ((by_ (joinS h n t)).drop (h.size + 1)) = t := by
    rw [hb, ← size_by h, List.drop_append, List.drop_of_length_le (by omega)]
    simp [bs_by]
  refine ⟨hs, ?_, ?_, ?_⟩
  · have hlt : h.size < (joinS h n t).size := by omega
    unfold cutV
    rw [dif_pos (by omega)]
    have e1 : bs ((by_ (joinS h n t)).take ((h.size : Nat) : Int).toNat) = h := by
      rw [hb, Int.toNat_natCast, ← size_by h, List.take_left, bs_by]
    have e2 : (joinS h n t)[((h.size : Nat) : Int).toNat]'(by rw [Int.toNat_natCast]; exact hlt) = UInt8.ofNat n.toNat := by
      have e3 : (joinS h n t)[((h.size : Nat) : Int).toNat]'(by rw [Int.toNat_natCast]; exact hlt) = (by_ (joinS h n t))[h.size]'(by rw [size_by]; exact hlt) := rfl
      rw [e3]
      have : (by_ (joinS h n t))[h.size]? = some (UInt8.ofNat n.toNat) := by
        rw [hb, ← size_by h, List.getElem?_append_right (Nat.le_refl _), Nat.sub_self]
        rfl
      rw [List.getElem?_eq_getElem (by rw [size_by]; exact hlt)] at this
      exact Option.some.inj this
    rw [e1, e2, u8_of n hn, Int.toNat_natCast, hd]
  · rw [beginsB_iff, hb]
    exact List.prefix_append _ _
  · rw [show ((h.size : Int) + 1).toNat = h.size + 1 by omega]
    exact hd

theorem joinS_common (h a b : ByteArray) (n : Int) : commonL (by_ (joinS h n a)) (by_ (joinS h n b)) = h.size + 1 + commonL (by_ a) (by_ b) := by
  unfold joinS
  rw [by_bs, by_bs, commonL_append, commonL_cons, size_by]
  omega

set_option maxRecDepth 100000 in
set_option maxHeartbeats 4000000 in
theorem law_PathJoins (head : ByteArray) (hh : head.size ≤ 140737488351232) (a : ByteArray) (ha : a.size ≤ 140737488351232) (b : ByteArray) (hb : b.size ≤ 140737488351232) (c : Int) (hc : 0 ≤ c ∧ c ≤ 255) (w : World) :
    Calls Try.prog 8 #[.string head, .string a, .string b, .int .u8 c] w fun e w' => e = .returned (.bool true) ∧ Below w.heap.size w w' := by
  have hB := Below.refl w.heap.size w
  obtain ⟨s, hs⟩ : ∃ s, joinS head c a = s := ⟨_, rfl⟩
  obtain ⟨u, hu⟩ : ∃ u, joinS head c b = u := ⟨_, rfl⟩
  obtain ⟨f1, f2, f3, f4⟩ := joinS_facts head a c hc
  obtain ⟨g1, -, -, -⟩ := joinS_facts head b c hc
  have f5 := joinS_common head a b c
  rw [hs] at f1 f2 f3 f4 f5
  rw [hu] at f5 g1
  clear hc
  have HS := Lib.hid hs
  have HU := Lib.hid hu
  have H2 := Lib.hid f2
  have H4 := Lib.hid f4
  clear hs hu f2 f4
  have F1 : ((s.size : Nat) : Int) = (head.size : Int) + 1 + (a.size : Int) := by omega
  have hsb : s.size ≤ 281474976710656 ∨ True := .inr trivial
  have K1 := Lib.hid f1
  obtain ⟨M, hM⟩ : ∃ M, commonL (by_ a) (by_ b) = M := ⟨_, rfl⟩
  have hMle : M ≤ a.size := by rw [← hM, ← size_by]; exact (commonL_take (by_ a) (by_ b) _ (Nat.le_refl _)).2.1
  rw [hM] at f5
  have K5 := Lib.hid f5
  have K6 := Lib.hid hM
  clear hM
  clear f1 f5 g1
  have hcase : (2000 : Int) < (head.size : Int) ∨ (¬ (2000 : Int) < (head.size : Int) ∧ (2000 : Int) < (a.size : Int)) ∨ (¬ (2000 : Int) < (head.size : Int) ∧ ¬ (2000 : Int) < (a.size : Int) ∧ (2000 : Int) < (b.size : Int)) ∨ (¬ (2000 : Int) < (head.size : Int) ∧ ¬ (2000 : Int) < (a.size : Int) ∧ ¬ (2000 : Int) < (b.size : Int)) := by omega
  have FF := Lib.hid F1
  have FH := Lib.hid f3
  clear F1 f3 hsb
  rcases hcase with h1 | ⟨h1, h2⟩ | ⟨h1, h2, h3⟩ | ⟨h1, h2, h3⟩
  iterate 3
    · go_enter Try.func8, Try.ntmps8
      go_wp2_with (go_at_call 15; refine (awake10 _).mono ?_; rintro e w' ⟨rfl, hn⟩; replace hB := below_chain hB hn; clear hn)
      go_ret
      exact ⟨rfl, hB⟩
  · have F1 := FF.out
    have f3 := FH.out
    go_enter Try.func8, Try.ntmps8
    go_wp2_with (first
      | (go_at_call 15; refine (awake10 _).mono ?_; rintro e w' ⟨rfl, hn⟩; replace hB := below_chain hB hn; clear hn)
      | (go_at_call 25; refine (join_any _ _ _ _ (by omega) (by omega)).mono ?_; (first | rw [HS.out] | rw [HU.out]); rintro e w' ⟨rfl, hn⟩; replace hB := below_chain hB hn; clear hn)
      | (go_at_call 24; refine (cut_any _ _ _ (by have := K1.out; omega)).mono ?_; rw [H2.out]; rintro e w' ⟨rfl, hn⟩; replace hB := below_chain hB hn; clear hn)
      | (go_at_call 23; refine (common_any _ _ _ (by have := K1.out; omega)).mono ?_; (first | rw [K5.out] | rw [K6.out]); rintro e w' ⟨rfl, hn⟩; replace hB := below_chain hB hn; clear hn)
      | (go_at_call 20; refine (begins_any _ _ _).mono ?_; rintro e w' ⟨rfl, rfl⟩)
      | (go_at_call 26; refine (rest_any _ _ _).mono ?_; rw [H4.out]; rintro e w' ⟨rfl, hn⟩; replace hB := below_chain hB hn; clear hn))
    go_ret
    exact ⟨rfl, hB⟩
end Go.Proofs.Ytgfhaldfjnepmaa
