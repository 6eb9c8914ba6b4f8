/- Walk of CodeOrder. -/
import Derived.Test.YtkfjoonhgpgaiaaCode11
namespace Go.Proofs.Ytkfjoonhgpgaiaa
open Go Go.RowKit Go.Shelf Go.Proofs Go.Sort
attribute [local go_sem] Oper.semAt_some

theorem eq_toList (a b : ByteArray) : (a.toList == b.toList) = decide (a = b) := by
  rw [toList_by, toList_by]
  by_cases h : a = b
  · rw [h]; simp
  · rw [decide_eq_false h]
    exact beq_eq_false_iff_ne.2 (fun e => h (by_inj e))

theorem order_facts (s t a b : ByteArray) (ha : a = bs (encC (by_ s))) (hb : b = bs (encC (by_ t))) :
    lessBC a b = Op.bytesLess s.toList t.toList ∧ (a.toList == b.toList) = (s.toList == t.toList) ∧ (s = t ∨ b.size < a.size ∨ (a.size ≤ b.size ∧ ((b.extract 0 a.size).toList == a.toList) = false)) := by
  subst ha hb
  refine ⟨?_, ?_, ?_⟩
  · unfold lessBC
    rw [bytesLess_eq, toList_by, toList_by, by_bs, by_bs]
    exact decide_eq_decide.2 (enc_order _ _)
  · rw [eq_toList, eq_toList]
    refine decide_eq_decide.2 ⟨fun h => by_inj (enc_inj (bs_inj h)), fun h => by rw [h]⟩
  · by_cases h : s = t
    · exact .inl h
    · right
      by_cases h2 : (bs (encC (by_ t))).size < (bs (encC (by_ s))).size
      · exact .inl h2
      · right
        refine ⟨by omega, beq_eq_false_iff_ne.2 (fun e => ?_)⟩
        rw [toList_by, toList_by, by_extract, by_bs, by_bs, List.drop_zero, size_bs] at e
        have := enc_begins (by_ s) (by_ t) ((encC (by_ t)).drop (encC (by_ s)).length) (by conv => lhs; rw [← List.take_append_drop (encC (by_ s)).length (encC (by_ t)), e])
        exact h (by_inj this.1)

set_option maxRecDepth 100000 in
set_option maxHeartbeats 4000000 in
theorem law_CodeOrder (s : ByteArray) (hs : s.size ≤ 140737488351232) (t : ByteArray) (ht : t.size ≤ 140737488351232) (more : ByteArray) (hm : more.size ≤ 140737488351232) (w : World) :
    Calls Try.prog 10 #[.string s, .string t, .string more] w fun e w' => e = .returned (.bool true) ∧ Below w.heap.size w w' := by
  have hB := Below.refl w.heap.size w
  by_cases h1000 : s.size + t.size + more.size ≤ 1000
  · by_cases h16 : s.size ≤ 16
    · have hV := encV_ok h16
      by_cases k16 : t.size ≤ 16
      · have kV := encV_ok k16
        obtain ⟨a, ha⟩ : ∃ a, a = bs (encC (by_ s)) := ⟨_, rfl⟩
        obtain ⟨b, hb⟩ : ∃ b, b = bs (encC (by_ t)) := ⟨_, rfl⟩
        obtain ⟨f1, f2, f3⟩ := order_facts s t a b ha hb
        rw [← ha] at hV
        rw [← hb] at kV
        have hla := (encC_length (by_ s)).2
        have hlb := (encC_length (by_ t)).2
        rw [size_by] at hla hlb
        have hza : a.size ≤ 34 := by rw [ha, size_bs]; omega
        have hzb : b.size ≤ 34 := by rw [hb, size_bs]; omega
        have hmore : (more.toList == []) = true ∨ ((more.toList == []) = false ∧ decB (a ++ more) = false) := by
          by_cases h : by_ more = []
          · exact .inl (by rw [toList_by, h]; rfl)
          · refine .inr ⟨by rw [toList_by]; exact beq_eq_false_iff_ne.2 h, ?_⟩
            unfold decB
            rw [by_append, ha, by_bs, dec_more _ _ h]
            rfl
        have hsize : (a ++ more).size ≤ 281474976710656 := by rw [ByteArray.size_append]; omega
        clear ha hb hla hlb
        have f4 : (s.toList == t.toList) = true ∨ ((s.toList == t.toList) = false ∧ b.size < a.size) ∨ ((s.toList == t.toList) = false ∧ ((a.size : Int) ≤ (b.size : Int)) ∧ ¬ b.size < a.size ∧ ((b.extract 0 a.size).toList == a.toList) = false) := by
          rcases f3 with f3 | f3 | ⟨f3, f5⟩
          · left; rw [f3]; simp
          · cases hE : (s.toList == t.toList) with
            | true => exact .inl rfl
            | false => exact .inr (.inl ⟨rfl, f3⟩)
          · cases hE : (s.toList == t.toList) with
            | true => exact .inl rfl
            | false => exact .inr (.inr ⟨rfl, by omega, by omega, f5⟩)
        clear f3
        cases hL : Op.bytesLess s.toList t.toList with
        | true =>
          rw [hL] at f1
          rcases f4 with hE | ⟨hE, h5⟩ | ⟨hE, h5, h6, h7⟩
          all_goals rw [hE] at f2
          all_goals rcases hmore with m1 | ⟨m1, m2⟩
          all_goals
            go_enter Try.func10, Try.ntmps10
            go_wp2_with (first
          | (go_at_call 26; refine (awake04 _).mono ?_; rintro e w' ⟨rfl, hn⟩; replace hB := below_chain hB hn; clear hn)
          | (go_at_call 30; refine (encode_any _ _ (by omega)).mono ?_; (first | rw [hV] | rw [kV]); rintro e w' ⟨rfl, hn⟩; replace hB := below_chain hB hn; clear hn)
          | (go_at_call 28; refine (less04_any _ _ _).mono ?_; rintro e w' ⟨rfl, rfl⟩)
          | (go_at_call 32; refine (is_any _ _ hsize).mono ?_; rintro e w' ⟨rfl, hn⟩; replace hB := below_chain hB hn; clear hn))
            go_ret
            exact ⟨rfl, hB⟩
        | false =>
          rw [hL] at f1
          rcases f4 with hE | ⟨hE, h5⟩ | ⟨hE, h5, h6, h7⟩
          all_goals rw [hE] at f2
          all_goals rcases hmore with m1 | ⟨m1, m2⟩
          all_goals
            go_enter Try.func10, Try.ntmps10
            go_wp2_with (first
          | (go_at_call 26; refine (awake04 _).mono ?_; rintro e w' ⟨rfl, hn⟩; replace hB := below_chain hB hn; clear hn)
          | (go_at_call 30; refine (encode_any _ _ (by omega)).mono ?_; (first | rw [hV] | rw [kV]); rintro e w' ⟨rfl, hn⟩; replace hB := below_chain hB hn; clear hn)
          | (go_at_call 28; refine (less04_any _ _ _).mono ?_; rintro e w' ⟨rfl, rfl⟩)
          | (go_at_call 32; refine (is_any _ _ hsize).mono ?_; rintro e w' ⟨rfl, hn⟩; replace hB := below_chain hB hn; clear hn))
            go_ret
            exact ⟨rfl, hB⟩
      · have kV := encV_long k16
        go_enter Try.func10, Try.ntmps10
        go_wp2_with (first
          | (go_at_call 26; refine (awake04 _).mono ?_; rintro e w' ⟨rfl, hn⟩; replace hB := below_chain hB hn; clear hn)
          | (go_at_call 30; refine (encode_any _ _ (by omega)).mono ?_; (first | rw [hV] | rw [kV]); rintro e w' ⟨rfl, hn⟩; replace hB := below_chain hB hn; clear hn)
          | (go_at_call 28; refine (less04_any _ _ _).mono ?_; rintro e w' ⟨rfl, rfl⟩)
          | (go_at_call 32; refine (is_any _ _ hsize).mono ?_; rintro e w' ⟨rfl, hn⟩; replace hB := below_chain hB hn; clear hn))
        go_ret
        exact ⟨rfl, hB⟩
    · have hV := encV_long h16
      obtain ⟨b, e, kV⟩ := encV_parts t
      go_enter Try.func10, Try.ntmps10
      go_wp2_with (first
          | (go_at_call 26; refine (awake04 _).mono ?_; rintro e w' ⟨rfl, hn⟩; replace hB := below_chain hB hn; clear hn)
          | (go_at_call 30; refine (encode_any _ _ (by omega)).mono ?_; (first | rw [hV] | rw [kV]); rintro e w' ⟨rfl, hn⟩; replace hB := below_chain hB hn; clear hn)
          | (go_at_call 28; refine (less04_any _ _ _).mono ?_; rintro e w' ⟨rfl, rfl⟩)
          | (go_at_call 32; refine (is_any _ _ hsize).mono ?_; rintro e w' ⟨rfl, hn⟩; replace hB := below_chain hB hn; clear hn))
      go_ret
      exact ⟨rfl, hB⟩
  · have h' : (1000 : Int) < (s.size : Int) + t.size + more.size := by omega
    clear h1000
    go_enter Try.func10, Try.ntmps10
    go_wp2_with (go_at_call 26; refine (awake04 _).mono ?_; rintro e w' ⟨rfl, hn⟩; replace hB := below_chain hB hn; clear hn)
    go_ret
    exact ⟨rfl, hB⟩
end Go.Proofs.Ytkfjoonhgpgaiaa
