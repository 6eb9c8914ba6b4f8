/- Walks: Between, From, Begin of the reference model of a walk. -/
import Derived.Test.YtegccicplcjcmaaArtQ2
import Derived.Test.YtegccicplcjcmaaArtR4
import Derived.Test.YtegccicplcjcmaaWPath1
import Derived.Test.YtegccicplcjcmaaWk2
import Derived.Lib.MinMaxS
namespace Go.Proofs.Ytegccicplcjcmaa
open Go Go.RowKit Go.Shelf Go.Proofs
attribute [local go_sem] Oper.semAt_some

theorem filter_next {α : Type} (f : α → Bool) (l : List α) (k : Nat) (p : α) (h : l[k]? = some p) : (l.take (k + 1)).filter f = (l.take k).filter f ++ (if f p then [p] else []) := by
  rw [List.take_add_one, h, Option.toList_some, List.filter_append]
  congr 1
  cases e : f p <;> simp [e]

theorem filter_len {α : Type} (f : α → Bool) (l : List α) (k : Nat) : ((l.take k).filter f).length ≤ k := Nat.le_trans (List.length_filter_le _ _) (by rw [List.length_take]; omega)

set_option maxRecDepth 100000 in
set_option maxHeartbeats 4000000 in
theorem refbetween_any (a : Option Addr) (len cap : Nat) (ps : PS) (w : World) (h : IsPairs w a len ps) (hl : len < 90000) (s t : ByteArray) :
    Calls Try.prog 39 #[.agg #[.slice a len cap], .string s, .string t] w fun e w' => ∃ pv, e = .returned pv ∧ PRow w' w.heap.size pv (btwP ps s t) ∧ Below w.heap.size w w' := by
  obtain ⟨i0, hi, hz0, hz1, hz2⟩ := info_parts2 infoPair
  obtain ⟨w1, hw1⟩ : ∃ w1, w1 = w.alloc (.cells #[.slice a len cap] 28) := ⟨_, rfl⟩
  have hB1 : Below w.heap.size w w1 := by rw [hw1]; exact (Below.refl _ _).alloc (Nat.le_refl _) _
  have hs1 : w1.heap.size = w.heap.size + 1 := by rw [hw1]; simp
  have HC := Lib.hid (refbox w (.slice a len cap))
  rw [← hw1, ← hs1] at HC
  have HP := Lib.hid (h.below hB1)
  have hlen := h.1
  have hrow0 : w1.ownsRow w1.heap.size 48 2 (.slice none 0 0) 0 (pcells ((ps.take 0).filter (fun p => inB p.1 s t))) := World.ownsRow_nil _ _ _ _
  have hB0 := Below.refl w1.heap.size w1
  clear h
  go_enter Try.func39, Try.ntmps39
  go_wp2
  rw [← hw1]
  clear hw1
  go_loopw [7, 8] (fun o i wr => ∃ k : Nat, k ≤ len ∧ i = .int .i64 k ∧ wr.ownsRow w1.heap.size 48 2 o ((ps.take k).filter (fun p => inB p.1 s t)).length (pcells ((ps.take k).filter (fun p => inB p.1 s t))) ∧ Below w1.heap.size w1 wr) (fun _ i _ => len - (intOf i).toNat)
  case atStart => exact ⟨0, Nat.zero_le _, rfl, hrow0, hB0⟩
  case round =>
    clear hrow0 hB0
    obtain ⟨k, hk, rfl, hrow, hB⟩ := hrel
    have c0 := HC.out _ hB
    obtain ⟨va, vc, rfl⟩ := row2_slice hrow
    by_cases hk2 : k < len
    · obtain ⟨p, hpk⟩ : ∃ p, ps[k]? = some p := ⟨_, List.getElem?_eq_getElem (by omega)⟩
      obtain ⟨g, off, rfl, hg, hc⟩ := (HP.out.below hB).2.2.resolve_left (by omega)
      obtain ⟨e1, e2⟩ := hc k p hpk
      have hz := (HP.out.2.1 p (List.mem_of_getElem? hpk)).1
      have HNX := Lib.hid (filter_next (fun p => inB p.1 s t) ps k p hpk)
      have hfl := filter_len (fun p => inB p.1 s t) ps k
      have HIN := Lib.hid (fun W => in_any p.1 s t W (by omega))
      have HR := Lib.hid hrow
      have HE := Lib.hid (fun W (hb : Below wr.heap.size wr W) => show W.cell? ⟨g, off + k * 2, none⟩ = some (.string p.1) ∧ W.cell? ⟨g, off + k * 2 + 1, none⟩ = some (.string p.2) from
        ⟨(hb.cell (p := ⟨g, off + k * 2, none⟩) hg).trans e1, (hb.cell (p := ⟨g, off + k * 2 + 1, none⟩) hg).trans e2⟩)
      obtain ⟨p1, p2⟩ := p
      simp only at e1 e2 hz HIN HNX HE
      clear hpk hc hrow
      generalize hF : (ps.take k).filter (fun p => inB p.1 s t) = F at *
      cases hin : inB p1 s t with
      | false =>
        rw [hin] at HIN HNX
        simp only [Bool.false_eq_true, if_false, List.append_nil] at HNX
        go_wp2_with (go_at_call 56; refine (HIN.out _).mono ?_; rintro e w3 ⟨rfl, hn3⟩)
        have hb3 := hB.trans (hn3.mono hB.size)
        have hr3 := ownsRow_below HR.out hn3 (Nat.le_refl _)
        rw [← HNX.out] at hr3
        go_roundw
        case rel => exact ⟨k + 1, by omega, by go_num, by rw [HNX.out] at hr3 ⊢; exact hr3, hb3⟩
        case measure => simp [intOf]; omega
      | true =>
        rw [hin] at HIN HNX
        simp only [if_true] at HNX
        go_wp2_with (first
          | (go_at_call 56; refine (HIN.out _).mono ?_; rintro e w3 ⟨rfl, hn3⟩; have hb3 := hB.trans (hn3.mono hB.size); have d0 := HC.out _ hb3; obtain ⟨d1, d2⟩ := HE.out _ hn3; have HR3 := Lib.hid (ownsRow_below HR.out hn3 (Nat.le_refl _)))
          | (at_builtin; refine wpList_append_own _ rfl _ _ 26 rfl w1.heap.size 48 i0 (.agg #[.string ⟨#[]⟩, .string ⟨#[]⟩]) 2 32 Try.underlying26 hi hz0 hz1 hz2 rfl (by decide) _ F.length (pcells F) rfl (HR3.out.alloc _) ⟨w3.heap.size, 0, none⟩ 1 1 [.string p1, .string p2] rfl rfl (two_new _ _ _ _) (two_one _ _) (by unfold maxLen; omega) (by omega) (by have := hb3.size; simp; omega) ?_; intro v' w5 hown' hgrow hnil))
        have hb5 : Below w1.heap.size w1 w5 := (hb3.alloc hb3.size _).grown hgrow (by have := hb3.size; simp; omega) (fun j e => (HR3.out.lt j e).1)
        go_roundw
        case rel => exact ⟨k + 1, by omega, by go_num, by rw [HNX.out, pcells_append, List.length_append]; exact hown', hb5⟩
        case measure => simp [intOf]; omega
    · obtain rfl : k = len := by omega
      have hall : (ps.take k).filter (fun p => inB p.1 s t) = btwP ps s t := by rw [List.take_of_length_le (by omega)]; rfl
      rw [hall] at hrow ⊢
      go_wp2
      go_ret
      exact ⟨_, rfl, ownsRow_base hrow (show w.heap.size ≤ w1.heap.size by omega), hB1.trans (hB.mono (by omega))⟩

set_option maxRecDepth 100000 in
set_option maxHeartbeats 4000000 in
theorem refbegin_any (a : Option Addr) (len cap : Nat) (ps : PS) (w : World) (h : IsPairs w a len ps) (hl : len < 90000) (t : ByteArray) :
    Calls Try.prog 40 #[.agg #[.slice a len cap], .string t] w fun e w' => ∃ pv, e = .returned pv ∧ PRow w' w.heap.size pv (begP ps t) ∧ Below w.heap.size w w' := by
  obtain ⟨i0, hi, hz0, hz1, hz2⟩ := info_parts2 infoPair
  obtain ⟨w1, hw1⟩ : ∃ w1, w1 = w.alloc (.cells #[.slice a len cap] 28) := ⟨_, rfl⟩
  have hB1 : Below w.heap.size w w1 := by rw [hw1]; exact (Below.refl _ _).alloc (Nat.le_refl _) _
  have hs1 : w1.heap.size = w.heap.size + 1 := by rw [hw1]; simp
  have HC := Lib.hid (refbox w (.slice a len cap))
  rw [← hw1, ← hs1] at HC
  have HP := Lib.hid (h.below hB1)
  have hlen := h.1
  have hrow0 : w1.ownsRow w1.heap.size 48 2 (.slice none 0 0) 0 (pcells ((ps.take 0).filter (fun p => begB p.1 t))) := World.ownsRow_nil _ _ _ _
  have hB0 := Below.refl w1.heap.size w1
  clear h
  go_enter Try.func40, Try.ntmps40
  go_wp2
  rw [← hw1]
  clear hw1
  go_loopw [5, 6] (fun o i wr => ∃ k : Nat, k ≤ len ∧ i = .int .i64 k ∧ wr.ownsRow w1.heap.size 48 2 o ((ps.take k).filter (fun p => begB p.1 t)).length (pcells ((ps.take k).filter (fun p => begB p.1 t))) ∧ Below w1.heap.size w1 wr) (fun _ i _ => len - (intOf i).toNat)
  case atStart => exact ⟨0, Nat.zero_le _, rfl, hrow0, hB0⟩
  case round =>
    clear hrow0 hB0
    obtain ⟨k, hk, rfl, hrow, hB⟩ := hrel
    have c0 := HC.out _ hB
    obtain ⟨va, vc, rfl⟩ := row2_slice hrow
    by_cases hk2 : k < len
    · obtain ⟨p, hpk⟩ : ∃ p, ps[k]? = some p := ⟨_, List.getElem?_eq_getElem (by omega)⟩
      obtain ⟨g, off, rfl, hg, hc⟩ := (HP.out.below hB).2.2.resolve_left (by omega)
      obtain ⟨e1, e2⟩ := hc k p hpk
      have hz := (HP.out.2.1 p (List.mem_of_getElem? hpk)).1
      have HNX := Lib.hid (filter_next (fun p => begB p.1 t) ps k p hpk)
      have hfl := filter_len (fun p => begB p.1 t) ps k
      have HIN := Lib.hid (fun W => show Calls Try.prog 57 #[.string p.1, .string t] W (fun e w' => e = .returned (.bool (begB p.1 t)) ∧ Below W.heap.size W w') from refbegins_any p.1 t W (by omega))
      have HR := Lib.hid hrow
      have HE := Lib.hid (fun W (hb : Below wr.heap.size wr W) => show W.cell? ⟨g, off + k * 2, none⟩ = some (.string p.1) ∧ W.cell? ⟨g, off + k * 2 + 1, none⟩ = some (.string p.2) from
        ⟨(hb.cell (p := ⟨g, off + k * 2, none⟩) hg).trans e1, (hb.cell (p := ⟨g, off + k * 2 + 1, none⟩) hg).trans e2⟩)
      obtain ⟨p1, p2⟩ := p
      simp only at e1 e2 hz HIN HNX HE
      clear hpk hc hrow
      generalize hF : (ps.take k).filter (fun p => begB p.1 t) = F at *
      cases hin : begB p1 t with
      | false =>
        rw [hin] at HIN HNX
        simp only [Bool.false_eq_true, if_false, List.append_nil] at HNX
        go_wp2_with (go_at_call 57; refine (HIN.out _).mono ?_; rintro e w3 ⟨rfl, hn3⟩)
        have hb3 := hB.trans (hn3.mono hB.size)
        have hr3 := ownsRow_below HR.out hn3 (Nat.le_refl _)
        rw [← HNX.out] at hr3
        go_roundw
        case rel => exact ⟨k + 1, by omega, by go_num, by rw [HNX.out] at hr3 ⊢; exact hr3, hb3⟩
        case measure => simp [intOf]; omega
      | true =>
        rw [hin] at HIN HNX
        simp only [if_true] at HNX
        go_wp2_with (first
          | (go_at_call 57; refine (HIN.out _).mono ?_; rintro e w3 ⟨rfl, hn3⟩; have hb3 := hB.trans (hn3.mono hB.size); have d0 := HC.out _ hb3; obtain ⟨d1, d2⟩ := HE.out _ hn3; have HR3 := Lib.hid (ownsRow_below HR.out hn3 (Nat.le_refl _)))
          | (at_builtin; refine wpList_append_own _ rfl _ _ 26 rfl w1.heap.size 48 i0 (.agg #[.string ⟨#[]⟩, .string ⟨#[]⟩]) 2 32 Try.underlying26 hi hz0 hz1 hz2 rfl (by decide) _ F.length (pcells F) rfl (HR3.out.alloc _) ⟨w3.heap.size, 0, none⟩ 1 1 [.string p1, .string p2] rfl rfl (two_new _ _ _ _) (two_one _ _) (by unfold maxLen; omega) (by omega) (by have := hb3.size; simp; omega) ?_; intro v' w5 hown' hgrow hnil))
        have hb5 : Below w1.heap.size w1 w5 := (hb3.alloc hb3.size _).grown hgrow (by have := hb3.size; simp; omega) (fun j e => (HR3.out.lt j e).1)
        go_roundw
        case rel => exact ⟨k + 1, by omega, by go_num, by rw [HNX.out, pcells_append, List.length_append]; exact hown', hb5⟩
        case measure => simp [intOf]; omega
    · obtain rfl : k = len := by omega
      have hall : (ps.take k).filter (fun p => begB p.1 t) = begP ps t := by rw [List.take_of_length_le (by omega)]; rfl
      rw [hall] at hrow ⊢
      go_wp2
      go_ret
      exact ⟨_, rfl, ownsRow_base hrow (show w.heap.size ≤ w1.heap.size by omega), hB1.trans (hB.mono (by omega))⟩

theorem own_take {w : World} {B n c m : Nat} {a : Option Addr} {xs : PS} (h : w.ownsRow B 48 2 (.slice a n c) n (pcells xs)) (hm : m ≤ n) : w.ownsRow B 48 2 (.slice a m c) m (pcells (xs.take m)) ∧ m ≤ c := by
  have hl : xs.length = n := by have := h.1; rw [pcells_length] at this; omega
  have hp : ∀ (l : PS) (k : Nat), pcells (l.take k) = (pcells l).take (k * 2) := by
    intro l
    induction l with
    | nil => intro k; simp [pcells]
    | cons p r ih =>
      intro k
      cases k with
      | zero => simp [pcells]
      | succ k =>
        have := ih k
        rw [List.take_succ_cons, show (k + 1) * 2 = k * 2 + 1 + 1 by omega]
        show Value.string p.1 :: Value.string p.2 :: pcells (r.take k) = _
        rw [this]
        rfl
  rcases h.2 with ⟨h1, h2⟩ | ⟨g, cap, cur, h1, a1, a2, a3, a4, a5, a6⟩
  · subst h2
    obtain rfl : m = 0 := by omega
    refine ⟨⟨by simp [pcells], .inl ⟨h1, rfl⟩⟩, Nat.zero_le _⟩
  · simp only [Value.slice.injEq] at h1
    obtain ⟨rfl, _, rfl⟩ := h1
    refine ⟨⟨by rw [pcells_length, List.length_take]; omega, .inr ⟨g, c, cur, rfl, a1, a2, by omega, a4, a5, ?_⟩⟩, by omega⟩
    rw [hp, ← a6, List.take_take, Nat.min_eq_left (by omega)]

set_option maxRecDepth 100000 in
set_option maxHeartbeats 4000000 in
theorem reffromW_any (a : Option Addr) (len cap : Nat) (ps : PS) (w : World) (h : IsPairs w a len ps) (hl : len < 90000) (hs : SortedP ps) (s : ByteArray) (n : Int) :
    Calls Try.prog 38 #[.agg #[.slice a len cap], .string s, .int .i64 n] w fun e w' => ∃ pv, e = .returned pv ∧ PRow w' w.heap.size pv (fromP ps s n) ∧ Below w.heap.size w w' := by
  obtain ⟨w1, hw1⟩ : ∃ w1, w1 = w.alloc (.cells #[.slice a len cap] 28) := ⟨_, rfl⟩
  have hB1 : Below w.heap.size w w1 := by rw [hw1]; exact (Below.refl _ _).alloc (Nat.le_refl _) _
  have hs1 : w1.heap.size = w.heap.size + 1 := by rw [hw1]; simp
  have HW := Lib.hid (refbetween_any a len cap ps w1 (h.below hB1) hl s ⟨#[]⟩)
  rw [hw1] at HW
  rw [from_ref hs]
  generalize btwP ps s ⟨#[]⟩ = Q at HW ⊢
  clear h
  by_cases h1 : n < 1
  · rw [show n.toNat = 0 by omega, List.take_zero]
    go_enter Try.func38, Try.ntmps38
    go_wp2_with (go_at_call 39; refine HW.out.mono ?_; rintro e w3 ⟨pv, rfl, hr, hb⟩; rw [← hw1] at hb; obtain ⟨va, vc, rfl⟩ := row2_slice hr; have HR := Lib.hid hr; clear hr)
    go_ret
    exact ⟨_, rfl, prow_nil _ _, hB1.trans (hb.mono (by omega))⟩
  · obtain ⟨N, rfl⟩ : ∃ N : Nat, n = N := ⟨n.toNat, by omega⟩
    rw [show (N : Int).toNat = N from rfl]
    obtain ⟨M, hM⟩ : ∃ M, M = min N Q.length := ⟨_, rfl⟩
    have hmin : min (N : Int) (Q.length : Int) = (M : Int) := by omega
    rw [show Q.take N = Q.take M from by rw [hM, List.take_eq_take_min]]
    have hMl : M ≤ Q.length := by omega
    have j0 : (0 : Int) ≤ (M : Int) := by omega
    have HML := Lib.hid (show (Q.take M).length = M by rw [List.length_take]; omega)
    clear hM
    go_enter Try.func38, Try.ntmps38
    go_wp2_with (go_at_call 39; refine HW.out.mono ?_; rintro e w3 ⟨pv, rfl, hr, hb⟩; rw [← hw1] at hb hr; obtain ⟨va, vc, rfl⟩ := row2_slice hr; obtain ⟨hr2, hmc⟩ := own_take hr hMl; have HR := Lib.hid hr2; have j1 : (M : Int) ≤ (vc : Int) := (by omega); clear hr hr2)
    go_ret
    refine ⟨_, rfl, ?_, hB1.trans (hb.mono (by omega))⟩
    unfold PRow
    rw [HML.out]
    exact ownsRow_base HR.out (show w.heap.size ≤ w1.heap.size by omega)

end Go.Proofs.Ytegccicplcjcmaa
