/- Walk: Put of the reference model of an art. -/
import Derived.Test.YtegccicplcjcmaaArtR4
import Derived.Test.YtegccicplcjcmaaCode9
import Derived.Test.YtegccicplcjcmaaArt7
namespace Go.Proofs.Ytegccicplcjcmaa
open Go Go.RowKit Go.Shelf Go.Proofs
attribute [local go_sem] Oper.semAt_some

theorem decV_yes {s : ByteArray} (h : decB s = true) : ∃ t, decV s = .tuple #[.string t, .int .i64 0] := by
  unfold decB at h
  unfold decV
  cases hd : decL (by_ s) with
  | none => rw [hd] at h; cases h
  | some xs => exact ⟨_, rfl⟩
theorem decV_no {s : ByteArray} (h : decB s = false) : decV s = .tuple #[.string ⟨#[]⟩, .int .i64 4] := by
  unfold decB at h
  unfold decV
  cases hd : decL (by_ s) with
  | none => rfl
  | some xs => rw [hd] at h; cases h

theorem below_out1 {w w' : World} {B k : Nat} (h : Below B w w') (hk : B ≤ k) (x : Value) : Below B w (w'.setCell ⟨k, 0, none⟩ x) := h.setCell (p := ⟨k, 0, none⟩) hk _

theorem put_len {ps : PS} (hs : SortedP ps) (s v : ByteArray) : (putP ps s v).length ≤ ps.length + 1 := by
  cases hg : getP ps s with
  | none => rw [(len_put_absent hs v hg).1]; omega
  | some u => rw [(len_put_present hs v hg).1]; omega

set_option maxRecDepth 100000 in
set_option maxHeartbeats 4000000 in
theorem refputA_any {B : Nat} (a : Option Addr) (cap : Nat) (ps : PS) (w : World) (h : PRow w B (.slice a ps.length cap) ps) (hl : ps.length < 80000) (hs : SortedP ps) (hsm : ∀ p ∈ ps, p.1.size ≤ 1000 ∧ p.2.size ≤ 32) (s v : ByteArray) (hs1 : s.size ≤ 1000) (hv1 : v.size ≤ 1000) :
    Calls Try.prog 9 #[.agg #[.slice a ps.length cap], .string s, .string v] w fun e w' => ∃ a' c', e = .returned (.tuple #[.agg #[.slice a' (aputQ ps s v).length c'], .int .i64 (aputE s v)]) ∧ RefOut w w' a cap ps (aputQ ps s v) a' c' ∧ Below w.heap.size w w' := by
  obtain ⟨w1, hw1⟩ : ∃ w1, w1 = (w.alloc (.cells #[.slice a ps.length cap] 28)).alloc (.cells #[.slice none 0 0] 28) := ⟨_, rfl⟩
  have hB1 : Below w.heap.size w w1 := by rw [hw1]; exact ((Below.refl _ _).alloc (Nat.le_refl _) _).alloc (by simp) _
  have hsz1 : w1.heap.size = w.heap.size + 1 + 1 := by rw [hw1]; simp
  have HC : Hid (∀ w', Below w1.heap.size w1 w' → w'.cell? ⟨w.heap.size, 0, none⟩ = some (.slice a ps.length cap) ∧ w'.cell? ⟨w.heap.size + 1, 0, none⟩ = some (.slice none 0 0) ∧ (∀ j, w'.frozen? ⟨w.heap.size, j, none⟩ = false) ∧ (∀ j, w'.frozen? ⟨w.heap.size + 1, j, none⟩ = false)) := Lib.hid (by rw [hw1]; exact refbox2 w _ _)
  have HR := Lib.hid h
  have hsm' : ∀ p ∈ ps, p.1.size ≤ 1000 ∧ p.2.size ≤ 1000 := fun p hp => by have := hsm p hp; omega
  have HDC := Lib.hid (refdecode_any s w1 (by omega))
  rw [hw1] at HDC
  unfold aputQ
  rcases aputE_cases s v with ⟨e1, e2, e3⟩ | ⟨e1, e2, e3⟩ | ⟨e1, e3⟩
  · rw [e3, if_pos rfl]
    obtain ⟨t, hdv⟩ := decV_yes e1
    rw [hdv] at HDC
    have i32 : ¬ (32 : Int) < (v.size : Int) := by omega
    have hpl := posP_le ps s
    have HE := Lib.hid (put_refA hs s v)
    have HES := Lib.hid (put_len hs s v)
    obtain ⟨hp, hc1, hc2, hsh⟩ := prow_in h hsm'
    have HA := Lib.hid (refat_any a ps.length cap ps w1 (hp.below hB1) (by omega) hs s)
    rw [hw1] at HA
    have HH := Lib.hid (fun W (hb : Below w1.heap.size w1 W) => refhas_any a ps.length cap ps W ((hp.below hB1).below hb) (by omega) hs s)
    have HP := Lib.hid (hp.below hB1)
    have hN2 : (getP ps s).isSome = true → posP ps s < ps.length := fun e => by
      obtain ⟨v, hv⟩ := Option.isSome_iff_exists.1 e
      exact (get_at hs hv).2
    generalize posP ps s = N at *
    generalize putP ps s v = E at *
    clear h hp e1 e3 hdv
    obtain ⟨M, hM, hNM⟩ : ∃ M, M = (if (getP ps s).isSome then N + 1 else N) ∧ M ≤ ps.length := by
      refine ⟨_, rfl, ?_⟩
      split
      · rename_i hh; exact hN2 hh
      · exact hpl
    have HEl : Hid (N + 1 + (ps.length - M) = E.length) := Lib.hid (by rw [← HE.out, ← hM]; simp; omega)
    have HEM : Hid (ps.take N ++ [(s, v)] ++ ps.drop M = E) := Lib.hid (by rw [← HE.out, ← hM])
    have i1 : (N : Int) ≤ (ps.length : Int) := by omega
    have i1c : (N : Int) ≤ (cap : Int) := by omega
    have i2 : (M : Int) ≤ (ps.length : Int) := by omega
    rcases hsh with ⟨rfl, rfl, rfl⟩ | ⟨g, rfl⟩
    · have hN0 : N = 0 := by simpa using hpl
      subst hN0
      have hM0 : M = 0 := by simpa using hNM
      have hgf : (getP ([] : PS) s).isSome = false := rfl
      rw [hgf] at HH
      subst hM0
      have HI1 := Lib.hid (fun W (_ : Below w1.heap.size w1 W) => ispairs_nil W none (ps := []) rfl)
      have HE1 : Hid (E = [(s, v)]) := Lib.hid (by rw [← HEM.out]; rfl)
      rw [HE1.out]
      clear hN2 HE hpl hNM hs hsm hsm' i1 i1c i2 hM hgf hc1 hc2 hl HEl HEM HES
      go_enter Try.func9, Try.ntmps9
      go_wp2_with (first
        | (go_at_call 30; refine HDC.out.mono ?_; rintro e w3 ⟨rfl, rfl⟩; have c0 := HC.out w1 (Below.refl _ _); rw [hw1] at c0; obtain ⟨c0, _⟩ := c0)
        | (go_at_call 31; refine HA.out.mono ?_; rintro e w3 ⟨rfl, hn3⟩; rw [← hw1] at hn3; obtain ⟨c0, _⟩ := HC.out _ hn3; have hb3' := hn3.alloc hn3.size (.cells #[] 48); obtain ⟨l0, _⟩ := HC.out _ hb3')
        | (at_builtin; refine wpList_appP _ rfl _ _ rfl w1.heap.size w3.heap.size 0 0 [] rfl (pown_zero w3 _ hn3.size) _ _ _ [] rfl (by simp) (HI1.out _ hb3') (by simp; have := hn3.size; omega) (by omega) ?_; intro g6 k6 w6 hown6 hgrow6; have hb6 : Below w1.heap.size w1 w6 := hb3'.grown hgrow6 (by simp; have := hn3.size; omega) (fun k e => by cases e; exact hn3.size); have hb6' := hb6.alloc hb6.size (.cells #[.string s, .string v] 48); have hown6' := ownsRow_below hown6 ((Below.refl _ w6).alloc (Nat.le_refl _) (.cells #[.string s, .string v] 48)) (Nat.le_refl _); clear hb3')
        | (at_builtin; refine wpList_appP _ rfl _ _ rfl w1.heap.size g6 0 k6 [] rfl hown6' _ _ _ [(s, v)] rfl (by simp) (ispairs_new w6 s v (by omega) (by omega)) (by simp; have := hb6.size; omega) (by omega) ?_; intro g7 k7 w7 hown7 hgrow7; have hb7 : Below w1.heap.size w1 w7 := hb6'.grown hgrow7 (by simp; have := hb6.size; omega) (fun k e => by cases e; exact (hown6.lt _ rfl).1); obtain ⟨x0, _⟩ := HC.out _ hb7; clear hown6' hb6')
        | (go_at_call 32; refine (HH.out _ hb7).mono ?_; rintro e w8 ⟨rfl, hn8⟩; have hb8 := hb7.trans (hn8.mono hb7.size); obtain ⟨y0, _⟩ := HC.out _ hb8; have hown8 := ownsRow_below hown7 hn8 (Nat.le_refl _))
        | (at_builtin; refine wpList_appP _ rfl _ _ rfl w1.heap.size g7 1 k7 _ rfl hown8 _ _ _ [] rfl (by simp) (HI1.out _ hb8) hb8.size (by omega) ?_; intro g9 k9 w9 hown9 hgrow9; have hb9 := hb8.grown hgrow9 hb8.size (fun k e => by cases e; exact (hown8.lt _ rfl).1); have hown9 : w9.ownsRow w1.heap.size 48 2 (.slice (some ⟨g9, 0, none⟩) 1 k9) 1 (pcells [(s, v)]) := hown9; obtain ⟨z0, z1, z2, z3⟩ := HC.out _ hb9))
      have hown9' : PRow w9 w1.heap.size (.slice (some ⟨g9, 0, none⟩) ([(s, v)] : PS).length k9) [(s, v)] := hown9
      have hbf := hB1.trans (below_out1 (k := w.heap.size + 1) (hb9.mono (B' := w.heap.size) (by omega)) (by omega) (.slice (some ⟨g9, 0, none⟩) 1 k9))
      refine bodyPost_ret (v := .tuple #[.agg #[.slice (some ⟨g9, 0, none⟩) 1 k9], .int .i64 0]) ?_ rfl ⟨_, k9, rfl, refout_new (ownsRow_base (own_set (k := w.heap.size + 1) hown9' (by omega)) (by omega)), hbf⟩
      rw [results_cell_tmp rfl]
      go_simp
    · have HI1 := Lib.hid (fun W (hb : Below w1.heap.size w1 W) => ispairs_take (HP.out.below hb) hpl)
      have HI2 := Lib.hid (fun W (hb : Below w1.heap.size w1 W) => ispairs_ite (HP.out.below hb) hc1 hNM)
      generalize hlen : ps.length = len at *
      cases hg : (getP ps s).isSome with
      | true =>
        rw [hg] at HH hM
        simp only [if_true] at hM
        subst hM
        clear hN2 hg HE
        go_enter Try.func9, Try.ntmps9
        go_wp2_with (first
          | (go_at_call 30; refine HDC.out.mono ?_; rintro e w3 ⟨rfl, rfl⟩; have c0 := HC.out w1 (Below.refl _ _); rw [hw1] at c0; obtain ⟨c0, _⟩ := c0)
          | (go_at_call 31; refine HA.out.mono ?_; rintro e w3 ⟨rfl, hn3⟩; rw [← hw1] at hn3; obtain ⟨c0, _⟩ := HC.out _ hn3; have hb3' := hn3.alloc hn3.size (.cells #[] 48); obtain ⟨l0, _⟩ := HC.out _ hb3')
          | (at_builtin; refine wpList_appP _ rfl _ _ rfl w1.heap.size w3.heap.size 0 0 [] rfl (pown_zero w3 _ hn3.size) _ _ _ (ps.take N) rfl (by simp) (HI1.out _ hb3') (by simp; have := hn3.size; omega) (by omega) ?_; intro g6 k6 w6 hown6 hgrow6; have hb6 : Below w1.heap.size w1 w6 := hb3'.grown hgrow6 (by simp; have := hn3.size; omega) (fun k e => by cases e; exact hn3.size); rw [Nat.zero_add, List.nil_append] at hown6; have hb6' := hb6.alloc hb6.size (.cells #[.string s, .string v] 48); have hown6' := ownsRow_below hown6 ((Below.refl _ w6).alloc (Nat.le_refl _) (.cells #[.string s, .string v] 48)) (Nat.le_refl _); clear hb3')
          | (at_builtin; refine wpList_appP _ rfl _ _ rfl w1.heap.size g6 N k6 (ps.take N) rfl hown6' _ _ _ [(s, v)] rfl (by simp) (ispairs_new w6 s v (by omega) (by omega)) (by simp; have := hb6.size; omega) (by omega) ?_; intro g7 k7 w7 hown7 hgrow7; have hb7 : Below w1.heap.size w1 w7 := hb6'.grown hgrow7 (by simp; have := hb6.size; omega) (fun k e => by cases e; exact (hown6.lt _ rfl).1); obtain ⟨x0, _⟩ := HC.out _ hb7; clear hown6' hb6')
          | (go_at_call 32; refine (HH.out _ hb7).mono ?_; rintro e w8 ⟨rfl, hn8⟩; have hb8 := hb7.trans (hn8.mono hb7.size); obtain ⟨y0, _⟩ := HC.out _ hb8; have hown8 := ownsRow_below hown7 hn8 (Nat.le_refl _))
          | (at_builtin; refine wpList_appP _ rfl _ _ rfl w1.heap.size g7 (N + 1) k7 _ rfl hown8 _ _ _ (ps.drop (N + 1)) rfl (by split <;> simp) (HI2.out _ hb8) hb8.size (by omega) ?_; intro g9 k9 w9 hown9 hgrow9; have hb9 := hb8.grown hgrow9 hb8.size (fun k e => by cases e; exact (hown8.lt _ rfl).1); rw [HEl.out] at hown9 ⊢; rw [HEM.out] at hown9; obtain ⟨z0, z1, z2, z3⟩ := HC.out _ hb9))
        all_goals
          have hbf := hB1.trans (below_out1 (k := w.heap.size + 1) (hb9.mono (B' := w.heap.size) (by omega)) (by omega) (.slice (some ⟨g9, 0, none⟩) E.length k9))
          refine bodyPost_ret (v := .tuple #[.agg #[.slice (some ⟨g9, 0, none⟩) E.length k9], .int .i64 0]) ?_ rfl ⟨_, k9, rfl, refout_new (ownsRow_base (own_set (k := w.heap.size + 1) hown9 (by omega)) (by omega)), hbf⟩
          rw [results_cell_tmp rfl]
          go_simp
      | false =>
        rw [hg] at HH hM
        simp only [Bool.false_eq_true, if_false] at hM
        obtain rfl : N = M := hM.symm
        clear hN2 hg HE
        go_enter Try.func9, Try.ntmps9
        go_wp2_with (first
          | (go_at_call 30; refine HDC.out.mono ?_; rintro e w3 ⟨rfl, rfl⟩; have c0 := HC.out w1 (Below.refl _ _); rw [hw1] at c0; obtain ⟨c0, _⟩ := c0)
          | (go_at_call 31; refine HA.out.mono ?_; rintro e w3 ⟨rfl, hn3⟩; rw [← hw1] at hn3; obtain ⟨c0, _⟩ := HC.out _ hn3; have hb3' := hn3.alloc hn3.size (.cells #[] 48); obtain ⟨l0, _⟩ := HC.out _ hb3')
          | (at_builtin; refine wpList_appP _ rfl _ _ rfl w1.heap.size w3.heap.size 0 0 [] rfl (pown_zero w3 _ hn3.size) _ _ _ (ps.take N) rfl (by simp) (HI1.out _ hb3') (by simp; have := hn3.size; omega) (by omega) ?_; intro g6 k6 w6 hown6 hgrow6; have hb6 : Below w1.heap.size w1 w6 := hb3'.grown hgrow6 (by simp; have := hn3.size; omega) (fun k e => by cases e; exact hn3.size); rw [Nat.zero_add, List.nil_append] at hown6; have hb6' := hb6.alloc hb6.size (.cells #[.string s, .string v] 48); have hown6' := ownsRow_below hown6 ((Below.refl _ w6).alloc (Nat.le_refl _) (.cells #[.string s, .string v] 48)) (Nat.le_refl _); clear hb3')
          | (at_builtin; refine wpList_appP _ rfl _ _ rfl w1.heap.size g6 N k6 (ps.take N) rfl hown6' _ _ _ [(s, v)] rfl (by simp) (ispairs_new w6 s v (by omega) (by omega)) (by simp; have := hb6.size; omega) (by omega) ?_; intro g7 k7 w7 hown7 hgrow7; have hb7 : Below w1.heap.size w1 w7 := hb6'.grown hgrow7 (by simp; have := hb6.size; omega) (fun k e => by cases e; exact (hown6.lt _ rfl).1); obtain ⟨x0, _⟩ := HC.out _ hb7; clear hown6' hb6')
          | (go_at_call 32; refine (HH.out _ hb7).mono ?_; rintro e w8 ⟨rfl, hn8⟩; have hb8 := hb7.trans (hn8.mono hb7.size); obtain ⟨y0, _⟩ := HC.out _ hb8; have hown8 := ownsRow_below hown7 hn8 (Nat.le_refl _))
          | (at_builtin; refine wpList_appP _ rfl _ _ rfl w1.heap.size g7 (N + 1) k7 _ rfl hown8 _ _ _ (ps.drop N) rfl (by split <;> simp) (HI2.out _ hb8) hb8.size (by omega) ?_; intro g9 k9 w9 hown9 hgrow9; have hb9 := hb8.grown hgrow9 hb8.size (fun k e => by cases e; exact (hown8.lt _ rfl).1); rw [HEl.out] at hown9 ⊢; rw [HEM.out] at hown9; obtain ⟨z0, z1, z2, z3⟩ := HC.out _ hb9))
        all_goals
          have hbf := hB1.trans (below_out1 (k := w.heap.size + 1) (hb9.mono (B' := w.heap.size) (by omega)) (by omega) (.slice (some ⟨g9, 0, none⟩) E.length k9))
          refine bodyPost_ret (v := .tuple #[.agg #[.slice (some ⟨g9, 0, none⟩) E.length k9], .int .i64 0]) ?_ rfl ⟨_, k9, rfl, refout_new (ownsRow_base (own_set (k := w.heap.size + 1) hown9 (by omega)) (by omega)), hbf⟩
          rw [results_cell_tmp rfl]
          go_simp
  · rw [e3, if_neg (by decide)]
    obtain ⟨t, hdv⟩ := decV_yes e1
    rw [hdv] at HDC
    have i32 : (32 : Int) < (v.size : Int) := by omega
    clear h e1 e3 hdv
    go_enter Try.func9, Try.ntmps9
    go_wp2_with (first
      | (go_at_call 30; refine HDC.out.mono ?_; rintro e w3 ⟨rfl, rfl⟩; have c0 := HC.out w1 (Below.refl _ _); rw [hw1] at c0; obtain ⟨c0, c1, c2, c3⟩ := c0))
    have hbf := ((Below.refl w.heap.size w).alloc (Nat.le_refl _) (.cells #[.slice a ps.length cap] 28)).alloc (by simp) (.cells #[.slice a ps.length cap] 28)
    refine bodyPost_ret (v := .tuple #[.agg #[.slice a ps.length cap], .int .i64 3]) ?_ rfl ⟨a, cap, rfl, refout_same HR.out hbf, hbf⟩
    rw [results_cell_tmp rfl]
    go_simp
  · rw [e3, if_neg (by decide)]
    rw [decV_no e1] at HDC
    clear h e1 e3
    go_enter Try.func9, Try.ntmps9
    go_wp2_with (first
      | (go_at_call 30; refine HDC.out.mono ?_; rintro e w3 ⟨rfl, rfl⟩; have c0 := HC.out w1 (Below.refl _ _); rw [hw1] at c0; obtain ⟨c0, c1, c2, c3⟩ := c0))
    have hbf := ((Below.refl w.heap.size w).alloc (Nat.le_refl _) (.cells #[.slice a ps.length cap] 28)).alloc (by simp) (.cells #[.slice a ps.length cap] 28)
    refine bodyPost_ret (v := .tuple #[.agg #[.slice a ps.length cap], .int .i64 2]) ?_ rfl ⟨a, cap, rfl, refout_same HR.out hbf, hbf⟩
    rw [results_cell_tmp rfl]
    go_simp

end Go.Proofs.Ytegccicplcjcmaa
