/- Walk: Delete of the reference model of an art. -/
import Derived.Test.YtegccicplcjcmaaArtR5
import Derived.Deep.RegionLaw
namespace Go.Proofs.Ytegccicplcjcmaa
open Go Go.RowKit Go.Shelf Go.Proofs
attribute [local go_sem] Oper.semAt_some

/-- append of pairs onto an own row, a step of a region that draws. -/
theorem step_appB {ops : Array Oper} {o : Oper} {a : Act} {w : World} {K : Act → World → Prop} {Q : Exit → Act → World → Prop} {E : Prop} (hgd : o.guard = none) (s x : Operand)
    (ho : o.op = .call { callee := .builtin .append, args := #[s, x], argTypes := #[26, 26] }) (B : Nat)
    (g n c : Nat) (xs : PS) (hs : a.eval s = .slice (some ⟨g, 0, none⟩) n c) (ad : Addr) (m mc : Nat) (news : PS) (hx : a.eval x = .slice (some ad) m mc)
    (hB : B ≤ w.heap.size) (hown : w.ownsRow B 48 2 (.slice (some ⟨g, 0, none⟩) n c) n (pcells xs)) (hp : IsPairs w (some ad) m news) (hnm : n + m ≤ 200000)
    (h : ∀ g' c' w', w'.ownsRow B 48 2 (.slice (some ⟨g', 0, none⟩) (n + m) c') (n + m) (pcells (xs ++ news)) → w.grownBy w' (some g) → K (a.put o.dst (.slice (some ⟨g', 0, none⟩) (n + m) c')) w') :
    if Region.wanted o (yielded ops a.tmps) = true then Oper.wp Try.prog o a w K Q else E := by
  obtain ⟨i0, hi, hz0, hz1, hz2⟩ := info_parts2 infoPair
  have hw : Region.wanted o (yielded ops a.tmps) = true := by simp [Region.wanted, hgd]
  rw [if_pos hw]
  obtain ⟨v', w', hr, h2, h3, hnil, h5⟩ := run_append_own_at (P := Try.prog) w B 26 o.type 48 i0 (.agg #[.string ⟨#[]⟩, .string ⟨#[]⟩]) 2 32 Try.underlying26 hi hz0 hz1 hz2 rfl (by decide) _ n _ hown ad m mc (pcells news) (by rw [pcells_length, hp.1])
    (by
      rcases hp.2.2 with h0 | ⟨g2, off, e, _⟩
      · have hn : news = [] := List.eq_nil_of_length_eq_zero (by rw [hp.1, h0])
        subst hn
        intro j u hu
        simp [pcells] at hu
      · cases e
        exact pairs_cells hp) (pcells_one news) (by unfold maxLen; omega) (by omega) hB
  rw [← pcells_append] at h2
  unfold Oper.wp execOp
  simp only [ho, resolve, invoke, builtin, Sem.run_bind, Sem.run_pure, Result.andThen_ok, List.map_toArray, List.map_cons, List.map_nil, hs, hx, hr]
  rcases prow_slice h2 with ⟨h1, _⟩ | ⟨g', cap, h1⟩
  · have := (hnil.1 h1).1
    cases this
  · subst h1
    exact h g' cap w' h2 h3

set_option maxRecDepth 100000 in
set_option maxHeartbeats 8000000 in
theorem refdelA_any {B : Nat} (a : Option Addr) (cap : Nat) (ps : PS) (w : World) (h : PRow w B (.slice a ps.length cap) ps) (hl : ps.length < 80000) (hs : SortedP ps) (hsm : ∀ p ∈ ps, p.1.size ≤ 1000 ∧ p.2.size ≤ 32) (s : ByteArray) :
    Calls Try.prog 43 #[.agg #[.slice a ps.length cap], .string s] w fun e w' => ∃ a' c', e = .returned (.tuple #[.agg #[.slice a' (delP ps s).length c'], .int .i64 (adelE ps s)]) ∧ RefOut w w' a cap ps (delP ps s) a' c' ∧ Below w.heap.size w w' := by
  obtain ⟨w1, hw1⟩ : ∃ w1, w1 = (w.alloc (.cells #[.slice a ps.length cap] 28)).alloc (.cells #[.slice none 0 0] 28) := ⟨_, rfl⟩
  have hB1 : Below w.heap.size w w1 := by rw [hw1]; exact ((Below.refl _ _).alloc (Nat.le_refl _) _).alloc (by simp) _
  have hsz1 : w1.heap.size = w.heap.size + 1 + 1 := by rw [hw1]; simp
  have HC : Hid (∀ w', Below w1.heap.size w1 w' → w'.cell? ⟨w.heap.size, 0, none⟩ = some (.slice a ps.length cap) ∧ w'.cell? ⟨w.heap.size + 1, 0, none⟩ = some (.slice none 0 0) ∧ (∀ j, w'.frozen? ⟨w.heap.size, j, none⟩ = false) ∧ (∀ j, w'.frozen? ⟨w.heap.size + 1, j, none⟩ = false)) := Lib.hid (by rw [hw1]; exact refbox2 w _ _)
  have HR := Lib.hid h
  have hsm' : ∀ p ∈ ps, p.1.size ≤ 1000 ∧ p.2.size ≤ 1000 := fun p hp => by have := hsm p hp; omega
  obtain ⟨hp, hc1, hc2, hsh⟩ := prow_in h hsm'
  have HH := Lib.hid (refhas_any a ps.length cap ps w1 (hp.below hB1) (by omega) hs s)
  rw [hw1] at HH
  have HA := Lib.hid (fun W (hb : Below w1.heap.size w1 W) => refat_any a ps.length cap ps W ((hp.below hB1).below hb) (by omega) hs s)
  have HP := Lib.hid (hp.below hB1)
  unfold adelE
  cases hg : (getP ps s).isSome with
  | false =>
    rw [hg] at HH
    have hd : delP ps s = ps := del_none (by cases hq : getP ps s with | none => rfl | some u => rw [hq] at hg; cases hg)
    rw [hd]
    clear h hp hd hg
    go_enter Try.func43, Try.ntmps43
    go_wp2_with (first
      | (go_at_call 32; refine HH.out.mono ?_; rintro e w3 ⟨rfl, hn3⟩; rw [← hw1] at hn3; obtain ⟨c0, c1, c2, c3⟩ := HC.out _ hn3))
    have hbf := hB1.trans (below_out1 (k := w.heap.size + 1) (hn3.mono (B' := w.heap.size) (by omega)) (by omega) (.slice a ps.length cap))
    refine bodyPost_ret (v := .tuple #[.agg #[.slice a ps.length cap], .int .i64 5]) ?_ rfl ⟨a, cap, rfl, refout_same HR.out hbf, hbf⟩
    rw [results_cell_tmp rfl]
    go_simp
  | true =>
    rw [hg] at HH
    obtain ⟨u, hu⟩ := Option.isSome_iff_exists.1 hg
    have HD := Lib.hid (del_some hs hu)
    have hN := (get_at hs hu).2
    have hDl := (len_del hs hu).1
    generalize posP ps s = N at *
    generalize delP ps s = D at *
    rcases hsh with ⟨rfl, rfl, rfl⟩ | ⟨g, rfl⟩
    · simp at hN
    generalize hlen : ps.length = len at *
    clear h hp hu hg
    have HI1 := Lib.hid (fun W (hb : Below w1.heap.size w1 W) => ispairs_take (HP.out.below hb) (show N ≤ len by omega))
    have i1 : (N : Int) ≤ (len : Int) := by omega
    have i1c : (N : Int) ≤ (cap : Int) := by omega
    have i2 : (N : Int) + 1 ≤ (len : Int) := by omega
    have i3 : (0 : Int) ≤ (N : Int) + 1 := by omega
    have HDl : Hid (N + (len - (N + 1)) = D.length) := Lib.hid (by omega)
    have i4 : (N : Int) ≤ (N : Int) + 1 := by omega
    by_cases hcp : cap = N + 1
    · obtain rfl : len = N + 1 := by omega
      subst hcp
      have HI2 := Lib.hid (fun W (_ : Below w1.heap.size w1 W) => ispairs_nil W (some ⟨g, 0, none⟩) (ps := ps.drop (N + 1)) (List.drop_of_length_le (by omega)))
      have hNd : D.length = N := by omega
      rw [hNd]
      have HNd := Lib.hid hNd
      clear hNd
      have HKC := Lib.hid (fun W (hb : Below w1.heap.size w1 W) => (HC.out W hb).1)
      go_enter Try.func43, Try.ntmps43
      go_wp2_with (first
        | (go_at_call 32; refine HH.out.mono ?_; rintro e w3 ⟨rfl, hn3⟩; rw [← hw1] at hn3; obtain ⟨c0, c1, c2, c3⟩ := HC.out _ hn3)
        | (go_at_call 31; refine (HA.out _ hn3).mono ?_; rintro e w4 ⟨rfl, hn4⟩; have hb4 := hn3.trans (hn4.mono hn3.size)))
      clear hw1 c0 c1 c2 c3
      have hs4 := hb4.size
      have ha4 := hb4.alloc hs4 (.cells #[] 48)
      obtain ⟨l0, l1, l2, l3⟩ := HC.out _ ha4
      have hwr : IntKind.i64.wrap ((N : Int) + 1) = (N : Int) + 1 := by rw [IntKind.wrap_i64]; omega
      obtain ⟨k0, k1, k2, k3⟩ := HC.out _ hb4
      go_region_law (first
        | (refine step_appB rfl (.tmp 15) (.tmp 19) rfl w1.heap.size w4.heap.size 0 0 [] (by simp [Act.eval, Act.put]) ⟨g, 0, none⟩ N (N + 1) (ps.take N) (by simp [Act.eval, Act.put]) (by simp; omega) (pown_zero w4 _ hs4) (HI1.out _ ha4.drew) (by omega) ?_
           intro g5 k5 w5 hown5 hgr5
           have hb5 := ha4.drew.grown hgr5 (by simp; omega) (fun k e => by cases e; exact hs4)
           obtain ⟨x0, x1, x2, x3⟩ := HC.out _ hb5
           rw [Nat.zero_add, List.nil_append] at hown5)
        | (refine step_appB rfl (.tmp 20) (.tmp 25) rfl w1.heap.size g5 N k5 (ps.take N) (by simp [Act.eval, Act.put]) ⟨g, 0, none⟩ 0 0 (ps.drop (N + 1)) (by simp [Act.eval, Act.put]) hb5.size hown5 (HI2.out _ hb5) (by omega) ?_
           intro g6 k6 w6 hown6 hgr6
           have hb6 := hb5.grown hgr6 hb5.size (fun k e => by cases e; exact (hown5.lt _ rfl).1)
           obtain ⟨y0, y1, y2, y3⟩ := HC.out _ hb6))
      all_goals
        rw [← HD.out] at hown6
        have hown6 : PRow w6 w1.heap.size (.slice (some ⟨g6, 0, none⟩) D.length k6) D := by unfold PRow; rw [HNd.out]; exact hown6
        have hbf := hB1.trans (below_out1 (k := w.heap.size + 1) (hb6.mono (B' := w.heap.size) (by omega)) (by omega) (.slice (some ⟨g6, 0, none⟩) N k6))
        go_wp2
        refine bodyPost_ret (v := .tuple #[.agg #[.slice (some ⟨g6, 0, none⟩) N k6], .int .i64 0]) ?_ rfl ⟨_, k6, rfl, refout_new (ownsRow_base (own_set (k := w.heap.size + 1) hown6 (by omega)) (by omega)), hbf⟩
        rw [results_cell_tmp rfl]
        go_simp

    · have HI2 := Lib.hid (fun W (hb : Below w1.heap.size w1 W) => ispairs_drop0 (HP.out.below hb) (show N + 1 ≤ len by omega))
      have HKC := Lib.hid (fun W (hb : Below w1.heap.size w1 W) => (HC.out W hb).1)
      go_enter Try.func43, Try.ntmps43
      go_wp2_with (first
        | (go_at_call 32; refine HH.out.mono ?_; rintro e w3 ⟨rfl, hn3⟩; rw [← hw1] at hn3; obtain ⟨c0, c1, c2, c3⟩ := HC.out _ hn3)
        | (go_at_call 31; refine (HA.out _ hn3).mono ?_; rintro e w4 ⟨rfl, hn4⟩; have hb4 := hn3.trans (hn4.mono hn3.size)))
      clear hw1 c0 c1 c2 c3
      have hs4 := hb4.size
      have ha4 := hb4.alloc hs4 (.cells #[] 48)
      obtain ⟨l0, l1, l2, l3⟩ := HC.out _ ha4
      have hwr : IntKind.i64.wrap ((N : Int) + 1) = (N : Int) + 1 := by rw [IntKind.wrap_i64]; omega
      obtain ⟨k0, k1, k2, k3⟩ := HC.out _ hb4
      go_region_law (first
        | (refine step_appB rfl (.tmp 15) (.tmp 19) rfl w1.heap.size w4.heap.size 0 0 [] (by simp [Act.eval, Act.put]) ⟨g, 0, none⟩ N cap (ps.take N) (by simp [Act.eval, Act.put]) (by simp; omega) (pown_zero w4 _ hs4) (HI1.out _ ha4.drew) (by omega) ?_
           intro g5 k5 w5 hown5 hgr5
           have hb5 := ha4.drew.grown hgr5 (by simp; omega) (fun k e => by cases e; exact hs4)
           obtain ⟨x0, x1, x2, x3⟩ := HC.out _ hb5
           rw [Nat.zero_add, List.nil_append] at hown5)
        | (refine step_appB rfl (.tmp 20) (.tmp 25) rfl w1.heap.size g5 N k5 (ps.take N) (by simp [Act.eval, Act.put]) ⟨g, (N + 1) * 2, none⟩ (len - (N + 1)) (cap - (N + 1)) (ps.drop (N + 1)) (by simp [Act.eval, Act.put]) hb5.size hown5 (HI2.out _ hb5) (by omega) ?_
           intro g6 k6 w6 hown6 hgr6
           have hb6 := hb5.grown hgr6 hb5.size (fun k e => by cases e; exact (hown5.lt _ rfl).1)
           obtain ⟨y0, y1, y2, y3⟩ := HC.out _ hb6))
      all_goals
        rw [HDl.out] at hown6 ⊢
        rw [← HD.out] at hown6
        have hbf := hB1.trans (below_out1 (k := w.heap.size + 1) (hb6.mono (B' := w.heap.size) (by omega)) (by omega) (.slice (some ⟨g6, 0, none⟩) D.length k6))
        go_wp2
        refine bodyPost_ret (v := .tuple #[.agg #[.slice (some ⟨g6, 0, none⟩) D.length k6], .int .i64 0]) ?_ rfl ⟨_, k6, rfl, refout_new (ownsRow_base (own_set (k := w.heap.size + 1) hown6 (by omega)) (by omega)), hbf⟩
        rw [results_cell_tmp rfl]
        go_simp

end Go.Proofs.Ytegccicplcjcmaa
