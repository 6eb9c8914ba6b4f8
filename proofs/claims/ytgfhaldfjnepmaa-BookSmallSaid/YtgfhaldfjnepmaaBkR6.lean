/- Walks: Delete and Swap of the reference model of a book. -/
import Derived.Test.YtgfhaldfjnepmaaBkR5
namespace Go.Proofs.Ytgfhaldfjnepmaa
open Go Go.RowKit Go.Shelf Go.Proofs
attribute [local go_sem] Oper.semAt_some

set_option maxRecDepth 100000 in
set_option maxHeartbeats 4000000 in
theorem refdel_any {B : Nat} (a : Option Addr) (cap K M : Nat) (ps : PS) (w : World) (h : PRow w B (.slice a ps.length cap) ps) (hl : ps.length < 80000) (hs : SortedP ps) (hsm : ∀ p ∈ ps, p.1.size ≤ 16 ∧ p.2.size ≤ 32) (s : ByteArray) (hs1 : s.size ≤ 140737488351232) :
    Calls Try.prog 64 #[.agg #[.slice a ps.length cap, .int .u64 K, .int .u64 M], .string s] w fun e w' => ∃ a' c', e = .returned (.tuple #[.agg #[.slice a' (delQ ps s).length c', .int .u64 K, .int .u64 M], .int .i64 (getE ps s)]) ∧ RefOut w w' a cap ps (delQ ps s) a' c' ∧ Below w.heap.size w w' := by
  obtain ⟨w1, hw1⟩ : ∃ w1, w1 = (w.alloc (.cells #[.slice a ps.length cap, .int .u64 K, .int .u64 M] 62)).alloc (.cells #[.slice none 0 0, .int .u64 0, .int .u64 0] 62) := ⟨_, rfl⟩
  have hB1 : Below w.heap.size w w1 := by rw [hw1]; exact ((Below.refl _ _).alloc (Nat.le_refl _) _).alloc (by simp) _
  have hsz1 : w1.heap.size = w.heap.size + 1 + 1 := by rw [hw1]; simp
  have HC : Hid (∀ w', Below w1.heap.size w1 w' → (w'.cell? ⟨w.heap.size, 0, none⟩ = some (.slice a ps.length cap) ∧ w'.cell? ⟨w.heap.size, 1, none⟩ = some (.int .u64 K) ∧ w'.cell? ⟨w.heap.size, 2, none⟩ = some (.int .u64 M)) ∧ w'.cell? ⟨w.heap.size + 1, 0, none⟩ = some (.slice none 0 0) ∧ w'.cell? ⟨w.heap.size + 1, 1, none⟩ = some (.int .u64 0) ∧ w'.cell? ⟨w.heap.size + 1, 2, none⟩ = some (.int .u64 0) ∧ (∀ j, w'.frozen? ⟨w.heap.size, j, none⟩ = false) ∧ (∀ j, w'.frozen? ⟨w.heap.size + 1, j, none⟩ = false)) := Lib.hid (by rw [hw1]; exact refbox2 w _ _ _ _ _ _)
  have HR := Lib.hid h
  have hsm' : ∀ p ∈ ps, p.1.size ≤ 1000 ∧ p.2.size ≤ 1000 := fun p hp => by have := hsm p hp; omega
  have HG := Lib.hid (refget_any a ps.length cap K M ps w1 (prow_in (prow_below hB1 h) hsm').1 (by omega) hs s hs1)
  have HW := Lib.hid (fun W (hb : Below w1.heap.size w1 W) => refwithout_any a cap K M ps W (prow_below hb (prow_below hB1 h)) (by omega) hs hsm' s)
  rw [hw1] at HG
  clear h
  rcases getE_cases ps s with e0 | e0 | e0
  · have hq : delQ ps s = delP ps s := by unfold delQ; rw [if_pos e0]
    rw [hq, e0]
    rw [e0] at HG
    generalize delP ps s = D at *
    clear hq e0
    go_enter Try.func64, Try.ntmps64
    go_wp2_with (first
      | (go_at_call 67; refine HG.out.mono ?_; rintro e w3 ⟨rfl, hn3⟩; rw [← hw1] at hn3; obtain ⟨⟨c0, c1, c2⟩, _⟩ := HC.out _ hn3)
      | (go_at_call 87; refine (HW.out _ hn3).mono ?_; rintro e w4 ⟨g4, k4, rfl, hx4, hn4⟩; have hb4 := hn3.trans (hn4.mono hn3.size); obtain ⟨⟨c0, c1, c2⟩, r0, r1, r2, f0, f1⟩ := HC.out _ hb4))
    have hsz3 := hn3.size
    have hbf := hB1.trans (below_out (k := w.heap.size + 1) (hb4.mono (B' := w.heap.size) (by omega)) (by omega) (.slice (some ⟨g4, 0, none⟩) D.length k4) (.int .u64 K) (.int .u64 M))
    refine bodyPost_ret (v := .tuple #[.agg #[.slice (some ⟨g4, 0, none⟩) D.length k4, .int .u64 K, .int .u64 M], .int .i64 0]) ?_ rfl ⟨_, k4, rfl, refout_new (ownsRow_base (own_out hx4 (by omega) _ _ _) (by omega)), hbf⟩
    rw [results_cell_tmp rfl]
    go_simp
  all_goals
    have hq : delQ ps s = ps := by unfold delQ; rw [if_neg (by omega)]
    rw [hq, e0]
    rw [e0] at HG
    clear hq e0
    go_enter Try.func64, Try.ntmps64
    go_wp2_with (first
      | (go_at_call 67; refine HG.out.mono ?_; rintro e w3 ⟨rfl, hn3⟩; rw [← hw1] at hn3; obtain ⟨⟨c0, c1, c2⟩, r0, r1, r2, f0, f1⟩ := HC.out _ hn3))
    have hbf := hB1.trans (below_out (k := w.heap.size + 1) (hn3.mono (B' := w.heap.size) (by omega)) (by omega) (.slice a ps.length cap) (.int .u64 K) (.int .u64 M))
  · refine bodyPost_ret (v := .tuple #[.agg #[.slice a ps.length cap, .int .u64 K, .int .u64 M], .int .i64 2]) ?_ rfl ⟨a, cap, rfl, refout_same HR.out hbf, hbf⟩
    rw [results_cell_tmp rfl]
    go_simp
  · refine bodyPost_ret (v := .tuple #[.agg #[.slice a ps.length cap, .int .u64 K, .int .u64 M], .int .i64 5]) ?_ rfl ⟨a, cap, rfl, refout_same HR.out hbf, hbf⟩
    rw [results_cell_tmp rfl]
    go_simp

theorem swap_big {K M : Nat} {ps : PS} {s o x : ByteArray} (h : ¬ (o.size ≤ 32 ∧ x.size ≤ 32)) : swapE K M ps s o x = 2 ∧ swapQ K M ps s o x = ps := by
  have e : ¬ mayE s [o, x] = 0 := fun e => h ⟨(mayE_zero.1 e).2 o (by simp), (mayE_zero.1 e).2 x (by simp)⟩
  have e2 : mayE s [o, x] = 2 := (mayE_or s [o, x]).resolve_left e
  have e3 : thereE ps s [o, x] = 2 := by unfold thereE; rw [if_neg e, e2]
  unfold swapE swapQ
  rw [e3]
  exact ⟨rfl, rfl⟩

theorem swap_small {K M : Nat} {ps : PS} {s o x : ByteArray} (h1 : o.size ≤ 32) (h2 : x.size ≤ 32) :
    swapE K M ps s o x = (if getE ps s = 0 then (if getV ps s = o then putE K M ps s x else 9) else getE ps s) ∧ swapQ K M ps s o x = (if getE ps s = 0 then (if getV ps s = o then putQ K M ps s x else ps) else ps) := by
  have hm : mayE s [o, x] = mayE s [] := by
    rcases mayE_or s [] with e | e
    · rw [e]; exact mayE_zero.2 ⟨(mayE_zero.1 e).1, by simp [h1, h2]⟩
    · rw [e]
      refine (mayE_or s [o, x]).resolve_left (fun e2 => ?_)
      have : mayE s [] = 0 := mayE_zero.2 ⟨(mayE_zero.1 e2).1, by simp⟩
      omega
  have e1 : thereE ps s [o, x] = getE ps s := by unfold getE thereE; rw [hm]
  have e2 : thereV ps s [o, x] = getV ps s := by unfold getV thereV; rw [hm]
  unfold swapE swapQ
  rw [e1, e2]
  exact ⟨rfl, rfl⟩

theorem RefOut.trans_new {w w1 w2 : World} {a : Option Addr} {cap : Nat} {ps qs : PS} {a' : Option Addr} {c' : Nat} (hb : w.heap.size ≤ w1.heap.size) (h : RefOut w1 w2 a cap ps qs a' c') : RefOut w w2 a cap ps qs a' c' :=
  ⟨h.1, h.2.imp id (fun h => ownsRow_base h hb)⟩

set_option maxRecDepth 100000 in
set_option maxHeartbeats 4000000 in
theorem refswap_any {B : Nat} (a : Option Addr) (cap K M : Nat) (ps : PS) (w : World) (h : PRow w B (.slice a ps.length cap) ps) (hl : ps.length < 80000) (hs : SortedP ps) (hsm : ∀ p ∈ ps, p.1.size ≤ 16 ∧ p.2.size ≤ 32) (s o x : ByteArray) (hs1 : s.size ≤ 140737488351232) (ho1 : o.size ≤ 140737488351232) (hx1 : x.size ≤ 140737488351232) :
    Calls Try.prog 65 #[.agg #[.slice a ps.length cap, .int .u64 K, .int .u64 M], .string s, .string o, .string x] w fun e w' => ∃ a' c', e = .returned (.tuple #[.agg #[.slice a' (swapQ K M ps s o x).length c', .int .u64 K, .int .u64 M], .int .i64 (swapE K M ps s o x)]) ∧ RefOut w w' a cap ps (swapQ K M ps s o x) a' c' ∧ Below w.heap.size w w' := by
  obtain ⟨w1, hw1⟩ : ∃ w1, w1 = (w.alloc (.cells #[.slice a ps.length cap, .int .u64 K, .int .u64 M] 62)).alloc (.cells #[.slice none 0 0, .int .u64 0, .int .u64 0] 62) := ⟨_, rfl⟩
  have hB1 : Below w.heap.size w w1 := by rw [hw1]; exact ((Below.refl _ _).alloc (Nat.le_refl _) _).alloc (by simp) _
  have hsz1 : w1.heap.size = w.heap.size + 1 + 1 := by rw [hw1]; simp
  have HC : Hid (∀ w', Below w1.heap.size w1 w' → (w'.cell? ⟨w.heap.size, 0, none⟩ = some (.slice a ps.length cap) ∧ w'.cell? ⟨w.heap.size, 1, none⟩ = some (.int .u64 K) ∧ w'.cell? ⟨w.heap.size, 2, none⟩ = some (.int .u64 M)) ∧ w'.cell? ⟨w.heap.size + 1, 0, none⟩ = some (.slice none 0 0) ∧ w'.cell? ⟨w.heap.size + 1, 1, none⟩ = some (.int .u64 0) ∧ w'.cell? ⟨w.heap.size + 1, 2, none⟩ = some (.int .u64 0) ∧ (∀ j, w'.frozen? ⟨w.heap.size, j, none⟩ = false) ∧ (∀ j, w'.frozen? ⟨w.heap.size + 1, j, none⟩ = false)) := Lib.hid (by rw [hw1]; exact refbox2 w _ _ _ _ _ _)
  have HR := Lib.hid h
  have hsm' : ∀ p ∈ ps, p.1.size ≤ 1000 ∧ p.2.size ≤ 1000 := fun p hp => by have := hsm p hp; omega
  have HG := Lib.hid (refget_any a ps.length cap K M ps w1 (prow_in (prow_below hB1 h) hsm').1 (by omega) hs s hs1)
  have HW := Lib.hid (fun W (hb : Below w1.heap.size w1 W) => refput_any a cap K M ps W (prow_below hb (prow_below hB1 h)) (by omega) hs hsm s x hs1 hx1)
  rw [hw1] at HG
  clear h
  by_cases h32 : o.size ≤ 32 ∧ x.size ≤ 32
  · obtain ⟨ho32, hx32⟩ := h32
    have i1 : decide ((32 : Int) < (o.size : Int)) = false := decide_eq_false (by omega)
    have i2 : ¬ (32 : Int) < (x.size : Int) := by omega
    obtain ⟨q1, q2⟩ := swap_small (K := K) (M := M) (ps := ps) (s := s) ho32 hx32
    rw [q1, q2]
    clear q1 q2
    rcases getE_cases ps s with e0 | e0 | e0
    · rw [e0] at HG ⊢
      rw [if_pos rfl, if_pos rfl]
      by_cases hv : getV ps s = o
      · rw [hv] at HG
        rw [if_pos hv, if_pos hv]
        have hvo : (o.toList == o.toList) = true := by simp
        clear hv e0
        generalize putQ K M ps s x = Q at *
        generalize putE K M ps s x = E at *
        go_enter Try.func65, Try.ntmps65
        go_wp2_with (first
          | (go_at_call 67; refine HG.out.mono ?_; rintro e w3 ⟨rfl, hn3⟩; rw [← hw1] at hn3; obtain ⟨⟨c0, c1, c2⟩, _⟩ := HC.out _ hn3)
          | (go_at_call 66; refine (HW.out _ hn3).mono ?_; rintro e w4 ⟨a4, k4, rfl, hx4, hn4⟩; have hb4 := hn3.trans (hn4.mono hn3.size); obtain ⟨⟨c0, c1, c2⟩, r0, r1, r2, f0, f1⟩ := HC.out _ hb4))
        have hsz3 := hn3.size
        have hbf := hB1.trans (below_out (k := w.heap.size + 1) (hb4.mono (B' := w.heap.size) (by omega)) (by omega) (.slice a4 Q.length k4) (.int .u64 K) (.int .u64 M))
        refine bodyPost_ret (v := .tuple #[.agg #[.slice a4 Q.length k4, .int .u64 K, .int .u64 M], .int .i64 E]) ?_ rfl ⟨_, k4, rfl, ?_, hbf⟩
        · rw [results_cell_tmp rfl]
          go_simp
        · rcases hx4.2 with ⟨ea, ek, eq⟩ | hx
          · subst ea ek eq
            exact refout_same HR.out hbf
          · exact refout_new (ownsRow_base (own_out hx (by omega) _ _ _) (by omega))
      · rw [if_neg hv, if_neg hv]
        have hvo : (!(getV ps s).toList == o.toList) = true := by rw [strEq]; simp [hv]
        generalize getV ps s = V at *
        clear hv e0
        go_enter Try.func65, Try.ntmps65
        go_wp2_with (first
          | (go_at_call 67; refine HG.out.mono ?_; rintro e w3 ⟨rfl, hn3⟩; rw [← hw1] at hn3; obtain ⟨⟨c0, c1, c2⟩, r0, r1, r2, f0, f1⟩ := HC.out _ hn3))
        have hbf := hB1.trans (below_out (k := w.heap.size + 1) (hn3.mono (B' := w.heap.size) (by omega)) (by omega) (.slice a ps.length cap) (.int .u64 K) (.int .u64 M))
        refine bodyPost_ret (v := .tuple #[.agg #[.slice a ps.length cap, .int .u64 K, .int .u64 M], .int .i64 9]) ?_ rfl ⟨a, cap, rfl, refout_same HR.out hbf, hbf⟩
        rw [results_cell_tmp rfl]
        go_simp
    all_goals
      rw [e0] at HG ⊢
      rw [if_neg (by omega), if_neg (by omega)]
      clear e0
      go_enter Try.func65, Try.ntmps65
      go_wp2_with (first
        | (go_at_call 67; refine HG.out.mono ?_; rintro e w3 ⟨rfl, hn3⟩; rw [← hw1] at hn3; obtain ⟨⟨c0, c1, c2⟩, r0, r1, r2, f0, f1⟩ := HC.out _ hn3))
      have hbf := hB1.trans (below_out (k := w.heap.size + 1) (hn3.mono (B' := w.heap.size) (by omega)) (by omega) (.slice a ps.length cap) (.int .u64 K) (.int .u64 M))
    · refine bodyPost_ret (v := .tuple #[.agg #[.slice a ps.length cap, .int .u64 K, .int .u64 M], .int .i64 2]) ?_ rfl ⟨a, cap, rfl, refout_same HR.out hbf, hbf⟩
      rw [results_cell_tmp rfl]
      go_simp
    · refine bodyPost_ret (v := .tuple #[.agg #[.slice a ps.length cap, .int .u64 K, .int .u64 M], .int .i64 5]) ?_ rfl ⟨a, cap, rfl, refout_same HR.out hbf, hbf⟩
      rw [results_cell_tmp rfl]
      go_simp
  · obtain ⟨q1, q2⟩ := swap_big (K := K) (M := M) (ps := ps) (s := s) h32
    rw [q1, q2]
    clear q1 q2
    by_cases ho : o.size ≤ 32
    · have i1 : decide ((32 : Int) < (o.size : Int)) = false := decide_eq_false (by omega)
      have i2 : (32 : Int) < (x.size : Int) := by omega
      go_enter Try.func65, Try.ntmps65
      go_wp2
      have hbf := ((Below.refl w.heap.size w).alloc (Nat.le_refl _) (.cells #[.slice a ps.length cap, .int .u64 K, .int .u64 M] 62)).alloc (by simp) (.cells #[.slice a ps.length cap, .int .u64 K, .int .u64 M] 62)
      refine bodyPost_ret (v := .tuple #[.agg #[.slice a ps.length cap, .int .u64 K, .int .u64 M], .int .i64 2]) ?_ rfl ⟨a, cap, rfl, refout_same HR.out hbf, hbf⟩
      rw [results_cell_tmp rfl]
      go_simp
    · have i1 : (32 : Int) < (o.size : Int) := by omega
      go_enter Try.func65, Try.ntmps65
      go_wp2
      have hbf := ((Below.refl w.heap.size w).alloc (Nat.le_refl _) (.cells #[.slice a ps.length cap, .int .u64 K, .int .u64 M] 62)).alloc (by simp) (.cells #[.slice a ps.length cap, .int .u64 K, .int .u64 M] 62)
      refine bodyPost_ret (v := .tuple #[.agg #[.slice a ps.length cap, .int .u64 K, .int .u64 M], .int .i64 2]) ?_ rfl ⟨a, cap, rfl, refout_same HR.out hbf, hbf⟩
      rw [results_cell_tmp rfl]
      go_simp

end Go.Proofs.Ytgfhaldfjnepmaa
