/- Walks: coded, Pick; the chapter's statement of one art: same. -/
import Derived.Test.YtegccicplcjcmaaWk3
import Derived.Test.YtegccicplcjcmaaArtQ4
import Derived.Test.YtegccicplcjcmaaArtR6
import Derived.Test.YtegccicplcjcmaaWSoftP
import Derived.Test.YtegccicplcjcmaaAp5
namespace Go.Proofs.Ytegccicplcjcmaa
open Go Go.RowKit Go.Shelf Go.Proofs
attribute [local go_sem] Oper.semAt_some

set_option maxRecDepth 100000 in
theorem pick_any (x n : Int) (w : World) (h : 1 ≤ n) (h2 : n ≤ 4611686018427387904) :
    Calls Try.prog 26 #[.int .i64 x, .int .i64 n] w fun e w' => (∃ k : Nat, e = .returned (.int .i64 k) ∧ (k : Int) < n ∧ (k : Int) = x % n) ∧ w = w' := by
  have hm := Lib.hid (show x.tmod n = if 0 ≤ x then x % n else if x % n = 0 then 0 else x % n - n by
    by_cases h0 : 0 ≤ x
    · rw [if_pos h0, Int.tmod_eq_emod_of_nonneg h0]
    · rw [if_neg h0, Int.tmod_eq_emod]
      by_cases h1 : x % n = 0
      · rw [if_pos h1, if_pos (by right; exact Int.dvd_of_emod_eq_zero h1), h1]; rfl
      · rw [if_neg h1, if_neg (by rintro (h3 | h3); exact h0 h3; exact h1 (Int.emod_eq_zero_of_dvd h3))]
        omega)
  have he1 := Int.emod_nonneg x (show n ≠ 0 by omega)
  have he2 := Int.emod_lt_of_pos x (show 0 < n by omega)
  have hn1 : ¬ n < 1 := by omega
  have hn0 : (n == 0) = false := by simp; omega
  have hn0' : n ≠ 0 := by omega
  obtain ⟨q, hq⟩ : ∃ q, q = x.tmod n := ⟨_, rfl⟩
  have hq2 := hm.out
  rw [← hq] at hq2
  by_cases hneg : q < 0
  · have hr : q + n = x % n := by
      by_cases h0 : 0 ≤ x
      · rw [if_pos h0] at hq2; omega
      · rw [if_neg h0] at hq2
        by_cases h1 : x % n = 0
        · rw [if_pos h1] at hq2; omega
        · rw [if_neg h1] at hq2; omega
    clear hq2 hm
    go_enter Try.func26, Try.ntmps26
    go_wp2
    go_ret
    exact ⟨⟨(x % n).toNat, ret_int (by omega), by omega, by omega⟩, rfl⟩
  · have hr : q = x % n := by
      by_cases h0 : 0 ≤ x
      · rw [if_pos h0] at hq2; omega
      · rw [if_neg h0] at hq2
        by_cases h1 : x % n = 0
        · rw [if_pos h1] at hq2; omega
        · rw [if_neg h1] at hq2; omega
    clear hq2 hm
    go_enter Try.func26, Try.ntmps26
    go_wp2
    go_ret
    exact ⟨⟨(x % n).toNat, ret_int (by omega), by omega, by omega⟩, rfl⟩

def codB (s : ByteArray) : ByteArray := if s.size ≤ 16 then bs (encC (by_ s)) else ⟨#[]⟩

theorem encV_cod (s : ByteArray) : ∃ e, encV s = .tuple #[.string (codB s), .int .i64 e] := by
  unfold encV codB
  by_cases h : s.size ≤ 16
  · rw [if_pos h, if_pos h]; exact ⟨_, rfl⟩
  · rw [if_neg h, if_neg h]; exact ⟨_, rfl⟩

theorem coded_any (s : ByteArray) (w : World) : Calls Try.prog 10 #[.string s] w fun e w' => e = .returned (.string (codB s)) ∧ w = w' := by
  obtain ⟨x, hx⟩ := encV_cod s
  have HE := Lib.hid (refenc_any s w)
  rw [hx] at HE
  clear hx
  generalize codB s = c at HE ⊢
  go_enter Try.func10, Try.ntmps10
  go_wp2_with (go_at_call 33; refine HE.out.mono ?_; rintro e w' ⟨rfl, rfl⟩)
  go_ret
  exact ⟨rfl, rfl⟩

theorem refnthV_is (ps : PS) (n : Int) : ∃ (p : ByteArray × ByteArray) (b : Bool), refnthV ps n = .tuple #[.agg #[.string p.1, .string p.2], .bool b] := by
  unfold refnthV
  by_cases h : n < 0
  · rw [if_pos h]; exact ⟨_, _, rfl⟩
  · rw [if_neg h]
    cases ps[n.toNat]? with
    | none => exact ⟨_, _, rfl⟩
    | some p => exact ⟨p, _, rfl⟩

theorem fromP_small {ps : PS} {K M : Nat} (h : ∀ p ∈ ps, p.1.size ≤ K ∧ p.2.size ≤ M) (s : ByteArray) (n : Int) : ∀ p ∈ fromP ps s n, p.1.size ≤ K ∧ p.2.size ≤ M := fun p hp => h p (List.mem_of_mem_drop (List.mem_of_mem_take hp))
theorem btwP_small {ps : PS} {K M : Nat} (h : ∀ p ∈ ps, p.1.size ≤ K ∧ p.2.size ≤ M) (s t : ByteArray) : ∀ p ∈ btwP ps s t, p.1.size ≤ K ∧ p.2.size ≤ M := fun p hp => h p (List.mem_filter.1 hp).1
theorem begP_small {ps : PS} {K M : Nat} (h : ∀ p ∈ ps, p.1.size ≤ K ∧ p.2.size ≤ M) (s : ByteArray) : ∀ p ∈ begP ps s, p.1.size ≤ K ∧ p.2.size ≤ M := fun p hp => h p (List.mem_filter.1 hp).1
theorem fromP_len (ps : PS) (s : ByteArray) (n : Int) : (fromP ps s n).length ≤ ps.length := by unfold fromP; simp; omega
theorem btwP_len (ps : PS) (s t : ByteArray) : (btwP ps s t).length ≤ ps.length := List.length_filter_le _ _
theorem begP_len (ps : PS) (s : ByteArray) : (begP ps s).length ≤ ps.length := List.length_filter_le _ _

theorem same_of {a a' : Option Addr} {len cap cap' : Nat} {ps : PS} {w : World} (hp : IsPairs w a len ps) (hq : IsPairs w a' len ps) (hl : len < 100000) :
    Calls Try.prog 22 #[.slice a len cap, .slice a' len cap'] w fun e w' => e = .returned (.bool true) ∧ Below w.heap.size w w' := by
  refine (same_any a len cap ps a' len cap' ps w hp hq hl hl).mono ?_
  rintro e w' ⟨rfl, hb⟩
  exact ⟨by simp, hb⟩

/-- Four rows of pairs made one after the other lie apart. -/
theorem apart4 (W : World) (B m1 m2 m3 : Nat) (x y u v : Value) (X Y U V : PS) (hx : PRow W B x X) (hy : PRow W B y Y) (hu : PRow W B u U) (hv : PRow W B v V) (hB : B ≤ W.heap.size)
    (bx : ∀ g, x.ownBlock = some g → g < m1) (by1 : ∀ g, y.ownBlock = some g → m1 ≤ g ∧ g < m2) (bu : ∀ g, u.ownBlock = some g → m2 ≤ g ∧ g < m3) (bv : ∀ g, v.ownBlock = some g → m3 ≤ g) (h1 : m1 ≤ m2) (h2 : m2 ≤ m3)
    (lx : X.length ≤ 100000) (ly : Y.length ≤ 100000) (lu : U.length ≤ 100000) (lv : V.length ≤ 100000) :
    Calls Try.prog 41 #[.slice (some ⟨W.heap.size, 0, none⟩) 4 4] (W.alloc (.cells #[x, y, u, v] 26)) fun e w' => e = .returned (.bool true) ∧ Below B W w' := by
  have hal := Below.alloc (Below.refl W.heap.size W) (Nat.le_refl _) (.cells #[x, y, u, v] 26)
  have hn := World.alloc_heap_new W (.cells #[x, y, u, v] 26)
  refine (apartpairs_all (W.alloc (.cells #[x, y, u, v] 26)) B W.heap.size 4 4 (fun k => if k = 0 then x else if k = 1 then y else if k = 2 then u else v) (fun k => if k = 0 then X.length else if k = 1 then Y.length else if k = 2 then U.length else V.length) (by decide) (by decide) ?_ (by simp) ?_ ?_ (by simp; omega) ?_).mono ?_
  · intro k hk
    match k, hk with
    | 0, _ => rw [cell_of_row _ _ _ _ _ (0, 0) hn]; rfl
    | 1, _ => rw [cell_of_row _ _ _ _ _ (0, 0) hn]; rfl
    | 2, _ => rw [cell_of_row _ _ _ _ _ (0, 0) hn]; rfl
    | 3, _ => rw [cell_of_row _ _ _ _ _ (0, 0) hn]; rfl
  · intro i j hi hj hij g hg hg2
    match i, j, hi, hj with
    | 0, 0, _, _ => exact hij rfl
    | 0, 1, _, _ => have := bx g hg; have := by1 g hg2; omega
    | 0, 2, _, _ => have := bx g hg; have := bu g hg2; omega
    | 0, 3, _, _ => have := bx g hg; have := bv g hg2; omega
    | 1, 0, _, _ => have := by1 g hg; have := bx g hg2; omega
    | 1, 1, _, _ => exact hij rfl
    | 1, 2, _, _ => have := by1 g hg; have := bu g hg2; omega
    | 1, 3, _, _ => have := by1 g hg; have := bv g hg2; omega
    | 2, 0, _, _ => have := bu g hg; have := bx g hg2; omega
    | 2, 1, _, _ => have := bu g hg; have := by1 g hg2; omega
    | 2, 2, _, _ => exact hij rfl
    | 2, 3, _, _ => have := bu g hg; have := bv g hg2; omega
    | 3, 0, _, _ => have := bv g hg; have := bx g hg2; omega
    | 3, 1, _, _ => have := bv g hg; have := by1 g hg2; omega
    | 3, 2, _, _ => have := bv g hg; have := bu g hg2; omega
    | 3, 3, _, _ => exact hij rfl
  · intro k hk
    match k, hk with
    | 0, _ => exact lx
    | 1, _ => exact ly
    | 2, _ => exact lu
    | 3, _ => exact lv
  · intro k hk
    match k, hk with
    | 0, _ => exact ⟨X, rfl, prow_below hal hx⟩
    | 1, _ => exact ⟨Y, rfl, prow_below hal hy⟩
    | 2, _ => exact ⟨U, rfl, prow_below hal hu⟩
    | 3, _ => exact ⟨V, rfl, prow_below hal hv⟩
  · rintro e w' ⟨rfl, hb⟩
    exact ⟨rfl, (hal.mono hB).trans hb⟩

set_option maxRecDepth 100000 in
set_option maxHeartbeats 16000000 in
theorem wsame_any {av : Value} (a : Option Addr) (len cap : Nat) (ps : PS) (w : World) (h : Src w av ps) (hp : IsPairs w a len ps) (hn : ps.length < 90000) (s t : ByteArray) (hs : s.size ≤ 281474976710656) (n : Int) :
    Calls Try.prog 12 #[av, .agg #[.slice a len cap], .string s, .string t, .int .i64 n] w fun e w' => e = .returned (.bool true) ∧ Below w.heap.size w w' := by
  obtain ⟨a0, rfl⟩ := h.ptr
  obtain ⟨w1, hw1⟩ : ∃ w1, w1 = w.alloc (.cells #[.slice a len cap] 28) := ⟨_, rfl⟩
  have hB1 : Below w.heap.size w w1 := by rw [hw1]; exact (Below.refl _ _).alloc (Nat.le_refl _) _
  have hs1 : w1.heap.size = w.heap.size + 1 := by rw [hw1]; simp
  have hlen := hp.1
  have HC := Lib.hid (refbox w (.slice a len cap))
  rw [← hw1, ← hs1] at HC
  have HS := Lib.hid (fun W (hb : Below w1.heap.size w1 W) => (h.below hB1).below hb)
  have HI := Lib.hid (fun W (hb : Below w1.heap.size w1 W) => (hp.below hB1).below hb)
  have hsm := h.small'
  have hso := h.sorted
  have HN1 := Lib.hid (wnth_any w1 (HS.out _ (Below.refl _ _)) hn n)
  have HN2 := Lib.hid (fun W (hb : Below w1.heap.size w1 W) => refnth_any a len cap ps W (HI.out _ hb) (by omega) n)
  have HX := Lib.hid (fun W (hb : Below w1.heap.size w1 W) => wfrom_any W (HS.out _ hb) hn s n)
  have HY := Lib.hid (fun W (hb : Below w1.heap.size w1 W) => wbetween_any W (HS.out _ hb) hn s t)
  have HZ := Lib.hid (fun W (hb : Below w1.heap.size w1 W) => wcount_any W (HS.out _ hb) hn s t)
  have HB := Lib.hid (fun W (hb : Below w1.heap.size w1 W) => wbegin_any W (HS.out _ hb) hn s hs)
  have HRX := Lib.hid (fun W (hb : Below w1.heap.size w1 W) => reffromW_any a len cap ps W (HI.out _ hb) (by omega) hso s n)
  have HRY := Lib.hid (fun W (hb : Below w1.heap.size w1 W) => refbetween_any a len cap ps W (HI.out _ hb) (by omega) s t)
  have HRB := Lib.hid (fun W (hb : Below w1.heap.size w1 W) => refbegin_any a len cap ps W (HI.out _ hb) (by omega) s)
  obtain ⟨p, b, hV⟩ := refnthV_is ps n
  rw [hV] at HN1 HN2
  rw [hw1] at HN1
  have SX := Lib.hid (fromP_small hsm s n)
  have SY := Lib.hid (btwP_small hsm s t)
  have SB := Lib.hid (begP_small hsm s)
  have LX := fromP_len ps s n
  have LY := btwP_len ps s t
  have LB := begP_len ps s
  generalize fromP ps s n = X at HX HRX SX LX
  generalize btwP ps s t = Y at HY HZ HRY SY LY
  generalize begP ps s = Z at HB HRB SB LB
  obtain ⟨p1, p2⟩ := p
  simp only at HN1 HN2
  clear h hp hV hsm hso
  go_enter Try.func12, Try.ntmps12
  go_wp2_with (first
    | (go_at_call 29; refine HN1.out.mono ?_; rintro e w2 ⟨rfl, hb2⟩; rw [← hw1] at hb2; have hb3 := hb2.alloc hb2.size (.cells #[.string p1, .string p2] 48); have c3 := HC.out _ hb3)
    | (go_at_call 37; refine (HN2.out _ hb3).mono ?_; rintro e w4 ⟨rfl, hb4⟩; have hb4' := hb3.trans (hb4.mono hb3.size); have hb5 := hb4'.alloc hb4'.size (.cells #[.string p1, .string p2] 48))
    | (go_at_call 27; refine (HX.out _ hb5).mono ?_; rintro e w6 ⟨xv, rfl, hx6, hb6⟩; have hb7 := hb5.trans (hb6.mono hb5.size); obtain ⟨xa, xc, rfl⟩ := row2_slice hx6)
    | (go_at_call 23; refine (HY.out _ hb7).mono ?_; rintro e w8 ⟨yv, rfl, hy8, hb8⟩; have hb9 := hb7.trans (hb8.mono hb7.size); obtain ⟨ya, yc, rfl⟩ := row2_slice hy8))
  clear hw1
  have hz2 := hb2.size
  have hz3 := hb3.size
  have hz5 := hb5.size
  have e2 : w8.heap[w2.heap.size]? = some (.cells #[.string p1, .string p2] 48 (0, 0)) := by
    have h1 := World.alloc_heap_new w2 (.cells #[.string p1, .string p2] 48)
    have h2 := (hb4.block w2.heap.size (by simp)).trans h1
    have h3 := key1 _ _ (.cells #[.string p1, .string p2] 48) _ h2
    have hlt := (Array.getElem?_eq_some_iff.1 h3).1
    have h4 := (hb6.block _ hlt).trans h3
    exact (hb8.block _ (Array.getElem?_eq_some_iff.1 h4).1).trans h4
  have e4 : w8.heap[w4.heap.size]? = some (.cells #[.string p1, .string p2] 48 (0, 0)) := by
    have h1 := World.alloc_heap_new w4 (.cells #[.string p1, .string p2] 48)
    have h4 := (hb6.block _ (Array.getElem?_eq_some_iff.1 h1).1).trans h1
    exact (hb8.block _ (Array.getElem?_eq_some_iff.1 h4).1).trans h4
  have k0 := fun d os => cell_regrown (HC.out _ hb9) d os
  have k1 := fun d os => cell_regrown (show w8.cell? ⟨w2.heap.size, 0, none⟩ = some (.string p1) by simp [World.cell?, e2]) d os
  have k2 := fun d os => cell_regrown (show w8.cell? ⟨w2.heap.size, 1, none⟩ = some (.string p2) by simp [World.cell?, e2]) d os
  have k3 := fun d os => cell_regrown (show w8.cell? ⟨w4.heap.size, 0, none⟩ = some (.string p1) by simp [World.cell?, e4]) d os
  have k4 := fun d os => cell_regrown (show w8.cell? ⟨w4.heap.size, 1, none⟩ = some (.string p2) by simp [World.cell?, e4]) d os
  have hgd := pair_guard
  have hne : ∀ W, (binOp .neq 48 (.agg #[.string p1, .string p2]) (.agg #[.string p1, .string p2])).run Try.prog W = .ok (.bool false) W := fun W => by rw [pair_neq]; simp
  have hx8 : PRow w8 (w4.heap.size + 1) (.slice xa X.length xc) X := by
    have := prow_below hb8 hx6
    rw [World.size_alloc] at this
    exact this
  have IX : Hid (∀ W, Below w8.heap.size w8 W → IsPairs W xa X.length X) := Lib.hid (fun W hb => by
    obtain ⟨a', c', e, h1, _⟩ := prow_is hx8 SX.out
    cases e
    exact h1.below hb)
  have IY : Hid (∀ W, Below w8.heap.size w8 W → IsPairs W ya Y.length Y) := Lib.hid (fun W hb => by
    obtain ⟨a', c', e, h1, _⟩ := prow_is hy8 SY.out
    cases e
    exact h1.below hb)
  clear e2 e4 c3
  refine Soft.wp_region_soft [50, 59, 75, 78] (Soft.Gp [(50, X), (59, Y), (75, Z), (78, Z)]) (fun t v w w' h hb => Soft.gp_stable _ t v w w' h hb) (by kernel_rfl) (by kernel_rfl) ?_
  refine Soft.soft_put ?_
  go_big_quiet_step (fail)
  refine wpQuiet_nil ?_
  refine Soft.soft_put ?_
  go_big_quiet_step (fail)
  refine wpQuiet_nil ?_
  refine Soft.soft_put ?_
  go_big_quiet_step (fail)
  refine wpQuiet_nil ?_
  refine Soft.soft_put ?_
  go_big_quiet_step (fail)
  refine wpQuiet_nil (Soft.soft_begun ?_)
  repeat (refine Soft.soft_op (by rfl) ?_; go_big_quiet_step (fail); refine wpQuiet_nil ?_)
  refine Soft.soft_callS (xs := [.tmp 47, .tmp 48, .tmp 49]) 50 (by rfl) (by rfl) (by kernel_rfl) (by rfl) (by rfl) (by simp) (fun b' w' hR hs => ?_) ?_
  · have e47 := ((hs 47 (Soft.looks_operand (by simp [Op.operands, Call.operands]))).2 (by simp)).trans (show Soft.get _ 47 = .agg #[.slice a len cap] from rfl)
    have e48 := ((hs 48 (Soft.looks_operand (by simp [Op.operands, Call.operands]))).2 (by simp)).trans (show Soft.get _ 48 = .string s from rfl)
    have e49 := ((hs 49 (Soft.looks_operand (by simp [Op.operands, Call.operands]))).2 (by simp)).trans (show Soft.get _ 49 = .int .i64 n from rfl)
    rw [show (List.map b'.eval [.tmp 47, .tmp 48, .tmp 49]).toArray = #[Soft.get b' 47, Soft.get b' 48, Soft.get b' 49] from rfl, e47, e48, e49]
    refine (HRX.out _ (hb9.trans (hR.mono hb9.size))).mono ?_
    rintro e w'' ⟨pv, rfl, hr, hb⟩
    exact ⟨pv, rfl, hb, ⟨fun _ => Soft.softp_row hr SX.out, fun e => absurd e (by decide), fun e => absurd e (by decide), fun e => absurd e (by decide), trivial⟩⟩
  go_big_quiet_step (fail)
  refine wpQuiet_nil ?_
  refine Soft.soft_call (xs := [.tmp 46, .tmp 50]) 51 (.bool true) (by rfl) (by rfl) (by kernel_rfl) (by rfl) (by rfl) (by intro e; cases e) (fun b' w' hR hs => ?_) ?_
  · have e46 := ((hs 46 (Soft.looks_operand (by simp [Op.operands, Call.operands]))).2 (by simp)).trans (show Soft.get _ 46 = .slice xa X.length xc from rfl)
    obtain ⟨a50, c50, e50, I50⟩ := ((hs 50 (Soft.looks_operand (by simp [Op.operands, Call.operands]))).1 (by simp) rfl).1 rfl
    rw [show (List.map b'.eval [.tmp 46, .tmp 50]).toArray = #[Soft.get b' 46, Soft.get b' 50] from rfl, e46, e50]
    exact same_of (IX.out _ hR) I50 (by omega)
  go_big_quiet_step (fail)
  refine wpQuiet_nil ?_
  repeat (refine Soft.soft_op (by rfl) ?_; go_big_quiet_step (fail); refine wpQuiet_nil ?_)
  refine Soft.soft_callS (xs := [.tmp 56, .tmp 57, .tmp 58]) 59 (by rfl) (by rfl) (by kernel_rfl) (by rfl) (by rfl) (by simp) (fun b' w' hR hs => ?_) ?_
  · have e56 := ((hs 56 (Soft.looks_operand (by simp [Op.operands, Call.operands]))).2 (by simp)).trans (show Soft.get _ 56 = .agg #[.slice a len cap] from rfl)
    have e57 := ((hs 57 (Soft.looks_operand (by simp [Op.operands, Call.operands]))).2 (by simp)).trans (show Soft.get _ 57 = .string s from rfl)
    have e58 := ((hs 58 (Soft.looks_operand (by simp [Op.operands, Call.operands]))).2 (by simp)).trans (show Soft.get _ 58 = .string t from rfl)
    rw [show (List.map b'.eval [.tmp 56, .tmp 57, .tmp 58]).toArray = #[Soft.get b' 56, Soft.get b' 57, Soft.get b' 58] from rfl, e56, e57, e58]
    refine (HRY.out _ (hb9.trans (hR.mono hb9.size))).mono ?_
    rintro e w'' ⟨pv, rfl, hr, hb⟩
    exact ⟨pv, rfl, hb, ⟨fun e => absurd e (by decide), fun _ => Soft.softp_row hr SY.out, fun e => absurd e (by decide), fun e => absurd e (by decide), trivial⟩⟩
  go_big_quiet_step (fail)
  refine wpQuiet_nil ?_
  refine Soft.soft_call (xs := [.tmp 55, .tmp 59]) 60 (.bool true) (by rfl) (by rfl) (by kernel_rfl) (by rfl) (by rfl) (by intro e; cases e) (fun b' w' hR hs => ?_) ?_
  · have e55 := ((hs 55 (Soft.looks_operand (by simp [Op.operands, Call.operands]))).2 (by simp)).trans (show Soft.get _ 55 = .slice ya Y.length yc from rfl)
    obtain ⟨a59, c59, e59, I59⟩ := ((hs 59 (Soft.looks_operand (by simp [Op.operands, Call.operands]))).1 (by simp) rfl).2.1 rfl
    rw [show (List.map b'.eval [.tmp 55, .tmp 59]).toArray = #[Soft.get b' 55, Soft.get b' 59] from rfl, e55, e59]
    exact same_of (IY.out _ hR) I59 (by omega)
  go_big_quiet_step (fail)
  refine wpQuiet_nil ?_
  repeat (refine Soft.soft_op (by rfl) ?_; go_big_quiet_step (fail); refine wpQuiet_nil ?_)
  refine Soft.soft_call_plain (xs := [.tmp 64, .tmp 65, .tmp 66]) 67 (.int .i64 (Y.length : Nat)) (by rfl) (by rfl) (by kernel_rfl) (by rfl) (by rfl) (by intro e; cases e) (fun w' hR => HZ.out _ (hb9.trans (hR.mono hb9.size))) ?_
  go_big_quiet_step (fail)
  refine wpQuiet_nil ?_
  repeat (refine Soft.soft_op (by rfl) ?_; go_big_quiet_step (fail); refine wpQuiet_nil ?_)
  refine Soft.soft_callS (xs := [.tmp 73, .tmp 74]) 75 (by rfl) (by rfl) (by kernel_rfl) (by rfl) (by rfl) (by simp) (fun b' w' hR hs => ?_) ?_
  · have e73 := ((hs 73 (Soft.looks_operand (by simp [Op.operands, Call.operands]))).2 (by simp)).trans (show Soft.get _ 73 = .pointer a0 from rfl)
    have e74 := ((hs 74 (Soft.looks_operand (by simp [Op.operands, Call.operands]))).2 (by simp)).trans (show Soft.get _ 74 = .string s from rfl)
    rw [show (List.map b'.eval [.tmp 73, .tmp 74]).toArray = #[Soft.get b' 73, Soft.get b' 74] from rfl, e73, e74]
    refine (HB.out _ (hb9.trans (hR.mono hb9.size))).mono ?_
    rintro e w'' ⟨pv, rfl, hr, hb⟩
    exact ⟨pv, rfl, hb, ⟨fun e => absurd e (by decide), fun e => absurd e (by decide), fun _ => Soft.softp_row hr SB.out, fun e => absurd e (by decide), trivial⟩⟩
  go_big_quiet_step (fail)
  refine wpQuiet_nil ?_
  repeat (refine Soft.soft_op (by rfl) ?_; go_big_quiet_step (fail); refine wpQuiet_nil ?_)
  refine Soft.soft_callS (xs := [.tmp 76, .tmp 77]) 78 (by rfl) (by rfl) (by kernel_rfl) (by rfl) (by rfl) (by simp) (fun b' w' hR hs => ?_) ?_
  · have e76 := ((hs 76 (Soft.looks_operand (by simp [Op.operands, Call.operands]))).2 (by simp)).trans (show Soft.get _ 76 = .agg #[.slice a len cap] from rfl)
    have e77 := ((hs 77 (Soft.looks_operand (by simp [Op.operands, Call.operands]))).2 (by simp)).trans (show Soft.get _ 77 = .string s from rfl)
    rw [show (List.map b'.eval [.tmp 76, .tmp 77]).toArray = #[Soft.get b' 76, Soft.get b' 77] from rfl, e76, e77]
    refine (HRB.out _ (hb9.trans (hR.mono hb9.size))).mono ?_
    rintro e w'' ⟨pv, rfl, hr, hb⟩
    exact ⟨pv, rfl, hb, ⟨fun e => absurd e (by decide), fun e => absurd e (by decide), fun e => absurd e (by decide), fun _ => Soft.softp_row hr SB.out, trivial⟩⟩
  go_big_quiet_step (fail)
  refine wpQuiet_nil ?_
  refine Soft.soft_call (xs := [.tmp 75, .tmp 78]) 79 (.bool true) (by rfl) (by rfl) (by kernel_rfl) (by rfl) (by rfl) (by intro e; cases e) (fun b' w' hR hs => ?_) ?_
  · obtain ⟨a75, c75, e75, I75⟩ := ((hs 75 (Soft.looks_operand (by simp [Op.operands, Call.operands]))).1 (by simp) rfl).2.2.1 rfl
    obtain ⟨a78, c78, e78, I78⟩ := ((hs 78 (Soft.looks_operand (by simp [Op.operands, Call.operands]))).1 (by simp) rfl).2.2.2.1 rfl
    rw [show (List.map b'.eval [.tmp 75, .tmp 78]).toArray = #[Soft.get b' 75, Soft.get b' 78] from rfl, e75, e78]
    exact same_of I75 I78 (by omega)
  go_big_quiet_step (fail)
  refine wpQuiet_nil ?_
  repeat (refine Soft.soft_op (by rfl) ?_; go_big_quiet_step (fail); refine wpQuiet_nil ?_)
  refine Soft.soft_nil ?_
  intro us w9 hw9
  simp only [Soft.patch, Act.put, List.setIfInBounds_toArray, List.set_cons_succ, List.set_cons_zero]
  generalize us 50 = V50
  generalize us 59 = V59
  generalize us 75 = V75
  generalize us 78 = V78
  have hb10 := hb9.trans (hw9.mono hb9.size)
  clear k0 k1 k2 k3 k4
  have hz6 := hb6.size
  have hz8 := hb8.size
  have hz9 := hw9.size
  simp only [World.size_alloc] at hz6 hz5
  have HX8 := Lib.hid hx8
  have HY8 := Lib.hid hy8
  have HX6 := Lib.hid hx6
  clear hx8 hy8 hx6
  go_wp2_with (first
    | (go_at_call 27; refine (HX.out _ hb10).mono ?_; rintro e w11 ⟨uv, rfl, hx11, hb11⟩; have hb12 := hb10.trans (hb11.mono hb10.size); obtain ⟨ua, uc, rfl⟩ := row2_slice hx11)
    | (go_at_call 23; refine (HY.out _ hb12).mono ?_; rintro e w13 ⟨vv, rfl, hy13, hb13⟩; have hb14 := hb12.trans (hb13.mono hb12.size); obtain ⟨va, vc, rfl⟩ := row2_slice hy13)
    | (go_at_call 41; have hz11 := hb11.size; have hz13 := hb13.size
       refine (apart4 w13 w1.heap.size w6.heap.size w8.heap.size w11.heap.size _ _ _ _ X Y X Y ?_ ?_ ?_ ?_ hb14.size (fun g e => ?_) (fun g e => ?_) (fun g e => ?_) (fun g e => (hy13.lt g e).1) hz8 (by omega) (by omega) (by omega) (by omega) (by omega)).mono ?_
       · exact ownsRow_base (prow_below hb13 (prow_below hb11 (prow_below hw9 HX8.out))) (by omega)
       · exact ownsRow_base (prow_below hb13 (prow_below hb11 (prow_below hw9 HY8.out))) (by omega)
       · exact ownsRow_base (prow_below hb13 hx11) (by omega)
       · exact ownsRow_base hy13 (by omega)
       · exact (HX6.out.lt g e).2
       · exact HY8.out.lt g e
       · have := hx11.lt g e; exact ⟨by omega, this.2⟩
       rintro e w15 ⟨rfl, hb15⟩))
  go_ret
  exact ⟨rfl, hB1.trans ((hb14.trans hb15).mono (by omega))⟩

end Go.Proofs.Ytegccicplcjcmaa
