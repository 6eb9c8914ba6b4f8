/- Walk of PathSmall: the list of small strings. -/
import Derived.Test.YtgfhaldfjnepmaaPath11
import Derived.Test.YtgfhaldfjnepmaaPath8
import Derived.Test.YtgfhaldfjnepmaaSoftStrs
namespace Go.Proofs.Ytgfhaldfjnepmaa
open Go Go.RowKit Go.Shelf Go.Proofs Go.Sort
attribute [local go_sem] Oper.semAt_some

/-- The list so far: a slice of its own, of small strings. -/
def Lst (base : Nat) (v : Value) (len : Nat) (W : World) : Prop := ∃ xs : List ByteArray, W.ownsRow base 9 1 v len (xs.map Value.string) ∧ ∀ x ∈ xs, x.size ≤ 4

theorem lst_nil (base : Nat) (W : World) : Lst base (.slice none 0 0) 0 W := ⟨[], World.ownsRow_nil _ _ _ _, by simp⟩

theorem lst_cell {W1 wr : World} {g len cap : Nat} {xs : List ByteArray} (h : IsStrs W1 (some ⟨g, 0, none⟩) len cap xs) (hx : ∀ x ∈ xs, x.size ≤ 4) (hb : Below W1.heap.size W1 wr) (j : Nat) (hj : j < len) : ∃ x, wr.cell? ⟨g, j, none⟩ = some (.string x) ∧ x.size ≤ 4 := by
  obtain ⟨h1, _, _, _, h5⟩ := h.below hb (Nat.le_refl _)
  rcases h5 with h5 | ⟨b, off, e, _, hc⟩
  · omega
  · cases e
    have := hc j hj
    rw [Nat.zero_add] at this
    refine ⟨_, this, hx _ ?_⟩
    rw [List.getD_eq_getElem?_getD, List.getElem?_eq_getElem (by omega)]
    exact List.getElem_mem _

theorem lst_snoc {xs : List ByteArray} {t : ByteArray} (h : ∀ x ∈ xs, x.size ≤ 4) (ht : t.size ≤ 4) : ∀ x ∈ xs ++ [t], x.size ≤ 4 := fun x hx => by
  rcases List.mem_append.1 hx with h1 | h1
  · exact h x h1
  · rw [List.mem_singleton] at h1
    rw [h1]
    exact ht

set_option maxRecDepth 100000 in
set_option maxHeartbeats 8000000 in
theorem law_PathSmall (w : World) :
    Calls Try.prog 6 #[] w fun e w' => e = .returned (.bool true) ∧ Below w.heap.size w w' := by
  obtain ⟨i0, hi, hz0, hz1, hz2⟩ := info_parts infoString
  have hB0 := Below.refl w.heap.size w
  go_enter Try.func6, Try.ntmps6
  go_wp2_with fail
  go_loopw [1, 2] (fun v i wr => ∃ (n len : Nat) (V : Value), n ≤ 81 ∧ i = .int .i64 n ∧ V = v ∧ n ≤ len ∧ len ≤ 5 * n ∧ Lst w.heap.size V len wr ∧ Below w.heap.size w wr) (fun _ i _ => 81 - (intOf i).toNat)
  case atStart => exact ⟨0, 0, _, Nat.zero_le _, rfl, rfl, by omega, by omega, lst_nil _ _, hB0⟩
  case round =>
    clear hB0
    obtain ⟨n, len, V, hn, rfl, rfl, hnl, hln, hL, hB⟩ := hrel
    by_cases hn2 : n < 81
    · have hd81 : decide ((n : Int) < 81) = true := decide_eq_true (by omega)
      replace hn2 := Lib.hid hn2
      go_wp2_with fail
      go_loopw [1, 3, 4, 5] (fun v x m i wr => ∃ (k M len' : Nat) (t : ByteArray) (V : Value), k ≤ 4 ∧ i = .int .i64 k ∧ m = .int .i64 M ∧ M ≤ 81 ∧ x = .string t ∧ t.size ≤ k ∧ n ≤ len' ∧ len' ≤ 5 * n + k ∧ V = v ∧ Lst w.heap.size V len' wr ∧ Below w.heap.size w wr) (fun _ _ _ i _ => 4 - (intOf i).toNat)
      case atStart => exact ⟨0, n, len, ⟨#[]⟩, _, by omega, rfl, rfl, hn, rfl, by decide, hnl, by omega, rfl, hL, hB⟩
      case round =>
        clear hB hL
        obtain ⟨k, M, len', t, V, hk, rfl, rfl, hM, rfl, ht, hnl', hln', rfl, ⟨xs, hown, hxs⟩, hB⟩ := hrel
        have hE : ((⟨#[0, 97, 255]⟩ : ByteArray).extract (M % 3) (M % 3 + 1)).size ≤ 1 := by rw [ByteArray.size_extract]; omega
        have hlt : M % 3 < 3 := Nat.mod_lt _ (by decide)
        by_cases hk2 : k < 4
        · by_cases hk0 : k = 0
          · subst hk0
            go_wp2_with (at_builtin; refine wpList_append_own_at _ rfl _ _ 22 rfl w.heap.size 9 i0 (.string ⟨#[]⟩) 1 16 Try.underlying22 hi hz0 hz1 hz2 rfl (by decide) V len' (xs.map Value.string) rfl (hown.alloc _) ⟨wr.heap.size, 0, none⟩ 1 1 [.string t] rfl rfl (cell_one_new' _ _ _) (by simp [Value.oneCell']) (by unfold maxLen; omega) (by omega) (by have := hB.size; simp; omega) ?_; intro V' w1 hown' hgrow hnil hat; have hB1 := below_append (hB.alloc hB.size (.cells #[.string t] 9)) (hown.alloc _) hgrow (by have := hB.size; simp; omega); have hL1 : Lst w.heap.size V' (len' + 1) w1 := ⟨xs ++ [t], by rw [List.map_append]; exact hown', lst_snoc hxs (by omega)⟩)
            go_roundw
            case rel => exact ⟨1, M / 3, len' + 1, _, _, by omega, by go_num, by go_num, by omega, rfl, by rw [ByteArray.size_append]; omega, by omega, by omega, rfl, hL1, hB1⟩
            case measure => simp [intOf]
          · by_cases hM0 : 0 < M
            · go_wp2_with (at_builtin; refine wpList_append_own_at _ rfl _ _ 22 rfl w.heap.size 9 i0 (.string ⟨#[]⟩) 1 16 Try.underlying22 hi hz0 hz1 hz2 rfl (by decide) V len' (xs.map Value.string) rfl (hown.alloc _) ⟨wr.heap.size, 0, none⟩ 1 1 [.string t] rfl rfl (cell_one_new' _ _ _) (by simp [Value.oneCell']) (by unfold maxLen; omega) (by omega) (by have := hB.size; simp; omega) ?_; intro V' w1 hown' hgrow hnil hat; have hB1 := below_append (hB.alloc hB.size (.cells #[.string t] 9)) (hown.alloc _) hgrow (by have := hB.size; simp; omega); have hL1 : Lst w.heap.size V' (len' + 1) w1 := ⟨xs ++ [t], by rw [List.map_append]; exact hown', lst_snoc hxs (by omega)⟩)
              go_roundw
              case rel => exact ⟨k + 1, M / 3, len' + 1, _, _, by omega, by go_num, by go_num, by omega, rfl, by rw [ByteArray.size_append]; omega, by omega, by omega, rfl, hL1, hB1⟩
              case measure => simp [intOf]; omega
            · go_wp2_with fail
              go_roundw
              case rel => exact ⟨k + 1, M / 3, len', _, _, by omega, by go_num, by go_num, by omega, rfl, by rw [ByteArray.size_append]; omega, by omega, by omega, rfl, ⟨xs, hown, hxs⟩, hB⟩
              case measure => simp [intOf]; omega
        · obtain rfl : k = 4 := by omega
          have hn3 := hn2.out
          go_wp2_with (at_builtin; refine wpList_append_own_at _ rfl _ _ 22 rfl w.heap.size 9 i0 (.string ⟨#[]⟩) 1 16 Try.underlying22 hi hz0 hz1 hz2 rfl (by decide) V len' (xs.map Value.string) rfl (hown.alloc _) ⟨wr.heap.size, 0, none⟩ 1 1 [.string t] rfl rfl (cell_one_new' _ _ _) (by simp [Value.oneCell']) (by unfold maxLen; omega) (by omega) (by have := hB.size; simp; omega) ?_; intro V' w1 hown' hgrow hnil hat; have hB1 := below_append (hB.alloc hB.size (.cells #[.string t] 9)) (hown.alloc _) hgrow (by have := hB.size; simp; omega); have hL1 : Lst w.heap.size V' (len' + 1) w1 := ⟨xs ++ [t], by rw [List.map_append]; exact hown', lst_snoc hxs (by omega)⟩)
          go_roundw
          case rel => exact ⟨n + 1, len' + 1, _, by omega, by go_num, rfl, by omega, by omega, hL1, hB1⟩
          case measure => simp [intOf]; omega
    · have hd81 : decide ((n : Int) < 81) = false := decide_eq_false (by omega)
      obtain ⟨xs, hown, hxs⟩ := hL
      obtain ⟨g, cap, rfl, hI⟩ := isstrs_own hown (by omega) (fun x hx => by have := hxs x hx; omega) (by omega)
      have HI := Lib.hid hI
      clear hI hown
      generalize hW1 : wr = W1 at HI hB ⊢
      clear hW1
      go_wp2_with fail
      go_loopw [6] (fun x wr => ∃ i : Nat, i ≤ len ∧ x = .int .i64 i ∧ Below W1.heap.size W1 wr) (fun x _ => len - (intOf x).toNat)
      case atStart => exact ⟨0, by omega, rfl, Below.refl _ _⟩
      case round =>
        obtain ⟨i, hil, rfl, hBr⟩ := hrel
        by_cases hi2 : i < len
        · have hdi : decide ((i : Int) < (len : Int)) = true := decide_eq_true (by omega)
          have hdi2 : decide (i < len) = true := decide_eq_true (by omega)
          go_wp2_with fail
          go_loopw [7] (fun x wr => ∃ k : Nat, k ≤ len ∧ x = .int .i64 k ∧ Below W1.heap.size W1 wr) (fun x _ => len - (intOf x).toNat)
          case atStart => exact ⟨0, by omega, rfl, hBr⟩
          case round =>
            clear hBr
            obtain ⟨k, hkl, rfl, hBr⟩ := hrel
            by_cases hk2 : k < len
            · have cells := fun j (hj : j < len) => (lst_cell HI.out hxs hBr j hj)
              obtain ⟨x, c1, hx⟩ := cells i hi2
              obtain ⟨y, c2, hy⟩ := cells k hk2
              obtain ⟨r, hr⟩ : ∃ r, (i * 7 + k) % len = r := ⟨_, rfl⟩
              have hrl : r < len := by rw [← hr]; exact Nat.mod_lt _ (by omega)
              have hri : ((i : Int) * 7 + (k : Int)) % (len : Int) = (r : Int) := by rw [← hr]; simp
              obtain ⟨z, c3, hz⟩ := cells r hrl
              have hl0 : ((len : Int) == 0) = false := beq_eq_false_iff_ne.2 (by omega)
              clear cells hr
              go_wp2_with fail
              simp only [List.append]
              have b0 : (len : Int) ≤ 405 := by omega
              have b1 : (0 : Int) ≤ (i : Int) := by omega
              have b2 : (i : Int) < (len : Int) := by omega
              have b3 : (0 : Int) ≤ (k : Int) := by omega
              have b4 : (k : Int) < (len : Int) := by omega
              have b5 : (0 : Int) ≤ (r : Int) := by omega
              have b6 : (r : Int) < (len : Int) := by omega
              have hnn : (0 : Int) ≤ (i : Int) * 7 + (k : Int) := by omega
              have hri2 : ((i : Int) * 7 + (k : Int)).tmod (len : Int) = (r : Int) := by rw [Int.tmod_eq_emod_of_nonneg hnn]; exact hri
              have hw7 : IntKind.i64.wrap ((i : Int) * 7) = (i : Int) * 7 := by rw [IntKind.wrap_i64]; omega
              have hw7k : IntKind.i64.wrap ((i : Int) * 7 + (k : Int)) = (i : Int) * 7 + (k : Int) := by rw [IntKind.wrap_i64]; omega
              have k1 := fun d os => cell_regrown c1 d os
              have k2 := fun d os => cell_regrown c2 d os
              have k3 := fun d os => cell_regrown c3 d os
              refine Soft.wp_region_soft [77, 87, 110, 130] (Soft.Gs [(77, 2, [x, y]), (87, 2, [x, y]), (110, 3, [x, y, z]), (130, 3, [x, y, z])]) (fun t v w w' h hb => Soft.gs_stable _ t v w w' h hb) (by kernel_rfl) (by kernel_rfl) ?_
              refine Soft.soft_put ?_
              go_big_quiet_step (fail)
              refine wpQuiet_nil ?_
              refine Soft.soft_put ?_
              go_big_quiet_step (fail)
              refine wpQuiet_nil ?_
              refine Soft.soft_put ?_
              go_big_quiet_step (fail)
              refine wpQuiet_nil ?_
              refine Soft.soft_put ?_
              go_big_quiet_step (fail)
              refine wpQuiet_nil (Soft.soft_begun ?_)
              repeat (refine Soft.soft_op (by rfl) ?_; go_big_quiet_step (fail); refine wpQuiet_nil ?_)
              refine Soft.soft_call_plain (xs := [.tmp 56, .tmp 60, .tmp 65]) 66 (.bool true) (by rfl) (by rfl) (by kernel_rfl) (by rfl) (by rfl) (by intro e; cases e) (fun w' hR => tells10 x y _ w' (by first | omega | decide) (by first | omega | decide)) ?_
              go_big_quiet_step (fail)
              refine wpQuiet_nil ?_
              repeat (refine Soft.soft_op (by rfl) ?_; go_big_quiet_step (fail); refine wpQuiet_nil ?_)
              refine Soft.soft_build (ps := [(0, .tmp 72), (1, .tmp 76)]) 77 [(0, .string x), (1, .string y)] (.cells #[.string x, .string y] 9) (by rfl) (by rfl) (by rfl) (by rfl) (by rfl) (fun w' => Soft.run_build2 x y w') (fun w' _ => ⟨fun _ => Soft.soft2 x y w' (by omega) (by omega), fun e => absurd e (by decide), fun e => absurd e (by decide), fun e => absurd e (by decide), trivial⟩) (by simp) ?_
              go_big_quiet_step (fail)
              refine wpQuiet_nil ?_
              refine Soft.soft_call (xs := [.tmp 77]) 78 (.int .i64 (allL [x, y])) (by rfl) (by rfl) (by kernel_rfl) (by rfl) (by rfl) (by intro e; cases e) (fun b w' hR hs => ?_) ?_
              · obtain ⟨g1, e1, I1⟩ := ((hs 77 (Soft.looks_operand (by simp [Op.operands, Call.operands]))).1 (by simp) rfl).1 rfl
                rw [show (List.map b.eval [.tmp 77]).toArray = #[Soft.get b 77] from rfl, e1]
                exact all_any _ _ _ _ _ I1 (by decide)
              go_big_quiet_step (fail)
              refine wpQuiet_nil ?_
              repeat (refine Soft.soft_op (by rfl) ?_; go_big_quiet_step (fail); refine wpQuiet_nil ?_)
              refine Soft.soft_build (ps := [(0, .tmp 82), (1, .tmp 86)]) 87 [(0, .string x), (1, .string y)] (.cells #[.string x, .string y] 9) (by rfl) (by rfl) (by rfl) (by rfl) (by rfl) (fun w' => Soft.run_build2 x y w') (fun w' _ => ⟨fun e => absurd e (by decide), fun _ => Soft.soft2 x y w' (by omega) (by omega), fun e => absurd e (by decide), fun e => absurd e (by decide), trivial⟩) (by simp) ?_
              go_big_quiet_step (fail)
              refine wpQuiet_nil ?_
              refine Soft.soft_call (xs := [.tmp 87]) 88 (.int .i64 (allL [x, y])) (by rfl) (by rfl) (by kernel_rfl) (by rfl) (by rfl) (by intro e; cases e) (fun b w' hR hs => ?_) ?_
              · obtain ⟨g1, e1, I1⟩ := ((hs 87 (Soft.looks_operand (by simp [Op.operands, Call.operands]))).1 (by simp) rfl).2.1 rfl
                rw [show (List.map b.eval [.tmp 87]).toArray = #[Soft.get b 87] from rfl, e1]
                exact refall_any _ _ _ _ _ I1 (by decide)
              go_big_quiet_step (fail)
              refine wpQuiet_nil ?_
              repeat (refine Soft.soft_op (by rfl) ?_; go_big_quiet_step (fail); refine wpQuiet_nil ?_)
              refine Soft.soft_build (ps := [(0, .tmp 95), (1, .tmp 99), (2, .tmp 109)]) 110 [(0, .string x), (1, .string y), (2, .string z)] (.cells #[.string x, .string y, .string z] 9) (by rfl) (by rfl) (by rfl) (by rfl) (by rfl) (fun w' => Soft.run_build3 x y z w') (fun w' _ => ⟨fun e => absurd e (by decide), fun e => absurd e (by decide), fun _ => Soft.soft3 x y z w' (by omega) (by omega) (by omega), fun e => absurd e (by decide), trivial⟩) (by simp) ?_
              go_big_quiet_step (fail)
              refine wpQuiet_nil ?_
              refine Soft.soft_call (xs := [.tmp 110]) 111 (.int .i64 (allL [x, y, z])) (by rfl) (by rfl) (by kernel_rfl) (by rfl) (by rfl) (by intro e; cases e) (fun b w' hR hs => ?_) ?_
              · obtain ⟨g1, e1, I1⟩ := ((hs 110 (Soft.looks_operand (by simp [Op.operands, Call.operands]))).1 (by simp) rfl).2.2.1 rfl
                rw [show (List.map b.eval [.tmp 110]).toArray = #[Soft.get b 110] from rfl, e1]
                exact all_any _ _ _ _ _ I1 (by decide)
              go_big_quiet_step (fail)
              refine wpQuiet_nil ?_
              repeat (refine Soft.soft_op (by rfl) ?_; go_big_quiet_step (fail); refine wpQuiet_nil ?_)
              refine Soft.soft_build (ps := [(0, .tmp 115), (1, .tmp 119), (2, .tmp 129)]) 130 [(0, .string x), (1, .string y), (2, .string z)] (.cells #[.string x, .string y, .string z] 9) (by rfl) (by rfl) (by rfl) (by rfl) (by rfl) (fun w' => Soft.run_build3 x y z w') (fun w' _ => ⟨fun e => absurd e (by decide), fun e => absurd e (by decide), fun e => absurd e (by decide), fun _ => Soft.soft3 x y z w' (by omega) (by omega) (by omega), trivial⟩) (by simp) ?_
              go_big_quiet_step (fail)
              refine wpQuiet_nil ?_
              refine Soft.soft_call (xs := [.tmp 130]) 131 (.int .i64 (allL [x, y, z])) (by rfl) (by rfl) (by kernel_rfl) (by rfl) (by rfl) (by intro e; cases e) (fun b w' hR hs => ?_) ?_
              · obtain ⟨g1, e1, I1⟩ := ((hs 130 (Soft.looks_operand (by simp [Op.operands, Call.operands]))).1 (by simp) rfl).2.2.2.1 rfl
                rw [show (List.map b.eval [.tmp 130]).toArray = #[Soft.get b 130] from rfl, e1]
                exact refall_any _ _ _ _ _ I1 (by decide)
              go_big_quiet_step (fail)
              refine wpQuiet_nil ?_
              repeat (refine Soft.soft_op (by rfl) ?_; go_big_quiet_step (fail); refine wpQuiet_nil ?_)
              refine Soft.soft_nil ?_
              intro us w' hw'
              simp only [Soft.patch, Act.put, List.setIfInBounds_toArray, List.set_cons_succ, List.set_cons_zero]
              generalize us 77 = V77
              generalize us 87 = V87
              generalize us 110 = V110
              generalize us 130 = V130
              have hB2 := hBr.trans (hw'.mono hBr.size)
              go_wp2_with fail
              go_roundw
              case rel => exact ⟨k + 1, by omega, by go_num, hB2⟩
              case measure => simp [intOf]; omega
            · obtain rfl : k = len := by omega
              obtain ⟨x, c1, hx⟩ := lst_cell HI.out hxs hBr i hi2
              have hall : Hid (allL [x] = x.size) := Lib.hid (by show (by_ x).length = x.size; simp [by_])
              go_wp2_with fail
              have b0 : (k : Int) ≤ 405 := by omega
              have b1 : (0 : Int) ≤ (i : Int) := by omega
              have b2 : (i : Int) < (k : Int) := by omega
              have k1 := fun d os => cell_regrown c1 d os
              refine Soft.wp_region_soft [153] (Soft.Gs [(153, 1, [x])]) (fun t v w w' h hb => Soft.gs_stable _ t v w w' h hb) (by kernel_rfl) (by kernel_rfl) ?_
              refine Soft.soft_put ?_
              go_big_quiet_step (fail)
              refine wpQuiet_nil (Soft.soft_begun ?_)
              repeat (refine Soft.soft_op (by rfl) ?_; go_big_quiet_step (fail); refine wpQuiet_nil ?_)
              refine Soft.soft_call_plain (xs := [.tmp 137, .const (.string ⟨#[97]⟩), .const (.int .i64 (-9223372036854775808))]) 138 (.bool true) (by rfl) (by rfl) (by kernel_rfl) (by rfl) (by rfl) (by intro e; cases e) (fun w' hR => tells10 x ⟨#[97]⟩ _ w' (by first | omega | decide) (by first | omega | decide)) ?_
              go_big_quiet_step (fail)
              refine wpQuiet_nil ?_
              repeat (refine Soft.soft_op (by rfl) ?_; go_big_quiet_step (fail); refine wpQuiet_nil ?_)
              refine Soft.soft_call_plain (xs := [.tmp 144, .const (.string ⟨#[]⟩), .const (.int .i64 9223372036854775807)]) 145 (.bool true) (by rfl) (by rfl) (by kernel_rfl) (by rfl) (by rfl) (by intro e; cases e) (fun w' hR => tells10 x ⟨#[]⟩ _ w' (by first | omega | decide) (by first | omega | decide)) ?_
              go_big_quiet_step (fail)
              refine wpQuiet_nil ?_
              repeat (refine Soft.soft_op (by rfl) ?_; go_big_quiet_step (fail); refine wpQuiet_nil ?_)
              refine Soft.soft_build (ps := [(0, .tmp 152)]) 153 [(0, .string x)] (.cells #[.string x] 9) (by rfl) (by rfl) (by rfl) (by rfl) (by rfl) (fun w' => Soft.run_build1 x w') (fun w' _ => ⟨fun _ => Soft.soft1 x w' (by omega), trivial⟩) (by simp) ?_
              go_big_quiet_step (fail)
              refine wpQuiet_nil ?_
              refine Soft.soft_call (xs := [.tmp 153]) 154 (.int .i64 (x.size : Int)) (by rfl) (by rfl) (by kernel_rfl) (by rfl) (by rfl) (by intro e; cases e) (fun b w' hR hs => ?_) ?_
              · obtain ⟨g1, e1, I1⟩ := ((hs 153 (Soft.looks_operand (by simp [Op.operands, Call.operands]))).1 (by simp) rfl).1 rfl
                rw [← hall.out]
                rw [show (List.map b.eval [.tmp 153]).toArray = #[Soft.get b 153] from rfl, e1]
                exact all_any _ _ _ _ _ I1 (by decide)
              go_big_quiet_step (fail)
              refine wpQuiet_nil ?_
              repeat (refine Soft.soft_op (by rfl) ?_; go_big_quiet_step (fail); refine wpQuiet_nil ?_)
              refine Soft.soft_nil ?_
              intro us w' hw'
              simp only [Soft.patch, Act.put, List.setIfInBounds_toArray, List.set_cons_succ, List.set_cons_zero]
              generalize us 153 = V153
              have hB2 := hBr.trans (hw'.mono hBr.size)
              go_wp2_with fail
              go_roundw
              case rel => exact ⟨i + 1, by omega, by go_num, hB2⟩
              case measure => simp [intOf]; omega
        · obtain rfl : i = len := by omega
          have hBw := hB.trans (hBr.mono hB.size)
          have HM : Hid (∀ W : World, Calls Try.prog 17 #[.slice none 0 0] W fun e w' => e = .returned (.int .i64 0) ∧ Below W.heap.size W w') := Lib.hid (fun W => all_any none 0 0 [] W ⟨rfl, Nat.le_refl _, by omega, by simp, .inl ⟨rfl, fun _ => rfl⟩⟩ (by decide))
          go_wp2_with (first
            | ((go_at_call 17; refine (HM.out _).mono ?_; rintro e w2 ⟨rfl, hx1⟩; have hBx := hBw.trans (hx1.mono hBw.size)))
            | ((go_at_call 15; refine (awake10 _).mono ?_; rintro e w3 ⟨rfl, hx2⟩; have hBy := hBx.trans (hx2.mono hBx.size))))
          go_ret
          exact ⟨rfl, hBy⟩
end Go.Proofs.Ytgfhaldfjnepmaa
