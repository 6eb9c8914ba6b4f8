/- Walk of BoundSmall: the list of small texts. -/
import Derived.Test.YtkfjoonhgpgaiaaBound10
import Derived.Test.YtkfjoonhgpgaiaaSoftStrs
import Derived.Maps.AppendAt
namespace Go.Proofs.Ytkfjoonhgpgaiaa
open Go Go.RowKit Go.Shelf Go.Proofs Go.Sort
attribute [local go_sem] Oper.semAt_some

theorem below_undrew {n : Nat} {w w' : World} (h : Below n w w'.drew) : Below n w w' := ⟨h.os, h.tape, h.output, h.size, h.block⟩

theorem below_append {w0 w w' : World} {base : Nat} {e : TypeId} {size n : Nat} {v : Value} {xs : List Value} (hb : Below base w0 w) (hown : w.ownsRow base e size v n xs) (hg : w.grownBy w' v.ownBlock) (hbs : base ≤ w.heap.size) : Below base w0 w' := by
  refine hb.grown hg hbs (fun k hk => ?_)
  rcases hown.2 with ⟨h1, _⟩ | ⟨g, cap, cur, hv, hg2, _⟩
  · rw [h1] at hk; cases hk
  · rw [hv] at hk; cases hk; exact hg2

theorem isstrs_own {w : World} {base : Nat} {v : Value} {n : Nat} {ss : List ByteArray} (h : w.ownsRow base 9 1 v n (ss.map Value.string)) (hn : 0 < n) (hl : ∀ s ∈ ss, s.size ≤ 140737488351232) (hn2 : n ≤ 1000) :
    ∃ g cap, v = .slice (some ⟨g, 0, none⟩) n cap ∧ IsStrs w (some ⟨g, 0, none⟩) n cap ss := by
  have h1 := h.1
  rw [List.length_map, Nat.mul_one] at h1
  rcases h.2 with ⟨_, h0⟩ | ⟨g, cap, cur, hv, hb, hg, hnc, hm, hcs, ht⟩
  · omega
  · refine ⟨g, cap, hv, h1, hnc, by unfold maxLen at hm; omega, hl, .inr ⟨g, 0, rfl, ?_, fun j hj => ?_⟩⟩
    · rcases Nat.lt_or_ge g w.heap.size with hlt | hge
      · exact hlt
      · rw [Array.getElem?_eq_none hge] at hg; cases hg
    · have hk : (cur.toList.take (n * 1))[j]? = some (.string (ss.getD j ByteArray.empty)) := by
        rw [ht, List.getElem?_map, List.getD_eq_getElem?_getD, List.getElem?_eq_getElem (by omega)]; rfl
      rw [List.getElem?_take_of_lt (by omega)] at hk
      rw [Nat.zero_add]
      simp [World.cell?, hg]
      simpa using hk

/-- The list so far: a slice of its own, of small texts. -/
def Lst (base : Nat) (v : Value) (len : Nat) (W : World) : Prop := ∃ xs : List ByteArray, W.ownsRow base 9 1 v len (xs.map Value.string) ∧ ∀ x ∈ xs, x.size ≤ 4

theorem lst_nil (base : Nat) (W : World) : Lst base (.slice none 0 0) 0 W := ⟨[], World.ownsRow_nil _ _ _ _, by simp⟩

theorem lst_cell {W1 wr : World} {g len cap : Nat} {xs : List ByteArray} (h : IsStrs W1 (some ⟨g, 0, none⟩) len cap xs) (hx : ∀ x ∈ xs, x.size ≤ 4) (hb : Below W1.heap.size W1 wr) (j : Nat) (hj : j < len) : ∃ x, wr.cell? ⟨g, j, none⟩ = some (.string x) ∧ x.size ≤ 4 := by
  obtain ⟨h1, _, _, _, h5⟩ := h.below hb (Nat.le_refl _)
  rcases h5 with h5 | ⟨b, off, e, _, hc⟩
  · omega
  · cases e
    have := hc j hj
    rw [Nat.zero_add] at this
    refine ⟨_, this, hx _ ?_⟩
    rw [List.getD_eq_getElem?_getD, List.getElem?_eq_getElem (by omega)]
    exact List.getElem_mem _

theorem lst_snoc {xs : List ByteArray} {t : ByteArray} (h : ∀ x ∈ xs, x.size ≤ 4) (ht : t.size ≤ 4) : ∀ x ∈ xs ++ [t], x.size ≤ 4 := fun x hx => by
  rcases List.mem_append.1 hx with h1 | h1
  · exact h x h1
  · rw [List.mem_singleton] at h1
    rw [h1]
    exact ht

theorem maxS_nil (a : ByteArray) : Lib.maxS a ⟨#[]⟩ = a := by
  unfold Lib.maxS
  rw [if_neg (lt_nil _)]
theorem maxF_three (x y : ByteArray) : maxF [x, y, ⟨#[]⟩] = maxF [x, y] := by
  rw [maxF_cons, maxF_cons]
  simp only [List.foldl_cons, List.foldl_nil]
  exact maxS_nil _

/-- The numbers at which the texts are cut. -/
def cutsA : Array Value := #[.int .i64 (-9223372036854775808), .int .i64 (-1), .int .i64 0, .int .i64 1, .int .i64 2, .int .i64 3, .int .i64 4, .int .i64 9223372036854775807]
theorem cuts_cell {W : World} {B : Nat} (h : W.heap[B]? = some (.cells cutsA 3 (0, 0))) (j : Nat) (hj : j < 8) : ∃ n, W.cell? ⟨B, j, none⟩ = some (.int .i64 n) := by
  unfold World.cell?
  rw [h]
  rcases j with _ | _ | _ | _ | _ | _ | _ | _ | j
  all_goals first | exact ⟨_, rfl⟩ | omega

set_option maxRecDepth 100000 in
set_option maxHeartbeats 8000000 in
theorem law_BoundSmall (w : World) :
    Calls Try.prog 6 #[] w fun e w' => e = .returned (.bool true) ∧ Below w.heap.size w w' := by
  obtain ⟨i0, hi, hz0, hz1, hz2⟩ := info_parts infoString
  have hB0 := Below.refl w.heap.size w
  go_enter Try.func6, Try.ntmps6
  go_wp2_with fail
  go_loopw [2, 3] (fun v i wr => ∃ (n : Nat) (V : Value), n ≤ 64 ∧ i = .int .i64 n ∧ V = v ∧ Lst w.heap.size V (4 * n) wr ∧ Below w.heap.size w wr) (fun _ i _ => 64 - (intOf i).toNat)
  case atStart => exact ⟨0, _, Nat.zero_le _, rfl, rfl, lst_nil _ _, hB0⟩
  case round =>
    clear hB0
    obtain ⟨n, V, hn, rfl, rfl, hL, hB⟩ := hrel
    by_cases hn2 : n < 64
    · have hd64 : decide ((n : Int) < 64) = true := decide_eq_true (by omega)
      have h16 : n / 16 < 4 := by omega
      go_wp2_with fail
      refine wp_region_quiet_below (by kernel_rfl) (by kernel_rfl) ?_
      repeat (go_big_quiet_step (fail))
      refine wpQuiet_nil ?_
      intro _ hw'
      obtain ⟨⟨dq, osq⟩, hw''⟩ := hw'
      subst hw''
      have hs3 : ((⟨#[0, 97, 254, 255]⟩ : ByteArray).extract (n % 4) (n % 4 + 1) ++ (⟨#[0, 97, 254, 255]⟩ : ByteArray).extract (n / 4 % 4) (n / 4 % 4 + 1) ++ (⟨#[0, 97, 254, 255]⟩ : ByteArray).extract (n / 16) (n / 16 + 1)).size = 3 := by
        have e : (⟨#[0, 97, 254, 255]⟩ : ByteArray).size = 4 := rfl
        rw [ByteArray.size_append, ByteArray.size_append, ByteArray.size_extract, ByteArray.size_extract, ByteArray.size_extract, e]
        omega
      have hB2 := hB.trans ((below_regrown wr dq osq).mono hB.size)
      obtain ⟨xs0, hown0, hxs0⟩ := hL
      have hL2 : Lst w.heap.size V (4 * n) (grow (redrawn wr dq) osq) := ⟨xs0, ownsRow_below hown0 (below_regrown wr dq osq) (Nat.le_refl _), hxs0⟩
      clear hown0
      generalize (⟨#[0, 97, 254, 255]⟩ : ByteArray).extract (n % 4) (n % 4 + 1) ++ (⟨#[0, 97, 254, 255]⟩ : ByteArray).extract (n / 4 % 4) (n / 4 % 4 + 1) ++ (⟨#[0, 97, 254, 255]⟩ : ByteArray).extract (n / 16) (n / 16 + 1) = s at hs3 ⊢
      dsimp only
      generalize grow (redrawn wr dq) osq = wr2 at hB2 hL2 ⊢
      replace hn2 := Lib.hid hn2
      clear hB h16
      go_wp2_with fail
      go_loopw [2, 5] (fun v x wr => ∃ (k : Nat) (V : Value), k ≤ 4 ∧ x = .int .i64 k ∧ V = v ∧ Lst w.heap.size V (4 * n + k) wr ∧ Below w.heap.size w wr) (fun _ x _ => 4 - (intOf x).toNat)
      case atStart => exact ⟨0, _, by omega, rfl, rfl, hL2, hB2⟩
      case round =>
        clear hB2 hL2
        obtain ⟨k, V, hk, rfl, rfl, ⟨xs, hown, hxs⟩, hB⟩ := hrel
        by_cases hk2 : k < 4
        · have hks : (k : Int) ≤ (s.size : Int) := by omega
          have hn3 := hn2.out
          have hex : (s.extract 0 k).size ≤ 4 := by rw [ByteArray.size_extract]; omega
          go_wp2_with (at_builtin; refine wpList_append_own_at _ rfl _ _ 30 rfl w.heap.size 9 i0 (.string ⟨#[]⟩) 1 16 Try.underlying30 hi hz0 hz1 hz2 rfl (by decide) V (4 * n + k) (xs.map Value.string) rfl (hown.alloc _) ⟨wr.heap.size, 0, none⟩ 1 1 [.string (s.extract 0 k)] rfl rfl (cell_one_new' _ _ _) (by simp [Value.oneCell']) (by unfold maxLen; omega) (by omega) (by have := hB.size; simp; omega) ?_; intro V' w1 hown' hgrow hnil hat; have hB1 := below_append (hB.alloc hB.size (.cells #[.string (s.extract 0 k)] 9)) (hown.alloc _) hgrow (by have := hB.size; simp; omega); have hL1 : Lst w.heap.size V' (4 * n + k + 1) w1 := ⟨xs ++ [s.extract 0 k], by rw [List.map_append]; exact hown', lst_snoc hxs hex⟩)
          go_roundw
          case rel => exact ⟨k + 1, _, by omega, by go_num, rfl, hL1, hB1⟩
          case measure => simp [intOf]; omega
        · obtain rfl : k = 4 := by omega
          have hn3 := hn2.out
          go_wp2_with fail
          go_roundw
          case rel => exact ⟨n + 1, _, by omega, by go_num, rfl, ⟨xs, by rw [show 4 * (n + 1) = 4 * n + 4 by omega]; exact hown, hxs⟩, hB⟩
          case measure => simp [intOf]; omega
    · have hd64 : decide ((n : Int) < 64) = false := decide_eq_false (by omega)
      obtain rfl : n = 64 := by omega
      obtain ⟨xs, hown, hxs⟩ := hL
      rw [show 4 * 64 = 256 from rfl] at hown
      obtain ⟨g, cap, rfl, hI⟩ := isstrs_own hown (by omega) (fun x hx => by have := hxs x hx; omega) (by omega)
      have HI0 := Lib.hid hI
      clear hI hown
      go_wp2_with fail
      generalize hW1 : World.alloc wr _ = W1
      have hnew : W1.heap[wr.heap.size]? = some (.cells cutsA 3 (0, 0)) := by rw [← hW1]; exact World.alloc_heap_new _ _
      have HI := Lib.hid (HI0.out.below (w' := W1) (B := wr.heap.size) (by rw [← hW1]; exact (Below.refl wr.heap.size wr).alloc (Nat.le_refl _) _) (Nat.le_refl _))
      have hB1 : Below w.heap.size w W1 := by rw [← hW1]; exact hB.alloc hB.size _
      have hCl : wr.heap.size < W1.heap.size := by rw [← hW1]; simp
      clear hW1 hB HI0
      generalize wr.heap.size = C at hnew hCl ⊢
      have HC : Hid (∀ j, j < 8 → ∃ n, W1.cell? ⟨C, j, none⟩ = some (.int .i64 n)) := Lib.hid (fun j hj => cuts_cell hnew j hj)
      clear hnew
      go_loopw [7] (fun x wr => ∃ i : Nat, i ≤ 256 ∧ x = .int .i64 i ∧ Below W1.heap.size W1 wr) (fun x _ => 256 - (intOf x).toNat)
      case atStart => exact ⟨0, by omega, rfl, Below.refl _ _⟩
      case round =>
        obtain ⟨i, hil, rfl, hBr⟩ := hrel
        by_cases hi2 : i < 256
        · have hdi : decide ((i : Int) < 256) = true := decide_eq_true (by omega)
          go_wp2_with fail
          go_loopw [8] (fun x wr => ∃ k : Nat, k ≤ 256 ∧ x = .int .i64 k ∧ Below W1.heap.size W1 wr) (fun x _ => 256 - (intOf x).toNat)
          case atStart => exact ⟨0, by omega, rfl, hBr⟩
          case round =>
            clear hBr
            obtain ⟨k, hkl, rfl, hBr⟩ := hrel
            by_cases hk2 : k < 256
            · obtain ⟨x, c1, hx⟩ := lst_cell HI.out hxs hBr i hi2
              obtain ⟨y, c2, hy⟩ := lst_cell HI.out hxs hBr k hk2
              obtain ⟨r, hr⟩ : ∃ r, (i + k) % 8 = r := ⟨_, rfl⟩
              have hrl : r < 8 := by rw [← hr]; exact Nat.mod_lt _ (by decide)
              have hri : ((i : Int) + (k : Int)) % 8 = (r : Int) := by omega
              obtain ⟨m, hm⟩ := HC.out r hrl
              have c3 := (hBr.cell (p := ⟨C, r, none⟩) hCl).trans hm
              have H3 := Lib.hid (maxF_three x y)
              clear hr hm
              go_wp2_with fail
              have b1 : (0 : Int) ≤ (i : Int) := by omega
              have b2 : (i : Int) < 256 := by omega
              have b3 : (0 : Int) ≤ (k : Int) := by omega
              have b4 : (k : Int) < 256 := by omega
              have b5 : (0 : Int) ≤ (r : Int) := by omega
              have b6 : (r : Int) < 8 := by omega
              have hnn : (0 : Int) ≤ (i : Int) + (k : Int) := by omega
              have hri2 : ((i : Int) + (k : Int)).tmod 8 = (r : Int) := by rw [Int.tmod_eq_emod_of_nonneg hnn]; exact hri
              have hwr : IntKind.i64.wrap ((i : Int) + (k : Int)) = (i : Int) + (k : Int) := by rw [IntKind.wrap_i64]; omega
              have k1 := fun d os => cell_regrown c1 d os
              have k2 := fun d os => cell_regrown c2 d os
              have k3 := fun d os => cell_regrown c3 d os
              refine Soft.wp_region_soft [87, 97] (Soft.Gs [(87, 3, [x, y, ⟨#[]⟩]), (97, 2, [x, y])]) (fun t v w w' h hb => Soft.gs_stable _ t v w w' h hb) (by kernel_rfl) (by kernel_rfl) ?_
              refine Soft.soft_put ?_
              go_big_quiet_step (fail)
              refine wpQuiet_nil ?_
              refine Soft.soft_put ?_
              go_big_quiet_step (fail)
              refine wpQuiet_nil (Soft.soft_begun ?_)
              repeat (refine Soft.soft_op (by rfl) ?_; go_big_quiet_step (fail); refine wpQuiet_nil ?_)
              refine Soft.soft_call_plain (xs := [.tmp 64, .tmp 68, .tmp 75]) 76 (.bool true) (by rfl) (by rfl) (by kernel_rfl) (by rfl) (by rfl) (by intro e; cases e) (fun w' hR => tells05 x y m w' (by omega) (by omega)) ?_
              go_big_quiet_step (fail)
              refine wpQuiet_nil ?_
              repeat (refine Soft.soft_op (by rfl) ?_; go_big_quiet_step (fail); refine wpQuiet_nil ?_)
              refine Soft.soft_build (ps := [(0, .tmp 82), (1, .tmp 86), (2, .const (.string ⟨#[]⟩))]) 87 [(0, .string x), (1, .string y), (2, .string ⟨#[]⟩)] (.cells #[.string x, .string y, .string ⟨#[]⟩] 9) (by rfl) (by rfl) (by rfl) (by rfl) (by rfl) (fun w' => Soft.run_build3 x y ⟨#[]⟩ w') (fun w' _ => ⟨fun _ => Soft.soft3 x y ⟨#[]⟩ w' (by omega) (by omega) (by decide), fun e => absurd e (by decide), trivial⟩) (by simp) ?_
              go_big_quiet_step (fail)
              refine wpQuiet_nil ?_
              refine Soft.soft_call (xs := [.tmp 87]) 88 (.string (maxF [x, y])) (by rfl) (by rfl) (by kernel_rfl) (by rfl) (by rfl) (by intro e; cases e) (fun b w' hR hs => ?_) ?_
              · obtain ⟨g1, e1, I1⟩ := ((hs 87 (Soft.looks_operand (by simp [Op.operands, Call.operands]))).1 (by simp) rfl).1 rfl
                rw [← H3.out]
                rw [show (List.map b.eval [.tmp 87]).toArray = #[Soft.get b 87] from rfl, e1]
                exact max_any _ _ _ _ _ I1 (by decide)
              go_big_quiet_step (fail)
              refine wpQuiet_nil ?_
              repeat (refine Soft.soft_op (by rfl) ?_; go_big_quiet_step (fail); refine wpQuiet_nil ?_)
              refine Soft.soft_build (ps := [(0, .tmp 92), (1, .tmp 96)]) 97 [(0, .string x), (1, .string y)] (.cells #[.string x, .string y] 9) (by rfl) (by rfl) (by rfl) (by rfl) (by rfl) (fun w' => Soft.run_build2 x y w') (fun w' _ => ⟨fun e => absurd e (by decide), fun _ => Soft.soft2 x y w' (by omega) (by omega), trivial⟩) (by simp) ?_
              go_big_quiet_step (fail)
              refine wpQuiet_nil ?_
              refine Soft.soft_call (xs := [.tmp 97]) 98 (.string (maxF [x, y])) (by rfl) (by rfl) (by kernel_rfl) (by rfl) (by rfl) (by intro e; cases e) (fun b w' hR hs => ?_) ?_
              · obtain ⟨g1, e1, I1⟩ := ((hs 97 (Soft.looks_operand (by simp [Op.operands, Call.operands]))).1 (by simp) rfl).2.1 rfl
                rw [show (List.map b.eval [.tmp 97]).toArray = #[Soft.get b 97] from rfl, e1]
                exact refmax_any _ _ _ _ _ I1 (by decide)
              go_big_quiet_step (fail)
              refine wpQuiet_nil ?_
              repeat (refine Soft.soft_op (by rfl) ?_; go_big_quiet_step (fail); refine wpQuiet_nil ?_)
              refine Soft.soft_nil ?_
              intro us w' hw'
              simp only [Soft.patch, Act.put, List.setIfInBounds_toArray, List.set_cons_succ, List.set_cons_zero]
              generalize us 87 = V87
              generalize us 97 = V97
              have hB2 := hBr.trans (hw'.mono hBr.size)
              go_wp2_with fail
              go_roundw
              case rel => exact ⟨k + 1, by omega, by go_num, hB2⟩
              case measure => simp [intOf]; omega
            · obtain rfl : k = 256 := by omega
              go_wp2_with fail
              go_roundw
              case rel => exact ⟨i + 1, by omega, by go_num, hBr⟩
              case measure => simp [intOf]; omega
        · obtain rfl : i = 256 := by omega
          have hBw := hB1.trans (hBr.mono hB1.size)
          have HM : Hid (∀ W : World, Calls Try.prog 23 #[.slice none 0 0] W fun e w' => e = .returned (.string ⟨#[]⟩) ∧ Below W.heap.size W w') := Lib.hid (fun W => max_any none 0 0 [] W ⟨rfl, Nat.le_refl _, by omega, by simp, .inl ⟨rfl, fun _ => rfl⟩⟩ (by decide))
          go_wp2_with (first
            | ((go_at_call 23; refine (HM.out _).mono ?_; rintro e w2 ⟨rfl, hx1⟩; have hBx := hBw.trans (hx1.mono hBw.size)))
            | ((go_at_call 15; refine (awake05 _).mono ?_; rintro e w3 ⟨rfl, hx2⟩; have hBy := hBx.trans (hx2.mono hBx.size))))
          go_ret
          exact ⟨rfl, hBy⟩
end Go.Proofs.Ytkfjoonhgpgaiaa
