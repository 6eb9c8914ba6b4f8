/- Walk: the law BookSmall returns true. -/
import Derived.Test.YtgfhaldfjnepmaaBkS
import Derived.Deep.CutBlock
import Derived.Deep.CutRange
namespace Go.Proofs.Ytgfhaldfjnepmaa
open Go Go.RowKit Go.Shelf Go.Proofs Go.Sort
attribute [local go_sem] Oper.semAt_some

set_option linter.unusedVariables false in
set_option linter.unusedSimpArgs false in
set_option maxRecDepth 100000 in
set_option maxHeartbeats 8000000 in
theorem law_BookSmall (w : World) : Calls Try.prog 13 #[] w fun e w' => e = .returned (.bool true) ∧ Below w.heap.size w w' := by
  go_enter Try.func13, Try.ntmps13
  go_upto_region 1 with fail
  go_cut [1] from 19 to 34 (fun s W => s = .slice (some ⟨w.heap.size, 0, none⟩) 15 15 ∧ Deeds15 W w.heap.size ∧ Below w.heap.size w W ∧ W.heap.size = w.heap.size + 1)
  case first =>
    go_wp2_with fail
    obtain ⟨w1, hw1⟩ : ∃ w1, w1 = w.alloc (Obj.cells #[.int .i64 0, .string ⟨#[97]⟩, .string ⟨#[49, 50, 51]⟩, .string ⟨#[]⟩, .int .i64 0, .int .i64 0, .string ⟨#[98]⟩, .string ⟨#[]⟩, .string ⟨#[]⟩, .int .i64 0, .int .i64 4, .string ⟨#[97]⟩, .string ⟨#[49]⟩, .string ⟨#[49, 50, 51]⟩, .int .i64 0, .int .i64 4, .string ⟨#[97]⟩, .string ⟨#[49, 50, 51, 52, 53, 54, 55, 56]⟩, .string ⟨#[49]⟩, .int .i64 0, .int .i64 0, .string ⟨#[99]⟩, .string ⟨#[49, 50]⟩, .string ⟨#[]⟩, .int .i64 0, .int .i64 5, .string ⟨#[97]⟩, .string ⟨#[]⟩, .string ⟨#[]⟩, .int .i64 2, .int .i64 0, .string ⟨#[]⟩, .string ⟨#[49]⟩, .string ⟨#[]⟩, .int .i64 0, .int .i64 3, .string ⟨#[98]⟩, .string ⟨#[]⟩, .string ⟨#[]⟩, .int .i64 0, .int .i64 3, .string ⟨#[98]⟩, .string ⟨#[]⟩, .string ⟨#[]⟩, .int .i64 0, .int .i64 4, .string ⟨#[98]⟩, .string ⟨#[]⟩, .string ⟨#[]⟩, .int .i64 0, .int .i64 4, .string ⟨#[99]⟩, .string ⟨#[]⟩, .string ⟨#[49]⟩, .int .i64 0, .int .i64 0, .string ⟨#[97]⟩, .string ⟨#[49, 50, 51, 52, 53, 54, 55]⟩, .string ⟨#[]⟩, .int .i64 0, .int .i64 5, .string ⟨#[]⟩, .string ⟨#[]⟩, .string ⟨#[]⟩, .int .i64 4, .int .i64 0, .string ⟨#[99]⟩, .string ⟨#[]⟩, .string ⟨#[]⟩, .int .i64 0, .int .i64 0, .string ⟨#[97, 98]⟩, .string ⟨#[120]⟩, .string ⟨#[]⟩, .int .i64 0] 46) := ⟨_, rfl⟩
    have hd1 := deeds15_new w w1 hw1
    rw [← hw1]
    clear hw1
    go_meet
    case rel => exact ⟨rfl, hd1⟩
  case rest =>
  obtain ⟨rfl, hd1, hb1, hs1⟩ := hcut
  obtain ⟨w1, hw1⟩ : ∃ w1, w1 = wc := ⟨_, rfl⟩
  rw [← hw1] at hd1 hb1 hs1 ⊢
  clear hw1
  have HDS := Lib.hid (fun W (hb : Below w1.heap.size w1 W) => hd1.below hb)
  clear hd1
  go_upto_block 0 with fail
  go_cut [] from 35 to 79 (fun W => Below w1.heap.size w1 W)
  case first =>
    have hB0 := Below.refl w1.heap.size w1
    go_wp2_with fail
    go_loopw [2] (fun i wr => ∃ n : Nat, n ≤ 65 ∧ i = .int .i64 n ∧ Below w1.heap.size w1 wr) (fun i _ => 65 - (intOf i).toNat)
    case atStart => exact ⟨0, by omega, rfl, hB0⟩
    case round =>
      clear hB0
      obtain ⟨n, hn, rfl, hBr⟩ := hrel
      by_cases hn6 : n < 65
      · have i6 : decide ((n : Int) < 65) = true := decide_eq_true (by omega)
        obtain ⟨K, hK, hK5⟩ : ∃ K : Nat, (n : Int).tmod 5 = (K : Int) ∧ K < 5 := ⟨n % 5, by rw [Int.tmod_eq_emod_of_nonneg (by omega)]; omega, by omega⟩
        obtain ⟨M, hM, hM5⟩ : ∃ M : Nat, (n : Int).tdiv 5 = (M : Int) ∧ M < 13 := ⟨n / 5, by rw [Int.tdiv_eq_ediv_of_nonneg (by omega)]; omega, by omega⟩
        have hKw : IntKind.u64.wrap (K : Int) = (K : Int) := by simp [IntKind.wrap, IntKind.bits, IntKind.signed]; omega
        have hMw : IntKind.u64.wrap (M : Int) = (M : Int) := by simp [IntKind.wrap, IntKind.bits, IntKind.signed]; omega
        go_upto_region 6 with fail
        obtain ⟨wL, hwL⟩ : ∃ wL, wL = wr.alloc (.cells #[.int .u64 K, .int .u64 M] 41) := ⟨_, rfl⟩
        have hbL : Below wr.heap.size wr wL := by rw [hwL]; exact (Below.refl _ _).alloc (Nat.le_refl _) _
        have hl0 : wL.heap[wr.heap.size]? = some (.cells #[.int .u64 K, .int .u64 M] 41) := by rw [hwL]; exact World.alloc_heap_new _ _
        have HL := Lib.hid (fun W (hb : Below wL.heap.size wL W) => show W.cell? ⟨wr.heap.size, 0, none⟩ = some (.int .u64 K) ∧ W.cell? ⟨wr.heap.size, 1, none⟩ = some (.int .u64 M) from ⟨nb_cell hb (scell_at hl0 rfl), nb_cell hb (scell_at hl0 rfl)⟩)
        have hB1L := hBr.trans (hbL.mono hBr.size)
        obtain ⟨c1, c2⟩ := HL.out wL (Below.refl _ _)
        rw [← hwL]
        clear hwL hl0 hbL
        go_wp2_with (go_at_call 28; refine (new_any K M _ (by omega) (by omega)).mono ?_; rintro e w4 ⟨b, m, rfl, hbk, hn4⟩; clear c1 c2; obtain ⟨c1, c2⟩ := HL.out _ hn4)
        clear c1 c2
        obtain ⟨w5, hw5⟩ : ∃ w5, w5 = w4.alloc (.cells #[.slice none 0 0, .int .u64 K, .int .u64 M] 62) := ⟨_, rfl⟩
        rw [← hw5]
        have hn45 : Below w4.heap.size w4 w5 := by rw [hw5]; exact (Below.refl _ _).alloc (Nat.le_refl _) _
        have hrb : RefBlk w5 w4.heap.size (.slice none (List.length ([] : PS)) 0) (.int .u64 K) (.int .u64 M) := by rw [hw5]; exact RefBlk.new _ _ _ _
        have hbk5 := Lib.hid (hbk.below hn45)
        have hb5 := hB1L.trans ((hn4.trans (hn45.mono hn4.size)).mono hB1L.size)
        have hp0 : PRow w5 0 (.slice none (List.length ([] : PS)) 0) [] := prow_nil _ _
        have hNB := hB1L.size
        have hBm := hn4.size
        have hm5 := hn45.size
        clear hw5 hbk hn45 hn4 hB1L
        generalize w4.heap.size = mb at *
        generalize wL.heap.size = B at *
        go_loopw [6] (fun i wr2 => ∃ (k : Nat) (v : Value) (ps : PS) (ra : Option Addr) (rc : Nat), k ≤ 15 ∧ i = .int .i64 k ∧ Hid (BookAt wr2 B b m v K M ps) ∧ ps.length ≤ k ∧ RefBlk wr2 mb (.slice ra ps.length rc) (.int .u64 K) (.int .u64 M) ∧ PRow wr2 0 (.slice ra ps.length rc) ps ∧ Below w1.heap.size w1 wr2 ∧ B ≤ wr2.heap.size) (fun i _ => 15 - (intOf i).toNat)
        case atStart => exact ⟨0, _, [], none, 0, by omega, rfl, hbk5, Nat.le_refl _, hrb, hp0, hb5, by omega⟩
        case round =>
          clear hbk5 hrb hp0 hb5 hm5
          obtain ⟨k, v, ps, ra, rc, hk, rfl, HB, hpl, hrb, hpr, hBr2, hszr⟩ := hrel
          by_cases hk1 : k < 15
          · have ik : decide ((k : Int) < 15) = true := decide_eq_true (by omega)
            go_upto_region 11 with fail
            go_cut [7, 8] from 50 to 79 (fun p ok W => Did B b m mb K M k w1.heap.size w1 (.slice ra ps.length rc) (.int .u64 K) (.int .u64 M) p ok W)
            case first =>
              obtain ⟨d, d0, d1, d2, d3, d4, z1, z2, z3, z4, z5⟩ := HDS.out w1 (Below.refl _ _) k hk1
              have hkI : (k : Int) < 15 := by omega
              have HBK := Lib.hid (fun W (hb : Below wr.heap.size wr W) => HB.out.below hb)
              have HM := Lib.hid (fun W (hb : Below wr.heap.size wr W) => hrb.below hrb.lt hb)
              have HLW := Lib.hid (fun W (hb : Below wr.heap.size wr W) => hBr2.trans (hb.mono hBr2.size))
              have HST := Lib.hid (fun W (hb : Below w1.heap.size w1 W) (hm : W.cell? ⟨mb, 0, none⟩ = some (.slice ra ps.length rc) ∧ W.cell? ⟨mb, 1, none⟩ = some (.int .u64 K) ∧ W.cell? ⟨mb, 2, none⟩ = some (.int .u64 M)) => And.intro hm (And.intro (nb_cell hb d0) (And.intro (nb_cell hb d1) (And.intro (nb_cell hb d2) (And.intro (nb_cell hb d3) (nb_cell hb d4))))))
              have HD := Lib.hid (fun W (hb : Below wr.heap.size wr W) => does_any W (HBK.out W hb) (by omega) (by have := hb.size; omega) ra rc (prow_below hb hpr) d z1 z2 z3 z4 z5)
              unfold deedV DoesPost at HD
              have hql := actQ_len (K := K) (M := M) HB.out.sorted d
              have hmlt := hrb.lt
              generalize actQ K M ps d = Q2 at HD hql
              have hbX := (Below.refl wr.heap.size wr).drew
              have hst1 := HST.out wr.drew (HLW.out _ hbX) (HM.out _ hbX).cells
              clear d0 d1 d2 d3 d4 hrb hpr
              refine wp_region_noPanic ?_
              refine wp_region_held_drew (S := fun W => (W.cell? ⟨mb, 0, none⟩ = some (.slice ra ps.length rc) ∧ W.cell? ⟨mb, 1, none⟩ = some (.int .u64 K) ∧ W.cell? ⟨mb, 2, none⟩ = some (.int .u64 M)) ∧ (W.cell? ⟨w.heap.size, k * 5, none⟩ = some (.int .i64 d.what) ∧ W.cell? ⟨w.heap.size, k * 5 + 1, none⟩ = some (.string d.key) ∧ W.cell? ⟨w.heap.size, k * 5 + 2, none⟩ = some (.string d.value) ∧ W.cell? ⟨w.heap.size, k * 5 + 3, none⟩ = some (.string d.old) ∧ W.cell? ⟨w.heap.size, k * 5 + 4, none⟩ = some (.int .i64 d.n))) (by kernel_rfl) hst1 (fun _ => ?_)
              generalize wr.drew = X1 at hbX hst1 ⊢
              have hX1s := hbX.size
              refine take_at (i := 0) (v := .pointer (some ⟨b, 0, none⟩)) rfl rfl (by kernel_rfl) (by kernel_rfl) (by kernel_rfl) (fun _ _ _ h => h) (Or.inl ⟨by rfl, ?_⟩) hst1 ?_
              · intro w' hSw
                obtain ⟨⟨l0, l1, l2⟩, m0, m1, m2, m3, m4⟩ := hSw
                go_simp
              try simp only [Act.put, List.setIfInBounds_toArray, List.set_cons_zero, List.set_cons_succ]
              refine take_at (i := 1) (v := .agg #[.slice ra ps.length rc, .int .u64 K, .int .u64 M]) rfl rfl (by kernel_rfl) (by kernel_rfl) (by kernel_rfl) (fun _ _ _ h => h) (Or.inl ⟨by rfl, ?_⟩) hst1 ?_
              · intro w' hSw
                obtain ⟨⟨l0, l1, l2⟩, m0, m1, m2, m3, m4⟩ := hSw
                go_simp
              try simp only [Act.put, List.setIfInBounds_toArray, List.set_cons_zero, List.set_cons_succ]
              refine take_at (i := 2) (v := .slice (some ⟨w.heap.size, 0, none⟩) 15 15) rfl rfl (by kernel_rfl) (by kernel_rfl) (by kernel_rfl) (fun _ _ _ h => h) (Or.inl ⟨by rfl, ?_⟩) hst1 ?_
              · intro w' hSw
                obtain ⟨⟨l0, l1, l2⟩, m0, m1, m2, m3, m4⟩ := hSw
                go_simp
              try simp only [Act.put, List.setIfInBounds_toArray, List.set_cons_zero, List.set_cons_succ]
              refine take_at (i := 3) (v := .int .i64 (k : Int)) rfl rfl (by kernel_rfl) (by kernel_rfl) (by kernel_rfl) (fun _ _ _ h => h) (Or.inl ⟨by rfl, ?_⟩) hst1 ?_
              · intro w' hSw
                obtain ⟨⟨l0, l1, l2⟩, m0, m1, m2, m3, m4⟩ := hSw
                go_simp
              try simp only [Act.put, List.setIfInBounds_toArray, List.set_cons_zero, List.set_cons_succ]
              refine take_at (i := 4) (v := .pointer (some ⟨w.heap.size, k * 5, none⟩)) rfl rfl (by kernel_rfl) (by kernel_rfl) (by kernel_rfl) (fun _ _ _ h => h) (Or.inl ⟨by rfl, ?_⟩) hst1 ?_
              · intro w' hSw
                obtain ⟨⟨l0, l1, l2⟩, m0, m1, m2, m3, m4⟩ := hSw
                go_simp
              try simp only [Act.put, List.setIfInBounds_toArray, List.set_cons_zero, List.set_cons_succ]
              refine take_at (i := 5) (v := .agg #[.int .i64 d.what, .string d.key, .string d.value, .string d.old, .int .i64 d.n]) rfl rfl (by kernel_rfl) (by kernel_rfl) (by kernel_rfl) (fun _ _ _ h => h) (Or.inl ⟨by rfl, ?_⟩) hst1 ?_
              · intro w' hSw
                obtain ⟨⟨l0, l1, l2⟩, m0, m1, m2, m3, m4⟩ := hSw
                go_simp
              try simp only [Act.put, List.setIfInBounds_toArray, List.set_cons_zero, List.set_cons_succ]
              refine wpAnyH_ready (rs := [6, 10]) (by kernel_rfl) (by simp) ?_
              refine AllReadyH.cons (o := _) rfl (fun Kx hKx => ?_) (AllReadyH.cons (o := _) rfl (fun Kx hKx => ?_) AllReadyH.nil)
              · go_simp
                go_at_call 38
                refine (HD.out X1 hbX).mono ?_
                rintro e X6 ⟨a6, c6, v6, rfl, k6, p6, t6, _⟩
                obtain ⟨m6, l6, s6⟩ := did_call (HLW.out X1 hbX) hNB (by omega) (HBK.out X1 hbX) (HM.out X1 hbX) t6
                have hst6 := HST.out X6 l6 m6.cells
                try simp only
                refine hKx.out _ _ hst6 (fun _ => ?_)
                clear hKx Kx
                try simp only [Act.put, List.setIfInBounds_toArray, List.set_cons_zero, List.set_cons_succ]
                refine take_at (i := 7) (v := .tuple #[.agg #[.slice a6 Q2.length c6, .int .u64 K, .int .u64 M], .bool true]) rfl rfl (by kernel_rfl) (by kernel_rfl) (by kernel_rfl) (fun _ _ _ h => h) (Or.inl ⟨by rfl, ?_⟩) hst6 ?_
                · intro w' hSw
                  obtain ⟨⟨l0, l1, l2⟩, m0, m1, m2, m3, m4⟩ := hSw
                  go_simp
                try simp only [Act.put, List.setIfInBounds_toArray, List.set_cons_zero, List.set_cons_succ]
                refine take_at (i := 8) (v := .agg #[.slice a6 Q2.length c6, .int .u64 K, .int .u64 M]) rfl rfl (by kernel_rfl) (by kernel_rfl) (by kernel_rfl) (fun _ _ _ h => h) (Or.inl ⟨by rfl, ?_⟩) hst6 ?_
                · intro w' hSw
                  obtain ⟨⟨l0, l1, l2⟩, m0, m1, m2, m3, m4⟩ := hSw
                  go_simp
                try simp only [Act.put, List.setIfInBounds_toArray, List.set_cons_zero, List.set_cons_succ]
                refine take_at (i := 9) (v := .bool true) rfl rfl (by kernel_rfl) (by kernel_rfl) (by kernel_rfl) (fun _ _ _ h => h) (Or.inl ⟨by rfl, ?_⟩) hst6 ?_
                · intro w' hSw
                  obtain ⟨⟨l0, l1, l2⟩, m0, m1, m2, m3, m4⟩ := hSw
                  go_simp
                try simp only [Act.put, List.setIfInBounds_toArray, List.set_cons_zero, List.set_cons_succ]
                refine wpAnyH_ready (rs := [10]) (by kernel_rfl) (by simp) ?_
                refine AllReadyH.cons (o := _) rfl (fun Kx hKx => ?_) AllReadyH.nil
                go_simp
                have hst7 := HST.out (X6.alloc (.cells #[.slice none 0 0, .int .u64 0, .int .u64 0] 62)) (l6.alloc l6.size _) (m6.below m6.lt ((Below.refl _ _).alloc (Nat.le_refl _) _)).cells
                try simp only
                refine hKx.out _ _ hst7 (fun _ => ?_)
                clear hKx Kx
                try simp only [Act.put, List.setIfInBounds_toArray, List.set_cons_zero, List.set_cons_succ]
                refine wpAnyH_ready (rs := [11]) (by kernel_rfl) (by simp) ?_
                refine AllReadyH.cons (o := _) rfl (fun Kx hKx => ?_) AllReadyH.nil
                go_simp
                have hst8 := HST.out (X6.alloc (.cells #[.slice a6 Q2.length c6, .int .u64 K, .int .u64 M] 62)) (l6.alloc l6.size _) (m6.below m6.lt ((Below.refl _ _).alloc (Nat.le_refl _) _)).cells
                try simp only
                refine hKx.out _ _ hst8 (fun _ => ?_)
                clear hKx Kx
                try simp only [Act.put, List.setIfInBounds_toArray, List.set_cons_zero, List.set_cons_succ]
                refine wpAnyH_ready (rs := [12]) (by kernel_rfl) (by simp) ?_
                refine AllReadyH.cons (o := _) rfl (fun Kx hKx => ?_) AllReadyH.nil
                go_simp
                try simp only
                refine hKx.out _ _ hst8 (fun _ => ?_)
                clear hKx Kx
                try simp only [Act.put, List.setIfInBounds_toArray, List.set_cons_zero, List.set_cons_succ]
                refine wpAnyH_done (by kernel_rfl) ?_ _
                refine NoPanic.normal ?_
                have hdid := did_end1 (L := k) k6 p6 m6 l6 l6.size (by omega)
                clear hst1 hst6 hst7 hst8 k6 p6 m6 l6 t6
                go_wp2_with fail
                go_meet
                case rel => exact hdid
              · go_simp
                obtain ⟨X7, hX7⟩ : ∃ X7, X7 = X1.alloc (.cells #[.slice none 0 0, .int .u64 0, .int .u64 0] 62) := ⟨_, rfl⟩
                have h7 : RefBlk X7 X1.heap.size (.slice none 0 0) (.int .u64 0) (.int .u64 0) := by rw [hX7]; exact RefBlk.new _ _ _ _
                have hb7 : Below wr.heap.size wr X7 := by rw [hX7]; exact hbX.alloc hbX.size _
                have hst7 := HST.out X7 (HLW.out _ hb7) (HM.out _ hb7).cells
                rw [← hX7]
                clear hX7
                have hX7s := hb7.size
                try simp only
                refine hKx.out _ _ hst7 (fun _ => ?_)
                clear hKx Kx
                try simp only [Act.put, List.setIfInBounds_toArray, List.set_cons_zero, List.set_cons_succ]
                refine wpAnyH_ready (rs := [6]) (by kernel_rfl) (by simp) ?_
                refine AllReadyH.cons (o := _) rfl (fun Kx hKx => ?_) AllReadyH.nil
                go_simp
                go_at_call 38
                refine (HD.out X7 hb7).mono ?_
                rintro e X6 ⟨a6, c6, v6, rfl, k6, p6, t6, _⟩
                obtain ⟨m6, l6, s6⟩ := did_call (HLW.out X7 hb7) hNB (by omega) (HBK.out X7 hb7) (HM.out X7 hb7) t6
                have h8 := h7.turned (HBK.out X7 hb7) t6
                have hst6 := HST.out X6 l6 m6.cells
                try simp only
                refine hKx.out _ _ hst6 (fun _ => ?_)
                clear hKx Kx
                try simp only [Act.put, List.setIfInBounds_toArray, List.set_cons_zero, List.set_cons_succ]
                refine take_at (i := 7) (v := .tuple #[.agg #[.slice a6 Q2.length c6, .int .u64 K, .int .u64 M], .bool true]) rfl rfl (by kernel_rfl) (by kernel_rfl) (by kernel_rfl) (fun _ _ _ h => h) (Or.inl ⟨by rfl, ?_⟩) hst6 ?_
                · intro w' hSw
                  obtain ⟨⟨l0, l1, l2⟩, m0, m1, m2, m3, m4⟩ := hSw
                  go_simp
                try simp only [Act.put, List.setIfInBounds_toArray, List.set_cons_zero, List.set_cons_succ]
                refine take_at (i := 8) (v := .agg #[.slice a6 Q2.length c6, .int .u64 K, .int .u64 M]) rfl rfl (by kernel_rfl) (by kernel_rfl) (by kernel_rfl) (fun _ _ _ h => h) (Or.inl ⟨by rfl, ?_⟩) hst6 ?_
                · intro w' hSw
                  obtain ⟨⟨l0, l1, l2⟩, m0, m1, m2, m3, m4⟩ := hSw
                  go_simp
                try simp only [Act.put, List.setIfInBounds_toArray, List.set_cons_zero, List.set_cons_succ]
                refine take_at (i := 9) (v := .bool true) rfl rfl (by kernel_rfl) (by kernel_rfl) (by kernel_rfl) (fun _ _ _ h => h) (Or.inl ⟨by rfl, ?_⟩) hst6 ?_
                · intro w' hSw
                  obtain ⟨⟨l0, l1, l2⟩, m0, m1, m2, m3, m4⟩ := hSw
                  go_simp
                try simp only [Act.put, List.setIfInBounds_toArray, List.set_cons_zero, List.set_cons_succ]
                obtain ⟨⟨y0, y1, y2⟩, yf⟩ := And.intro h8.cells h8.frozen
                have hdid := did_end2 (L := k) k6 p6 m6 l6 h8 (by omega) (by omega) (by omega)
                have hst9 := HST.out (set3 X6 X1.heap.size (.slice a6 Q2.length c6) (.int .u64 K) (.int .u64 M)) (set3_below l6 (by omega) _ _ _) (by
                  have h9 : RefBlk (set3 X6 X1.heap.size (.slice a6 Q2.length c6) (.int .u64 K) (.int .u64 M)) mb (.slice ra ps.length rc) (.int .u64 K) (.int .u64 M) := by
                    unfold RefBlk
                    rw [set3_other _ _ _ _ _ _ (by omega)]
                    exact m6
                  exact h9.cells)
                refine wpAnyH_ready (rs := [11]) (by kernel_rfl) (by simp) ?_
                refine AllReadyH.cons (o := _) rfl (fun Kx hKx => ?_) AllReadyH.nil
                go_simp
                unfold set3 at hst9 hdid
                try simp only
                refine hKx.out _ _ hst9 (fun _ => ?_)
                clear hKx Kx
                try simp only [Act.put, List.setIfInBounds_toArray, List.set_cons_zero, List.set_cons_succ]
                refine wpAnyH_ready (rs := [12]) (by kernel_rfl) (by simp) ?_
                refine AllReadyH.cons (o := _) rfl (fun Kx hKx => ?_) AllReadyH.nil
                go_simp
                try simp only
                refine hKx.out _ _ hst9 (fun _ => ?_)
                clear hKx Kx
                try simp only [Act.put, List.setIfInBounds_toArray, List.set_cons_zero, List.set_cons_succ]
                refine wpAnyH_done (by kernel_rfl) ?_ _
                refine NoPanic.normal ?_
                clear hst1 hst6 hst7 hst9 k6 p6 m6 l6 t6 h7 h8 y0 y1 y2 yf
                go_wp2_with fail
                go_meet
                case rel => exact hdid
            case rest =>
              obtain ⟨X, v2, Q2, ra2, rc2, rfl, rfl, hk2, hq2, hx2, hm2, hp2, hl2⟩ := hcut
              obtain ⟨k9, m9, p9, l9⟩ := did_copy hk2 hm2 hp2 hl2 (Nat.le_trans hNB hBm)
              obtain ⟨⟨n0, n1, n2⟩, ⟨r0, r1, r2⟩, rf⟩ := And.intro hx2.cells (And.intro hm2.cells hm2.frozen)
              obtain ⟨d, d0, d1, d2, d3, d4, z1, z2, z3, z4, z5⟩ := HDS.out w1 (Below.refl _ _) k hk1
              have hkI : (k : Int) < 15 := by omega
              have HK9 := Lib.hid k9
              have HM9 := Lib.hid m9
              have HP9 := Lib.hid p9
              have HL9 := Lib.hid l9
              clear k9 m9 p9 l9 hk2 hx2 hm2 hp2 hl2 d0 d2 d3 d4 HB hrb hpr
              go_upto_region 13 with fail
              rw [show ((wc.setCell ⟨mb, 0, none⟩ (.slice ra2 Q2.length rc2)).setCell ⟨mb, 1, none⟩ (.int .u64 K)).setCell ⟨mb, 2, none⟩ (.int .u64 M) = set3 wc mb (.slice ra2 Q2.length rc2) (.int .u64 K) (.int .u64 M) from rfl]
              clear n0 n1 n2 r0 r1 r2 rf
              generalize set3 wc mb (.slice ra2 Q2.length rc2) (.int .u64 K) (.int .u64 M) = W9 at *
              obtain ⟨e0, e1, e2⟩ := HM9.out.cells
              have e3 := nb_cell HL9.out d1
              have HLK := Lib.hid (fun W (hb : Below W9.heap.size W9 W) => looks_any W (HK9.out.below hb) (by omega) ra2 rc2 (prow_below hb HP9.out) d.key z1)
              have x0 := fun dd os => cell_regrown e0 dd os
              have x1 := fun dd os => cell_regrown e1 dd os
              have x2 := fun dd os => cell_regrown e2 dd os
              have x3 := fun dd os => cell_regrown e3 dd os
              clear d1 e0 e1 e2 e3
              refine wp_region_quiet_below (by kernel_rfl) (by kernel_rfl) ?_
              repeat (go_big_quiet_step (first | (go_at_call 39; exact Calls.regrown_of (HLK.out _ (below_regrown _ _ _)))))
              refine wpQuiet_nil ?_
              intro _ hw'
              obtain ⟨⟨dq, osq⟩, rfl⟩ := hw'
              have hg8 := below_regrown W9 dq osq
              clear x0 x1 x2 x3
              generalize Sort.grow (redrawn W9 dq) osq = w8 at hg8 ⊢
              have HK8 := Lib.hid (HK9.out.below hg8)
              have m8 := HM9.out.below HM9.out.lt hg8
              have p8 := prow_below hg8 HP9.out
              have b8 := HL9.out.trans (hg8.mono HL9.out.size)
              have hml8 := m8.lt
              go_wp2_with fail
              go_roundw
              case rel => exact ⟨k + 1, v2, Q2, ra2, rc2, by omega, by go_num, HK8, hq2, m8, p8, b8, by omega⟩
              case measure => simp [intOf]; omega
          · have ik : decide ((k : Int) < 15) = false := decide_eq_false (by omega)
            go_wp2_with fail
            go_roundw
            case rel => exact ⟨n + 1, by omega, by go_num, hBr2⟩
            case measure => simp [intOf]; omega
      · have i6 : decide ((n : Int) < 65) = false := decide_eq_false (by omega)
        go_wp2_with fail
        go_meet
        case rel => exact hBr
  case rest =>
    have hB0 := hcut
    obtain ⟨K, hKe, hK⟩ : ∃ K : Nat, (18446744073709551615 : Int) = (K : Int) ∧ K < 2 ^ 64 := ⟨18446744073709551615, rfl, by decide⟩
    go_upto_region 16 with fail
    try simp only [hKe]
    clear hKe
    obtain ⟨wL, hwL⟩ : ∃ wL, wL = wc.alloc (.cells #[.int .u64 K, .int .u64 K] 41) := ⟨_, rfl⟩
    have hbL : Below wc.heap.size wc wL := by rw [hwL]; exact (Below.refl _ _).alloc (Nat.le_refl _) _
    have hl0 : wL.heap[wc.heap.size]? = some (.cells #[.int .u64 K, .int .u64 K] 41) := by rw [hwL]; exact World.alloc_heap_new _ _
    have HL := Lib.hid (fun W (hb : Below wL.heap.size wL W) => show W.cell? ⟨wc.heap.size, 0, none⟩ = some (.int .u64 K) ∧ W.cell? ⟨wc.heap.size, 1, none⟩ = some (.int .u64 K) from ⟨nb_cell hb (scell_at hl0 rfl), nb_cell hb (scell_at hl0 rfl)⟩)
    have hB1L := hB0.trans (hbL.mono hB0.size)
    obtain ⟨c1, c2⟩ := HL.out wL (Below.refl _ _)
    rw [← hwL]
    clear hwL hl0 hbL hcut
    go_wp2_with (go_at_call 28; refine (new_any K K _ hK hK).mono ?_; rintro e w4 ⟨b, m, rfl, hbk, hn4⟩; clear c1 c2; obtain ⟨c1, c2⟩ := HL.out _ hn4)
    clear c1 c2
    obtain ⟨w5, hw5⟩ : ∃ w5, w5 = w4.alloc (.cells #[.slice none 0 0, .int .u64 K, .int .u64 K] 62) := ⟨_, rfl⟩
    rw [← hw5]
    have hn45 : Below w4.heap.size w4 w5 := by rw [hw5]; exact (Below.refl _ _).alloc (Nat.le_refl _) _
    have hrb : RefBlk w5 w4.heap.size (.slice none (List.length ([] : PS)) 0) (.int .u64 K) (.int .u64 K) := by rw [hw5]; exact RefBlk.new _ _ _ _
    have hbk5 := Lib.hid (hbk.below hn45)
    have hb5 := hB1L.trans ((hn4.trans (hn45.mono hn4.size)).mono hB1L.size)
    have hp0 : PRow w5 0 (.slice none (List.length ([] : PS)) 0) [] := prow_nil _ _
    have hNB := hB1L.size
    have hBm := hn4.size
    have hm5 := hn45.size
    clear hw5 hbk hn45 hn4 hB1L hB0
    generalize w4.heap.size = mb at *
    generalize wL.heap.size = B at *
    go_loopw [12] (fun i wr3 => ∃ (n : Nat) (v : Value) (ps : PS) (ra : Option Addr) (rc : Nat), n ≤ 27 ∧ i = .int .i64 n ∧ Hid (BookAt wr3 B b m v K K ps) ∧ ps.length ≤ 6 * n ∧ RefBlk wr3 mb (.slice ra ps.length rc) (.int .u64 K) (.int .u64 K) ∧ PRow wr3 0 (.slice ra ps.length rc) ps ∧ Below w1.heap.size w1 wr3 ∧ B ≤ wr3.heap.size) (fun i _ => 27 - (intOf i).toNat)
    case atStart => exact ⟨0, _, [], none, 0, by omega, rfl, hbk5, Nat.zero_le _, hrb, hp0, hb5, by omega⟩
    case round =>
      clear hbk5 hrb hp0 hb5 hm5
      obtain ⟨n, v0, ps0, ra0, rc0, hn, rfl, HB0, hpl0, hrb0, hpr0, hBr0, hszr0⟩ := hrel
      by_cases hn7 : n < 27
      · have i7 : decide ((n : Int) < 27) = true := decide_eq_true (by omega)
        obtain ⟨r1, hr1, hr1b⟩ : ∃ r : Nat, (n : Int).tmod 3 = (r : Int) ∧ r < 3 := ⟨n % 3, by rw [Int.tmod_eq_emod_of_nonneg (by omega)]; omega, by omega⟩
        obtain ⟨r2, hr2, hr2b⟩ : ∃ r : Nat, (n : Int).tdiv 3 = (r : Int) ∧ r < 9 := ⟨n / 3, by rw [Int.tdiv_eq_ediv_of_nonneg (by omega)]; omega, by omega⟩
        obtain ⟨r3, hr3, hr3b⟩ : ∃ r : Nat, (r2 : Int).tmod 3 = (r : Int) ∧ r < 3 := ⟨r2 % 3, by rw [Int.tmod_eq_emod_of_nonneg (by omega)]; omega, by omega⟩
        obtain ⟨r4, hr4, hr4b⟩ : ∃ r : Nat, (n : Int).tdiv 9 = (r : Int) ∧ r < 3 := ⟨n / 9, by rw [Int.tdiv_eq_ediv_of_nonneg (by omega)]; omega, by omega⟩
        obtain ⟨s1, hs1e, hs1b⟩ : ∃ s : Nat, 15 + (r1 : Int) = (s : Int) ∧ s ≤ 17 := ⟨15 + r1, by omega, by omega⟩
        obtain ⟨s3, hs3e, hs3b⟩ : ∃ s : Nat, 31 + (r3 : Int) = (s : Int) ∧ s ≤ 33 := ⟨31 + r3, by omega, by omega⟩
        obtain ⟨s4, hs4e, hs4b⟩ : ∃ s : Nat, 31 + (r4 : Int) = (s : Int) ∧ s ≤ 33 := ⟨31 + r4, by omega, by omega⟩
        have hw1 : IntKind.i64.wrap (s1 : Int) = (s1 : Int) := by rw [IntKind.wrap_i64]; omega
        have hw2 : IntKind.i64.wrap (r2 : Int) = (r2 : Int) := by rw [IntKind.wrap_i64]; omega
        have hw3 : IntKind.i64.wrap (s3 : Int) = (s3 : Int) := by rw [IntKind.wrap_i64]; omega
        have hw4 : IntKind.i64.wrap (s4 : Int) = (s4 : Int) := by rw [IntKind.wrap_i64]; omega
        have hw5 : IntKind.i64.wrap (r4 : Int) = (r4 : Int) := by rw [IntKind.wrap_i64]; omega
        obtain ⟨wo, hwo⟩ : ∃ wo, wo = wr := ⟨_, rfl⟩
        rw [← hwo] at HB0 hrb0 hpr0 hBr0 hszr0 ⊢
        clear hwo
        have HBK0 := Lib.hid (fun W (hb : Below wo.heap.size wo W) => HB0.out.below hb)
        have HM0 := Lib.hid (fun W (hb : Below wo.heap.size wo W) => hrb0.below hrb0.lt hb)
        have HP0 := Lib.hid (fun W (hb : Below wo.heap.size wo W) => prow_below hb hpr0)
        have HLW0 := Lib.hid (fun W (hb : Below wo.heap.size wo W) => hBr0.trans (hb.mono hBr0.size))
        clear HB0 hrb0 hpr0 hBr0
        go_upto_region 21 with fail
        go_cut [13, 14] from 89 to 99 (fun p q W => p = .string (zerosB s1) ∧ q = .string (zerosB s3) ∧ Below wo.heap.size wo W)
        case first =>
          have HMK1 := Lib.hid (fun W => makeB s1 (by omega) W)
          have HMK3 := Lib.hid (fun W => makeB s3 (by omega) W)
          have hbX := (Below.refl wo.heap.size wo).drew
          refine wp_region_noPanic ?_
          refine wp_region_held_drew (S := fun W => Below wo.heap.size wo W) (by kernel_rfl) hbX (fun _ => ?_)
          generalize wo.drew = X1 at hbX ⊢
          refine take_at (i := 0) (v := .int .i64 (n : Int)) rfl rfl (by kernel_rfl) (by kernel_rfl) (by kernel_rfl) (fun _ _ _ h => h) (Or.inl ⟨by rfl, ?_⟩) hbX ?_
          · intro w' hSw
            obtain l0 := hSw
            go_simp
          try simp only [Act.put, List.setIfInBounds_toArray, List.set_cons_zero, List.set_cons_succ]
          refine take_at (i := 1) (v := .int .i64 (r1 : Int)) rfl rfl (by kernel_rfl) (by kernel_rfl) (by kernel_rfl) (fun _ _ _ h => h) (Or.inl ⟨by rfl, ?_⟩) hbX ?_
          · intro w' hSw
            obtain l0 := hSw
            go_simp
          try simp only [Act.put, List.setIfInBounds_toArray, List.set_cons_zero, List.set_cons_succ]
          refine take_at (i := 2) (v := .int .i64 (s1 : Int)) rfl rfl (by kernel_rfl) (by kernel_rfl) (by kernel_rfl) (fun _ _ _ h => h) (Or.inl ⟨by rfl, ?_⟩) hbX ?_
          · intro w' hSw
            obtain l0 := hSw
            go_simp
          try simp only [Act.put, List.setIfInBounds_toArray, List.set_cons_zero, List.set_cons_succ]
          refine take_at (i := 5) (v := .int .i64 (n : Int)) rfl rfl (by kernel_rfl) (by kernel_rfl) (by kernel_rfl) (fun _ _ _ h => h) (Or.inl ⟨by rfl, ?_⟩) hbX ?_
          · intro w' hSw
            obtain l0 := hSw
            go_simp
          try simp only [Act.put, List.setIfInBounds_toArray, List.set_cons_zero, List.set_cons_succ]
          refine take_at (i := 6) (v := .int .i64 (r2 : Int)) rfl rfl (by kernel_rfl) (by kernel_rfl) (by kernel_rfl) (fun _ _ _ h => h) (Or.inl ⟨by rfl, ?_⟩) hbX ?_
          · intro w' hSw
            obtain l0 := hSw
            go_simp
          try simp only [Act.put, List.setIfInBounds_toArray, List.set_cons_zero, List.set_cons_succ]
          refine take_at (i := 7) (v := .int .i64 (r3 : Int)) rfl rfl (by kernel_rfl) (by kernel_rfl) (by kernel_rfl) (fun _ _ _ h => h) (Or.inl ⟨by rfl, ?_⟩) hbX ?_
          · intro w' hSw
            obtain l0 := hSw
            go_simp
          try simp only [Act.put, List.setIfInBounds_toArray, List.set_cons_zero, List.set_cons_succ]
          refine take_at (i := 8) (v := .int .i64 (s3 : Int)) rfl rfl (by kernel_rfl) (by kernel_rfl) (by kernel_rfl) (fun _ _ _ h => h) (Or.inl ⟨by rfl, ?_⟩) hbX ?_
          · intro w' hSw
            obtain l0 := hSw
            go_simp
          try simp only [Act.put, List.setIfInBounds_toArray, List.set_cons_zero, List.set_cons_succ]
          clear hr1 hr2 hr3 hr4 hs1e hs3e hs4e
          refine wpAnyH_ready (rs := [3, 9]) (by kernel_rfl) (by simp) ?_
          refine AllReadyH.cons (o := _) rfl (fun Kx hKx => ?_) (AllReadyH.cons (o := _) rfl (fun Kx hKx => ?_) AllReadyH.nil)
          · skip
            obtain ⟨cu, hmk, bt1⟩ := HMK1.out X1
            go_simp
            obtain ⟨X2, hY⟩ : ∃ Y, Y = X1.alloc (.cells cu 5) := ⟨_, rfl⟩
            rw [← hY] at bt1 ⊢
            have hb2 : Below wo.heap.size wo X2 := by rw [hY]; exact hbX.alloc hbX.size _
            have hXY : Below X1.heap.size X1 X2 := by rw [hY]; exact (Below.refl _ _).alloc (Nat.le_refl _) _
            clear hY hmk
            try simp only
            refine hKx.out _ _ hb2 (fun _ => ?_)
            clear hKx Kx
            try simp only [Act.put, List.setIfInBounds_toArray, List.set_cons_zero, List.set_cons_succ]
            refine wpAnyH_ready (rs := [4, 9]) (by kernel_rfl) (by simp) ?_
            refine AllReadyH.cons (o := _) rfl (fun Kx hKx => ?_) (AllReadyH.cons (o := _) rfl (fun Kx hKx => ?_) AllReadyH.nil)
            · skip
              have hcv := bytesAt_conv bt1
              go_simp
              try simp only
              refine hKx.out _ _ hb2 (fun _ => ?_)
              clear hKx Kx
              try simp only [Act.put, List.setIfInBounds_toArray, List.set_cons_zero, List.set_cons_succ]
              clear hcv
              refine take_at (i := 11) (v := .string (zerosB s1)) rfl rfl (by kernel_rfl) (by kernel_rfl) (by kernel_rfl) (fun _ _ _ h => h) (Or.inl ⟨by rfl, ?_⟩) hb2 ?_
              · intro w' hSw
                obtain l0 := hSw
                go_simp
              try simp only [Act.put, List.setIfInBounds_toArray, List.set_cons_zero, List.set_cons_succ]
              refine wpAnyH_ready (rs := [9]) (by kernel_rfl) (by simp) ?_
              refine AllReadyH.cons (o := _) rfl (fun Kx hKx => ?_) AllReadyH.nil
              obtain ⟨cu, hmk, bt3⟩ := HMK3.out X2
              go_simp
              obtain ⟨X3, hY⟩ : ∃ Y, Y = X2.alloc (.cells cu 5) := ⟨_, rfl⟩
              rw [← hY] at bt3 ⊢
              have hb3 : Below wo.heap.size wo X3 := by rw [hY]; exact hb2.alloc hb2.size _
              have hXY : Below X2.heap.size X2 X3 := by rw [hY]; exact (Below.refl _ _).alloc (Nat.le_refl _) _
              clear hY hmk
              try simp only
              refine hKx.out _ _ hb3 (fun _ => ?_)
              clear hKx Kx
              try simp only [Act.put, List.setIfInBounds_toArray, List.set_cons_zero, List.set_cons_succ]
              refine wpAnyH_ready (rs := [10]) (by kernel_rfl) (by simp) ?_
              refine AllReadyH.cons (o := _) rfl (fun Kx hKx => ?_) AllReadyH.nil
              have hcv := bytesAt_conv bt3
              go_simp
              try simp only
              refine hKx.out _ _ hb3 (fun _ => ?_)
              clear hKx Kx
              try simp only [Act.put, List.setIfInBounds_toArray, List.set_cons_zero, List.set_cons_succ]
              clear hcv
              refine wpAnyH_ready (rs := [12]) (by kernel_rfl) (by simp) ?_
              refine AllReadyH.cons (o := _) rfl (fun Kx hKx => ?_) AllReadyH.nil
              go_simp
              try simp only
              refine hKx.out _ _ hb3 (fun _ => ?_)
              clear hKx Kx
              try simp only [Act.put, List.setIfInBounds_toArray, List.set_cons_zero, List.set_cons_succ]
              refine wpAnyH_done (by kernel_rfl) ?_ _
              refine NoPanic.normal ?_
              go_wp2_with fail
              go_meet
              case rel => exact ⟨rfl, rfl, hb3⟩
            · skip
              obtain ⟨cu, hmk, bt3⟩ := HMK3.out X2
              go_simp
              obtain ⟨X3, hY⟩ : ∃ Y, Y = X2.alloc (.cells cu 5) := ⟨_, rfl⟩
              rw [← hY] at bt3 ⊢
              have hb3 : Below wo.heap.size wo X3 := by rw [hY]; exact hb2.alloc hb2.size _
              have hXY : Below X2.heap.size X2 X3 := by rw [hY]; exact (Below.refl _ _).alloc (Nat.le_refl _) _
              clear hY hmk
              try simp only
              refine hKx.out _ _ hb3 (fun _ => ?_)
              clear hKx Kx
              try simp only [Act.put, List.setIfInBounds_toArray, List.set_cons_zero, List.set_cons_succ]
              have bt1' := bytesAt_below bt1 hXY
              refine wpAnyH_ready (rs := [4, 10]) (by kernel_rfl) (by simp) ?_
              refine AllReadyH.cons (o := _) rfl (fun Kx hKx => ?_) (AllReadyH.cons (o := _) rfl (fun Kx hKx => ?_) AllReadyH.nil)
              · skip
                have hcv := bytesAt_conv bt1'
                go_simp
                try simp only
                refine hKx.out _ _ hb3 (fun _ => ?_)
                clear hKx Kx
                try simp only [Act.put, List.setIfInBounds_toArray, List.set_cons_zero, List.set_cons_succ]
                clear hcv
                refine take_at (i := 11) (v := .string (zerosB s1)) rfl rfl (by kernel_rfl) (by kernel_rfl) (by kernel_rfl) (fun _ _ _ h => h) (Or.inl ⟨by rfl, ?_⟩) hb3 ?_
                · intro w' hSw
                  obtain l0 := hSw
                  go_simp
                try simp only [Act.put, List.setIfInBounds_toArray, List.set_cons_zero, List.set_cons_succ]
                refine wpAnyH_ready (rs := [10]) (by kernel_rfl) (by simp) ?_
                refine AllReadyH.cons (o := _) rfl (fun Kx hKx => ?_) AllReadyH.nil
                have hcv := bytesAt_conv bt3
                go_simp
                try simp only
                refine hKx.out _ _ hb3 (fun _ => ?_)
                clear hKx Kx
                try simp only [Act.put, List.setIfInBounds_toArray, List.set_cons_zero, List.set_cons_succ]
                clear hcv
                refine wpAnyH_ready (rs := [12]) (by kernel_rfl) (by simp) ?_
                refine AllReadyH.cons (o := _) rfl (fun Kx hKx => ?_) AllReadyH.nil
                go_simp
                try simp only
                refine hKx.out _ _ hb3 (fun _ => ?_)
                clear hKx Kx
                try simp only [Act.put, List.setIfInBounds_toArray, List.set_cons_zero, List.set_cons_succ]
                refine wpAnyH_done (by kernel_rfl) ?_ _
                refine NoPanic.normal ?_
                go_wp2_with fail
                go_meet
                case rel => exact ⟨rfl, rfl, hb3⟩
              · skip
                have hcv := bytesAt_conv bt3
                go_simp
                try simp only
                refine hKx.out _ _ hb3 (fun _ => ?_)
                clear hKx Kx
                try simp only [Act.put, List.setIfInBounds_toArray, List.set_cons_zero, List.set_cons_succ]
                clear hcv
                refine wpAnyH_ready (rs := [4]) (by kernel_rfl) (by simp) ?_
                refine AllReadyH.cons (o := _) rfl (fun Kx hKx => ?_) AllReadyH.nil
                have hcv := bytesAt_conv bt1'
                go_simp
                try simp only
                refine hKx.out _ _ hb3 (fun _ => ?_)
                clear hKx Kx
                try simp only [Act.put, List.setIfInBounds_toArray, List.set_cons_zero, List.set_cons_succ]
                clear hcv
                refine take_at (i := 11) (v := .string (zerosB s1)) rfl rfl (by kernel_rfl) (by kernel_rfl) (by kernel_rfl) (fun _ _ _ h => h) (Or.inl ⟨by rfl, ?_⟩) hb3 ?_
                · intro w' hSw
                  obtain l0 := hSw
                  go_simp
                try simp only [Act.put, List.setIfInBounds_toArray, List.set_cons_zero, List.set_cons_succ]
                refine wpAnyH_ready (rs := [12]) (by kernel_rfl) (by simp) ?_
                refine AllReadyH.cons (o := _) rfl (fun Kx hKx => ?_) AllReadyH.nil
                go_simp
                try simp only
                refine hKx.out _ _ hb3 (fun _ => ?_)
                clear hKx Kx
                try simp only [Act.put, List.setIfInBounds_toArray, List.set_cons_zero, List.set_cons_succ]
                refine wpAnyH_done (by kernel_rfl) ?_ _
                refine NoPanic.normal ?_
                go_wp2_with fail
                go_meet
                case rel => exact ⟨rfl, rfl, hb3⟩
          · skip
            obtain ⟨cu, hmk, bt3⟩ := HMK3.out X1
            go_simp
            obtain ⟨X2, hY⟩ : ∃ Y, Y = X1.alloc (.cells cu 5) := ⟨_, rfl⟩
            rw [← hY] at bt3 ⊢
            have hb2 : Below wo.heap.size wo X2 := by rw [hY]; exact hbX.alloc hbX.size _
            have hXY : Below X1.heap.size X1 X2 := by rw [hY]; exact (Below.refl _ _).alloc (Nat.le_refl _) _
            clear hY hmk
            try simp only
            refine hKx.out _ _ hb2 (fun _ => ?_)
            clear hKx Kx
            try simp only [Act.put, List.setIfInBounds_toArray, List.set_cons_zero, List.set_cons_succ]
            refine wpAnyH_ready (rs := [3, 10]) (by kernel_rfl) (by simp) ?_
            refine AllReadyH.cons (o := _) rfl (fun Kx hKx => ?_) (AllReadyH.cons (o := _) rfl (fun Kx hKx => ?_) AllReadyH.nil)
            · skip
              obtain ⟨cu, hmk, bt1⟩ := HMK1.out X2
              go_simp
              obtain ⟨X3, hY⟩ : ∃ Y, Y = X2.alloc (.cells cu 5) := ⟨_, rfl⟩
              rw [← hY] at bt1 ⊢
              have hb3 : Below wo.heap.size wo X3 := by rw [hY]; exact hb2.alloc hb2.size _
              have hXY : Below X2.heap.size X2 X3 := by rw [hY]; exact (Below.refl _ _).alloc (Nat.le_refl _) _
              clear hY hmk
              try simp only
              refine hKx.out _ _ hb3 (fun _ => ?_)
              clear hKx Kx
              try simp only [Act.put, List.setIfInBounds_toArray, List.set_cons_zero, List.set_cons_succ]
              have bt3' := bytesAt_below bt3 hXY
              refine wpAnyH_ready (rs := [4, 10]) (by kernel_rfl) (by simp) ?_
              refine AllReadyH.cons (o := _) rfl (fun Kx hKx => ?_) (AllReadyH.cons (o := _) rfl (fun Kx hKx => ?_) AllReadyH.nil)
              · skip
                have hcv := bytesAt_conv bt1
                go_simp
                try simp only
                refine hKx.out _ _ hb3 (fun _ => ?_)
                clear hKx Kx
                try simp only [Act.put, List.setIfInBounds_toArray, List.set_cons_zero, List.set_cons_succ]
                clear hcv
                refine take_at (i := 11) (v := .string (zerosB s1)) rfl rfl (by kernel_rfl) (by kernel_rfl) (by kernel_rfl) (fun _ _ _ h => h) (Or.inl ⟨by rfl, ?_⟩) hb3 ?_
                · intro w' hSw
                  obtain l0 := hSw
                  go_simp
                try simp only [Act.put, List.setIfInBounds_toArray, List.set_cons_zero, List.set_cons_succ]
                refine wpAnyH_ready (rs := [10]) (by kernel_rfl) (by simp) ?_
                refine AllReadyH.cons (o := _) rfl (fun Kx hKx => ?_) AllReadyH.nil
                have hcv := bytesAt_conv bt3'
                go_simp
                try simp only
                refine hKx.out _ _ hb3 (fun _ => ?_)
                clear hKx Kx
                try simp only [Act.put, List.setIfInBounds_toArray, List.set_cons_zero, List.set_cons_succ]
                clear hcv
                refine wpAnyH_ready (rs := [12]) (by kernel_rfl) (by simp) ?_
                refine AllReadyH.cons (o := _) rfl (fun Kx hKx => ?_) AllReadyH.nil
                go_simp
                try simp only
                refine hKx.out _ _ hb3 (fun _ => ?_)
                clear hKx Kx
                try simp only [Act.put, List.setIfInBounds_toArray, List.set_cons_zero, List.set_cons_succ]
                refine wpAnyH_done (by kernel_rfl) ?_ _
                refine NoPanic.normal ?_
                go_wp2_with fail
                go_meet
                case rel => exact ⟨rfl, rfl, hb3⟩
              · skip
                have hcv := bytesAt_conv bt3'
                go_simp
                try simp only
                refine hKx.out _ _ hb3 (fun _ => ?_)
                clear hKx Kx
                try simp only [Act.put, List.setIfInBounds_toArray, List.set_cons_zero, List.set_cons_succ]
                clear hcv
                refine wpAnyH_ready (rs := [4]) (by kernel_rfl) (by simp) ?_
                refine AllReadyH.cons (o := _) rfl (fun Kx hKx => ?_) AllReadyH.nil
                have hcv := bytesAt_conv bt1
                go_simp
                try simp only
                refine hKx.out _ _ hb3 (fun _ => ?_)
                clear hKx Kx
                try simp only [Act.put, List.setIfInBounds_toArray, List.set_cons_zero, List.set_cons_succ]
                clear hcv
                refine take_at (i := 11) (v := .string (zerosB s1)) rfl rfl (by kernel_rfl) (by kernel_rfl) (by kernel_rfl) (fun _ _ _ h => h) (Or.inl ⟨by rfl, ?_⟩) hb3 ?_
                · intro w' hSw
                  obtain l0 := hSw
                  go_simp
                try simp only [Act.put, List.setIfInBounds_toArray, List.set_cons_zero, List.set_cons_succ]
                refine wpAnyH_ready (rs := [12]) (by kernel_rfl) (by simp) ?_
                refine AllReadyH.cons (o := _) rfl (fun Kx hKx => ?_) AllReadyH.nil
                go_simp
                try simp only
                refine hKx.out _ _ hb3 (fun _ => ?_)
                clear hKx Kx
                try simp only [Act.put, List.setIfInBounds_toArray, List.set_cons_zero, List.set_cons_succ]
                refine wpAnyH_done (by kernel_rfl) ?_ _
                refine NoPanic.normal ?_
                go_wp2_with fail
                go_meet
                case rel => exact ⟨rfl, rfl, hb3⟩
            · skip
              have hcv := bytesAt_conv bt3
              go_simp
              try simp only
              refine hKx.out _ _ hb2 (fun _ => ?_)
              clear hKx Kx
              try simp only [Act.put, List.setIfInBounds_toArray, List.set_cons_zero, List.set_cons_succ]
              clear hcv
              refine wpAnyH_ready (rs := [3]) (by kernel_rfl) (by simp) ?_
              refine AllReadyH.cons (o := _) rfl (fun Kx hKx => ?_) AllReadyH.nil
              obtain ⟨cu, hmk, bt1⟩ := HMK1.out X2
              go_simp
              obtain ⟨X3, hY⟩ : ∃ Y, Y = X2.alloc (.cells cu 5) := ⟨_, rfl⟩
              rw [← hY] at bt1 ⊢
              have hb3 : Below wo.heap.size wo X3 := by rw [hY]; exact hb2.alloc hb2.size _
              have hXY : Below X2.heap.size X2 X3 := by rw [hY]; exact (Below.refl _ _).alloc (Nat.le_refl _) _
              clear hY hmk
              try simp only
              refine hKx.out _ _ hb3 (fun _ => ?_)
              clear hKx Kx
              try simp only [Act.put, List.setIfInBounds_toArray, List.set_cons_zero, List.set_cons_succ]
              refine wpAnyH_ready (rs := [4]) (by kernel_rfl) (by simp) ?_
              refine AllReadyH.cons (o := _) rfl (fun Kx hKx => ?_) AllReadyH.nil
              have hcv := bytesAt_conv bt1
              go_simp
              try simp only
              refine hKx.out _ _ hb3 (fun _ => ?_)
              clear hKx Kx
              try simp only [Act.put, List.setIfInBounds_toArray, List.set_cons_zero, List.set_cons_succ]
              clear hcv
              refine take_at (i := 11) (v := .string (zerosB s1)) rfl rfl (by kernel_rfl) (by kernel_rfl) (by kernel_rfl) (fun _ _ _ h => h) (Or.inl ⟨by rfl, ?_⟩) hb3 ?_
              · intro w' hSw
                obtain l0 := hSw
                go_simp
              try simp only [Act.put, List.setIfInBounds_toArray, List.set_cons_zero, List.set_cons_succ]
              refine wpAnyH_ready (rs := [12]) (by kernel_rfl) (by simp) ?_
              refine AllReadyH.cons (o := _) rfl (fun Kx hKx => ?_) AllReadyH.nil
              go_simp
              try simp only
              refine hKx.out _ _ hb3 (fun _ => ?_)
              clear hKx Kx
              try simp only [Act.put, List.setIfInBounds_toArray, List.set_cons_zero, List.set_cons_succ]
              refine wpAnyH_done (by kernel_rfl) ?_ _
              refine NoPanic.normal ?_
              go_wp2_with fail
              go_meet
              case rel => exact ⟨rfl, rfl, hb3⟩
        case rest =>
          obtain ⟨rfl, rfl, hb21⟩ := hcut
          have hz1 : (zerosB s1).size ≤ 1000 := by rw [zerosB_size]; omega
          have hz3 : (zerosB s3).size ≤ 1000 := by rw [zerosB_size]; omega
          have hz4 : (zerosB s4).size ≤ 1000 := by rw [zerosB_size]; omega
          obtain ⟨cu4, hmk4, hbt4⟩ := makeB s4 (by omega) wc
          have hcv4 := bytesAt_conv hbt4
          clear hbt4 hr1 hr2 hr3 hs1e hs3e hw1 hw2 hw3
          generalize zerosB s1 = zk at *
          generalize zerosB s3 = zv at *
          generalize zerosB s4 = zo at *
          have hb22 : Below wo.heap.size wo (wc.alloc (.cells cu4 5)) := hb21.alloc hb21.size _
          go_wp2_with fail
          clear hmk4 hcv4 hr4 hs4e hw4 hw5
          generalize wc.alloc (.cells cu4 5) = wq at hb22 ⊢
          have hB0 := Lib.hid (HBK0.out _ hb22)
          have hm0 := HM0.out _ hb22
          have hp0 := HP0.out _ hb22
          have hl0 := HLW0.out _ hb22
          have hsq := hb22.size
          clear HBK0 HM0 HP0 HLW0 hb22 hb21
          go_loopw [16] (fun i wr4 => ∃ (k : Nat) (v : Value) (ps : PS) (ra : Option Addr) (rc : Nat), k ≤ 6 ∧ i = .int .i64 k ∧ Hid (BookAt wr4 B b m v K K ps) ∧ ps.length ≤ 6 * n + k ∧ RefBlk wr4 mb (.slice ra ps.length rc) (.int .u64 K) (.int .u64 K) ∧ PRow wr4 0 (.slice ra ps.length rc) ps ∧ Below w1.heap.size w1 wr4 ∧ B ≤ wr4.heap.size) (fun i _ => 6 - (intOf i).toNat)
          case atStart => exact ⟨0, v0, ps0, ra0, rc0, by omega, rfl, hB0, by omega, hm0, hp0, hl0, by omega⟩
          case round =>
            clear hB0 hm0 hp0 hl0 hsq hpl0
            obtain ⟨k, v, ps, ra, rc, hk, rfl, HB, hpl, hrb, hpr, hBr2, hszr⟩ := hrel
            by_cases hk1 : k < 6
            · have ik : decide ((k : Int) < 6) = true := decide_eq_true (by omega)
              go_upto_region 26 with fail
              go_cut [17, 18] from 105 to 136 (fun p ok W => Did B b m mb K K (6 * n + k) w1.heap.size w1 (.slice ra ps.length rc) (.int .u64 K) (.int .u64 K) p ok W)
              case first =>
                obtain ⟨r, hr, hr7⟩ : ∃ r : Nat, ((n : Int) + (k : Int)).tmod 7 = (r : Int) ∧ r < 7 := ⟨(n + k) % 7, by rw [Int.tmod_eq_emod_of_nonneg (by omega)]; omega, by omega⟩
                have hsum : (n : Int) + (k : Int) ≤ 33 := by omega
                have hsum0 : 0 ≤ (n : Int) + (k : Int) := by omega
                have hws : IntKind.i64.wrap ((n : Int) + (k : Int)) = (n : Int) + (k : Int) := by rw [IntKind.wrap_i64]; omega
                have hrI : (r : Int) < 7 := by omega
                have HNM := Lib.hid (fun W => nums7 W hr7)
                have HBK := Lib.hid (fun W (hb : Below wr.heap.size wr W) => HB.out.below hb)
                have HM := Lib.hid (fun W (hb : Below wr.heap.size wr W) => hrb.below hrb.lt hb)
                have HLW := Lib.hid (fun W (hb : Below wr.heap.size wr W) => hBr2.trans (hb.mono hBr2.size))
                have HD := Lib.hid (fun (x : Int) (hx1 : -9223372036854775808 ≤ x) (hx2 : x ≤ 9223372036854775807) W (hb : Below wr.heap.size wr W) => does_any W (HBK.out W hb) (by omega) (by have := hb.size; omega) ra rc (prow_below hb hpr) ⟨(k : Int), zk, zv, zo, x⟩ hz1 hz3 hz4 hx1 hx2)
                unfold deedV DoesPost at HD
                dsimp only at HD
                have HQL := Lib.hid (fun x => actQ_len (K := K) (M := K) HB.out.sorted ⟨(k : Int), zk, zv, zo, x⟩)
                have hmlt := hrb.lt
                have hbX := (Below.refl wr.heap.size wr).drew
                have hst1 := (HM.out _ hbX).cells
                clear hrb hpr
                refine wp_region_noPanic ?_
                refine wp_region_held_drew (S := fun W => W.cell? ⟨mb, 0, none⟩ = some (.slice ra ps.length rc) ∧ W.cell? ⟨mb, 1, none⟩ = some (.int .u64 K) ∧ W.cell? ⟨mb, 2, none⟩ = some (.int .u64 K)) (by kernel_rfl) hst1 (fun _ => ?_)
                generalize wr.drew = X1 at hbX hst1 ⊢
                have hX1s := hbX.size
                refine take_at (i := 0) (v := .pointer (some ⟨b, 0, none⟩)) rfl rfl (by kernel_rfl) (by kernel_rfl) (by kernel_rfl) (fun _ _ _ h => h) (Or.inl ⟨by rfl, ?_⟩) hst1 ?_
                · intro w' hSw
                  obtain ⟨l0, l1, l2⟩ := hSw
                  go_simp
                try simp only [Act.put, List.setIfInBounds_toArray, List.set_cons_zero, List.set_cons_succ]
                refine take_at (i := 1) (v := .agg #[.slice ra ps.length rc, .int .u64 K, .int .u64 K]) rfl rfl (by kernel_rfl) (by kernel_rfl) (by kernel_rfl) (fun _ _ _ h => h) (Or.inl ⟨by rfl, ?_⟩) hst1 ?_
                · intro w' hSw
                  obtain ⟨l0, l1, l2⟩ := hSw
                  go_simp
                try simp only [Act.put, List.setIfInBounds_toArray, List.set_cons_zero, List.set_cons_succ]
                refine take_at (i := 2) (v := .int .i64 (k : Int)) rfl rfl (by kernel_rfl) (by kernel_rfl) (by kernel_rfl) (fun _ _ _ h => h) (Or.inl ⟨by rfl, ?_⟩) hst1 ?_
                · intro w' hSw
                  obtain ⟨l0, l1, l2⟩ := hSw
                  go_simp
                try simp only [Act.put, List.setIfInBounds_toArray, List.set_cons_zero, List.set_cons_succ]
                refine take_at (i := 3) (v := .string zk) rfl rfl (by kernel_rfl) (by kernel_rfl) (by kernel_rfl) (fun _ _ _ h => h) (Or.inl ⟨by rfl, ?_⟩) hst1 ?_
                · intro w' hSw
                  obtain ⟨l0, l1, l2⟩ := hSw
                  go_simp
                try simp only [Act.put, List.setIfInBounds_toArray, List.set_cons_zero, List.set_cons_succ]
                refine take_at (i := 4) (v := .string zv) rfl rfl (by kernel_rfl) (by kernel_rfl) (by kernel_rfl) (fun _ _ _ h => h) (Or.inl ⟨by rfl, ?_⟩) hst1 ?_
                · intro w' hSw
                  obtain ⟨l0, l1, l2⟩ := hSw
                  go_simp
                try simp only [Act.put, List.setIfInBounds_toArray, List.set_cons_zero, List.set_cons_succ]
                refine take_at (i := 5) (v := .string zo) rfl rfl (by kernel_rfl) (by kernel_rfl) (by kernel_rfl) (fun _ _ _ h => h) (Or.inl ⟨by rfl, ?_⟩) hst1 ?_
                · intro w' hSw
                  obtain ⟨l0, l1, l2⟩ := hSw
                  go_simp
                try simp only [Act.put, List.setIfInBounds_toArray, List.set_cons_zero, List.set_cons_succ]
                refine take_at (i := 7) (v := .int .i64 (n : Int)) rfl rfl (by kernel_rfl) (by kernel_rfl) (by kernel_rfl) (fun _ _ _ h => h) (Or.inl ⟨by rfl, ?_⟩) hst1 ?_
                · intro w' hSw
                  obtain ⟨l0, l1, l2⟩ := hSw
                  go_simp
                try simp only [Act.put, List.setIfInBounds_toArray, List.set_cons_zero, List.set_cons_succ]
                refine take_at (i := 8) (v := .int .i64 (k : Int)) rfl rfl (by kernel_rfl) (by kernel_rfl) (by kernel_rfl) (fun _ _ _ h => h) (Or.inl ⟨by rfl, ?_⟩) hst1 ?_
                · intro w' hSw
                  obtain ⟨l0, l1, l2⟩ := hSw
                  go_simp
                try simp only [Act.put, List.setIfInBounds_toArray, List.set_cons_zero, List.set_cons_succ]
                refine take_at (i := 9) (v := .int .i64 ((n : Int) + (k : Int))) rfl rfl (by kernel_rfl) (by kernel_rfl) (by kernel_rfl) (fun _ _ _ h => h) (Or.inl ⟨by rfl, ?_⟩) hst1 ?_
                · intro w' hSw
                  obtain ⟨l0, l1, l2⟩ := hSw
                  go_simp
                try simp only [Act.put, List.setIfInBounds_toArray, List.set_cons_zero, List.set_cons_succ]
                refine take_at (i := 10) (v := .int .i64 (r : Int)) rfl rfl (by kernel_rfl) (by kernel_rfl) (by kernel_rfl) (fun _ _ _ h => h) (Or.inl ⟨by rfl, ?_⟩) hst1 ?_
                · intro w' hSw
                  obtain ⟨l0, l1, l2⟩ := hSw
                  go_simp
                try simp only [Act.put, List.setIfInBounds_toArray, List.set_cons_zero, List.set_cons_succ]
                clear hr hws
                refine wpAnyH_ready (rs := [6, 18]) (by kernel_rfl) (by simp) ?_
                refine AllReadyH.cons (o := _) rfl (fun Kx hKx => ?_) (AllReadyH.cons (o := _) rfl (fun Kx hKx => ?_) AllReadyH.nil)
                · skip
                  obtain ⟨x, hxc, hx1, hx2⟩ := HNM.out X1
                  go_simp
                  obtain ⟨X2, hY⟩ : ∃ Y, Y = X1.alloc (.cells #[Value.int .i64 (-1), Value.int .i64 0, Value.int .i64 1, Value.int .i64 4096, Value.int .i64 4097, Value.int .i64 9223372036854775807, Value.int .i64 (-9223372036854775808)] 3) := ⟨_, rfl⟩
                  have c2 : X2.cell? ⟨X1.heap.size, r, none⟩ = some (.int .i64 x) := by rw [hY]; exact hxc
                  have hb2 : Below wr.heap.size wr X2 := by rw [hY]; exact hbX.alloc hbX.size _
                  have hXY : Below X1.heap.size X1 X2 := by rw [hY]; exact (Below.refl _ _).alloc (Nat.le_refl _) _
                  rw [← hY]
                  clear hY hxc
                  have hst2 := (HM.out X2 hb2).cells
                  try simp only
                  refine hKx.out _ _ hst2 (fun _ => ?_)
                  clear hKx Kx
                  try simp only [Act.put, List.setIfInBounds_toArray, List.set_cons_zero, List.set_cons_succ]
                  refine take_at (i := 11) (v := .pointer (some ⟨X1.heap.size, r, none⟩)) rfl rfl (by kernel_rfl) (by kernel_rfl) (by kernel_rfl) (fun _ _ _ h => h) (Or.inl ⟨by rfl, ?_⟩) hst2 ?_
                  · intro w' hSw
                    obtain ⟨l0, l1, l2⟩ := hSw
                    go_simp
                  try simp only [Act.put, List.setIfInBounds_toArray, List.set_cons_zero, List.set_cons_succ]
                  refine wpAnyH_ready (rs := [12, 18]) (by kernel_rfl) (by simp) ?_
                  refine AllReadyH.cons (o := _) rfl (fun Kx hKx => ?_) (AllReadyH.cons (o := _) rfl (fun Kx hKx => ?_) AllReadyH.nil)
                  · go_simp
                    try simp only
                    refine hKx.out _ _ hst2 (fun _ => ?_)
                    clear hKx Kx
                    try simp only [Act.put, List.setIfInBounds_toArray, List.set_cons_zero, List.set_cons_succ]
                    refine take_at (i := 13) (v := .agg #[.int .i64 (k : Int), .string zk, .string zv, .string zo, .int .i64 x]) rfl rfl (by kernel_rfl) (by kernel_rfl) (by kernel_rfl) (fun _ _ _ h => h) (Or.inl ⟨by rfl, ?_⟩) hst2 ?_
                    · intro w' hSw
                      obtain ⟨l0, l1, l2⟩ := hSw
                      go_simp
                    try simp only [Act.put, List.setIfInBounds_toArray, List.set_cons_zero, List.set_cons_succ]
                    refine wpAnyH_ready (rs := [14, 18]) (by kernel_rfl) (by simp) ?_
                    refine AllReadyH.cons (o := _) rfl (fun Kx hKx => ?_) (AllReadyH.cons (o := _) rfl (fun Kx hKx => ?_) AllReadyH.nil)
                    · skip
                      have hDx := Lib.hid (HD.out x hx1 hx2 X2 hb2)
                      have hql := HQL.out x
                      generalize actQ K K ps ⟨(k : Int), zk, zv, zo, x⟩ = Q2 at hDx hql
                      go_simp
                      go_at_call 38
                      refine hDx.out.mono ?_
                      rintro e X6 ⟨a6, c6, v6, rfl, k6, p6, t6, _⟩
                      obtain ⟨m6, l6, s6⟩ := did_call (HLW.out X2 hb2) hNB (by have := hb2.size; omega) (HBK.out X2 hb2) (HM.out X2 hb2) t6
                      have hst6 := m6.cells
                      try simp only
                      refine hKx.out _ _ hst6 (fun _ => ?_)
                      clear hKx Kx
                      try simp only [Act.put, List.setIfInBounds_toArray, List.set_cons_zero, List.set_cons_succ]
                      refine take_at (i := 15) (v := .tuple #[.agg #[.slice a6 Q2.length c6, .int .u64 K, .int .u64 K], .bool true]) rfl rfl (by kernel_rfl) (by kernel_rfl) (by kernel_rfl) (fun _ _ _ h => h) (Or.inl ⟨by rfl, ?_⟩) hst6 ?_
                      · intro w' hSw
                        obtain ⟨l0, l1, l2⟩ := hSw
                        go_simp
                      try simp only [Act.put, List.setIfInBounds_toArray, List.set_cons_zero, List.set_cons_succ]
                      refine take_at (i := 16) (v := .agg #[.slice a6 Q2.length c6, .int .u64 K, .int .u64 K]) rfl rfl (by kernel_rfl) (by kernel_rfl) (by kernel_rfl) (fun _ _ _ h => h) (Or.inl ⟨by rfl, ?_⟩) hst6 ?_
                      · intro w' hSw
                        obtain ⟨l0, l1, l2⟩ := hSw
                        go_simp
                      try simp only [Act.put, List.setIfInBounds_toArray, List.set_cons_zero, List.set_cons_succ]
                      refine take_at (i := 17) (v := .bool true) rfl rfl (by kernel_rfl) (by kernel_rfl) (by kernel_rfl) (fun _ _ _ h => h) (Or.inl ⟨by rfl, ?_⟩) hst6 ?_
                      · intro w' hSw
                        obtain ⟨l0, l1, l2⟩ := hSw
                        go_simp
                      try simp only [Act.put, List.setIfInBounds_toArray, List.set_cons_zero, List.set_cons_succ]
                      refine wpAnyH_ready (rs := [18]) (by kernel_rfl) (by simp) ?_
                      refine AllReadyH.cons (o := _) rfl (fun Kx hKx => ?_) AllReadyH.nil
                      go_simp
                      have hst7 := (m6.below m6.lt ((Below.refl _ _).alloc (Nat.le_refl _) (.cells #[.slice none 0 0, .int .u64 0, .int .u64 0] 62))).cells
                      try simp only
                      refine hKx.out _ _ hst7 (fun _ => ?_)
                      clear hKx Kx
                      try simp only [Act.put, List.setIfInBounds_toArray, List.set_cons_zero, List.set_cons_succ]
                      refine wpAnyH_ready (rs := [19]) (by kernel_rfl) (by simp) ?_
                      refine AllReadyH.cons (o := _) rfl (fun Kx hKx => ?_) AllReadyH.nil
                      go_simp
                      have hst8 := (m6.below m6.lt ((Below.refl _ _).alloc (Nat.le_refl _) (.cells #[.slice a6 Q2.length c6, .int .u64 K, .int .u64 K] 62))).cells
                      try simp only
                      refine hKx.out _ _ hst8 (fun _ => ?_)
                      clear hKx Kx
                      try simp only [Act.put, List.setIfInBounds_toArray, List.set_cons_zero, List.set_cons_succ]
                      refine wpAnyH_ready (rs := [20]) (by kernel_rfl) (by simp) ?_
                      refine AllReadyH.cons (o := _) rfl (fun Kx hKx => ?_) AllReadyH.nil
                      go_simp
                      try simp only
                      refine hKx.out _ _ hst8 (fun _ => ?_)
                      clear hKx Kx
                      try simp only [Act.put, List.setIfInBounds_toArray, List.set_cons_zero, List.set_cons_succ]
                      refine wpAnyH_done (by kernel_rfl) ?_ _
                      refine NoPanic.normal ?_
                      have hdid := did_end1 (L := 6 * n + k) k6 p6 m6 l6 l6.size (by omega)
                      clear hst1 hst2 hst6 hst7 hst8 k6 p6 m6 l6 t6 c2
                      go_wp2_with fail
                      go_meet
                      case rel => exact hdid
                    · skip
                      go_simp
                      obtain ⟨X7, hY⟩ : ∃ Y, Y = X2.alloc (.cells #[.slice none 0 0, .int .u64 0, .int .u64 0] 62) := ⟨_, rfl⟩
                      have h7 : RefBlk X7 X2.heap.size (.slice none 0 0) (.int .u64 0) (.int .u64 0) := by rw [hY]; exact RefBlk.new _ _ _ _
                      have hb7 : Below wr.heap.size wr X7 := by rw [hY]; exact hb2.alloc hb2.size _
                      have hXY : Below X2.heap.size X2 X7 := by rw [hY]; exact (Below.refl _ _).alloc (Nat.le_refl _) _
                      rw [← hY]
                      clear hY
                      have hst7 := (HM.out X7 hb7).cells
                      try simp only
                      refine hKx.out _ _ hst7 (fun _ => ?_)
                      clear hKx Kx
                      try simp only [Act.put, List.setIfInBounds_toArray, List.set_cons_zero, List.set_cons_succ]
                      refine wpAnyH_ready (rs := [14]) (by kernel_rfl) (by simp) ?_
                      refine AllReadyH.cons (o := _) rfl (fun Kx hKx => ?_) AllReadyH.nil
                      have hDx := Lib.hid (HD.out x hx1 hx2 X7 hb7)
                      have hql := HQL.out x
                      generalize actQ K K ps ⟨(k : Int), zk, zv, zo, x⟩ = Q2 at hDx hql
                      go_simp
                      go_at_call 38
                      refine hDx.out.mono ?_
                      rintro e X6 ⟨a6, c6, v6, rfl, k6, p6, t6, _⟩
                      obtain ⟨m6, l6, s6⟩ := did_call (HLW.out X7 hb7) hNB (by have := hb7.size; omega) (HBK.out X7 hb7) (HM.out X7 hb7) t6
                      have hst6 := m6.cells
                      try simp only
                      refine hKx.out _ _ hst6 (fun _ => ?_)
                      clear hKx Kx
                      try simp only [Act.put, List.setIfInBounds_toArray, List.set_cons_zero, List.set_cons_succ]
                      refine take_at (i := 15) (v := .tuple #[.agg #[.slice a6 Q2.length c6, .int .u64 K, .int .u64 K], .bool true]) rfl rfl (by kernel_rfl) (by kernel_rfl) (by kernel_rfl) (fun _ _ _ h => h) (Or.inl ⟨by rfl, ?_⟩) hst6 ?_
                      · intro w' hSw
                        obtain ⟨l0, l1, l2⟩ := hSw
                        go_simp
                      try simp only [Act.put, List.setIfInBounds_toArray, List.set_cons_zero, List.set_cons_succ]
                      refine take_at (i := 16) (v := .agg #[.slice a6 Q2.length c6, .int .u64 K, .int .u64 K]) rfl rfl (by kernel_rfl) (by kernel_rfl) (by kernel_rfl) (fun _ _ _ h => h) (Or.inl ⟨by rfl, ?_⟩) hst6 ?_
                      · intro w' hSw
                        obtain ⟨l0, l1, l2⟩ := hSw
                        go_simp
                      try simp only [Act.put, List.setIfInBounds_toArray, List.set_cons_zero, List.set_cons_succ]
                      refine take_at (i := 17) (v := .bool true) rfl rfl (by kernel_rfl) (by kernel_rfl) (by kernel_rfl) (fun _ _ _ h => h) (Or.inl ⟨by rfl, ?_⟩) hst6 ?_
                      · intro w' hSw
                        obtain ⟨l0, l1, l2⟩ := hSw
                        go_simp
                      try simp only [Act.put, List.setIfInBounds_toArray, List.set_cons_zero, List.set_cons_succ]
                      have h8 := h7.turned (HBK.out X7 hb7) t6
                      obtain ⟨⟨y0, y1, y2⟩, yf⟩ := And.intro h8.cells h8.frozen
                      have hXs := hb2.size
                      have hdid := did_end2 (L := 6 * n + k) k6 p6 m6 l6 h8 (by omega) (by omega) (by omega)
                      have hst9 := (show RefBlk (set3 X6 X2.heap.size (.slice a6 Q2.length c6) (.int .u64 K) (.int .u64 K)) mb (.slice ra ps.length rc) (.int .u64 K) (.int .u64 K) by
                        unfold RefBlk
                        rw [set3_other _ _ _ _ _ _ (by omega)]
                        exact m6).cells
                      refine wpAnyH_ready (rs := [19]) (by kernel_rfl) (by simp) ?_
                      refine AllReadyH.cons (o := _) rfl (fun Kx hKx => ?_) AllReadyH.nil
                      go_simp
                      unfold set3 at hst9 hdid
                      try simp only
                      refine hKx.out _ _ hst9 (fun _ => ?_)
                      clear hKx Kx
                      try simp only [Act.put, List.setIfInBounds_toArray, List.set_cons_zero, List.set_cons_succ]
                      refine wpAnyH_ready (rs := [20]) (by kernel_rfl) (by simp) ?_
                      refine AllReadyH.cons (o := _) rfl (fun Kx hKx => ?_) AllReadyH.nil
                      go_simp
                      try simp only
                      refine hKx.out _ _ hst9 (fun _ => ?_)
                      clear hKx Kx
                      try simp only [Act.put, List.setIfInBounds_toArray, List.set_cons_zero, List.set_cons_succ]
                      refine wpAnyH_done (by kernel_rfl) ?_ _
                      refine NoPanic.normal ?_
                      clear hst1 hst6 hst9 k6 p6 m6 l6 t6 h8 y0 y1 y2 yf
                      go_wp2_with fail
                      go_meet
                      case rel => exact hdid
                  · skip
                    go_simp
                    obtain ⟨X7, hY⟩ : ∃ Y, Y = X2.alloc (.cells #[.slice none 0 0, .int .u64 0, .int .u64 0] 62) := ⟨_, rfl⟩
                    have h7 : RefBlk X7 X2.heap.size (.slice none 0 0) (.int .u64 0) (.int .u64 0) := by rw [hY]; exact RefBlk.new _ _ _ _
                    have hb7 : Below wr.heap.size wr X7 := by rw [hY]; exact hb2.alloc hb2.size _
                    have hXY : Below X2.heap.size X2 X7 := by rw [hY]; exact (Below.refl _ _).alloc (Nat.le_refl _) _
                    rw [← hY]
                    clear hY
                    have hst7 := (HM.out X7 hb7).cells
                    try simp only
                    refine hKx.out _ _ hst7 (fun _ => ?_)
                    clear hKx Kx
                    try simp only [Act.put, List.setIfInBounds_toArray, List.set_cons_zero, List.set_cons_succ]
                    have c7 := nb_cell hXY c2
                    refine wpAnyH_ready (rs := [12]) (by kernel_rfl) (by simp) ?_
                    refine AllReadyH.cons (o := _) rfl (fun Kx hKx => ?_) AllReadyH.nil
                    go_simp
                    try simp only
                    refine hKx.out _ _ hst7 (fun _ => ?_)
                    clear hKx Kx
                    try simp only [Act.put, List.setIfInBounds_toArray, List.set_cons_zero, List.set_cons_succ]
                    refine take_at (i := 13) (v := .agg #[.int .i64 (k : Int), .string zk, .string zv, .string zo, .int .i64 x]) rfl rfl (by kernel_rfl) (by kernel_rfl) (by kernel_rfl) (fun _ _ _ h => h) (Or.inl ⟨by rfl, ?_⟩) hst7 ?_
                    · intro w' hSw
                      obtain ⟨l0, l1, l2⟩ := hSw
                      go_simp
                    try simp only [Act.put, List.setIfInBounds_toArray, List.set_cons_zero, List.set_cons_succ]
                    refine wpAnyH_ready (rs := [14]) (by kernel_rfl) (by simp) ?_
                    refine AllReadyH.cons (o := _) rfl (fun Kx hKx => ?_) AllReadyH.nil
                    have hDx := Lib.hid (HD.out x hx1 hx2 X7 hb7)
                    have hql := HQL.out x
                    generalize actQ K K ps ⟨(k : Int), zk, zv, zo, x⟩ = Q2 at hDx hql
                    go_simp
                    go_at_call 38
                    refine hDx.out.mono ?_
                    rintro e X6 ⟨a6, c6, v6, rfl, k6, p6, t6, _⟩
                    obtain ⟨m6, l6, s6⟩ := did_call (HLW.out X7 hb7) hNB (by have := hb7.size; omega) (HBK.out X7 hb7) (HM.out X7 hb7) t6
                    have hst6 := m6.cells
                    try simp only
                    refine hKx.out _ _ hst6 (fun _ => ?_)
                    clear hKx Kx
                    try simp only [Act.put, List.setIfInBounds_toArray, List.set_cons_zero, List.set_cons_succ]
                    refine take_at (i := 15) (v := .tuple #[.agg #[.slice a6 Q2.length c6, .int .u64 K, .int .u64 K], .bool true]) rfl rfl (by kernel_rfl) (by kernel_rfl) (by kernel_rfl) (fun _ _ _ h => h) (Or.inl ⟨by rfl, ?_⟩) hst6 ?_
                    · intro w' hSw
                      obtain ⟨l0, l1, l2⟩ := hSw
                      go_simp
                    try simp only [Act.put, List.setIfInBounds_toArray, List.set_cons_zero, List.set_cons_succ]
                    refine take_at (i := 16) (v := .agg #[.slice a6 Q2.length c6, .int .u64 K, .int .u64 K]) rfl rfl (by kernel_rfl) (by kernel_rfl) (by kernel_rfl) (fun _ _ _ h => h) (Or.inl ⟨by rfl, ?_⟩) hst6 ?_
                    · intro w' hSw
                      obtain ⟨l0, l1, l2⟩ := hSw
                      go_simp
                    try simp only [Act.put, List.setIfInBounds_toArray, List.set_cons_zero, List.set_cons_succ]
                    refine take_at (i := 17) (v := .bool true) rfl rfl (by kernel_rfl) (by kernel_rfl) (by kernel_rfl) (fun _ _ _ h => h) (Or.inl ⟨by rfl, ?_⟩) hst6 ?_
                    · intro w' hSw
                      obtain ⟨l0, l1, l2⟩ := hSw
                      go_simp
                    try simp only [Act.put, List.setIfInBounds_toArray, List.set_cons_zero, List.set_cons_succ]
                    have h8 := h7.turned (HBK.out X7 hb7) t6
                    obtain ⟨⟨y0, y1, y2⟩, yf⟩ := And.intro h8.cells h8.frozen
                    have hXs := hb2.size
                    have hdid := did_end2 (L := 6 * n + k) k6 p6 m6 l6 h8 (by omega) (by omega) (by omega)
                    have hst9 := (show RefBlk (set3 X6 X2.heap.size (.slice a6 Q2.length c6) (.int .u64 K) (.int .u64 K)) mb (.slice ra ps.length rc) (.int .u64 K) (.int .u64 K) by
                      unfold RefBlk
                      rw [set3_other _ _ _ _ _ _ (by omega)]
                      exact m6).cells
                    refine wpAnyH_ready (rs := [19]) (by kernel_rfl) (by simp) ?_
                    refine AllReadyH.cons (o := _) rfl (fun Kx hKx => ?_) AllReadyH.nil
                    go_simp
                    unfold set3 at hst9 hdid
                    try simp only
                    refine hKx.out _ _ hst9 (fun _ => ?_)
                    clear hKx Kx
                    try simp only [Act.put, List.setIfInBounds_toArray, List.set_cons_zero, List.set_cons_succ]
                    refine wpAnyH_ready (rs := [20]) (by kernel_rfl) (by simp) ?_
                    refine AllReadyH.cons (o := _) rfl (fun Kx hKx => ?_) AllReadyH.nil
                    go_simp
                    try simp only
                    refine hKx.out _ _ hst9 (fun _ => ?_)
                    clear hKx Kx
                    try simp only [Act.put, List.setIfInBounds_toArray, List.set_cons_zero, List.set_cons_succ]
                    refine wpAnyH_done (by kernel_rfl) ?_ _
                    refine NoPanic.normal ?_
                    clear hst1 hst6 hst9 k6 p6 m6 l6 t6 h8 y0 y1 y2 yf
                    go_wp2_with fail
                    go_meet
                    case rel => exact hdid
                · skip
                  go_simp
                  obtain ⟨X7, hY⟩ : ∃ Y, Y = X1.alloc (.cells #[.slice none 0 0, .int .u64 0, .int .u64 0] 62) := ⟨_, rfl⟩
                  have h7 : RefBlk X7 X1.heap.size (.slice none 0 0) (.int .u64 0) (.int .u64 0) := by rw [hY]; exact RefBlk.new _ _ _ _
                  have hb7 : Below wr.heap.size wr X7 := by rw [hY]; exact hbX.alloc hbX.size _
                  have hXY : Below X1.heap.size X1 X7 := by rw [hY]; exact (Below.refl _ _).alloc (Nat.le_refl _) _
                  rw [← hY]
                  clear hY
                  have hst7 := (HM.out X7 hb7).cells
                  try simp only
                  refine hKx.out _ _ hst7 (fun _ => ?_)
                  clear hKx Kx
                  try simp only [Act.put, List.setIfInBounds_toArray, List.set_cons_zero, List.set_cons_succ]
                  refine wpAnyH_ready (rs := [6]) (by kernel_rfl) (by simp) ?_
                  refine AllReadyH.cons (o := _) rfl (fun Kx hKx => ?_) AllReadyH.nil
                  obtain ⟨x, hxc, hx1, hx2⟩ := HNM.out X7
                  go_simp
                  obtain ⟨X8, hY⟩ : ∃ Y, Y = X7.alloc (.cells #[Value.int .i64 (-1), Value.int .i64 0, Value.int .i64 1, Value.int .i64 4096, Value.int .i64 4097, Value.int .i64 9223372036854775807, Value.int .i64 (-9223372036854775808)] 3) := ⟨_, rfl⟩
                  have c8 : X8.cell? ⟨X7.heap.size, r, none⟩ = some (.int .i64 x) := by rw [hY]; exact hxc
                  have hb8 : Below wr.heap.size wr X8 := by rw [hY]; exact hb7.alloc hb7.size _
                  have hXY : Below X7.heap.size X7 X8 := by rw [hY]; exact (Below.refl _ _).alloc (Nat.le_refl _) _
                  rw [← hY]
                  clear hY hxc
                  have hst8 := (HM.out X8 hb8).cells
                  try simp only
                  refine hKx.out _ _ hst8 (fun _ => ?_)
                  clear hKx Kx
                  try simp only [Act.put, List.setIfInBounds_toArray, List.set_cons_zero, List.set_cons_succ]
                  have h7' := h7.below h7.lt hXY
                  refine take_at (i := 11) (v := .pointer (some ⟨X7.heap.size, r, none⟩)) rfl rfl (by kernel_rfl) (by kernel_rfl) (by kernel_rfl) (fun _ _ _ h => h) (Or.inl ⟨by rfl, ?_⟩) hst8 ?_
                  · intro w' hSw
                    obtain ⟨l0, l1, l2⟩ := hSw
                    go_simp
                  try simp only [Act.put, List.setIfInBounds_toArray, List.set_cons_zero, List.set_cons_succ]
                  refine wpAnyH_ready (rs := [12]) (by kernel_rfl) (by simp) ?_
                  refine AllReadyH.cons (o := _) rfl (fun Kx hKx => ?_) AllReadyH.nil
                  go_simp
                  try simp only
                  refine hKx.out _ _ hst8 (fun _ => ?_)
                  clear hKx Kx
                  try simp only [Act.put, List.setIfInBounds_toArray, List.set_cons_zero, List.set_cons_succ]
                  refine take_at (i := 13) (v := .agg #[.int .i64 (k : Int), .string zk, .string zv, .string zo, .int .i64 x]) rfl rfl (by kernel_rfl) (by kernel_rfl) (by kernel_rfl) (fun _ _ _ h => h) (Or.inl ⟨by rfl, ?_⟩) hst8 ?_
                  · intro w' hSw
                    obtain ⟨l0, l1, l2⟩ := hSw
                    go_simp
                  try simp only [Act.put, List.setIfInBounds_toArray, List.set_cons_zero, List.set_cons_succ]
                  refine wpAnyH_ready (rs := [14]) (by kernel_rfl) (by simp) ?_
                  refine AllReadyH.cons (o := _) rfl (fun Kx hKx => ?_) AllReadyH.nil
                  have hDx := Lib.hid (HD.out x hx1 hx2 X8 hb8)
                  have hql := HQL.out x
                  generalize actQ K K ps ⟨(k : Int), zk, zv, zo, x⟩ = Q2 at hDx hql
                  go_simp
                  go_at_call 38
                  refine hDx.out.mono ?_
                  rintro e X6 ⟨a6, c6, v6, rfl, k6, p6, t6, _⟩
                  obtain ⟨m6, l6, s6⟩ := did_call (HLW.out X8 hb8) hNB (by have := hb8.size; omega) (HBK.out X8 hb8) (HM.out X8 hb8) t6
                  have hst6 := m6.cells
                  try simp only
                  refine hKx.out _ _ hst6 (fun _ => ?_)
                  clear hKx Kx
                  try simp only [Act.put, List.setIfInBounds_toArray, List.set_cons_zero, List.set_cons_succ]
                  refine take_at (i := 15) (v := .tuple #[.agg #[.slice a6 Q2.length c6, .int .u64 K, .int .u64 K], .bool true]) rfl rfl (by kernel_rfl) (by kernel_rfl) (by kernel_rfl) (fun _ _ _ h => h) (Or.inl ⟨by rfl, ?_⟩) hst6 ?_
                  · intro w' hSw
                    obtain ⟨l0, l1, l2⟩ := hSw
                    go_simp
                  try simp only [Act.put, List.setIfInBounds_toArray, List.set_cons_zero, List.set_cons_succ]
                  refine take_at (i := 16) (v := .agg #[.slice a6 Q2.length c6, .int .u64 K, .int .u64 K]) rfl rfl (by kernel_rfl) (by kernel_rfl) (by kernel_rfl) (fun _ _ _ h => h) (Or.inl ⟨by rfl, ?_⟩) hst6 ?_
                  · intro w' hSw
                    obtain ⟨l0, l1, l2⟩ := hSw
                    go_simp
                  try simp only [Act.put, List.setIfInBounds_toArray, List.set_cons_zero, List.set_cons_succ]
                  refine take_at (i := 17) (v := .bool true) rfl rfl (by kernel_rfl) (by kernel_rfl) (by kernel_rfl) (fun _ _ _ h => h) (Or.inl ⟨by rfl, ?_⟩) hst6 ?_
                  · intro w' hSw
                    obtain ⟨l0, l1, l2⟩ := hSw
                    go_simp
                  try simp only [Act.put, List.setIfInBounds_toArray, List.set_cons_zero, List.set_cons_succ]
                  have h8 := h7'.turned (HBK.out X8 hb8) t6
                  obtain ⟨⟨y0, y1, y2⟩, yf⟩ := And.intro h8.cells h8.frozen
                  have hXs := hbX.size
                  have hdid := did_end2 (L := 6 * n + k) k6 p6 m6 l6 h8 (by omega) (by omega) (by omega)
                  have hst9 := (show RefBlk (set3 X6 X1.heap.size (.slice a6 Q2.length c6) (.int .u64 K) (.int .u64 K)) mb (.slice ra ps.length rc) (.int .u64 K) (.int .u64 K) by
                    unfold RefBlk
                    rw [set3_other _ _ _ _ _ _ (by omega)]
                    exact m6).cells
                  refine wpAnyH_ready (rs := [19]) (by kernel_rfl) (by simp) ?_
                  refine AllReadyH.cons (o := _) rfl (fun Kx hKx => ?_) AllReadyH.nil
                  go_simp
                  unfold set3 at hst9 hdid
                  try simp only
                  refine hKx.out _ _ hst9 (fun _ => ?_)
                  clear hKx Kx
                  try simp only [Act.put, List.setIfInBounds_toArray, List.set_cons_zero, List.set_cons_succ]
                  refine wpAnyH_ready (rs := [20]) (by kernel_rfl) (by simp) ?_
                  refine AllReadyH.cons (o := _) rfl (fun Kx hKx => ?_) AllReadyH.nil
                  go_simp
                  try simp only
                  refine hKx.out _ _ hst9 (fun _ => ?_)
                  clear hKx Kx
                  try simp only [Act.put, List.setIfInBounds_toArray, List.set_cons_zero, List.set_cons_succ]
                  refine wpAnyH_done (by kernel_rfl) ?_ _
                  refine NoPanic.normal ?_
                  clear hst1 hst6 hst9 k6 p6 m6 l6 t6 h8 y0 y1 y2 yf
                  go_wp2_with fail
                  go_meet
                  case rel => exact hdid
              case rest =>
                obtain ⟨X, v2, Q2, ra2, rc2, rfl, rfl, hk2, hq2, hx2, hm2, hp2, hl2⟩ := hcut
                obtain ⟨k9, m9, p9, l9⟩ := did_copy hk2 hm2 hp2 hl2 (Nat.le_trans hNB hBm)
                obtain ⟨⟨n0, n1, n2⟩, ⟨q0, q1, q2⟩, rf⟩ := And.intro hx2.cells (And.intro hm2.cells hm2.frozen)
                have HK9 := Lib.hid k9
                have HM9 := Lib.hid m9
                have HP9 := Lib.hid p9
                have HL9 := Lib.hid l9
                clear k9 m9 p9 l9 hk2 hx2 hm2 hp2 hl2 HB hrb hpr
                go_upto_region 28 with fail
                rw [show ((wc.setCell ⟨mb, 0, none⟩ (.slice ra2 Q2.length rc2)).setCell ⟨mb, 1, none⟩ (.int .u64 K)).setCell ⟨mb, 2, none⟩ (.int .u64 K) = set3 wc mb (.slice ra2 Q2.length rc2) (.int .u64 K) (.int .u64 K) from rfl]
                clear n0 n1 n2 q0 q1 q2 rf
                generalize set3 wc mb (.slice ra2 Q2.length rc2) (.int .u64 K) (.int .u64 K) = W9 at *
                obtain ⟨e0, e1, e2⟩ := HM9.out.cells
                have HLK := Lib.hid (looks_any W9 HK9.out (by omega) ra2 rc2 HP9.out zk hz1)
                go_wp2_with (first
                  | (go_at_call 39; refine HLK.out.mono ?_; rintro e w8 ⟨rfl, hg8⟩))
                have HK8 := Lib.hid (HK9.out.below hg8)
                have m8 := HM9.out.below HM9.out.lt hg8
                have p8 := prow_below hg8 HP9.out
                have b8 := HL9.out.trans (hg8.mono HL9.out.size)
                have hml8 := m8.lt
                go_roundw
                case rel => exact ⟨k + 1, v2, Q2, ra2, rc2, by omega, by go_num, HK8, by omega, m8, p8, b8, by omega⟩
                case measure => simp [intOf]; omega
            · have ik : decide ((k : Int) < 6) = false := decide_eq_false (by omega)
              go_wp2_with fail
              go_roundw
              case rel => exact ⟨n + 1, v, ps, ra, rc, by omega, by go_num, HB, by omega, hrb, hpr, hBr2, hszr⟩
              case measure => simp [intOf]; omega
      · have i7 : decide ((n : Int) < 27) = false := decide_eq_false (by omega)
        go_wp2_with (first
          | (go_at_call 44; refine (none_law _).mono ?_; rintro e w6 ⟨rfl, hn6⟩)
          | (go_at_call 27; refine (awake_any _).mono ?_; rintro e w7 ⟨rfl, hn7'⟩))
        go_ret
        have hl6 := hBr0.trans (hn6.mono hBr0.size)
        have hl7 := hl6.trans (hn7'.mono hl6.size)
        exact ⟨rfl, hb1.trans (hl7.mono hb1.size)⟩

end Go.Proofs.Ytgfhaldfjnepmaa
