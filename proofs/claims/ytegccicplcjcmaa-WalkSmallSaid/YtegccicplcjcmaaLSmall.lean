/- Walk: the law WalkSmall returns true. -/
import Derived.Test.YtegccicplcjcmaaWPg1
import Derived.Test.YtegccicplcjcmaaRoundReg
import Derived.Deep.CutBlock
import Derived.Deep.CutRange
import Derived.LoopN
namespace Go.Proofs.Ytegccicplcjcmaa
open Go Go.RowKit Go.Shelf Go.Proofs Go.Sort
attribute [local go_sem] Oper.semAt_some

theorem cell_at {W : World} {g : Nat} {cs : Array Value} {t : TypeId} {f : Nat × Nat} (h : W.heap[g]? = some (.cells cs t f)) {k : Nat} {u : Value} (hu : cs[k]? = some u) : W.cell? ⟨g, k, none⟩ = some u := by
  simp [World.cell?, h, hu]

theorem cell_set_far {W : World} {p : Addr} {u v : Value} {j : Nat} (h : W.cell? p = some u) (hj : j ≠ p.block) : (W.setCell ⟨j, 0, none⟩ v).cell? p = some u := (World.cell?_setCell_far W ⟨j, 0, none⟩ p v hj).trans h

/-- What the law lays out ahead of its loops. -/
structure Sm0 (w W : World) : Prop where
  res : OneBlk W w.heap.size 4 (.bool false)
  keys : ∀ k, k < 6 → ∃ s : ByteArray, W.cell? ⟨w.heap.size + 1, k, none⟩ = some (.string s) ∧ s.size ≤ 32 ∧ (codB s).size ≤ 1000
  bnds : ∀ k, k < 12 → ∃ s : ByteArray, W.cell? ⟨w.heap.size + 1 + 1, k, none⟩ = some (.string s) ∧ s.size ≤ 32
  nums : ∀ k, k < 8 → ∃ x : Int, W.cell? ⟨w.heap.size + 1 + 1 + 1, k, none⟩ = some (.int .i64 x)
  low : Below w.heap.size w W
  lt : w.heap.size + 1 + 1 + 1 < W.heap.size

theorem Sm0.below {w W W' : World} (h : Sm0 w W) (hb : Below W.heap.size W W') : Sm0 w W' := by
  have hlt := h.lt
  refine ⟨h.res.below (by omega) hb, fun k hk => ?_, fun k hk => ?_, fun k hk => ?_, h.low.trans (hb.mono h.low.size), Nat.lt_of_lt_of_le hlt hb.size⟩
  · obtain ⟨s, h1, h2⟩ := h.keys k hk
    exact ⟨s, cell_below hb h1, h2⟩
  · obtain ⟨s, h1, h2⟩ := h.bnds k hk
    exact ⟨s, cell_below hb h1, h2⟩
  · obtain ⟨x, h1⟩ := h.nums k hk
    exact ⟨x, cell_below hb h1⟩

theorem sm0_new (w : World) (W : World) (hW : W = (((w.alloc (Obj.cells #[Value.bool false] 4)).alloc
    (Obj.cells #[Value.string ⟨#[]⟩, Value.string ⟨#[97]⟩, Value.string ⟨#[97, 0]⟩, Value.string ⟨#[97, 98]⟩, Value.string ⟨#[98]⟩, Value.string ⟨#[255]⟩] 9)).alloc
    (Obj.cells #[Value.string ⟨#[]⟩, Value.string ⟨#[0, 0]⟩, Value.string ⟨#[0, 1]⟩, Value.string ⟨#[97]⟩, Value.string ⟨#[97, 0, 0]⟩, Value.string ⟨#[97, 0, 1]⟩, Value.string ⟨#[97, 98, 0, 0, 0]⟩, Value.string ⟨#[98]⟩, Value.string ⟨#[99]⟩, Value.string ⟨#[255]⟩, Value.string ⟨#[255, 0, 0]⟩, Value.string ⟨#[255, 255]⟩] 9)).alloc
    (Obj.cells #[Value.int IntKind.i64 (-9223372036854775808), Value.int IntKind.i64 (-1), Value.int IntKind.i64 0, Value.int IntKind.i64 1, Value.int IntKind.i64 5, Value.int IntKind.i64 6, Value.int IntKind.i64 7, Value.int IntKind.i64 9223372036854775807] 3)) : Sm0 w W := by
  obtain ⟨h0, h1, h2, h3, h4, h5⟩ := chain4 w _ _ _ _ W hW
  refine ⟨h0, fun k hk => ?_, fun k hk => ?_, fun k hk => ?_, h4, by omega⟩
  · rcases k with _ | _ | _ | _ | _ | _ | k
    all_goals first
      | exact ⟨_, cell_at h1 rfl, by decide, by decide +kernel⟩
      | omega
  · rcases k with _ | _ | _ | _ | _ | _ | _ | _ | _ | _ | _ | _ | k
    all_goals first
      | exact ⟨_, cell_at h2 rfl, by decide⟩
      | omega
  · rcases k with _ | _ | _ | _ | _ | _ | _ | _ | k
    all_goals first
      | exact ⟨_, cell_at h3 rfl⟩
      | omega

set_option maxRecDepth 100000 in
set_option maxHeartbeats 4000000 in
/-- A range over a tour of an art that holds no pair: no round. -/
theorem range_none {ps : Array Tmp} {assign body : Code} {Q : Exit → Act → World → Prop} {a : Act} {w : World} {g : Operand} (a0 : Option Addr) (C : Nat)
    (hg : a.eval g = .func (.func 60) #[] #[.pointer (some ⟨C, 0, none⟩), .pointer (some ⟨C + 1, 0, none⟩)]) (c3 : w.cell? ⟨C, 0, none⟩ = some (.pointer a0)) (c4 : w.cell? ⟨C + 1, 0, none⟩ = some (.string ⟨#[]⟩)) (hS : Src w (.pointer a0) [])
    (h : ∀ W, Below w.heap.size w W → W.heap[w.heap.size]? = some (.deferred (some [])) → Q .normal { a with defers := { target := .collected w.heap.size, args := #[] } :: a.defers } W) : (Code.rangeFunc g ps assign body).wpIn Fence.wide 9 Try.prog Q a w := by
  refine rangeFunc_open rfl (by omega) (gf := 60) (lb := #[.pointer (some ⟨C, 0, none⟩), .pointer (some ⟨C + 1, 0, none⟩)]) hg trivial (enters_of Try.func60 (by kernel_rfl) rfl) ?_
  intro fn hfn
  generalize hrec : recOf fn _ _ _ _ _ = rec
  obtain ⟨S0, hS0⟩ : ∃ S0, (w.alloc (.deferred (some []))).alloc (.loop (rec .ready none)) = S0 := ⟨_, rfl⟩
  have hsz : S0.heap.size = w.heap.size + 1 + 1 := by rw [← hS0]; simp
  have hbS : Below w.heap.size w S0 := by rw [← hS0]; exact ((Below.refl _ _).alloc (Nat.le_refl _) _).alloc (by simp) _
  have sD : S0.heap[w.heap.size]? = some (.deferred (some [])) := by rw [← hS0]; exact key1 _ _ _ _ (World.alloc_heap_new _ _)
  have sL : S0.heap[w.heap.size + 1]? = some (.loop (rec .ready none)) := by
    rw [← hS0]
    have := World.alloc_heap_new (w.alloc (.deferred (some []))) (.loop (rec .ready none))
    rw [World.size_alloc] at this
    exact this
  rw [hS0]
  clear hS0
  refine (pairs1_in (9 - 1) (by omega) (w.heap.size + 1) 0 (w.heap.size + 1 + 1) C (C + 1) (.pointer a0) a0 rfl ⟨#[]⟩ S0 hsz
    (fun k f W => k = 0 ∧ f = ⟨#[]⟩ ∧ Below S0.heap.size S0 W ∧ W.cell? ⟨w.heap.size + 1 + 1, 0, none⟩ = some (.pointer a0)) (fun W => Below S0.heap.size S0 W) (cell_below hbS c3) (cell_below hbS c4) ⟨rfl, rfl, (Below.refl _ _).alloc (Nat.le_refl _) _, ?_⟩ ?jt ?ja (by omega)).mono ?post
  · have ht := World.alloc_heap_new S0 (Obj.cells #[Value.pointer a0] 82)
    rw [hsz] at ht
    simp [World.cell?, ht]
  case jt =>
    rintro k f W ⟨rfl, _, _, h4⟩
    exact ⟨Nat.le_refl _, h4⟩
  case ja =>
    rintro k f W ⟨rfl, rfl, h3, h4⟩
    refine ⟨none, fun p hp => (by cases hp), ?_, fun _ W' hb => h3.trans (hb.mono h3.size), fun p hp => (by cases hp)⟩
    exact src_from (hS.below (hbS.trans (h3.mono hbS.size))) (by decide) ⟨#[]⟩
  case post =>
    rintro e W' ⟨⟨v0, rfl⟩, hE⟩
    have hrun : (Instr.endLoop (w.heap.size + 1)).run Try.prog W' = .ok none (W'.putObj (w.heap.size + 1) (.loop (rec .exhausted none))) := by
      have hl : W'.heap[w.heap.size + 1]? = some (.loop (rec .ready none)) := (hE.block _ (by omega)).trans sL
      rw [← hrec] at hl ⊢
      exact run_endLoop hl (by simp [recOf])
    refine ⟨none, _, hrun, ?_⟩
    have hb1 : Below w.heap.size w W' := hbS.trans (hE.mono hbS.size)
    exact h _ (hb1.grown (grownBy_putObj' W' _ _) hb1.size (fun j e => by cases e; omega)) ((World.putObj_heap_other (by omega)).trans ((hE.block _ (by omega)).trans sD))

set_option linter.unusedVariables false in
set_option linter.unusedSimpArgs false in
set_option maxRecDepth 100000 in
set_option maxHeartbeats 8000000 in
theorem law_WalkSmall (w : World) :
    Calls Try.prog 3 #[] w fun e w' => e = .returned (.bool true) ∧ Below w.heap.size w w' := by
  have hmf : ∀ (fn : Fn) (first cap : Array Value) (w : World), (Instr.makeFunc fn first cap).run Try.prog w = .ok (.func fn first cap) w := fun _ _ _ _ => rfl
  refine (callsIn_wide (n := 9)).1 ?_
  refine callsIn_of_wp_marks Try.func3 rfl trivial ?_ rfl
  simp only [Try.ntmps3, List.size_toArray, List.length_cons, List.length_nil, Nat.reduceAdd, Nat.reduceSub, Array.replicate_succ, Array.replicate_zero, List.push_toArray, List.append_toArray, List.nil_append, List.cons_append]
  refine wpIn_wide.2 ?_
  go_upto_block 0 with fail
  obtain ⟨w4, hw4⟩ : ∃ w4, w4 = (((w.alloc (Obj.cells #[Value.bool false] 4)).alloc
    (Obj.cells #[Value.string ⟨#[]⟩, Value.string ⟨#[97]⟩, Value.string ⟨#[97, 0]⟩, Value.string ⟨#[97, 98]⟩, Value.string ⟨#[98]⟩, Value.string ⟨#[255]⟩] 9)).alloc
    (Obj.cells #[Value.string ⟨#[]⟩, Value.string ⟨#[0, 0]⟩, Value.string ⟨#[0, 1]⟩, Value.string ⟨#[97]⟩, Value.string ⟨#[97, 0, 0]⟩, Value.string ⟨#[97, 0, 1]⟩, Value.string ⟨#[97, 98, 0, 0, 0]⟩, Value.string ⟨#[98]⟩, Value.string ⟨#[99]⟩, Value.string ⟨#[255]⟩, Value.string ⟨#[255, 0, 0]⟩, Value.string ⟨#[255, 255]⟩] 9)).alloc
    (Obj.cells #[Value.int IntKind.i64 (-9223372036854775808), Value.int IntKind.i64 (-1), Value.int IntKind.i64 0, Value.int IntKind.i64 1, Value.int IntKind.i64 5, Value.int IntKind.i64 6, Value.int IntKind.i64 7, Value.int IntKind.i64 9223372036854775807] 3) := ⟨_, rfl⟩
  have hS4 := Lib.hid (sm0_new w w4 hw4)
  rw [← hw4]
  clear hw4
  have HW := Lib.hid (fun W (hb : Below w4.heap.size w4 W) => hS4.out.below hb)
  go_cut [] from 4 to 80 (fun W => Below w4.heap.size w4 W)
  case first =>
    have hB0 := Below.refl w4.heap.size w4
    go_wp2_with fail
    go_loopw [4] (fun i wr => ∃ n : Nat, n ≤ 64 ∧ i = .int .i64 n ∧ Below w4.heap.size w4 wr) (fun i _ => 64 - (intOf i).toNat)
    case atStart => exact ⟨0, by omega, rfl, hB0⟩
    case round =>
      clear hB0
      obtain ⟨n, hn, rfl, hBr⟩ := hrel
      by_cases hn6 : n < 64
      · have i6 : decide (n < 64) = true := decide_eq_true hn6
        go_wp2_with (go_at_call 8; refine (anew_any _).mono ?_; rintro e w5 ⟨b, m, rfl, hA5, hb5⟩)
        obtain ⟨w6, hw6⟩ : ∃ w6, w6 = w5.alloc (Obj.cells #[Value.slice none 0 0] 28) := ⟨_, rfl⟩
        have hb56 : Below w5.heap.size w5 w6 := by rw [hw6]; exact (Below.refl _ _).alloc (Nat.le_refl _) _
        have hm6 : OneBlk w6 w5.heap.size 28 (.slice none (List.length ([] : PS)) 0) := by rw [hw6]; exact OneBlk.new _ _ _
        have hA6 := Lib.hid (hA5.below hb56)
        have hb46 : Below w4.heap.size w4 w6 := hBr.trans ((hb5.trans (hb56.mono hb5.size)).mono hBr.size)
        have hp6 : PRow w6 0 (.slice none (List.length ([] : PS)) 0) [] := prow_nil _ _
        have hsr := hBr.size
        have hs5 := hb5.size
        have hs6 : w6.heap.size = w5.heap.size + 1 := by rw [hw6]; simp
        have hs6' : w5.heap.size + 1 ≤ w6.heap.size := by omega
        rw [← hw6]
        clear hw6 hA5 hb5 hb56 hBr hs6
        generalize w5.heap.size = MB at *
        generalize hB6 : wr.heap.size = B6 at *
        clear hB6
        go_loopw [7] (fun i wr2 => ∃ (k : Nat) (v : Value) (Q : PS) (ra : Option Addr) (rc : Nat), k ≤ 6 ∧ i = .int .i64 k ∧ Hid (ArtAt wr2 B6 b m v Q) ∧ Q.length ≤ k ∧ OneBlk wr2 MB 28 (.slice ra Q.length rc) ∧ PRow wr2 0 (.slice ra Q.length rc) Q ∧ Below w4.heap.size w4 wr2 ∧ MB < wr2.heap.size) (fun i _ => 6 - (intOf i).toNat)
        case atStart => exact ⟨0, _, [], none, 0, by omega, rfl, hA6, Nat.le_refl _, hm6, hp6, hb46, by omega⟩
        case round =>
          clear hA6 hm6 hp6 hb46 hs6'
          obtain ⟨k, v, Q, ra, rc, hk, rfl, hA, hQl, hm, hp, hB2, hMB⟩ := hrel
          by_cases hk6 : k < 6
          · have ik : decide ((k : Int) < 6) = true := decide_eq_true (by omega)
            go_upto_block 3 with fail
            go_cut [] from 24 to 53 (fun W => ∃ (v : Value) (Q : PS) (ra : Option Addr) (rc : Nat), ArtAt W B6 b m v Q ∧ Q.length ≤ k + 1 ∧ OneBlk W MB 28 (.slice ra Q.length rc) ∧ PRow W 0 (.slice ra Q.length rc) Q ∧ Below w4.heap.size w4 W)
            case first =>
              obtain ⟨sk, hk0, hkz, hkc⟩ := hS4.out.keys k hk6
              have hk4 := hk0
              have HK := Lib.hid hk0
              clear hk0
              have hso := hA.out.sorted
              have HSM := Lib.hid hA.out.small
              have HM := Lib.hid hm
              have HP := Lib.hid hp
              have hlt4 := hS4.out.lt
              clear hm hp
              go_wp2_with fail
              · have hkI : (k : Int) < 6 := by omega
                have hdr := (Below.refl wr.heap.size wr).drew
                have hB1 := hB2.trans (hdr.mono hB2.size)
                have hA1 := Lib.hid (hA.out.below hdr)
                have hm1 := HM.out.below HM.out.lt hdr
                have hp1 := prow_below hdr HP.out
                have hst1 := cell_below hB1 hk4
                clear hA HM HP hdr
                generalize hX1 : wr.drew = X1 at hB1 hA1 hm1 hp1 hst1
                have cm1 := hm1.cell
                have HPT := Lib.hid (refputA_any ra rc Q X1 hp1 (by omega) hso HSM.out (codB sk) sk (by omega) (by omega))
                have hQ2l : (aputQ Q (codB sk) sk).length ≤ Q.length + 1 := by
                  unfold aputQ
                  split
                  · exact put_len hso _ _
                  · omega
                obtain ⟨Q2, hQ2⟩ : ∃ Q2, Hid (aputQ Q (codB sk) sk = Q2) := ⟨_, Lib.hid rfl⟩
                rw [hQ2.out] at HPT hQ2l
                generalize aputE (codB sk) sk = Ee at HPT
                clear hp1
                refine wp_region_noPanic ?_
                refine wp_region_held_drew (S := fun w' => w'.cell? ⟨w.heap.size + 1, k, none⟩ = some (.string sk)) (by kernel_rfl) (by rw [hX1]; exact hst1) (fun _ => ?_)
                rw [hX1]
                clear hX1
                refine wpAnyH_take (i := 1) (v := .slice (some ⟨w.heap.size + 1, 0, none⟩) 6 6) rfl (by kernel_rfl) (by kernel_rfl) (by kernel_rfl) (fun _ _ _ h => h) (Or.inl ⟨by rfl, ?_⟩) hst1 ?_
                · intro w' l0
                  go_simp
                try simp only [Act.put, List.setIfInBounds_toArray, List.set_cons_zero, List.set_cons_succ]
                refine wpAnyH_take (i := 2) (v := .int .i64 (k : Int)) rfl (by kernel_rfl) (by kernel_rfl) (by kernel_rfl) (fun _ _ _ h => h) (Or.inl ⟨by rfl, ?_⟩) hst1 ?_
                · intro w' l0
                  go_simp
                try simp only [Act.put, List.setIfInBounds_toArray, List.set_cons_zero, List.set_cons_succ]
                refine wpAnyH_take (i := 3) (v := .pointer (some ⟨w.heap.size + 1, k, none⟩)) rfl (by kernel_rfl) (by kernel_rfl) (by kernel_rfl) (fun _ _ _ h => h) (Or.inl ⟨by rfl, ?_⟩) hst1 ?_
                · intro w' l0
                  go_simp
                try simp only [Act.put, List.setIfInBounds_toArray, List.set_cons_zero, List.set_cons_succ]
                refine wpAnyH_take (i := 4) (v := .string sk) rfl (by kernel_rfl) (by kernel_rfl) (by kernel_rfl) (fun _ _ _ h => h) (Or.inl ⟨by rfl, ?_⟩) hst1 ?_
                · intro w' l0
                  go_simp
                try simp only [Act.put, List.setIfInBounds_toArray, List.set_cons_zero, List.set_cons_succ]
                refine wpAnyH_take (i := 6) (v := .slice (some ⟨w.heap.size + 1, 0, none⟩) 6 6) rfl (by kernel_rfl) (by kernel_rfl) (by kernel_rfl) (fun _ _ _ h => h) (Or.inl ⟨by rfl, ?_⟩) hst1 ?_
                · intro w' l0
                  go_simp
                try simp only [Act.put, List.setIfInBounds_toArray, List.set_cons_zero, List.set_cons_succ]
                refine wpAnyH_take (i := 7) (v := .int .i64 (k : Int)) rfl (by kernel_rfl) (by kernel_rfl) (by kernel_rfl) (fun _ _ _ h => h) (Or.inl ⟨by rfl, ?_⟩) hst1 ?_
                · intro w' l0
                  go_simp
                try simp only [Act.put, List.setIfInBounds_toArray, List.set_cons_zero, List.set_cons_succ]
                refine wpAnyH_take (i := 8) (v := .pointer (some ⟨w.heap.size + 1, k, none⟩)) rfl (by kernel_rfl) (by kernel_rfl) (by kernel_rfl) (fun _ _ _ h => h) (Or.inl ⟨by rfl, ?_⟩) hst1 ?_
                · intro w' l0
                  go_simp
                try simp only [Act.put, List.setIfInBounds_toArray, List.set_cons_zero, List.set_cons_succ]
                refine wpAnyH_take (i := 9) (v := .string sk) rfl (by kernel_rfl) (by kernel_rfl) (by kernel_rfl) (fun _ _ _ h => h) (Or.inl ⟨by rfl, ?_⟩) hst1 ?_
                · intro w' l0
                  go_simp
                try simp only [Act.put, List.setIfInBounds_toArray, List.set_cons_zero, List.set_cons_succ]
                refine wpAnyH_ready (rs := [0, 5]) (by kernel_rfl) (by simp) ?_
                refine AllReadyH.cons (o := _) rfl (fun Kx hKx => ?_) (AllReadyH.cons (o := _) rfl (fun Kx hKx => ?_) AllReadyH.nil)
                · go_simp
                  try simp only
                  refine hKx.out _ _ hst1 (fun _ => ?_)
                  clear hKx Kx
                  try simp only [Act.put, List.setIfInBounds_toArray, List.set_cons_zero, List.set_cons_succ]
                  refine wpAnyH_ready (rs := [5]) (by kernel_rfl) (by simp) ?_
                  refine AllReadyH.cons (o := _) rfl (fun Kx hKx => ?_) AllReadyH.nil
                  go_simp
                  go_at_call 10
                  refine (coded_any sk _).mono ?_
                  rintro e Xc ⟨rfl, rfl⟩
                  try simp only
                  refine hKx.out _ _ hst1 (fun _ => ?_)
                  clear hKx Kx
                  try simp only [Act.put, List.setIfInBounds_toArray, List.set_cons_zero, List.set_cons_succ]
                  refine wpAnyH_ready (rs := [10]) (by kernel_rfl) (by simp) ?_
                  refine AllReadyH.cons (o := _) rfl (fun Kx hKx => ?_) AllReadyH.nil
                  go_simp
                  go_at_call 9
                  refine HPT.out.mono ?_
                  rintro e X2 ⟨a6, c6, rfl, hro, hn2⟩
                  have hm2 := hm1.below hm1.lt hn2
                  have cm2 := hm2.cell
                  have fm2 := hm2.frozen 0
                  have hst2 := cell_below hn2 hst1
                  try simp only
                  refine hKx.out _ _ hst2 (fun _ => ?_)
                  clear hKx Kx
                  try simp only [Act.put, List.setIfInBounds_toArray, List.set_cons_zero, List.set_cons_succ]
                  refine wpAnyH_take (i := 11) (v := .tuple #[.agg #[.slice a6 Q2.length c6], .int .i64 Ee]) rfl (by kernel_rfl) (by kernel_rfl) (by kernel_rfl) (fun _ _ _ h => h) (Or.inl ⟨by rfl, ?_⟩) hst2 ?_
                  · intro w' l0
                    go_simp
                  try simp only [Act.put, List.setIfInBounds_toArray, List.set_cons_zero, List.set_cons_succ]
                  refine wpAnyH_take (i := 12) (v := .agg #[.slice a6 Q2.length c6]) rfl (by kernel_rfl) (by kernel_rfl) (by kernel_rfl) (fun _ _ _ h => h) (Or.inl ⟨by rfl, ?_⟩) hst2 ?_
                  · intro w' l0
                    go_simp
                  try simp only [Act.put, List.setIfInBounds_toArray, List.set_cons_zero, List.set_cons_succ]
                  refine wpAnyH_take (i := 13) (v := .int .i64 Ee) rfl (by kernel_rfl) (by kernel_rfl) (by kernel_rfl) (fun _ _ _ h => h) (Or.inl ⟨by rfl, ?_⟩) hst2 ?_
                  · intro w' l0
                    go_simp
                  try simp only [Act.put, List.setIfInBounds_toArray, List.set_cons_zero, List.set_cons_succ]
                  refine wpAnyH_ready (rs := [14]) (by kernel_rfl) (by simp) ?_
                  refine AllReadyH.cons (o := _) rfl (fun Kx hKx => ?_) AllReadyH.nil
                  go_simp
                  try simp only
                  refine hKx.out _ _ ((cell_set_far hst2 (by show MB ≠ w.heap.size + 1; omega))) (fun _ => ?_)
                  clear hKx Kx
                  try simp only [Act.put, List.setIfInBounds_toArray, List.set_cons_zero, List.set_cons_succ]
                  refine wpAnyH_done (by kernel_rfl) ?_ _
                  refine NoPanic.normal ?_
                  have hA3 := art_set (hA1.out.below hn2) hm2 (by decide) (by decide) (.slice a6 Q2.length c6)
                  have hp3 := prow_set1 hro.1 hm2 (by decide) (.slice a6 Q2.length c6)
                  have hm3 := hm2.set (.slice a6 Q2.length c6)
                  have hB12 := hB1.trans (hn2.mono hB1.size)
                  have hB3 := hB12.grown (grownBy_setCell' X2 MB (.slice a6 Q2.length c6)) hB12.size (fun j e => by cases e; omega)
                  clear hst2 cm2 fm2 hm2 hn2 hro hB12 hA1 hm1 hB1 hst1 HPT
                  generalize X2.setCell ⟨MB, 0, none⟩ (.slice a6 Q2.length c6) = X3 at hA3 hp3 hm3 hB3 ⊢
                  have HA3 := Lib.hid hA3
                  have HP3 := Lib.hid hp3
                  have HM3 := Lib.hid hm3
                  clear hA3 hp3 hm3
                  go_wp2_with fail
                  have hB4 := hB3.trans ((Below.refl X3.heap.size X3).drew.mono hB3.size)
                  have hA4 := Lib.hid (HA3.out.below (Below.refl X3.heap.size X3).drew)
                  have hm4 := Lib.hid (HM3.out.below HM3.out.lt (Below.refl X3.heap.size X3).drew)
                  have hp4 := Lib.hid (prow_below (Below.refl X3.heap.size X3).drew HP3.out)
                  have hst4 := cell_below hB4 hk4
                  have hs4 := hB4.size
                  generalize hX4 : X3.drew = X4 at hB4 hA4 hm4 hp4 hst4 hs4
                  have HAP := Lib.hid (aput_any X4 hA4.out (by omega) (by have := OneBlk.lt hm4.out; omega) (codB sk) sk (by omega) (by omega))
                  rw [hQ2.out] at HAP
                  refine wp_region_noPanic ?_
                  refine wp_region_held_drew (S := fun w' => w'.cell? ⟨w.heap.size + 1, k, none⟩ = some (.string sk)) (by kernel_rfl) (by rw [hX4]; exact hst4) (fun _ => ?_)
                  rw [hX4]
                  clear hX4
                  refine wpAnyH_take (i := 0) (v := .pointer (some ⟨b, 0, none⟩)) rfl (by kernel_rfl) (by kernel_rfl) (by kernel_rfl) (fun _ _ _ h => h) (Or.inl ⟨by rfl, ?_⟩) hst4 ?_
                  · intro w' l0
                    go_simp
                  try simp only [Act.put, List.setIfInBounds_toArray, List.set_cons_zero, List.set_cons_succ]
                  refine wpAnyH_take (i := 1) (v := .slice (some ⟨w.heap.size + 1, 0, none⟩) 6 6) rfl (by kernel_rfl) (by kernel_rfl) (by kernel_rfl) (fun _ _ _ h => h) (Or.inl ⟨by rfl, ?_⟩) hst4 ?_
                  · intro w' l0
                    go_simp
                  try simp only [Act.put, List.setIfInBounds_toArray, List.set_cons_zero, List.set_cons_succ]
                  refine wpAnyH_take (i := 2) (v := .int .i64 (k : Int)) rfl (by kernel_rfl) (by kernel_rfl) (by kernel_rfl) (fun _ _ _ h => h) (Or.inl ⟨by rfl, ?_⟩) hst4 ?_
                  · intro w' l0
                    go_simp
                  try simp only [Act.put, List.setIfInBounds_toArray, List.set_cons_zero, List.set_cons_succ]
                  refine wpAnyH_take (i := 3) (v := .pointer (some ⟨w.heap.size + 1, k, none⟩)) rfl (by kernel_rfl) (by kernel_rfl) (by kernel_rfl) (fun _ _ _ h => h) (Or.inl ⟨by rfl, ?_⟩) hst4 ?_
                  · intro w' l0
                    go_simp
                  try simp only [Act.put, List.setIfInBounds_toArray, List.set_cons_zero, List.set_cons_succ]
                  refine wpAnyH_take (i := 4) (v := .string sk) rfl (by kernel_rfl) (by kernel_rfl) (by kernel_rfl) (fun _ _ _ h => h) (Or.inl ⟨by rfl, ?_⟩) hst4 ?_
                  · intro w' l0
                    go_simp
                  try simp only [Act.put, List.setIfInBounds_toArray, List.set_cons_zero, List.set_cons_succ]
                  refine wpAnyH_take (i := 6) (v := .slice (some ⟨w.heap.size + 1, 0, none⟩) 6 6) rfl (by kernel_rfl) (by kernel_rfl) (by kernel_rfl) (fun _ _ _ h => h) (Or.inl ⟨by rfl, ?_⟩) hst4 ?_
                  · intro w' l0
                    go_simp
                  try simp only [Act.put, List.setIfInBounds_toArray, List.set_cons_zero, List.set_cons_succ]
                  refine wpAnyH_take (i := 7) (v := .int .i64 (k : Int)) rfl (by kernel_rfl) (by kernel_rfl) (by kernel_rfl) (fun _ _ _ h => h) (Or.inl ⟨by rfl, ?_⟩) hst4 ?_
                  · intro w' l0
                    go_simp
                  try simp only [Act.put, List.setIfInBounds_toArray, List.set_cons_zero, List.set_cons_succ]
                  refine wpAnyH_take (i := 8) (v := .pointer (some ⟨w.heap.size + 1, k, none⟩)) rfl (by kernel_rfl) (by kernel_rfl) (by kernel_rfl) (fun _ _ _ h => h) (Or.inl ⟨by rfl, ?_⟩) hst4 ?_
                  · intro w' l0
                    go_simp
                  try simp only [Act.put, List.setIfInBounds_toArray, List.set_cons_zero, List.set_cons_succ]
                  refine wpAnyH_take (i := 9) (v := .string sk) rfl (by kernel_rfl) (by kernel_rfl) (by kernel_rfl) (fun _ _ _ h => h) (Or.inl ⟨by rfl, ?_⟩) hst4 ?_
                  · intro w' l0
                    go_simp
                  try simp only [Act.put, List.setIfInBounds_toArray, List.set_cons_zero, List.set_cons_succ]
                  refine wpAnyH_ready (rs := [5]) (by kernel_rfl) (by simp) ?_
                  refine AllReadyH.cons (o := _) rfl (fun Kx hKx => ?_) AllReadyH.nil
                  go_simp
                  go_at_call 10
                  refine (coded_any sk _).mono ?_
                  rintro e Xc ⟨rfl, rfl⟩
                  try simp only
                  refine hKx.out _ _ hst4 (fun _ => ?_)
                  clear hKx Kx
                  try simp only [Act.put, List.setIfInBounds_toArray, List.set_cons_zero, List.set_cons_succ]
                  refine wpAnyH_ready (rs := [10]) (by kernel_rfl) (by simp) ?_
                  refine AllReadyH.cons (o := _) rfl (fun Kx hKx => ?_) AllReadyH.nil
                  go_simp
                  go_at_call 11
                  refine HAP.out.mono ?_
                  rintro e X5 ⟨rfl, v5, hA5, hT5⟩
                  have hB5 := hB4.trans ((Turned.below hA4.out hT5 (by have := OneBlk.lt hm4.out; omega)).mono (show w4.heap.size ≤ B6 by omega))
                  have hst5 := cell_below hB5 hk4
                  try simp only
                  refine hKx.out _ _ hst5 (fun _ => ?_)
                  clear hKx Kx
                  try simp only [Act.put, List.setIfInBounds_toArray, List.set_cons_zero, List.set_cons_succ]
                  refine wpAnyH_done (by kernel_rfl) ?_ _
                  refine NoPanic.normal ?_
                  have hm5 := hm4.out.turned hA4.out hT5 (by decide) (by decide)
                  have hp5 := prow_turned hA4.out hT5 hp4.out
                  clear hst5 hst4 hT5
                  go_wp2_with fail
                  go_meet
                  case rel => exact ⟨v5, Q2, a6, c6, hA5, by omega, hm5, hp5, hB5⟩
                · go_simp
                  go_at_call 10
                  refine (coded_any sk _).mono ?_
                  rintro e Xc ⟨rfl, rfl⟩
                  try simp only
                  refine hKx.out _ _ hst1 (fun _ => ?_)
                  clear hKx Kx
                  try simp only [Act.put, List.setIfInBounds_toArray, List.set_cons_zero, List.set_cons_succ]
                  refine wpAnyH_ready (rs := [0]) (by kernel_rfl) (by simp) ?_
                  refine AllReadyH.cons (o := _) rfl (fun Kx hKx => ?_) AllReadyH.nil
                  go_simp
                  try simp only
                  refine hKx.out _ _ hst1 (fun _ => ?_)
                  clear hKx Kx
                  try simp only [Act.put, List.setIfInBounds_toArray, List.set_cons_zero, List.set_cons_succ]
                  refine wpAnyH_ready (rs := [10]) (by kernel_rfl) (by simp) ?_
                  refine AllReadyH.cons (o := _) rfl (fun Kx hKx => ?_) AllReadyH.nil
                  go_simp
                  go_at_call 9
                  refine HPT.out.mono ?_
                  rintro e X2 ⟨a6, c6, rfl, hro, hn2⟩
                  have hm2 := hm1.below hm1.lt hn2
                  have cm2 := hm2.cell
                  have fm2 := hm2.frozen 0
                  have hst2 := cell_below hn2 hst1
                  try simp only
                  refine hKx.out _ _ hst2 (fun _ => ?_)
                  clear hKx Kx
                  try simp only [Act.put, List.setIfInBounds_toArray, List.set_cons_zero, List.set_cons_succ]
                  refine wpAnyH_take (i := 11) (v := .tuple #[.agg #[.slice a6 Q2.length c6], .int .i64 Ee]) rfl (by kernel_rfl) (by kernel_rfl) (by kernel_rfl) (fun _ _ _ h => h) (Or.inl ⟨by rfl, ?_⟩) hst2 ?_
                  · intro w' l0
                    go_simp
                  try simp only [Act.put, List.setIfInBounds_toArray, List.set_cons_zero, List.set_cons_succ]
                  refine wpAnyH_take (i := 12) (v := .agg #[.slice a6 Q2.length c6]) rfl (by kernel_rfl) (by kernel_rfl) (by kernel_rfl) (fun _ _ _ h => h) (Or.inl ⟨by rfl, ?_⟩) hst2 ?_
                  · intro w' l0
                    go_simp
                  try simp only [Act.put, List.setIfInBounds_toArray, List.set_cons_zero, List.set_cons_succ]
                  refine wpAnyH_take (i := 13) (v := .int .i64 Ee) rfl (by kernel_rfl) (by kernel_rfl) (by kernel_rfl) (fun _ _ _ h => h) (Or.inl ⟨by rfl, ?_⟩) hst2 ?_
                  · intro w' l0
                    go_simp
                  try simp only [Act.put, List.setIfInBounds_toArray, List.set_cons_zero, List.set_cons_succ]
                  refine wpAnyH_ready (rs := [14]) (by kernel_rfl) (by simp) ?_
                  refine AllReadyH.cons (o := _) rfl (fun Kx hKx => ?_) AllReadyH.nil
                  go_simp
                  try simp only
                  refine hKx.out _ _ ((cell_set_far hst2 (by show MB ≠ w.heap.size + 1; omega))) (fun _ => ?_)
                  clear hKx Kx
                  try simp only [Act.put, List.setIfInBounds_toArray, List.set_cons_zero, List.set_cons_succ]
                  refine wpAnyH_done (by kernel_rfl) ?_ _
                  refine NoPanic.normal ?_
                  have hA3 := art_set (hA1.out.below hn2) hm2 (by decide) (by decide) (.slice a6 Q2.length c6)
                  have hp3 := prow_set1 hro.1 hm2 (by decide) (.slice a6 Q2.length c6)
                  have hm3 := hm2.set (.slice a6 Q2.length c6)
                  have hB12 := hB1.trans (hn2.mono hB1.size)
                  have hB3 := hB12.grown (grownBy_setCell' X2 MB (.slice a6 Q2.length c6)) hB12.size (fun j e => by cases e; omega)
                  clear hst2 cm2 fm2 hm2 hn2 hro hB12 hA1 hm1 hB1 hst1 HPT
                  generalize X2.setCell ⟨MB, 0, none⟩ (.slice a6 Q2.length c6) = X3 at hA3 hp3 hm3 hB3 ⊢
                  have HA3 := Lib.hid hA3
                  have HP3 := Lib.hid hp3
                  have HM3 := Lib.hid hm3
                  clear hA3 hp3 hm3
                  go_wp2_with fail
                  have hB4 := hB3.trans ((Below.refl X3.heap.size X3).drew.mono hB3.size)
                  have hA4 := Lib.hid (HA3.out.below (Below.refl X3.heap.size X3).drew)
                  have hm4 := Lib.hid (HM3.out.below HM3.out.lt (Below.refl X3.heap.size X3).drew)
                  have hp4 := Lib.hid (prow_below (Below.refl X3.heap.size X3).drew HP3.out)
                  have hst4 := cell_below hB4 hk4
                  have hs4 := hB4.size
                  generalize hX4 : X3.drew = X4 at hB4 hA4 hm4 hp4 hst4 hs4
                  have HAP := Lib.hid (aput_any X4 hA4.out (by omega) (by have := OneBlk.lt hm4.out; omega) (codB sk) sk (by omega) (by omega))
                  rw [hQ2.out] at HAP
                  refine wp_region_noPanic ?_
                  refine wp_region_held_drew (S := fun w' => w'.cell? ⟨w.heap.size + 1, k, none⟩ = some (.string sk)) (by kernel_rfl) (by rw [hX4]; exact hst4) (fun _ => ?_)
                  rw [hX4]
                  clear hX4
                  refine wpAnyH_take (i := 0) (v := .pointer (some ⟨b, 0, none⟩)) rfl (by kernel_rfl) (by kernel_rfl) (by kernel_rfl) (fun _ _ _ h => h) (Or.inl ⟨by rfl, ?_⟩) hst4 ?_
                  · intro w' l0
                    go_simp
                  try simp only [Act.put, List.setIfInBounds_toArray, List.set_cons_zero, List.set_cons_succ]
                  refine wpAnyH_take (i := 1) (v := .slice (some ⟨w.heap.size + 1, 0, none⟩) 6 6) rfl (by kernel_rfl) (by kernel_rfl) (by kernel_rfl) (fun _ _ _ h => h) (Or.inl ⟨by rfl, ?_⟩) hst4 ?_
                  · intro w' l0
                    go_simp
                  try simp only [Act.put, List.setIfInBounds_toArray, List.set_cons_zero, List.set_cons_succ]
                  refine wpAnyH_take (i := 2) (v := .int .i64 (k : Int)) rfl (by kernel_rfl) (by kernel_rfl) (by kernel_rfl) (fun _ _ _ h => h) (Or.inl ⟨by rfl, ?_⟩) hst4 ?_
                  · intro w' l0
                    go_simp
                  try simp only [Act.put, List.setIfInBounds_toArray, List.set_cons_zero, List.set_cons_succ]
                  refine wpAnyH_take (i := 3) (v := .pointer (some ⟨w.heap.size + 1, k, none⟩)) rfl (by kernel_rfl) (by kernel_rfl) (by kernel_rfl) (fun _ _ _ h => h) (Or.inl ⟨by rfl, ?_⟩) hst4 ?_
                  · intro w' l0
                    go_simp
                  try simp only [Act.put, List.setIfInBounds_toArray, List.set_cons_zero, List.set_cons_succ]
                  refine wpAnyH_take (i := 4) (v := .string sk) rfl (by kernel_rfl) (by kernel_rfl) (by kernel_rfl) (fun _ _ _ h => h) (Or.inl ⟨by rfl, ?_⟩) hst4 ?_
                  · intro w' l0
                    go_simp
                  try simp only [Act.put, List.setIfInBounds_toArray, List.set_cons_zero, List.set_cons_succ]
                  refine wpAnyH_take (i := 6) (v := .slice (some ⟨w.heap.size + 1, 0, none⟩) 6 6) rfl (by kernel_rfl) (by kernel_rfl) (by kernel_rfl) (fun _ _ _ h => h) (Or.inl ⟨by rfl, ?_⟩) hst4 ?_
                  · intro w' l0
                    go_simp
                  try simp only [Act.put, List.setIfInBounds_toArray, List.set_cons_zero, List.set_cons_succ]
                  refine wpAnyH_take (i := 7) (v := .int .i64 (k : Int)) rfl (by kernel_rfl) (by kernel_rfl) (by kernel_rfl) (fun _ _ _ h => h) (Or.inl ⟨by rfl, ?_⟩) hst4 ?_
                  · intro w' l0
                    go_simp
                  try simp only [Act.put, List.setIfInBounds_toArray, List.set_cons_zero, List.set_cons_succ]
                  refine wpAnyH_take (i := 8) (v := .pointer (some ⟨w.heap.size + 1, k, none⟩)) rfl (by kernel_rfl) (by kernel_rfl) (by kernel_rfl) (fun _ _ _ h => h) (Or.inl ⟨by rfl, ?_⟩) hst4 ?_
                  · intro w' l0
                    go_simp
                  try simp only [Act.put, List.setIfInBounds_toArray, List.set_cons_zero, List.set_cons_succ]
                  refine wpAnyH_take (i := 9) (v := .string sk) rfl (by kernel_rfl) (by kernel_rfl) (by kernel_rfl) (fun _ _ _ h => h) (Or.inl ⟨by rfl, ?_⟩) hst4 ?_
                  · intro w' l0
                    go_simp
                  try simp only [Act.put, List.setIfInBounds_toArray, List.set_cons_zero, List.set_cons_succ]
                  refine wpAnyH_ready (rs := [5]) (by kernel_rfl) (by simp) ?_
                  refine AllReadyH.cons (o := _) rfl (fun Kx hKx => ?_) AllReadyH.nil
                  go_simp
                  go_at_call 10
                  refine (coded_any sk _).mono ?_
                  rintro e Xc ⟨rfl, rfl⟩
                  try simp only
                  refine hKx.out _ _ hst4 (fun _ => ?_)
                  clear hKx Kx
                  try simp only [Act.put, List.setIfInBounds_toArray, List.set_cons_zero, List.set_cons_succ]
                  refine wpAnyH_ready (rs := [10]) (by kernel_rfl) (by simp) ?_
                  refine AllReadyH.cons (o := _) rfl (fun Kx hKx => ?_) AllReadyH.nil
                  go_simp
                  go_at_call 11
                  refine HAP.out.mono ?_
                  rintro e X5 ⟨rfl, v5, hA5, hT5⟩
                  have hB5 := hB4.trans ((Turned.below hA4.out hT5 (by have := OneBlk.lt hm4.out; omega)).mono (show w4.heap.size ≤ B6 by omega))
                  have hst5 := cell_below hB5 hk4
                  try simp only
                  refine hKx.out _ _ hst5 (fun _ => ?_)
                  clear hKx Kx
                  try simp only [Act.put, List.setIfInBounds_toArray, List.set_cons_zero, List.set_cons_succ]
                  refine wpAnyH_done (by kernel_rfl) ?_ _
                  refine NoPanic.normal ?_
                  have hm5 := hm4.out.turned hA4.out hT5 (by decide) (by decide)
                  have hp5 := prow_turned hA4.out hT5 hp4.out
                  clear hst5 hst4 hT5
                  go_wp2_with fail
                  go_meet
                  case rel => exact ⟨v5, Q2, a6, c6, hA5, by omega, hm5, hp5, hB5⟩
              · go_meet
                case rel => exact ⟨v, Q, ra, rc, hA.out, by omega, HM.out, HP.out, hB2⟩
            case rest =>
              obtain ⟨v', Q', ra', rc', hA', hQ', hm', hp', hB'⟩ := hcut
              have hMB' := OneBlk.lt hm'
              go_wp2_with fail
              go_roundw
              case rel => exact ⟨k + 1, v', Q', ra', rc', by omega, by go_num, Lib.hid hA', hQ', hm', hp', hB', hMB'⟩
              case measure => simp [intOf]; omega
          · have ik : decide ((k : Int) < 6) = false := decide_eq_false (by omega)
            have hsm : ∀ p ∈ Q, p.1.size ≤ 1000 ∧ p.2.size ≤ 1000 := fun p hp => by have := hA.out.small p hp; omega
            have HSA := Lib.hid (fun W (hb : Below wr.heap.size wr W) (s t : ByteArray) (hs : s.size ≤ 281474976710656) (x : Int) => wsame_any ra Q.length rc Q W (Src.art (hA.out.below hb)) ((prow_in hp hsm).1.below hb) (by omega) s t hs x)
            have HMC := Lib.hid (fun W (hb : Below wr.heap.size wr W) => (hm.below hMB hb).cell)
            have HLO := Lib.hid (fun W (hb : Below wr.heap.size wr W) => hB2.trans (hb.mono hB2.size))
            have hB0 := Below.refl wr.heap.size wr
            clear hA hm hp hB2 hMB hsm
            obtain ⟨wz, hwz⟩ : ∃ wz, wz = wr := ⟨_, rfl⟩
            rw [← hwz] at HSA HMC HLO hB0 ⊢
            clear hwz
            go_wp2_with fail
            go_loopw [8] (fun i wr3 => ∃ p : Nat, p ≤ 12 ∧ i = .int .i64 p ∧ Below wz.heap.size wz wr3) (fun i _ => 12 - (intOf i).toNat)
            case atStart => exact ⟨0, by omega, rfl, hB0⟩
            case round =>
              clear hB0
              obtain ⟨p, hp12, rfl, hBp⟩ := hrel
              by_cases hp1 : p < 12
              · have ip : decide ((p : Int) < 12) = true := decide_eq_true (by omega)
                go_wp2_with fail
                go_loopw [9] (fun i wr4 => ∃ q : Nat, q ≤ 12 ∧ i = .int .i64 q ∧ Below wz.heap.size wz wr4) (fun i _ => 12 - (intOf i).toNat)
                case atStart => exact ⟨0, by omega, rfl, hBp⟩
                case round =>
                  clear hBp
                  obtain ⟨q, hq12, rfl, hBq⟩ := hrel
                  by_cases hq1 : q < 12
                  · have iq : decide ((q : Int) < 12) = true := decide_eq_true (by omega)
                    go_wp2_with fail
                    obtain ⟨sp, hsp, hspz⟩ := (HW.out _ (HLO.out _ hBq)).bnds p hp1
                    obtain ⟨sq, hsq, hsqz⟩ := (HW.out _ (HLO.out _ hBq)).bnds q hq1
                    obtain ⟨r, hr, hr8⟩ : ∃ r : Nat, ((p : Int) + (q : Int)).tmod 8 = (r : Int) ∧ r < 8 := ⟨(p + q) % 8, by rw [Int.tmod_eq_emod_of_nonneg (by omega)]; omega, by omega⟩
                    obtain ⟨xr, hxr⟩ := (HW.out _ (HLO.out _ hBq)).nums r hr8
                    have hmc := HMC.out _ hBq
                    have HSQ := Lib.hid (fun W (hb : Below wr.heap.size wr W) => HSA.out W (hBq.trans (hb.mono hBq.size)) sp sq (by omega) xr)
                    have z1 := fun d os => cell_regrown hmc d os
                    have z2 := fun d os => cell_regrown hsp d os
                    have z3 := fun d os => cell_regrown hsq d os
                    have z4 := fun d os => cell_regrown hxr d os
                    have hpI : (p : Int) < 12 := by omega
                    have hqI : (q : Int) < 12 := by omega
                    have hrI : (r : Int) < 8 := by omega
                    have hsum : (p : Int) + (q : Int) ≤ 24 := by omega
                    clear hmc hsp hsq hxr
                    refine wp_region_quiet_below (by kernel_rfl) (by kernel_rfl) ?_
                    repeat (go_big_quiet_step (first | (go_at_call 12; exact Calls.regrown_of (HSQ.out _ (below_regrown _ _ _)))))
                    refine wpQuiet_nil ?_
                    intro _ hw'
                    obtain ⟨⟨dq, osq⟩, hw''⟩ := hw'
                    subst hw''
                    have hB9 := hBq.trans ((below_regrown wr dq osq).mono hBq.size)
                    go_wp2_with fail
                    go_roundw
                    case rel => exact ⟨q + 1, by omega, by go_num, hB9⟩
                    case measure => simp [intOf]; omega
                  · have iq : decide ((q : Int) < 12) = false := decide_eq_false (by omega)
                    go_wp2_with fail
                    go_roundw
                    case rel => exact ⟨p + 1, by omega, by go_num, hBq⟩
                    case measure => simp [intOf]; omega
              · have ip : decide ((p : Int) < 12) = false := decide_eq_false (by omega)
                go_wp2_with fail
                go_roundw
                case rel => exact ⟨n + 1, by omega, by go_num, HLO.out _ hBp⟩
                case measure => simp [intOf]; omega
      · have i6 : decide (n < 64) = false := decide_eq_false hn6
        go_wp2_with fail
        go_meet
        case rel => exact hBr
  case rest =>
    have hm9 := HW.out wc hcut
    have hr9 := Lib.hid hm9.res
    have hl9 := hm9.low
    have hz9 := hm9.lt
    clear hm9 HW hS4 hcut
    obtain ⟨w0, hw0⟩ : ∃ w0, (wc.alloc (.cells #[.slice none 0 0, .map none] 39)).alloc (.cells #[.pointer none, .pointer (some ⟨wc.heap.size, 0, none⟩)] 24) = w0 := ⟨_, rfl⟩
    go_wp2_with fail
    have hb0 : Below wc.heap.size wc w0 := by rw [← hw0]; exact ((Below.refl _ _).alloc (Nat.le_refl _) _).alloc (by simp) _
    have hz0 : w0.heap[wc.heap.size]? = some (.cells #[.slice none 0 0, .map none] 39 (0, 0)) := by rw [← hw0]; exact key1 _ _ _ _ (World.alloc_heap_new _ _)
    have hp0 : w0.heap[wc.heap.size + 1]? = some (.cells #[.pointer none, .pointer (some ⟨wc.heap.size, 0, none⟩)] 24 (0, 0)) := by
      rw [← hw0]
      have := World.alloc_heap_new (wc.alloc (.cells #[.slice none 0 0, .map none] 39)) (.cells #[.pointer none, .pointer (some ⟨wc.heap.size, 0, none⟩)] 24)
      rw [World.size_alloc] at this
      exact this
    have HZ := Lib.hid (fun W (hb : Below w0.heap.size w0 W) => Src.below (Src.zero _ hz0) hb)
    have HP := Lib.hid (fun W (hb : Below w0.heap.size w0 W) => show W.cell? ⟨wc.heap.size + 1, 0, none⟩ = some (.pointer none) ∧ W.cell? ⟨wc.heap.size + 1, 1, none⟩ = some (.pointer (some ⟨wc.heap.size, 0, none⟩)) from ⟨cell_below hb (cell_at hp0 rfl), cell_below hb (cell_at hp0 rfl)⟩)
    have HR := Lib.hid (fun W (hb : Below w0.heap.size w0 W) => hr9.out.below hr9.out.lt (hb0.trans (hb.mono hb0.size)))
    have HL := Lib.hid (fun W (hb : Below w0.heap.size w0 W) => hl9.trans ((hb0.trans (hb.mono hb0.size)).mono hl9.size))
    have hsz0 := hb0.size
    clear hw0 hz0 hp0 hb0
    refine wp_loop_rounds 3 ?_
    rw [rounds_succ]
    obtain ⟨q0, q1⟩ := HP.out w0 (Below.refl _ _)
    go_wp2_with (go_at_call 13; refine (goes_any _ _ _).mono ?_; rintro e w3 ⟨rfl, rfl⟩)
    have HSM := Lib.hid (fun (W : World) (av : Value) (h : Src W av []) (s t : ByteArray) (hs : s.size ≤ 281474976710656) (n : Int) => wsame_any none 0 0 [] W h (ispairs_nil _ _ rfl) (by decide) s t hs n)
    have two : ∀ (X : World) (u : Value), ((X.alloc (.cells #[u] 82)).alloc (.cells #[.string ⟨#[]⟩] 9)).cell? ⟨X.heap.size, 0, none⟩ = some u ∧ ((X.alloc (.cells #[u] 82)).alloc (.cells #[.string ⟨#[]⟩] 9)).cell? ⟨X.heap.size + 1, 0, none⟩ = some (.string ⟨#[]⟩) ∧
        Below X.heap.size X ((X.alloc (.cells #[u] 82)).alloc (.cells #[.string ⟨#[]⟩] 9)) := by
      intro X u
      refine ⟨cell_at (key1 _ _ _ _ (World.alloc_heap_new _ _)) rfl, ?_, ((Below.refl _ _).alloc (Nat.le_refl _) _).alloc (by simp) _⟩
      have := World.alloc_heap_new (X.alloc (.cells #[u] 82)) (.cells #[.string ⟨#[]⟩] 9)
      rw [World.size_alloc] at this
      exact cell_at this rfl
    have TWO := Lib.hid two
    clear two
    obtain ⟨t1, t2, t3⟩ := TWO.out w0 (.pointer none)
    refine (wpIn_wide (n := 9)).1 ?_
    refine range_none none w0.heap.size rfl t1 t2 .none ?_
    intro W hbW hD
    have hbA := t3.trans (hbW.mono t3.size)
    rw [World.size_alloc, World.size_alloc] at hD ⊢
    have hWs := hbW.size
    rw [World.size_alloc, World.size_alloc] at hWs
    have hWl := (Array.getElem?_eq_some_iff.1 hD).1
    clear t1 t2 t3 hbW q0 q1
    obtain ⟨q0, q1⟩ := HP.out W hbA
    have HD := Lib.hid hD
    clear hD
    gi_wp2
    go_wp2_with (first
      | (go_at_call 12; refine (HSM.out W _ .none _ _ (by decide) _).mono ?_; rintro e W5 ⟨rfl, hb5⟩; have hbB := hbA.trans (hb5.mono hbA.size); have HD5 := Lib.hid ((hb5.block _ (by omega)).trans HD.out); have hs5 := hb5.size; clear hbA hb5 q0 q1; obtain ⟨q0, q1⟩ := HP.out W5 hbB)
      | (go_at_call 12; refine (HSM.out W5 _ .none _ _ (by decide) _).mono ?_; rintro e W6 ⟨rfl, hb6⟩; have hbC := hbB.trans (hb6.mono hbB.size); have HD6 := Lib.hid ((hb6.block _ (by omega)).trans HD5.out); have hs6 := hb6.size; clear hbB hb6 q0 q1; obtain ⟨q0, q1⟩ := HP.out W6 hbC))
    rw [rounds_succ]
    go_wp2_with (go_at_call 13; refine (goes_any _ _ _).mono ?_; rintro e w3 ⟨rfl, rfl⟩)
    obtain ⟨t1, t2, t3⟩ := TWO.out W6 (.pointer (some ⟨wc.heap.size, 0, none⟩))
    have hbC' := hbC.trans (t3.mono hbC.size)
    have hl6 := (Array.getElem?_eq_some_iff.1 HD6.out).1
    have HDt := Lib.hid ((t3.block _ hl6).trans HD6.out)
    refine (wpIn_wide (n := 9)).1 ?_
    refine range_none (some ⟨wc.heap.size, 0, none⟩) W6.heap.size rfl t1 t2 (HZ.out _ hbC') ?_
    intro V hbV hD
    have hbA := hbC'.trans (hbV.mono hbC'.size)
    have HDv := Lib.hid ((hbV.block _ (by simp; omega)).trans HDt.out)
    rw [World.size_alloc, World.size_alloc] at hD ⊢
    have hVl := (Array.getElem?_eq_some_iff.1 hD).1
    clear t1 t2 t3 hbV q0 q1 hbC hbC'
    obtain ⟨q0, q1⟩ := HP.out V hbA
    have HD := Lib.hid hD
    clear hD
    gi_wp2
    go_wp2_with (first
      | (go_at_call 12; refine (HSM.out V _ (HZ.out V hbA) _ _ (by decide) _).mono ?_; rintro e V5 ⟨rfl, hb5⟩; have hbB := hbA.trans (hb5.mono hbA.size); have HE5 := Lib.hid ((hb5.block _ (by omega)).trans HD.out); have HF5 := Lib.hid ((hb5.block _ (by omega)).trans HDv.out); have hv5 := hb5.size; clear hbA hb5 q0 q1; obtain ⟨q0, q1⟩ := HP.out V5 hbB)
      | (go_at_call 12; refine (HSM.out V5 _ (HZ.out V5 hbB) _ _ (by decide) _).mono ?_; rintro e V6 ⟨rfl, hb6⟩; have hbC := hbB.trans (hb6.mono hbB.size); have HE6 := Lib.hid ((hb6.block _ (by omega)).trans HE5.out); have HF6 := Lib.hid ((hb6.block _ (by omega)).trans HF5.out); have hv6 := hb6.size; clear hbB hb6 q0 q1; obtain ⟨q0, q1⟩ := HP.out V6 hbC))
    rw [rounds_succ]
    clear q0 q1
    go_wp2_with (first
      | (go_at_call 14; refine (awake_any _).mono ?_; rintro e V7 ⟨rfl, hb7⟩; have hbE := hbC.trans (hb7.mono hbC.size); have HE7 := Lib.hid ((hb7.block _ (by omega)).trans HE6.out); have HF7 := Lib.hid ((hb7.block _ (by omega)).trans HF6.out); have hr7 := HR.out V7 hbE; have r7 := hr7.cell; have r7f := hr7.frozen 0))
    have hl7 := HL.out V7 hbE
    have hE7 := ((Below.heap_setCell _ _ _ _ (by show W6.heap.size + 1 + 1 ≠ w.heap.size; omega)).trans HE7.out : (V7.setCell ⟨w.heap.size, 0, none⟩ (.bool true)).heap[W6.heap.size + 1 + 1]? = _)
    have hF7 := ((Below.heap_setCell _ _ _ _ (by show w0.heap.size + 1 + 1 ≠ w.heap.size; omega)).trans HF7.out : (V7.setCell ⟨w.heap.size, 0, none⟩ (.bool true)).heap[w0.heap.size + 1 + 1]? = _)
    have hb9 := hr7.set (.bool true)
    have hg7 := grownBy_setCell' V7 w.heap.size (.bool true)
    have hlow := hl7.grown hg7 hl7.size (fun j e => by cases e; omega)
    clear hr7 r7 r7f hl7 hg7
    generalize V7.setCell ⟨w.heap.size, 0, none⟩ (.bool true) = X9 at hE7 hF7 hb9 hlow ⊢
    have hg6 := grownBy_putObj' X9 (W6.heap.size + 1 + 1) (.deferred none)
    have hb10 := boxed_putNon hb9 (.deferred none) hE7 rfl
    have hF8 : (X9.putObj (W6.heap.size + 1 + 1) (.deferred none)).heap[w0.heap.size + 1 + 1]? = _ := (World.putObj_heap_other (by omega)).trans hF7
    have hlow2 := hlow.grown hg6 hlow.size (fun j e => by cases e; omega)
    refine ⟨by simp, .inl ⟨_, _, rfl, run_takeDeferred hE7, ?_⟩⟩
    generalize X9.putObj (W6.heap.size + 1 + 1) (.deferred none) = X10 at hb10 hF8 hlow2 ⊢
    have hg8 := grownBy_putObj' X10 (w0.heap.size + 1 + 1) (.deferred none)
    have q9 := (boxed_putNon hb10 (.deferred none) hF8 rfl).cell
    refine ⟨by simp, .inl ⟨_, _, rfl, run_takeDeferred hF8, ?_⟩⟩
    refine ⟨.bool true, ?_, rfl, hlow2.grown hg8 hlow2.size (fun j e => by cases e; omega)⟩
    simp [results, Try.f3, go_sem, q9]

end Go.Proofs.Ytegccicplcjcmaa
