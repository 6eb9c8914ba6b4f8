/- Walk: one operation on the book and on its reference model. -/
import Derived.Test.YtgfhaldfjnepmaaBkR8
namespace Go.Proofs.Ytgfhaldfjnepmaa
open Go Go.RowKit Go.Shelf Go.Proofs
attribute [local go_sem] Oper.semAt_some

/-- The blocks that an operation on both keeps: the model, the operation, what goes out. -/
def DoesBlks (w : World) (n : Nat) (x y z : Value) (d : Deed) : Prop := RefBlk w n x y z ∧ DeedBlk w (n + 1) d ∧ RefBlk w (n + 1 + 1) (.slice none 0 0) (.int .u64 0) (.int .u64 0)
theorem DoesBlks.below {w w' : World} {n B : Nat} {x y z : Value} {d : Deed} (h : DoesBlks w n x y z d) (hn : n + 2 < B) (hb : Below B w w') : DoesBlks w' n x y z d :=
  ⟨h.1.below (by omega) hb, h.2.1.below (by omega) hb, h.2.2.below hn hb⟩
theorem DoesBlks.turned {B b m : Nat} {v v' : Value} {w w' : World} {K M : Nat} {ps : PS} (hB : BookAt w B b m v K M ps) (ht : Turned b m v w v' w') {n : Nat} {x y z : Value} {d : Deed} (h : DoesBlks w n x y z d) : DoesBlks w' n x y z d :=
  ⟨h.1.turned hB ht, h.2.1.turned hB ht, h.2.2.turned hB ht⟩
theorem DoesBlks.new (w : World) (x y z : Value) (d : Deed) : DoesBlks (((w.alloc (.cells #[x, y, z] 62)).alloc (.cells #[.int .i64 d.what, .string d.key, .string d.value, .string d.old, .int .i64 d.n] 46)).alloc (.cells #[.slice none 0 0, .int .u64 0, .int .u64 0] 62)) w.heap.size x y z d := by
  refine ⟨?_, ?_, ?_⟩
  · exact key1 _ _ _ _ (key1 _ _ _ _ (World.alloc_heap_new _ _))
  · have := DeedBlk.new (w.alloc (.cells #[x, y, z] 62)) d
    rw [World.size_alloc] at this
    exact key1 _ _ _ _ this
  · have := RefBlk.new ((w.alloc (.cells #[x, y, z] 62)).alloc (.cells #[.int .i64 d.what, .string d.key, .string d.value, .string d.old, .int .i64 d.n] 46)) (.slice none 0 0) (.int .u64 0) (.int .u64 0)
    rw [World.size_alloc, World.size_alloc] at this
    exact this

theorem cell_set3 {W : World} {k b o : Nat} {x y z u : Value} (h1 : k ≠ b) (hu : W.cell? ⟨b, o, none⟩ = some u) : (((W.setCell ⟨k, 0, none⟩ x).setCell ⟨k, 1, none⟩ y).setCell ⟨k, 2, none⟩ z).cell? ⟨b, o, none⟩ = some u := by
  have := set3_other W k b x y z h1
  unfold set3 at this
  simpa [World.cell?, this] using hu

theorem cells_set3 {W : World} {t8 td k : Nat} {x y z p q r s1 s2 s3 : Value} (h1 : k ≠ t8) (h2 : k ≠ td) (h : (W.cell? ⟨t8, 0, none⟩ = some p ∧ W.cell? ⟨t8, 1, none⟩ = some q ∧ W.cell? ⟨t8, 2, none⟩ = some r) ∧ W.cell? ⟨td, 1, none⟩ = some s1 ∧ W.cell? ⟨td, 2, none⟩ = some s2 ∧ W.cell? ⟨td, 3, none⟩ = some s3) :
    ((((W.setCell ⟨k, 0, none⟩ x).setCell ⟨k, 1, none⟩ y).setCell ⟨k, 2, none⟩ z).cell? ⟨t8, 0, none⟩ = some p ∧ (((W.setCell ⟨k, 0, none⟩ x).setCell ⟨k, 1, none⟩ y).setCell ⟨k, 2, none⟩ z).cell? ⟨t8, 1, none⟩ = some q ∧ (((W.setCell ⟨k, 0, none⟩ x).setCell ⟨k, 1, none⟩ y).setCell ⟨k, 2, none⟩ z).cell? ⟨t8, 2, none⟩ = some r) ∧
    (((W.setCell ⟨k, 0, none⟩ x).setCell ⟨k, 1, none⟩ y).setCell ⟨k, 2, none⟩ z).cell? ⟨td, 1, none⟩ = some s1 ∧ (((W.setCell ⟨k, 0, none⟩ x).setCell ⟨k, 1, none⟩ y).setCell ⟨k, 2, none⟩ z).cell? ⟨td, 2, none⟩ = some s2 ∧ (((W.setCell ⟨k, 0, none⟩ x).setCell ⟨k, 1, none⟩ y).setCell ⟨k, 2, none⟩ z).cell? ⟨td, 3, none⟩ = some s3 :=
  ⟨⟨cell_set3 h1 h.1.1, cell_set3 h1 h.1.2.1, cell_set3 h1 h.1.2.2⟩, cell_set3 h2 h.2.1, cell_set3 h2 h.2.2.1, cell_set3 h2 h.2.2.2⟩

theorem mem_scanL {ps : PS} {s : ByteArray} {n : Int} {p : ByteArray × ByteArray} (h : p ∈ scanL ps s n) : p ∈ ps := by
  unfold scanL at h
  split at h
  · exact List.mem_of_mem_drop (List.mem_of_mem_take h)
  · cases h
theorem len_scanL (ps : PS) (s : ByteArray) (n : Int) : (scanL ps s n).length ≤ ps.length := by
  unfold scanL
  split
  · simp; omega
  · simp

/-- What an operation on both does. -/
def DoesPost (b m B : Nat) (v : Value) (K M : Nat) (a : Option Addr) (w : World) (E : Ending) (Q : PS) (w' : World) : Prop :=
  ∃ a' c' v', E = .returned (.tuple #[.agg #[.slice a' Q.length c', .int .u64 K, .int .u64 M], .bool true]) ∧ BookAt w' B b m v' K M Q ∧ PRow w' 0 (.slice a' Q.length c') Q ∧ Turned b m v w v' w' ∧ ∀ ad, a' = some ad → a = some ad ∨ w.heap.size ≤ ad.block

set_option linter.unusedVariables false in
set_option maxRecDepth 100000 in
set_option maxHeartbeats 4000000 in
theorem does_del {B b m : Nat} {v : Value} {K M : Nat} {ps : PS} (w : World) (h : BookAt w B b m v K M ps) (hn : ps.length < 70000) (hBs : B ≤ w.heap.size) (a : Option Addr) (cap : Nat) (hr : PRow w 0 (.slice a ps.length cap) ps) (d : Deed) (h1 : d.key.size ≤ 1000) (h2 : d.value.size ≤ 1000) (h3 : d.old.size ≤ 1000)
    (h4 : -9223372036854775808 ≤ d.n) (h5 : d.n ≤ 9223372036854775807) (hq : d.what % 6 = 3) :
    Calls Try.prog 38 #[.pointer (some ⟨b, 0, none⟩), .agg #[.slice a ps.length cap, .int .u64 K, .int .u64 M], deedV d] w (fun e w' => DoesPost b m B v K M a w e (delQ ps d.key) w') := by
  obtain ⟨w1, hw1⟩ : ∃ w1, w1 = ((w.alloc (.cells #[.slice a ps.length cap, .int .u64 K, .int .u64 M] 62)).alloc (.cells #[.int .i64 d.what, .string d.key, .string d.value, .string d.old, .int .i64 d.n] 46)).alloc (.cells #[.slice none 0 0, .int .u64 0, .int .u64 0] 62) := ⟨_, rfl⟩
  have hB1 : Below w.heap.size w w1 := by rw [hw1]; exact (((Below.refl _ _).alloc (Nat.le_refl _) _).alloc (by simp) _).alloc (by simp; omega) _
  have hsz1 : w1.heap.size = w.heap.size + 3 := by rw [hw1]; simp
  have hX : DoesBlks w1 w.heap.size (.slice a ps.length cap) (.int .u64 K) (.int .u64 M) d := by rw [hw1]; exact DoesBlks.new _ _ _ _ _
  have HX := Lib.hid hX
  have hb1 := h.below hB1
  have hr1 := prow_below hB1 hr
  have hsm := h.small
  have hso := h.sorted
  have HB := Lib.hid hb1
  have HR := Lib.hid hr1
  have HT := Lib.hid (Turned.of_below (b := b) (m := m) (v := v) hB1)
  have HP := Lib.hid (fun W => pick_any d.what 6 W (by omega) (by omega))
  have hsz := hB1.size
  clear h hr hb1 hr1 hX hB1
  obtain ⟨⟨c0, c1, c2⟩, ⟨d0, d1, d2, d3, d4⟩, ⟨r0, r1, r2⟩, f0⟩ := And.intro HX.out.1.cells (And.intro HX.out.2.1.cells (And.intro HX.out.2.2.cells HX.out.2.2.frozen))
  unfold deedV
  have HD := Lib.hid (fun W (hb : Below w1.heap.size w1 W) => del_any W (HB.out.below hb) (by omega) d.key h1)
  have HM := Lib.hid (refdel_any a cap K M ps w1 HR.out (by omega) hso hsm d.key (by omega))
  generalize delQ ps d.key = Q at *
  generalize getE ps d.key = E at *
  rw [hw1] at HM c0 c1 c2 d0 d1 d2 d3 d4
  clear r0 r1 r2 f0
  go_enter Try.func38, Try.ntmps38
  go_wp2_with (first
    | (go_at_call 21; refine (HP.out _).mono ?_; rintro e w' ⟨⟨k, rfl, hk6, hk⟩, rfl⟩; obtain rfl : k = 3 := by omega)
    | (go_at_call 64; refine HM.out.mono ?_; clear HM; rintro e w3 ⟨a3, k3, rfl, hx3, hn3⟩))
  obtain ⟨W4, hW4⟩ : ∃ W4, W4 = w3.alloc (.cells #[.slice a3 Q.length k3, .int .u64 K, .int .u64 M] 62) := ⟨_, rfl⟩
  rw [← hW4]
  rw [← hw1] at hn3 hx3
  have h34 : Below w3.heap.size w3 W4 := by rw [hW4]; exact (Below.refl _ _).alloc (Nat.le_refl _) _
  have hR4 : RefBlk W4 w3.heap.size (.slice a3 Q.length k3) (.int .u64 K) (.int .u64 M) := by rw [hW4]; exact RefBlk.new _ _ _ _
  have hs3 := hn3.size
  have hb4 := hn3.trans (h34.mono hs3)
  have hX4 := HX.out.below (by omega) hb4
  have hp4 : PRow W4 0 (.slice a3 Q.length k3) Q := prow_below h34 hx3.1
  have HLOC := Lib.hid (show ∀ ad, a3 = some ad → a = some ad ∨ w.heap.size ≤ ad.block from fun ad e => by
    subst e
    rcases hx3.2 with ⟨e1, _, _⟩ | hx
    · exact .inl e1.symm
    · exact .inr (Nat.le_trans hsz (hx.lt ad.block rfl).1))
  have hbk4 := HB.out.below hb4
  have HS := Lib.hid (fun (v' : Value) (W : World) (ht : Turned b m v W4 v' W) => And.intro (hR4.turned hbk4 ht).cells (And.intro (hX4.turned hbk4 ht).2.1.cells.2.1 (And.intro (hX4.turned hbk4 ht).2.1.cells.2.2.1 (hX4.turned hbk4 ht).2.1.cells.2.2.2.1)))
  have HF := Lib.hid (fun (v' : Value) (W : World) (ht : Turned b m v W4 v' W) => And.intro (hX4.turned hbk4 ht).2.2 (And.intro (hX4.turned hbk4 ht).2.2.cells (hX4.turned hbk4 ht).2.2.frozen))
  have HS2 := Lib.hid (fun (W : World) (x y z : Value) (p q r s1 s2 s3 : Value) (h : (W.cell? ⟨w3.heap.size, 0, none⟩ = some p ∧ W.cell? ⟨w3.heap.size, 1, none⟩ = some q ∧ W.cell? ⟨w3.heap.size, 2, none⟩ = some r) ∧ W.cell? ⟨w.heap.size + 1, 1, none⟩ = some s1 ∧ W.cell? ⟨w.heap.size + 1, 2, none⟩ = some s2 ∧ W.cell? ⟨w.heap.size + 1, 3, none⟩ = some s3) => cells_set3 (k := w.heap.size + 1 + 1) (x := x) (y := y) (z := z) (by omega) (by omega) h)
  have hst := HS.out v W4 (Turned.refl ..)
  have HD4 := Lib.hid (fun W (hb : Below W4.heap.size W4 W) => HD.out W (hb4.trans (hb.mono hb4.size)))
  have HTT := Lib.hid (fun (v' : Value) (W W' : World) (hb : Below W4.heap.size W4 W) (ht : Turned b m v W v' W') => Turned.trans (Turned.of_below hb) ht)
  clear c0 c1 c2 d0 d1 d2 d3 d4 hw1 hW4
  have HB4 := Lib.hid (Turned.of_below (b := b) (m := m) (v := v) hb4)
  have HBK4 := Lib.hid hbk4
  have HP4 := Lib.hid hp4
  clear hR4 hX4 hp4 hbk4 hx3 h34 hn3 hb4
  go_region_held3 (fun w' => (w'.cell? ⟨w3.heap.size, 0, none⟩ = some (.slice a3 Q.length k3) ∧ w'.cell? ⟨w3.heap.size, 1, none⟩ = some (.int .u64 K) ∧ w'.cell? ⟨w3.heap.size, 2, none⟩ = some (.int .u64 M)) ∧ w'.cell? ⟨w.heap.size + 1, 1, none⟩ = some (.string d.key) ∧ w'.cell? ⟨w.heap.size + 1, 2, none⟩ = some (.string d.value) ∧ w'.cell? ⟨w.heap.size + 1, 3, none⟩ = some (.string d.old))
    (first | assumption | exact HS.out _ _ (by assumption) | exact HS2.out _ _ _ _ _ _ _ _ _ _ (by assumption))
    (first
      | (go_at_call 46
         go_split_ands
         refine (HD4.out _ (by first | exact Below.refl _ _ | exact (Below.refl _ _).drew)).mono ?_
         rintro e w6 ⟨rfl, v', k6, t6⟩
         have ht6 := HTT.out _ _ _ (by first | exact Below.refl _ _ | exact (Below.refl _ _).drew) t6
         obtain ⟨hx6, ⟨r0, r1, r2⟩, f0⟩ := HF.out _ _ ht6)
      | fail)
  all_goals
    have hp6 := prow_turned HBK4.out ht6 HP4.out
    have htt := Turned.trans HT.out (Turned.trans HB4.out ht6)
    have hfin : DoesPost b m B v K M a w (.returned (.tuple #[.agg #[.slice a3 Q.length k3, .int .u64 K, .int .u64 M], .bool true])) Q (set3 w6 (w.heap.size + 1 + 1) (.slice a3 Q.length k3) (.int .u64 K) (.int .u64 M)) :=
      ⟨a3, k3, v', rfl, BookAt.set3 k6 hx6, prow_set3 hp6 hx6, Turned.set3 htt (by omega) _ _ _, HLOC.out⟩
    go_wp2
    refine bodyPost_ret (v := .tuple #[.agg #[.slice a3 Q.length k3, .int .u64 K, .int .u64 M], .bool true]) ?_ rfl hfin
    rw [results_cell_tmp rfl]
    go_simp

set_option linter.unusedVariables false in
set_option maxRecDepth 100000 in
set_option maxHeartbeats 4000000 in
theorem does_swap {B b m : Nat} {v : Value} {K M : Nat} {ps : PS} (w : World) (h : BookAt w B b m v K M ps) (hn : ps.length < 70000) (hBs : B ≤ w.heap.size) (a : Option Addr) (cap : Nat) (hr : PRow w 0 (.slice a ps.length cap) ps) (d : Deed) (h1 : d.key.size ≤ 1000) (h2 : d.value.size ≤ 1000) (h3 : d.old.size ≤ 1000)
    (h4 : -9223372036854775808 ≤ d.n) (h5 : d.n ≤ 9223372036854775807) (hq : d.what % 6 = 4) :
    Calls Try.prog 38 #[.pointer (some ⟨b, 0, none⟩), .agg #[.slice a ps.length cap, .int .u64 K, .int .u64 M], deedV d] w (fun e w' => DoesPost b m B v K M a w e (swapQ K M ps d.key d.old d.value) w') := by
  obtain ⟨w1, hw1⟩ : ∃ w1, w1 = ((w.alloc (.cells #[.slice a ps.length cap, .int .u64 K, .int .u64 M] 62)).alloc (.cells #[.int .i64 d.what, .string d.key, .string d.value, .string d.old, .int .i64 d.n] 46)).alloc (.cells #[.slice none 0 0, .int .u64 0, .int .u64 0] 62) := ⟨_, rfl⟩
  have hB1 : Below w.heap.size w w1 := by rw [hw1]; exact (((Below.refl _ _).alloc (Nat.le_refl _) _).alloc (by simp) _).alloc (by simp; omega) _
  have hsz1 : w1.heap.size = w.heap.size + 3 := by rw [hw1]; simp
  have hX : DoesBlks w1 w.heap.size (.slice a ps.length cap) (.int .u64 K) (.int .u64 M) d := by rw [hw1]; exact DoesBlks.new _ _ _ _ _
  have HX := Lib.hid hX
  have hb1 := h.below hB1
  have hr1 := prow_below hB1 hr
  have hsm := h.small
  have hso := h.sorted
  have HB := Lib.hid hb1
  have HR := Lib.hid hr1
  have HT := Lib.hid (Turned.of_below (b := b) (m := m) (v := v) hB1)
  have HP := Lib.hid (fun W => pick_any d.what 6 W (by omega) (by omega))
  have hsz := hB1.size
  clear h hr hb1 hr1 hX hB1
  obtain ⟨⟨c0, c1, c2⟩, ⟨d0, d1, d2, d3, d4⟩, ⟨r0, r1, r2⟩, f0⟩ := And.intro HX.out.1.cells (And.intro HX.out.2.1.cells (And.intro HX.out.2.2.cells HX.out.2.2.frozen))
  unfold deedV
  have HD := Lib.hid (fun W (hb : Below w1.heap.size w1 W) => swap_any W (HB.out.below hb) (by omega) (by have := hb.size; omega) d.key d.old d.value h1 h3 h2)
  have HM := Lib.hid (refswap_any a cap K M ps w1 HR.out (by omega) hso hsm d.key d.old d.value (by omega) (by omega) (by omega))
  generalize swapQ K M ps d.key d.old d.value = Q at *
  generalize swapE K M ps d.key d.old d.value = E at *
  rw [hw1] at HM c0 c1 c2 d0 d1 d2 d3 d4
  clear r0 r1 r2 f0
  go_enter Try.func38, Try.ntmps38
  go_wp2_with (first
    | (go_at_call 21; refine (HP.out _).mono ?_; rintro e w' ⟨⟨k, rfl, hk6, hk⟩, rfl⟩; obtain rfl : k = 4 := by omega)
    | (go_at_call 65; refine HM.out.mono ?_; clear HM; rintro e w3 ⟨a3, k3, rfl, hx3, hn3⟩))
  obtain ⟨W4, hW4⟩ : ∃ W4, W4 = w3.alloc (.cells #[.slice a3 Q.length k3, .int .u64 K, .int .u64 M] 62) := ⟨_, rfl⟩
  rw [← hW4]
  rw [← hw1] at hn3 hx3
  have h34 : Below w3.heap.size w3 W4 := by rw [hW4]; exact (Below.refl _ _).alloc (Nat.le_refl _) _
  have hR4 : RefBlk W4 w3.heap.size (.slice a3 Q.length k3) (.int .u64 K) (.int .u64 M) := by rw [hW4]; exact RefBlk.new _ _ _ _
  have hs3 := hn3.size
  have hb4 := hn3.trans (h34.mono hs3)
  have hX4 := HX.out.below (by omega) hb4
  have hp4 : PRow W4 0 (.slice a3 Q.length k3) Q := prow_below h34 hx3.1
  have HLOC := Lib.hid (show ∀ ad, a3 = some ad → a = some ad ∨ w.heap.size ≤ ad.block from fun ad e => by
    subst e
    rcases hx3.2 with ⟨e1, _, _⟩ | hx
    · exact .inl e1.symm
    · exact .inr (Nat.le_trans hsz (hx.lt ad.block rfl).1))
  have hbk4 := HB.out.below hb4
  have HS := Lib.hid (fun (v' : Value) (W : World) (ht : Turned b m v W4 v' W) => And.intro (hR4.turned hbk4 ht).cells (And.intro (hX4.turned hbk4 ht).2.1.cells.2.1 (And.intro (hX4.turned hbk4 ht).2.1.cells.2.2.1 (hX4.turned hbk4 ht).2.1.cells.2.2.2.1)))
  have HF := Lib.hid (fun (v' : Value) (W : World) (ht : Turned b m v W4 v' W) => And.intro (hX4.turned hbk4 ht).2.2 (And.intro (hX4.turned hbk4 ht).2.2.cells (hX4.turned hbk4 ht).2.2.frozen))
  have HS2 := Lib.hid (fun (W : World) (x y z : Value) (p q r s1 s2 s3 : Value) (h : (W.cell? ⟨w3.heap.size, 0, none⟩ = some p ∧ W.cell? ⟨w3.heap.size, 1, none⟩ = some q ∧ W.cell? ⟨w3.heap.size, 2, none⟩ = some r) ∧ W.cell? ⟨w.heap.size + 1, 1, none⟩ = some s1 ∧ W.cell? ⟨w.heap.size + 1, 2, none⟩ = some s2 ∧ W.cell? ⟨w.heap.size + 1, 3, none⟩ = some s3) => cells_set3 (k := w.heap.size + 1 + 1) (x := x) (y := y) (z := z) (by omega) (by omega) h)
  have hst := HS.out v W4 (Turned.refl ..)
  have HD4 := Lib.hid (fun W (hb : Below W4.heap.size W4 W) => HD.out W (hb4.trans (hb.mono hb4.size)))
  have HTT := Lib.hid (fun (v' : Value) (W W' : World) (hb : Below W4.heap.size W4 W) (ht : Turned b m v W v' W') => Turned.trans (Turned.of_below hb) ht)
  clear c0 c1 c2 d0 d1 d2 d3 d4 hw1 hW4
  have HB4 := Lib.hid (Turned.of_below (b := b) (m := m) (v := v) hb4)
  have HBK4 := Lib.hid hbk4
  have HP4 := Lib.hid hp4
  clear hR4 hX4 hp4 hbk4 hx3 h34 hn3 hb4
  go_region_held3 (fun w' => (w'.cell? ⟨w3.heap.size, 0, none⟩ = some (.slice a3 Q.length k3) ∧ w'.cell? ⟨w3.heap.size, 1, none⟩ = some (.int .u64 K) ∧ w'.cell? ⟨w3.heap.size, 2, none⟩ = some (.int .u64 M)) ∧ w'.cell? ⟨w.heap.size + 1, 1, none⟩ = some (.string d.key) ∧ w'.cell? ⟨w.heap.size + 1, 2, none⟩ = some (.string d.value) ∧ w'.cell? ⟨w.heap.size + 1, 3, none⟩ = some (.string d.old))
    (first | assumption | exact HS.out _ _ (by assumption) | exact HS2.out _ _ _ _ _ _ _ _ _ _ (by assumption))
    (first
      | (go_at_call 47
         go_split_ands
         refine (HD4.out _ (by first | exact Below.refl _ _ | exact (Below.refl _ _).drew)).mono ?_
         rintro e w6 ⟨rfl, v', k6, t6⟩
         have ht6 := HTT.out _ _ _ (by first | exact Below.refl _ _ | exact (Below.refl _ _).drew) t6
         obtain ⟨hx6, ⟨r0, r1, r2⟩, f0⟩ := HF.out _ _ ht6)
      | fail)
  all_goals
    have hp6 := prow_turned HBK4.out ht6 HP4.out
    have htt := Turned.trans HT.out (Turned.trans HB4.out ht6)
    have hfin : DoesPost b m B v K M a w (.returned (.tuple #[.agg #[.slice a3 Q.length k3, .int .u64 K, .int .u64 M], .bool true])) Q (set3 w6 (w.heap.size + 1 + 1) (.slice a3 Q.length k3) (.int .u64 K) (.int .u64 M)) :=
      ⟨a3, k3, v', rfl, BookAt.set3 k6 hx6, prow_set3 hp6 hx6, Turned.set3 htt (by omega) _ _ _, HLOC.out⟩
    go_wp2
    refine bodyPost_ret (v := .tuple #[.agg #[.slice a3 Q.length k3, .int .u64 K, .int .u64 M], .bool true]) ?_ rfl hfin
    rw [results_cell_tmp rfl]
    go_simp

set_option linter.unusedVariables false in
set_option maxRecDepth 100000 in
set_option maxHeartbeats 4000000 in
theorem does_put {B b m : Nat} {v : Value} {K M : Nat} {ps : PS} (w : World) (h : BookAt w B b m v K M ps) (hn : ps.length < 70000) (hBs : B ≤ w.heap.size) (a : Option Addr) (cap : Nat) (hr : PRow w 0 (.slice a ps.length cap) ps) (d : Deed) (h1 : d.key.size ≤ 1000) (h2 : d.value.size ≤ 1000) (h3 : d.old.size ≤ 1000)
    (h4 : -9223372036854775808 ≤ d.n) (h5 : d.n ≤ 9223372036854775807) (hq : ¬ d.what % 6 = 3 ∧ ¬ d.what % 6 = 4 ∧ ¬ d.what % 6 = 5) :
    Calls Try.prog 38 #[.pointer (some ⟨b, 0, none⟩), .agg #[.slice a ps.length cap, .int .u64 K, .int .u64 M], deedV d] w (fun e w' => DoesPost b m B v K M a w e (putQ K M ps d.key d.value) w') := by
  obtain ⟨w1, hw1⟩ : ∃ w1, w1 = ((w.alloc (.cells #[.slice a ps.length cap, .int .u64 K, .int .u64 M] 62)).alloc (.cells #[.int .i64 d.what, .string d.key, .string d.value, .string d.old, .int .i64 d.n] 46)).alloc (.cells #[.slice none 0 0, .int .u64 0, .int .u64 0] 62) := ⟨_, rfl⟩
  have hB1 : Below w.heap.size w w1 := by rw [hw1]; exact (((Below.refl _ _).alloc (Nat.le_refl _) _).alloc (by simp) _).alloc (by simp; omega) _
  have hsz1 : w1.heap.size = w.heap.size + 3 := by rw [hw1]; simp
  have hX : DoesBlks w1 w.heap.size (.slice a ps.length cap) (.int .u64 K) (.int .u64 M) d := by rw [hw1]; exact DoesBlks.new _ _ _ _ _
  have HX := Lib.hid hX
  have hb1 := h.below hB1
  have hr1 := prow_below hB1 hr
  have hsm := h.small
  have hso := h.sorted
  have HB := Lib.hid hb1
  have HR := Lib.hid hr1
  have HT := Lib.hid (Turned.of_below (b := b) (m := m) (v := v) hB1)
  have HP := Lib.hid (fun W => pick_any d.what 6 W (by omega) (by omega))
  have hsz := hB1.size
  clear h hr hb1 hr1 hX hB1
  obtain ⟨⟨c0, c1, c2⟩, ⟨d0, d1, d2, d3, d4⟩, ⟨r0, r1, r2⟩, f0⟩ := And.intro HX.out.1.cells (And.intro HX.out.2.1.cells (And.intro HX.out.2.2.cells HX.out.2.2.frozen))
  unfold deedV
  have HD := Lib.hid (fun W (hb : Below w1.heap.size w1 W) => put_any W (HB.out.below hb) (by omega) (by have := hb.size; omega) d.key d.value h1 h2)
  have HM := Lib.hid (refput_any a cap K M ps w1 HR.out (by omega) hso hsm d.key d.value (by omega) (by omega))
  generalize putQ K M ps d.key d.value = Q at *
  generalize putE K M ps d.key d.value = E at *
  rw [hw1] at HM c0 c1 c2 d0 d1 d2 d3 d4
  clear r0 r1 r2 f0
  go_enter Try.func38, Try.ntmps38
  go_wp2_with (first
    | (go_at_call 21; refine (HP.out _).mono ?_; rintro e w' ⟨⟨k, rfl, hk6, hk⟩, rfl⟩; have hk3 : ¬ (k : Int) = 3 := (by omega); have hk4 : ¬ (k : Int) = 4 := (by omega); have hk5 : ¬ (k : Int) = 5 := (by omega))
    | (go_at_call 66; refine HM.out.mono ?_; clear HM; rintro e w3 ⟨a3, k3, rfl, hx3, hn3⟩))
  obtain ⟨W4, hW4⟩ : ∃ W4, W4 = w3.alloc (.cells #[.slice a3 Q.length k3, .int .u64 K, .int .u64 M] 62) := ⟨_, rfl⟩
  rw [← hW4]
  rw [← hw1] at hn3 hx3
  have h34 : Below w3.heap.size w3 W4 := by rw [hW4]; exact (Below.refl _ _).alloc (Nat.le_refl _) _
  have hR4 : RefBlk W4 w3.heap.size (.slice a3 Q.length k3) (.int .u64 K) (.int .u64 M) := by rw [hW4]; exact RefBlk.new _ _ _ _
  have hs3 := hn3.size
  have hb4 := hn3.trans (h34.mono hs3)
  have hX4 := HX.out.below (by omega) hb4
  have hp4 : PRow W4 0 (.slice a3 Q.length k3) Q := prow_below h34 hx3.1
  have HLOC := Lib.hid (show ∀ ad, a3 = some ad → a = some ad ∨ w.heap.size ≤ ad.block from fun ad e => by
    subst e
    rcases hx3.2 with ⟨e1, _, _⟩ | hx
    · exact .inl e1.symm
    · exact .inr (Nat.le_trans hsz (hx.lt ad.block rfl).1))
  have hbk4 := HB.out.below hb4
  have HS := Lib.hid (fun (v' : Value) (W : World) (ht : Turned b m v W4 v' W) => And.intro (hR4.turned hbk4 ht).cells (And.intro (hX4.turned hbk4 ht).2.1.cells.2.1 (And.intro (hX4.turned hbk4 ht).2.1.cells.2.2.1 (hX4.turned hbk4 ht).2.1.cells.2.2.2.1)))
  have HF := Lib.hid (fun (v' : Value) (W : World) (ht : Turned b m v W4 v' W) => And.intro (hX4.turned hbk4 ht).2.2 (And.intro (hX4.turned hbk4 ht).2.2.cells (hX4.turned hbk4 ht).2.2.frozen))
  have HS2 := Lib.hid (fun (W : World) (x y z : Value) (p q r s1 s2 s3 : Value) (h : (W.cell? ⟨w3.heap.size, 0, none⟩ = some p ∧ W.cell? ⟨w3.heap.size, 1, none⟩ = some q ∧ W.cell? ⟨w3.heap.size, 2, none⟩ = some r) ∧ W.cell? ⟨w.heap.size + 1, 1, none⟩ = some s1 ∧ W.cell? ⟨w.heap.size + 1, 2, none⟩ = some s2 ∧ W.cell? ⟨w.heap.size + 1, 3, none⟩ = some s3) => cells_set3 (k := w.heap.size + 1 + 1) (x := x) (y := y) (z := z) (by omega) (by omega) h)
  have hst := HS.out v W4 (Turned.refl ..)
  have HD4 := Lib.hid (fun W (hb : Below W4.heap.size W4 W) => HD.out W (hb4.trans (hb.mono hb4.size)))
  have HTT := Lib.hid (fun (v' : Value) (W W' : World) (hb : Below W4.heap.size W4 W) (ht : Turned b m v W v' W') => Turned.trans (Turned.of_below hb) ht)
  clear c0 c1 c2 d0 d1 d2 d3 d4 hw1 hW4
  have HB4 := Lib.hid (Turned.of_below (b := b) (m := m) (v := v) hb4)
  have HBK4 := Lib.hid hbk4
  have HP4 := Lib.hid hp4
  clear hR4 hX4 hp4 hbk4 hx3 h34 hn3 hb4
  go_region_held3 (fun w' => (w'.cell? ⟨w3.heap.size, 0, none⟩ = some (.slice a3 Q.length k3) ∧ w'.cell? ⟨w3.heap.size, 1, none⟩ = some (.int .u64 K) ∧ w'.cell? ⟨w3.heap.size, 2, none⟩ = some (.int .u64 M)) ∧ w'.cell? ⟨w.heap.size + 1, 1, none⟩ = some (.string d.key) ∧ w'.cell? ⟨w.heap.size + 1, 2, none⟩ = some (.string d.value) ∧ w'.cell? ⟨w.heap.size + 1, 3, none⟩ = some (.string d.old))
    (first | assumption | exact HS.out _ _ (by assumption) | exact HS2.out _ _ _ _ _ _ _ _ _ _ (by assumption))
    (first
      | (go_at_call 48
         go_split_ands
         refine (HD4.out _ (by first | exact Below.refl _ _ | exact (Below.refl _ _).drew)).mono ?_
         rintro e w6 ⟨rfl, v', k6, t6⟩
         have ht6 := HTT.out _ _ _ (by first | exact Below.refl _ _ | exact (Below.refl _ _).drew) t6
         obtain ⟨hx6, ⟨r0, r1, r2⟩, f0⟩ := HF.out _ _ ht6)
      | fail)
  all_goals
    have hp6 := prow_turned HBK4.out ht6 HP4.out
    have htt := Turned.trans HT.out (Turned.trans HB4.out ht6)
    have hfin : DoesPost b m B v K M a w (.returned (.tuple #[.agg #[.slice a3 Q.length k3, .int .u64 K, .int .u64 M], .bool true])) Q (set3 w6 (w.heap.size + 1 + 1) (.slice a3 Q.length k3) (.int .u64 K) (.int .u64 M)) :=
      ⟨a3, k3, v', rfl, BookAt.set3 k6 hx6, prow_set3 hp6 hx6, Turned.set3 htt (by omega) _ _ _, HLOC.out⟩
    go_wp2
    refine bodyPost_ret (v := .tuple #[.agg #[.slice a3 Q.length k3, .int .u64 K, .int .u64 M], .bool true]) ?_ rfl hfin
    rw [results_cell_tmp rfl]
    go_simp

set_option linter.unusedVariables false in
set_option maxRecDepth 100000 in
set_option maxHeartbeats 4000000 in
theorem does_scan {B b m : Nat} {v : Value} {K M : Nat} {ps : PS} (w : World) (h : BookAt w B b m v K M ps) (hn : ps.length < 70000) (hBs : B ≤ w.heap.size) (a : Option Addr) (cap : Nat) (hr : PRow w 0 (.slice a ps.length cap) ps) (d : Deed) (h1 : d.key.size ≤ 1000) (h2 : d.value.size ≤ 1000) (h3 : d.old.size ≤ 1000)
    (h4 : -9223372036854775808 ≤ d.n) (h5 : d.n ≤ 9223372036854775807) (hq : d.what % 6 = 5) :
    Calls Try.prog 38 #[.pointer (some ⟨b, 0, none⟩), .agg #[.slice a ps.length cap, .int .u64 K, .int .u64 M], deedV d] w (fun e w' => DoesPost b m B v K M a w e (ps) w') := by
  obtain ⟨w1, hw1⟩ : ∃ w1, w1 = ((w.alloc (.cells #[.slice a ps.length cap, .int .u64 K, .int .u64 M] 62)).alloc (.cells #[.int .i64 d.what, .string d.key, .string d.value, .string d.old, .int .i64 d.n] 46)).alloc (.cells #[.slice none 0 0, .int .u64 0, .int .u64 0] 62) := ⟨_, rfl⟩
  have hB1 : Below w.heap.size w w1 := by rw [hw1]; exact (((Below.refl _ _).alloc (Nat.le_refl _) _).alloc (by simp) _).alloc (by simp; omega) _
  have hsz1 : w1.heap.size = w.heap.size + 3 := by rw [hw1]; simp
  have hX : DoesBlks w1 w.heap.size (.slice a ps.length cap) (.int .u64 K) (.int .u64 M) d := by rw [hw1]; exact DoesBlks.new _ _ _ _ _
  have HX := Lib.hid hX
  have hb1 := h.below hB1
  have hr1 := prow_below hB1 hr
  have hsm := h.small
  have hso := h.sorted
  have HB := Lib.hid hb1
  have HR := Lib.hid hr1
  have HT := Lib.hid (Turned.of_below (b := b) (m := m) (v := v) hB1)
  have HP := Lib.hid (fun W => pick_any d.what 6 W (by omega) (by omega))
  have hsz := hB1.size
  clear h hr hb1 hr1 hX hB1
  obtain ⟨⟨c0, c1, c2⟩, ⟨d0, d1, d2, d3, d4⟩, ⟨r0, r1, r2⟩, f0⟩ := And.intro HX.out.1.cells (And.intro HX.out.2.1.cells (And.intro HX.out.2.2.cells HX.out.2.2.frozen))
  unfold deedV
  have HD := Lib.hid (scan_any w1 HB.out (by omega) d.key h1 d.n h4 h5)
  have HM := Lib.hid (fun W (hb : Below w1.heap.size w1 W) => refscan_any a cap K M ps W (prow_below hb HR.out) (by omega) hso hsm d.key (by omega) d.n h4 h5)
  have HLL := Lib.hid (fun p (hp : p ∈ scanL ps d.key d.n) => show p.1.size ≤ 1000 ∧ p.2.size ≤ 1000 by have := hsm p (mem_scanL hp); omega)
  have hll := len_scanL ps d.key d.n
  generalize scanL ps d.key d.n = L at *
  generalize scanE d.key d.n = E at *
  have HRF := Lib.hid (fun W (hb : Below w1.heap.size w1 W) => And.intro (HX.out.below (by omega) hb).1.cells (HX.out.below (by omega) hb).2.1.cells)
  rw [hw1] at HD c0 c1 c2 d0 d1 d2 d3 d4
  clear r0 r1 r2 f0
  go_enter Try.func38, Try.ntmps38
  go_wp2_with (first
    | (go_at_call 21; refine (HP.out _).mono ?_; rintro e w' ⟨⟨k, rfl, hk6, hk⟩, rfl⟩; obtain rfl : k = 5 := by omega)
    | (go_at_call 37; refine HD.out.mono ?_; clear HD; rintro e w3 ⟨pv, rfl, hx3, hn3⟩; rw [← hw1] at hn3 hx3; obtain ⟨⟨c0, c1, c2⟩, d0, d1, d2, d3, d4⟩ := HRF.out _ hn3; obtain ⟨pa, pc, rfl, hi3, _⟩ := prow_is hx3 HLL.out)
    | (go_at_call 40; refine (HM.out _ hn3).mono ?_; clear HM; rintro e w4 ⟨qv, rfl, hx4, hn4⟩; obtain ⟨qa, qc, rfl, hi4, _⟩ := prow_is hx4 HLL.out))
  have hb4 := hn3.trans (hn4.mono hn3.size)
  have HS := Lib.hid (fun (W : World) (hb : Below w4.heap.size w4 W) => (HRF.out _ (hb4.trans (hb.mono hb4.size))).1)
  have HF := Lib.hid (fun (W : World) (hb : Below w4.heap.size w4 W) => (HX.out.below (by omega) (hb4.trans (hb.mono hb4.size))).2.2)
  have hi3' := hi3.below hn4
  have HC := Lib.hid (fun W (hb : Below w4.heap.size w4 W) => same_true (pc := pc) (qc := qc) (hi3'.below hb) (hi4.below hb) rfl (by omega) (by omega))
  have HCH := Lib.hid (fun (W W' : World) (h : Below w4.heap.size w4 W) (k : Below W.heap.size W W') => h.trans (k.mono h.size))
  have hst := HS.out w4 (Below.refl _ _)
  have HS2 := Lib.hid (fun (W : World) (x y z : Value) (p q r : Value) (h : (W.cell? ⟨w.heap.size, 0, none⟩ = some p ∧ W.cell? ⟨w.heap.size, 1, none⟩ = some q ∧ W.cell? ⟨w.heap.size, 2, none⟩ = some r)) => And.intro (cell_set3 (k := w.heap.size + 1 + 1) (x := x) (y := y) (z := z) (by omega) h.1) (And.intro (cell_set3 (k := w.heap.size + 1 + 1) (x := x) (y := y) (z := z) (by omega) h.2.1) (cell_set3 (k := w.heap.size + 1 + 1) (x := x) (y := y) (z := z) (by omega) h.2.2)))
  have HBK4 := Lib.hid (HB.out.below hb4)
  have HP4 := Lib.hid (prow_below hb4 HR.out)
  have HB4 := Lib.hid hb4
  clear c0 c1 c2 d0 d1 d2 d3 d4 hw1 hx3 hx4 hi3 hi4 hi3' hn3 hn4 hb4
  go_region_held3 (fun w' => (w'.cell? ⟨w.heap.size, 0, none⟩ = some (.slice a ps.length cap) ∧ w'.cell? ⟨w.heap.size, 1, none⟩ = some (.int .u64 K) ∧ w'.cell? ⟨w.heap.size, 2, none⟩ = some (.int .u64 M)))
    (first | assumption | exact HS.out _ (by assumption) | exact HS2.out _ _ _ _ _ _ _ (by assumption))
    (first
      | (go_at_call 32
         go_split_ands
         refine (HC.out _ (by first | exact Below.refl _ _ | exact (Below.refl _ _).drew)).mono ?_
         rintro e w6 ⟨rfl, n6⟩
         have hb6 := HCH.out _ _ (by first | exact Below.refl _ _ | exact (Below.refl _ _).drew) n6
         have hx6 := HF.out _ hb6
         obtain ⟨⟨r0, r1, r2⟩, f0⟩ := And.intro hx6.cells hx6.frozen)
      | fail)
  all_goals
    have hp6 := prow_below hb6 HP4.out
    have htt := Turned.trans HT.out (Turned.of_below (b := b) (m := m) (v := v) (HB4.out.trans (hb6.mono HB4.out.size)))
    have hfin : DoesPost b m B v K M a w (.returned (.tuple #[.agg #[.slice a ps.length cap, .int .u64 K, .int .u64 M], .bool true])) ps (set3 w6 (w.heap.size + 1 + 1) (.slice a ps.length cap) (.int .u64 K) (.int .u64 M)) :=
      ⟨a, cap, v, rfl, BookAt.set3 (HBK4.out.below hb6) hx6, prow_set3 hp6 hx6, Turned.set3 htt (by omega) _ _ _, fun ad e => .inl e⟩
    go_wp2
    refine bodyPost_ret (v := .tuple #[.agg #[.slice a ps.length cap, .int .u64 K, .int .u64 M], .bool true]) ?_ rfl hfin
    rw [results_cell_tmp rfl]
    go_simp

theorem does_any {B b m : Nat} {v : Value} {K M : Nat} {ps : PS} (w : World) (h : BookAt w B b m v K M ps) (hn : ps.length < 70000) (hBs : B ≤ w.heap.size) (a : Option Addr) (cap : Nat) (hr : PRow w 0 (.slice a ps.length cap) ps) (d : Deed) (h1 : d.key.size ≤ 1000) (h2 : d.value.size ≤ 1000) (h3 : d.old.size ≤ 1000)
    (h4 : -9223372036854775808 ≤ d.n) (h5 : d.n ≤ 9223372036854775807) :
    Calls Try.prog 38 #[.pointer (some ⟨b, 0, none⟩), .agg #[.slice a ps.length cap, .int .u64 K, .int .u64 M], deedV d] w (fun e w' => DoesPost b m B v K M a w e (actQ K M ps d) w') := by
  unfold actQ
  by_cases q3 : d.what % 6 = 3
  · rw [if_pos q3]
    exact does_del w h hn hBs a cap hr d h1 h2 h3 h4 h5 q3
  rw [if_neg q3]
  by_cases q4 : d.what % 6 = 4
  · rw [if_pos q4]
    exact does_swap w h hn hBs a cap hr d h1 h2 h3 h4 h5 q4
  rw [if_neg q4]
  by_cases q5 : d.what % 6 = 5
  · rw [if_pos q5]
    exact does_scan w h hn hBs a cap hr d h1 h2 h3 h4 h5 q5
  rw [if_neg q5]
  exact does_put w h hn hBs a cap hr d h1 h2 h3 h4 h5 ⟨q3, q4, q5⟩

end Go.Proofs.Ytgfhaldfjnepmaa
