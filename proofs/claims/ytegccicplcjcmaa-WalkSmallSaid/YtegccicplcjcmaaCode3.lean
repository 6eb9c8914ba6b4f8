/- Walks of the reader of a code: next, key, and key's iterator, which keeps its place in a cell and may panic. -/
import Derived.Test.YtegccicplcjcmaaCode1
import Derived.Test.YtegccicplcjcmaaProg
import Derived.Lib.QuietBelow
namespace Go.Proofs.Ytegccicplcjcmaa
open Go Go.RowKit Go.Shelf Go.Proofs Go.Sort
attribute [local go_sem] Oper.semAt_some

theorem grownBy_setCellA (W : World) (a : Addr) (v : Value) : W.grownBy (W.setCell a v) (some a.block) :=
  ⟨rfl, rfl, rfl, (KeepsWalks.setCell W _ v).size, fun k _ hk => Below.heap_setCell _ _ _ k (fun e => hk (by rw [e]))⟩

theorem frozen_below {w w' : World} {p : Addr} {n : Nat} (hb : Below n w w') (h : p.block < n) : w'.frozen? p = w.frozen? p := by
  unfold World.frozen?
  rw [hb.block p.block h]

/-- The error ErrShape, as a panic carries it. -/
def shapeP : PanicEntry := { v := .iface 29 (.int .i64 4), recovered := false }

set_option maxRecDepth 100000 in
set_option maxHeartbeats 4000000 in
theorem next_end (s : ByteArray) (R k : Nat) (W : World) (hs : s.size ≤ 281474976710656) (hk : k = s.size) (h0 : W.cell? ⟨R, 0, none⟩ = some (.string s)) (h1 : W.cell? ⟨R, 1, none⟩ = some (.int .i64 k)) :
    Calls Try.prog 97 #[.pointer (some ⟨R, 0, none⟩)] W fun e W' => e = .panicked [shapeP] ∧ Below W.heap.size W W' := by
  have q0 := fun d os => cell_regrown h0 d os
  have q1 := fun d os => cell_regrown h1 d os
  have hd : decide ((s.size : Int) ≤ (k : Int)) = true := decide_eq_true (by omega)
  clear h0 h1
  go_enter Try.func97, Try.ntmps97
  go_wp2_with fail
  refine wp_region_quiet_below (by kernel_rfl) (by kernel_rfl) ?_
  repeat (go_big_quiet_step (fail))
  refine wpQuiet_nil ?_
  intro _ hw'
  obtain ⟨⟨dq, osq⟩, hw''⟩ := hw'
  subst hw''
  go_wp2_with fail
  exact ⟨rfl, rfl, below_regrown _ _ _⟩

set_option maxRecDepth 100000 in
set_option maxHeartbeats 4000000 in
theorem next_ok (s : ByteArray) (R k : Nat) (W : World) (hs : s.size ≤ 281474976710656) (hk : k < s.size) (h0 : W.cell? ⟨R, 0, none⟩ = some (.string s)) (h1 : W.cell? ⟨R, 1, none⟩ = some (.int .i64 k)) (hf : W.frozen? ⟨R, 1, none⟩ = false) :
    Calls Try.prog 97 #[.pointer (some ⟨R, 0, none⟩)] W fun e W' => e = .returned (.int .u8 (s[k].toNat : Nat)) ∧
      ∃ W1, Below W.heap.size W W1 ∧ Below (W1.setCell ⟨R, 1, none⟩ (.int .i64 ((k : Int) + 1))).heap.size (W1.setCell ⟨R, 1, none⟩ (.int .i64 ((k : Int) + 1))) W' := by
  have q0 := fun d os => cell_regrown h0 d os
  have q1 := fun d os => cell_regrown h1 d os
  have hlt := block_lt_of_cell h0
  have qf := fun d os => (frozen_below (below_regrown W d os) (p := ⟨R, 1, none⟩) hlt).trans hf
  have hd : decide ((s.size : Int) ≤ (k : Int)) = false := decide_eq_false (by omega)
  have hw : IntKind.i64.wrap ((k : Int) + 1) = (k : Int) + 1 := by rw [IntKind.wrap_i64]; omega
  have hw2 : IntKind.i64.wrap ((k : Int) + 1 - 1) = (k : Int) := by rw [IntKind.wrap_i64]; omega
  clear h0 h1
  go_enter Try.func97, Try.ntmps97
  go_wp2_with fail
  refine wp_region_quiet_below (by kernel_rfl) (by kernel_rfl) ?_
  repeat (go_big_quiet_step (fail))
  refine wpQuiet_nil ?_
  intro _ hw'
  obtain ⟨⟨dq, osq⟩, hw''⟩ := hw'
  subst hw''
  go_wp2_with fail
  have r1 : ((grow (redrawn W dq) osq).setCell ⟨R, 1, none⟩ (.int .i64 ((k : Int) + 1))).cell? ⟨R, 1, none⟩ = some (.int .i64 ((k : Int) + 1)) := World.cell?_setCell_same' _ _ _ (by rw [q1]; rfl)
  have r0 : ((grow (redrawn W dq) osq).setCell ⟨R, 1, none⟩ (.int .i64 ((k : Int) + 1))).cell? ⟨R, 0, none⟩ = some (.string s) := (World.cell?_setCell_other _ _ _ _ (by simp)).trans (q0 dq osq)
  have p0 := fun d os => cell_regrown r0 d os
  have p1 := fun d os => cell_regrown r1 d os
  refine wp_region_quiet_below (by kernel_rfl) (by kernel_rfl) ?_
  repeat (go_big_quiet_step (fail))
  refine wpQuiet_nil ?_
  intro _ hw'
  obtain ⟨⟨dq2, osq2⟩, hw''⟩ := hw'
  subst hw''
  go_wp2_with fail
  go_ret
  exact ⟨rfl, _, below_regrown _ _ _, below_regrown _ _ _⟩
end Go.Proofs.Ytegccicplcjcmaa
