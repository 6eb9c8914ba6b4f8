/- Walk of code.Decode. -/
import Derived.Test.YtegccicplcjcmaaCode5
import Derived.Test.YtegccicplcjcmaaRangeOwn
namespace Go.Proofs.Ytegccicplcjcmaa
open Go Go.RowKit Go.Shelf Go.Proofs Go.Sort
attribute [local go_sem] Oper.semAt_some

set_option maxRecDepth 100000 in
theorem catch_idle (n : Nat) (p q : Addr) (W : World) :
    CallsDIn Fence.wide n Try.prog 67 #[.pointer (some p), .pointer (some q)] .returning W fun e u' W' => (∃ v, e = .returned v) ∧ u' = .returning ∧ W' = W := by
  refine callsDIn_of_wpSIn Try.func67 rfl (by simp [Fence.wide]) fun c₀ cs hu => ?_
  apply wpSIn_seq
  apply wpSIn_region
  simp [wpOpsSIn, go_sem, recoverD, hu, Try.ntmps67, Exit.thenS]
  apply wpSIn_seq
  apply wpSIn_region
  simp [wpOpsSIn, go_sem, Exit.thenS]
  refine wpSIn_cond (t := false) (by simp [Act.eval, Array.replicate]) ?_
  simp only [Bool.false_eq_true, if_false]
  refine wpSIn_of_wpIn rfl (wpIn_skip ?_)
  cases c₀
  simp_all [bodyPostS, results, Try.results67]

set_option maxRecDepth 100000 in
theorem catch_shape (n : Nat) (p q : Addr) (W : World) (s0 : ByteArray) (e0 : Int) (h1 : W.cell? p = some (.string s0)) (h2 : W.cell? q = some (.int .i64 e0)) (hne : p.block ≠ q.block) (f1 : W.frozen? p = false) (f2 : W.frozen? q = false) :
    CallsDIn Fence.wide n Try.prog 67 #[.pointer (some p), .pointer (some q)] (.panicking [shapeP]) W fun e u' W' => (∃ v, e = .returned v) ∧ u' = .panicking [{ shapeP with recovered := true }] ∧ W' = (W.setCell p (.string ⟨#[]⟩)).setCell q (.int .i64 4) := by
  refine callsDIn_of_wpSIn Try.func67 rfl (by simp [Fence.wide]) fun c₀ cs hu => ?_
  have f2' : (W.setCell p (.string ⟨#[]⟩)).frozen? q = false := by rw [World.frozen?_setCell]; exact f2
  have h2' : (W.setCell p (.string ⟨#[]⟩)).cell? q = some (.int .i64 e0) := (World.cell?_setCell_other _ _ _ _ (by intro e; exact hne (by rw [e]))).trans h2
  apply wpSIn_seq
  apply wpSIn_region
  simp [wpOpsSIn, go_sem, recoverD, hu, Try.ntmps67, Exit.thenS, shapeP]
  apply wpSIn_seq
  apply wpSIn_region
  simp [wpOpsSIn, go_sem, Exit.thenS]
  refine wpSIn_cond (t := true) (by simp [Act.eval, Array.replicate]) ?_
  simp only [if_true]
  apply wpSIn_region
  simp [wpOpsSIn, go_sem, h1, f1, h2', f2', bodyPostS, results, Try.results67, shapeP]

theorem u8s_fold (l : List UInt8) : ∀ r : ByteArray, (l.map (fun b => ((b.toNat : Nat) : Int))).foldl (fun r n => r.push (UInt8.ofNat n.toNat)) r = r ++ bs l := by
  induction l with
  | nil => intro r; apply by_inj; rw [by_append, by_bs]; simp
  | cons b l ih =>
    intro r
    rw [List.map_cons, List.foldl_cons, ih]
    apply by_inj
    rw [by_append, by_append, by_bs, by_bs]
    simp [by_, ByteArray.push]

/-- The slice out, converted to a string. -/
theorem own_conv {W : World} {n₀ : Nat} {v : Value} {l : List UInt8} (h : W.ownsRow n₀ 5 1 v l.length (u8s l)) : (convert 130 9 v).run Try.prog W = .ok (.string (bs l)) W := by
  rcases h.2 with ⟨rfl, h0⟩ | ⟨g, cap, cur, rfl, _, hg, hnc, _, hcs, ht⟩
  · have hl : l = [] := List.length_eq_zero_iff.1 (by omega)
    subst hl
    rw [run_convert_bytes_string W 130 9 5 _ _ _ Try.underlying130 Try.underlying5 Try.underlying9]
    rfl
  · rw [run_convert_bytes_string W 130 9 5 _ _ _ Try.underlying130 Try.underlying5 Try.underlying9]
    have hc := run_loadCells_list (P := Try.prog) (w := W) ⟨g, 0, none⟩ (u8s l) (fun j u hj => by
      rw [Addr.add_lit, Nat.zero_add]
      have hjl : j < l.length := by
        rcases Nat.lt_or_ge j (u8s l).length with h | h
        · rw [u8s_length] at h; exact h
        · rw [List.getElem?_eq_none h] at hj; cases hj
      have hk : (cur.toList.take (l.length * 1))[j]? = some u := by rw [ht]; exact hj
      rw [List.getElem?_take_of_lt (by omega)] at hk
      simp [World.cell?, hg]
      simpa using hk)
    rw [u8s_length] at hc
    have e : u8s l = (l.map (fun b => ((b.toNat : Nat) : Int))).map (Value.int .u8) := by simp [u8s]
    rw [e] at hc
    rw [run_bytesToString _ _ l.length cap _ hc, u8s_fold]
    rfl

/-- Decode's deferred calls, the block for the rounds' deferred calls shut, the closure's recover finding nothing. -/
theorem leaves_idle {w : World} {D : Nat} {W : World} {R : Ending → World → Prop} {tmps : Array Value} {x y : Value} (n : Nat) (hn : 1 ≤ n) (h0 : tmps[2]? = some (.pointer (some ⟨w.heap.size, 0, none⟩))) (h1 : tmps[3]? = some (.pointer (some ⟨w.heap.size + 1, 0, none⟩)))
    (hx : Boxed W w.heap.size 9 x) (hy : Boxed W (w.heap.size + 1) 29 y) (hD : W.heap[D]? = some (.deferred (some [])))
    (hR : R (.returned (.tuple #[x, y])) (W.putObj D (.deferred none))) :
    LeavesInM Fence.wide n Try.prog Try.f53 tmps R [{ target := .collected D, args := #[] }, { target := .fn (.func 67) #[.pointer (some ⟨w.heap.size, 0, none⟩), .pointer (some ⟨w.heap.size + 1, 0, none⟩)], args := #[] }] .returning W := by
  refine ⟨by simp, .inl ⟨_, _, rfl, run_takeDeferred hD, ?_⟩⟩
  refine ⟨by simp, .inr ⟨fun _ => hn, .func 67, _, 67, #[.pointer (some ⟨w.heap.size, 0, none⟩), .pointer (some ⟨w.heap.size + 1, 0, none⟩)], rfl, by simp [go_sem], by simp [Target.leads, Fence.wide], (catch_idle _ _ _ _).mono ?_⟩⟩
  rintro e u' w'' ⟨⟨v, rfl⟩, rfl, rfl⟩
  have q1 := (boxed_putNon hx (.deferred none) hD rfl).cell
  have q2 := (boxed_putNon hy (.deferred none) hD rfl).cell
  show LeavesIn _ _ _ _ _ _ [] _ _
  refine ⟨.tuple #[x, y], ?_, hR⟩
  simp [results, Try.f53, go_sem, h0, h1, q1, q2]

/-- The same, the closure's recover taking up ErrShape. -/
theorem leaves_shape {w : World} {D : Nat} {W : World} {R : Ending → World → Prop} {tmps : Array Value} {s0 : ByteArray} {e0 : Int} (n : Nat) (hn : 1 ≤ n) (h0 : tmps[2]? = some (.pointer (some ⟨w.heap.size, 0, none⟩))) (h1 : tmps[3]? = some (.pointer (some ⟨w.heap.size + 1, 0, none⟩)))
    (hx : Boxed W w.heap.size 9 (.string s0)) (hy : Boxed W (w.heap.size + 1) 29 (.int .i64 e0)) (hD : W.heap[D]? = some (.deferred (some [])))
    (hR : R (.returned (.tuple #[.string ⟨#[]⟩, .int .i64 4])) (((W.putObj D (.deferred none)).setCell ⟨w.heap.size, 0, none⟩ (.string ⟨#[]⟩)).setCell ⟨w.heap.size + 1, 0, none⟩ (.int .i64 4))) :
    LeavesInM Fence.wide n Try.prog Try.f53 tmps R [{ target := .collected D, args := #[] }, { target := .fn (.func 67) #[.pointer (some ⟨w.heap.size, 0, none⟩), .pointer (some ⟨w.heap.size + 1, 0, none⟩)], args := #[] }] (.panicking [shapeP]) W := by
  have b1 := boxed_putNon hx (.deferred none) hD rfl
  have b2 := boxed_putNon hy (.deferred none) hD rfl
  refine ⟨by simp, .inl ⟨_, _, rfl, run_takeDeferred hD, ?_⟩⟩
  refine ⟨by simp, .inr ⟨fun _ => hn, .func 67, _, 67, #[.pointer (some ⟨w.heap.size, 0, none⟩), .pointer (some ⟨w.heap.size + 1, 0, none⟩)], rfl, by simp [go_sem], by simp [Target.leads, Fence.wide], (catch_shape _ _ _ _ _ _ b1.cell b2.cell (by simp) b1.frozen b2.frozen).mono ?_⟩⟩
  rintro e u' w'' ⟨⟨v, rfl⟩, rfl, rfl⟩
  have q1 := ((b1.set (.string ⟨#[]⟩)).kept (grownBy_setCell' _ (w.heap.size + 1) (.int .i64 4)) (by simp)).cell
  have q2 := ((b2.kept (grownBy_setCell' _ w.heap.size (.string ⟨#[]⟩)) (by simp)).set (.int .i64 4)).cell
  show LeavesIn _ _ _ _ _ _ [] (.returning) _
  refine ⟨.tuple #[.string ⟨#[]⟩, .int .i64 4], ?_, hR⟩
  simp [results, Try.f53, go_sem, h0, h1, q1, q2]

end Go.Proofs.Ytegccicplcjcmaa
