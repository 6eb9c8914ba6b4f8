/- append of pairs onto an own row, in a region that draws its order. -/
import Derived.Test.YtgfhaldfjnepmaaBk18
import Derived.Maps.AppendAt
import Derived.Deep.RegionHeld3
import Derived.Deep.DrawnRows
namespace Go.Proofs.Ytgfhaldfjnepmaa
open Go Go.RowKit Go.Shelf Go.Proofs

/-- append onto an own row, as a step of a region that draws, guarded or not. -/
theorem step_append_g {P : Program} {ops : Array Oper} {o : Oper} {a : Act} {w : World} {K : Act → World → Prop} {Q : Exit → Act → World → Prop} {E : Prop} (hw : Region.wanted o (yielded ops a.tmps) = true) (s x : Operand) (t : TypeId)
    (ho : o.op = .call { callee := .builtin .append, args := #[s, x], argTypes := #[t, t] })
    (base : Nat) (e : TypeId) (i : TypeInfo) (z : Value) (size bytes : Nat) (ht : P.underlying t = some (.slice e)) (hi : P.info? e = some i) (hz : i.zero = some z)
    (hsize : i.size = size) (hby : i.bytes = bytes) (hzs : z.cells.size = size) (hsz : 0 < size)
    (v : Value) (n : Nat) (xs : List Value) (hs : a.eval s = v) (hown : w.ownsRow base e size v n xs)
    (ad : Addr) (m c : Nat) (news : List Value) (hx : a.eval x = .slice (some ad) m c) (hl : news.length = m * size) (hnews : ∀ j u, news[j]? = some u → w.cell? (ad.add j) = some u) (h1 : ∀ u ∈ news, u.oneCell' = true)
    (h63 : n + m ≤ maxLen) (hbytes : (n + m) * bytes ≤ 140737488355328) (hbase : base ≤ w.heap.size)
    (h : ∀ v' w', w'.ownsRow base e size v' (n + m) (xs ++ news) → w.grownBy w' v.ownBlock → (v'.ownBlock = v.ownBlock ∨ v'.ownBlock = some w.heap.size) → K (a.put o.dst v') w') :
    if Region.wanted o (yielded ops a.tmps) = true then Oper.wp P o a w K Q else E := by
  rw [if_pos hw]
  obtain ⟨v', w', hr, h2, h3, _, h5⟩ := run_append_own_at (P := P) w base t o.type e i z size bytes ht hi hz hsize hby hzs hsz v n xs hown ad m c news hl hnews h1 h63 hbytes hbase
  unfold Oper.wp execOp
  simp only [ho, resolve, invoke, builtin, Sem.run_bind, Sem.run_pure, Result.andThen_ok, List.map_toArray, List.map_cons, List.map_nil, hs, hx, hr]
  exact h v' w' h2 h3 h5

theorem run_append_nil {P : Program} (w : World) (t ty e : TypeId) (i : TypeInfo) (ht : P.underlying t = some (.slice e)) (hi : P.info? e = some i) (g n c : Nat) (hnc : n ≤ c) :
    (Builtin.append_ #[t, t] ty #[.slice (some ⟨g, 0, none⟩) n c, .slice none 0 0]).run P w = .ok (.slice (some ⟨g, 0, none⟩) n c) w := by
  simp [Builtin.append_, run_underlying ht, sizeOf, typeInfo, hi, Builtin.lenOf, hnc, Result.andThen, Builtin.firstCells, storeCells, go_sem]

theorem step_append_nil {P : Program} {ops : Array Oper} {o : Oper} {a : Act} {w : World} {K : Act → World → Prop} {Q : Exit → Act → World → Prop} {E : Prop} (hw : Region.wanted o (yielded ops a.tmps) = true) (s x : Operand) (t : TypeId)
    (ho : o.op = .call { callee := .builtin .append, args := #[s, x], argTypes := #[t, t] }) (e : TypeId) (i : TypeInfo) (ht : P.underlying t = some (.slice e)) (hi : P.info? e = some i)
    (g n c : Nat) (hs : a.eval s = .slice (some ⟨g, 0, none⟩) n c) (hnc : n ≤ c) (hx : a.eval x = .slice none 0 0) (h : K (a.put o.dst (.slice (some ⟨g, 0, none⟩) n c)) w) :
    if Region.wanted o (yielded ops a.tmps) = true then Oper.wp P o a w K Q else E := by
  rw [if_pos hw]
  unfold Oper.wp execOp
  simp only [ho, resolve, invoke, builtin, Sem.run_bind, Sem.run_pure, Result.andThen_ok, List.map_toArray, List.map_cons, List.map_nil, hs, hx, run_append_nil w t o.type e i ht hi g n c hnc]
  exact h

theorem pown_empty (wr w : World) (B : Nat) (hb : wr.heap.size ≤ B) (hw : w.heap[B]? = some (.cells #[] 57)) : w.ownsRow wr.heap.size 57 2 (.slice (some ⟨B, 0, none⟩) 0 0) 0 (pcells []) :=
  ⟨rfl, .inr ⟨B, 0, #[], rfl, hb, hw, Nat.le_refl _, Nat.zero_le _, rfl, rfl⟩⟩

/-- append of pairs onto an own row of few pairs. -/
theorem step_appP {ops : Array Oper} {o : Oper} {a : Act} {w : World} {K : Act → World → Prop} {Q : Exit → Act → World → Prop} {E : Prop} (hw : Region.wanted o (yielded ops a.tmps) = true) (s x : Operand)
    (ho : o.op = .call { callee := .builtin .append, args := #[s, x], argTypes := #[47, 47] }) (wr : World)
    (v : Value) (n : Nat) (xs : PS) (hs : a.eval s = v) (ad : Addr) (m c : Nat) (news : PS) (hx : a.eval x = .slice (some ad) m c)
    (hb : Below wr.heap.size wr w) (hown : w.ownsRow wr.heap.size 57 2 v n (pcells xs))
    (hl : news.length = m) (hnews : ∀ j u, (pcells news)[j]? = some u → w.cell? (ad.add j) = some u) (hnm : n + m ≤ 1000)
    (h : ∀ v' w', w'.ownsRow wr.heap.size 57 2 v' (n + m) (pcells (xs ++ news)) → w.grownBy w' v.ownBlock → (v'.ownBlock = v.ownBlock ∨ v'.ownBlock = some w.heap.size) → Below wr.heap.size wr w' → K (a.put o.dst v') w') :
    if Region.wanted o (yielded ops a.tmps) = true then Oper.wp Try.prog o a w K Q else E := by
  obtain ⟨i0, hi, hz0, hz1, hz2⟩ := info_parts2 infoPair
  refine step_append_g hw s x _ ho wr.heap.size 57 i0 (.agg #[.string ⟨#[]⟩, .string ⟨#[]⟩]) 2 32 Try.underlying47 hi hz0 hz1 hz2 rfl (by omega) v n _ hs hown ad m c (pcells news) hx (by rw [pcells_length, hl]) hnews (pcells_one news) (by unfold maxLen; omega) (by omega) hb.size ?_
  intro v' w' h1 h2 h3
  rw [← pcells_append] at h1
  refine h v' w' h1 h2 h3 (hb.grown h2 hb.size (fun k hk => ?_))
  exact (hown.lt k hk).1

end Go.Proofs.Ytgfhaldfjnepmaa
