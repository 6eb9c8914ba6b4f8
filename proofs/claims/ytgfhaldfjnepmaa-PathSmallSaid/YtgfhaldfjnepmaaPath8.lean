/- append of texts onto an own row, in a region that draws its order. -/
import Derived.Test.YtgfhaldfjnepmaaPath7
import Derived.Maps.AppendAt
import Derived.Deep.RegionHeld3
import Derived.Deep.DrawnRows
namespace Go.Proofs.Ytgfhaldfjnepmaa
open Go Go.RowKit Go.Shelf Go.Proofs

/-- append onto an own row, as a step of a region that draws: the new value a letter. -/
theorem step_append_at {P : Program} {ops : Array Oper} {o : Oper} {a : Act} {w : World} {K : Act → World → Prop} {Q : Exit → Act → World → Prop} {E : Prop} (hgd : o.guard = none) (s x : Operand) (t : TypeId)
    (ho : o.op = .call { callee := .builtin .append, args := #[s, x], argTypes := #[t, t] })
    (base : Nat) (e : TypeId) (i : TypeInfo) (z : Value) (size bytes : Nat) (ht : P.underlying t = some (.slice e)) (hi : P.info? e = some i) (hz : i.zero = some z)
    (hsize : i.size = size) (hby : i.bytes = bytes) (hzs : z.cells.size = size) (hsz : 0 < size)
    (v : Value) (n : Nat) (xs : List Value) (hs : a.eval s = v) (hown : w.ownsRow base e size v n xs)
    (ad : Addr) (m c : Nat) (news : List Value) (hx : a.eval x = .slice (some ad) m c) (hl : news.length = m * size) (hnews : ∀ j u, news[j]? = some u → w.cell? (ad.add j) = some u) (h1 : ∀ u ∈ news, u.oneCell' = true)
    (h63 : n + m ≤ maxLen) (hbytes : (n + m) * bytes ≤ 140737488355328) (hbase : base ≤ w.heap.size)
    (h : ∀ v' w', w'.ownsRow base e size v' (n + m) (xs ++ news) → w.grownBy w' v.ownBlock → (v'.ownBlock = v.ownBlock ∨ v'.ownBlock = some w.heap.size) → K (a.put o.dst v') w') :
    if Region.wanted o (yielded ops a.tmps) = true then Oper.wp P o a w K Q else E := by
  have hw : Region.wanted o (yielded ops a.tmps) = true := by simp [Region.wanted, hgd]
  rw [if_pos hw]
  obtain ⟨v', w', hr, h2, h3, _, h5⟩ := run_append_own_at (P := P) w base t o.type e i z size bytes ht hi hz hsize hby hzs hsz v n xs hown ad m c news hl hnews h1 h63 hbytes hbase
  unfold Oper.wp execOp
  simp only [ho, resolve, invoke, builtin, Sem.run_bind, Sem.run_pure, Result.andThen_ok, List.map_toArray, List.map_cons, List.map_nil, hs, hx, hr]
  exact h v' w' h2 h3 h5

/-- An empty literal is an own row of none. -/
theorem own_empty (w : World) (base : Nat) (hb : base ≤ w.heap.size) (e : TypeId) : (w.alloc (.cells #[] e)).ownsRow base e 1 (.slice (some ⟨w.heap.size, 0, none⟩) 0 0) 0 [] :=
  ⟨rfl, .inr ⟨w.heap.size, 0, #[], rfl, hb, heap_alloc_new w _, Nat.le_refl _, Nat.zero_le _, rfl, rfl⟩⟩

/-- What a walk knows behind some appends: the row's block is no block named before. -/
theorem ne_own {v v' : Value} {B : Nat} {w : World} (hat : v'.ownBlock = v.ownBlock ∨ v'.ownBlock = some w.heap.size) (h : some B ≠ v.ownBlock) (hB : B < w.heap.size) : some B ≠ v'.ownBlock := by
  rcases hat with h1 | h1
  · rw [h1]; exact h
  · rw [h1]; intro h2; have := Option.some.inj h2; omega

/-- Below, through an append onto a row that is new. -/
theorem below_append {w0 w w' : World} {base : Nat} {e : TypeId} {size n : Nat} {v : Value} {xs : List Value} (hb : Below base w0 w) (hown : w.ownsRow base e size v n xs) (hg : w.grownBy w' v.ownBlock) (hbs : base ≤ w.heap.size) : Below base w0 w' := by
  refine hb.grown hg hbs (fun k hk => ?_)
  rcases hown.2 with ⟨h1, _⟩ | ⟨g, cap, cur, hv, hg2, _⟩
  · rw [h1] at hk; cases hk
  · rw [hv] at hk; cases hk; exact hg2

/-- Texts out of an own row. -/
theorem isstrs_own {w : World} {base : Nat} {v : Value} {n : Nat} {ss : List ByteArray} (h : w.ownsRow base 9 1 v n (ss.map Value.string)) (hn : 0 < n) (hl : ∀ s ∈ ss, s.size ≤ 140737488351232) (hn2 : n ≤ 1000) :
    ∃ g cap, v = .slice (some ⟨g, 0, none⟩) n cap ∧ IsStrs w (some ⟨g, 0, none⟩) n cap ss := by
  have h1 := h.1
  rw [List.length_map, Nat.mul_one] at h1
  rcases h.2 with ⟨_, h0⟩ | ⟨g, cap, cur, hv, hb, hg, hnc, hm, hcs, ht⟩
  · omega
  · refine ⟨g, cap, hv, h1, hnc, by unfold maxLen at hm; omega, hl, .inr ⟨g, 0, rfl, ?_, fun j hj => ?_⟩⟩
    · rcases Nat.lt_or_ge g w.heap.size with hlt | hge
      · exact hlt
      · rw [Array.getElem?_eq_none hge] at hg; cases hg
    · have hk : (cur.toList.take (n * 1))[j]? = some (.string (ss.getD j ByteArray.empty)) := by
        rw [ht, List.getElem?_map, List.getD_eq_getElem?_getD, List.getElem?_eq_getElem (by omega)]; rfl
      rw [List.getElem?_take_of_lt (by omega)] at hk
      rw [Nat.zero_add]
      simp [World.cell?, hg]
      simpa using hk

theorem own_empty' (wr w : World) (B : Nat) (hb : wr.heap.size ≤ B) (hw : w.heap[B]? = some (.cells #[] 9)) : w.ownsRow wr.heap.size 9 1 (.slice (some ⟨B, 0, none⟩) 0 0) 0 (([] : List ByteArray).map Value.string) :=
  ⟨rfl, .inr ⟨B, 0, #[], rfl, hb, hw, Nat.le_refl _, Nat.zero_le _, rfl, rfl⟩⟩

/-- append of texts onto an own row of few texts. -/
theorem step_app {ops : Array Oper} {o : Oper} {a : Act} {w : World} {K : Act → World → Prop} {Q : Exit → Act → World → Prop} {E : Prop} (hgd : o.guard = none) (s x : Operand)
    (ho : o.op = .call { callee := .builtin .append, args := #[s, x], argTypes := #[22, 22] }) (wr : World)
    (v : Value) (n : Nat) (xs : List ByteArray) (hs : a.eval s = v) (ad : Addr) (m c : Nat) (news : List ByteArray) (hx : a.eval x = .slice (some ad) m c)
    (hb : Below wr.heap.size wr w) (hown : w.ownsRow wr.heap.size 9 1 v n (xs.map Value.string))
    (hl : news.length = m) (hnews : ∀ j u, (news.map Value.string)[j]? = some u → w.cell? (ad.add j) = some u) (hnm : n + m ≤ 1000)
    (h : ∀ v' w', w'.ownsRow wr.heap.size 9 1 v' (n + m) ((xs ++ news).map Value.string) → w.grownBy w' v.ownBlock → (v'.ownBlock = v.ownBlock ∨ v'.ownBlock = some w.heap.size) → Below wr.heap.size wr w' → K (a.put o.dst v') w') :
    if Region.wanted o (yielded ops a.tmps) = true then Oper.wp Try.prog o a w K Q else E := by
  obtain ⟨i0, hi, hz0, hz1, hz2⟩ := info_parts infoString
  exact step_append_at hgd s x _ ho wr.heap.size 9 i0 (.string ⟨#[]⟩) 1 16 Try.underlying22 hi hz0 hz1 hz2 rfl (by omega) v n _ hs hown ad m c (news.map Value.string) hx (by rw [List.length_map, hl, Nat.mul_one]) hnews (strs_oneCell news)
    (by unfold maxLen; omega) (by omega) hb.size (fun v' w' h1 h2 h3 => h v' w' (by rw [List.map_append]; exact h1) h2 h3 (below_append hb hown h2 hb.size))

theorem own_ne {w : World} {base : Nat} {e : TypeId} {n size : Nat} {v : Value} {xs : List Value} (h : w.ownsRow base e size v n xs) {B : Nat} (hB : w.heap.size ≤ B) : some B ≠ v.ownBlock := by
  rcases h.2 with ⟨h1, _⟩ | ⟨g, cap, cur, hv, _, hg, _⟩
  · rw [h1]; simp [Value.ownBlock]
  · rw [hv]
    intro h2
    have h3 : B = g := Option.some.inj h2
    have h4 := (Array.getElem?_eq_some_iff.1 hg).1
    omega

theorem one_at {w : World} {B : Nat} {x : ByteArray} {t : TypeId} (h : w.heap[B]? = some (.cells #[.string x] t)) : ∀ j u, (([x] : List ByteArray).map Value.string)[j]? = some u → w.cell? ((⟨B, 0, none⟩ : Addr).add j) = some u := by
  intro j u hu
  rcases j with _ | j
  · simp at hu; subst hu; simp [Addr.add, World.cell?, h]
  · simp at hu
theorem one_far {w w' : World} {B : Nat} {x : ByteArray} {row : Option Nat} (h : ∀ j u, (([x] : List ByteArray).map Value.string)[j]? = some u → w.cell? ((⟨B, 0, none⟩ : Addr).add j) = some u) (hB : B < w.heap.size) (hg : w.grownBy w' row) (hne : some B ≠ row) :
    ∀ j u, (([x] : List ByteArray).map Value.string)[j]? = some u → w'.cell? ((⟨B, 0, none⟩ : Addr).add j) = some u := fun j u hu => by
  have h2 := h j u hu
  rw [Addr.add_lit] at h2 ⊢
  rw [← h2]
  exact World.cell?_of_block (hg.block B hB hne)
theorem heap_al2 (w : World) (o o' : Obj) : ((w.alloc o).alloc o').heap[w.heap.size]? = some o := (Below.heap_alloc _ _ _ (by simp)).trans (heap_alloc_new _ _)
theorem heap_al1 (w : World) (o o' : Obj) : ((w.alloc o).alloc o').heap[w.heap.size + 1]? = some o' := by
  have := heap_alloc_new (w.alloc o) o'
  rw [show (w.alloc o).heap.size = w.heap.size + 1 by simp] at this
  exact this
theorem below_undrew {n : Nat} {w w' : World} (h : Below n w w'.drew) : Below n w w' := ⟨h.os, h.tape, h.output, h.size, h.block⟩

theorem two_far {w0 w1 w2 : World} {row : Option Nat} {v1 : Value} (hg1 : w0.grownBy w1 row) (hg2 : w1.grownBy w2 v1.ownBlock) (hat : v1.ownBlock = row ∨ v1.ownBlock = some w0.heap.size) {B : Nat} {x : ByteArray} {t : TypeId} (h : w0.heap[B]? = some (.cells #[.string x] t)) (hB : B < w0.heap.size) (hne : some B ≠ row) :
    ∀ j u, (([x] : List ByteArray).map Value.string)[j]? = some u → w2.cell? ((⟨B, 0, none⟩ : Addr).add j) = some u := by
  refine one_far (one_far (one_at h) hB hg1 hne) (Nat.lt_of_lt_of_le hB hg1.size) hg2 ?_
  rcases hat with h1 | h1
  · rw [h1]; exact hne
  · rw [h1]; intro h2; have := Option.some.inj h2; omega

theorem keepS {wr w' : World} {p : Addr} {v : Value} (hc : wr.cell? p = some v) (hb : Below wr.heap.size wr w') : w'.cell? p = some v ∧ Below wr.heap.size wr w' :=
  ⟨(hb.cell (block_lt_of_cell hc)).trans hc, hb⟩
theorem below_al {n : Nat} {w w' : World} (o : Obj) (hn : n = w.heap.size) (h : Below n w w') : Below n w (w'.alloc o) := h.alloc (by rw [hn]; exact h.size) o
theorem below_ald {n : Nat} {w w' : World} (o : Obj) (hn : n = w.heap.size) (h : Below n w w') : Below n w (w'.alloc o).drew := (below_al o hn h).drew
end Go.Proofs.Ytgfhaldfjnepmaa
