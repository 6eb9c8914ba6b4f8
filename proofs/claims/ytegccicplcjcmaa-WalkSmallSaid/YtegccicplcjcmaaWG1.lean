/- WalkGoes: the caller's own cells between two rounds, and what a step leaves of them; the pairs that are still ahead. -/
import Derived.Test.YtegccicplcjcmaaWL4
import Derived.Test.YtegccicplcjcmaaArtQ3
namespace Go.Proofs.Ytegccicplcjcmaa
open Go Go.RowKit Go.Shelf Go.Proofs Go.Sort
attribute [local go_sem] Oper.semAt_some

/-- The pairs ahead of a bound. -/
def aheadP (ps : PS) (f : ByteArray) : Nat := ps.countP (fun p => !klt p.1 f)

theorem ahead_pos {ps : PS} (hs : SortedP ps) (f : ByteArray) : aheadP ps f = ps.length - posP ps f := by
  unfold aheadP
  rw [List.countP_eq_length_filter, ← drop_pos hs, List.length_drop]

theorem ahead_del (ps : PS) (s f : ByteArray) : aheadP (delP ps s) f ≤ aheadP ps f := List.Sublist.countP_le List.filter_sublist

theorem ahead_put {ps : PS} (hs : SortedP ps) (s v f : ByteArray) : aheadP (putP ps s v) f ≤ aheadP ps f + 1 := by
  have h1 := ahead_del ps s f
  rw [← put_ref hs s v]
  have h2 : aheadP (delP ps s) f = aheadP ((delP ps s).take (posP (delP ps s) s) ++ (delP ps s).drop (posP (delP ps s) s)) f := by rw [List.take_append_drop]
  unfold aheadP at *
  simp only [List.countP_append, List.countP_cons, List.countP_nil] at *
  split <;> omega

theorem ahead_both {ps : PS} (hs : SortedP ps) (d : Deed) (f : ByteArray) : aheadP (bothS ps d) f ≤ aheadP ps f + 1 := by
  unfold bothS aputQ
  split
  · omega
  · split
    · split
      · exact ahead_put hs _ _ _
      · omega
    · have := ahead_del ps (dkey d) f
      omega

theorem bothQ_one (ps : PS) (d : Deed) : bothQ ps [d] = bothS ps d := rfl

/-- One operation out of a slice of operations. -/
theorem IsDeeds.one {w : World} {g off len : Nat} {ds : List Deed} (h : IsDeeds w (some ⟨g, off, none⟩) len ds) {k : Nat} {d : Deed} (hd : ds[k]? = some d) : IsDeeds w (some ⟨g, off + k * 4, none⟩) 1 [d] := by
  obtain ⟨h1, h2, h3, h4⟩ := h
  have hk := (List.getElem?_eq_some_iff.1 hd).1
  refine ⟨rfl, by omega, fun x hx => ?_, .inr ?_⟩
  · rw [List.mem_singleton.1 hx]
    exact h3 d (List.mem_of_getElem? hd)
  · obtain ⟨g', off', e, hg, hc⟩ := h4.resolve_left (by omega)
    cases e
    refine ⟨g, off + k * 4, rfl, hg, fun j d' hj i u hu => ?_⟩
    cases j with
    | zero =>
      cases hj
      have := hc k d hd i u hu
      simpa using this
    | succ j => cases hj

/-- A row of pairs is none of another kind of block. -/
theorem prow_none {w : World} {B : Nat} {v : Value} {ps : PS} (h : PRow w B v ps) {g : Nat} {ob : Obj} (hg : w.heap[g]? = some ob) (h1 : ∀ c f, ob ≠ .cells c 48 f) : v.ownBlock ≠ some g := by
  intro e
  rcases h.2 with ⟨e1, _⟩ | ⟨g', cap, cur, rfl, a, hh, r⟩
  · rw [e1] at e; cases e
  · cases e
    rw [hh] at hg
    cases hg
    exact h1 _ _ rfl

/-- The caller's own cells between two rounds. -/
structure GoB (w : World) (A M b m : Nat) (a1 : Option Addr) (dl dc : Nat) (lp : Obj) (k : Nat) (f : ByteArray) (v : Value) (Q : PS) (ra : Option Addr) (rc : Nat) (W : World) : Prop where
  art : ArtAt W (w.heap.size + 1 + 1) b m v Q
  own : ∀ g, v.ownBlock = some g → g ≠ A ∧ (g < M ∨ M + 8 ≤ g)
  num : b < A ∧ m < A ∧ A < M
  dur : OneBlk W w.heap.size 45 (.slice a1 dl dc)
  res : OneBlk W (w.heap.size + 1) 4 (.bool false)
  abk : OneBlk W A 24 (.pointer (some ⟨b, 0, none⟩))
  mbk : OneBlk W M 28 (.slice ra Q.length rc)
  row : PRow W 0 (.slice ra Q.length rc) Q
  bnd : OneBlk W (M + 1) 9 (.string f)
  cnt : OneBlk W (M + 1 + 1) 3 (.int .i64 k)
  dfr : W.heap[M + 1 + 1 + 1 + 1 + 1]? = some (.deferred (some []))
  lop : W.heap[M + 1 + 1 + 1 + 1 + 1 + 1]? = some lp
  tou : W.heap[M + 1 + 1 + 1 + 1 + 1 + 1 + 1]? = some (.cells #[.pointer (some ⟨b, 0, none⟩)] 82 (0, 0))
  low : Below w.heap.size w W
  isl : ∃ l, lp = .loop l

variable {w : World} {A M b m : Nat} {a1 : Option Addr} {dl dc : Nat} {lp : Obj} {k : Nat} {f : ByteArray} {v : Value} {Q : PS} {ra : Option Addr} {rc : Nat} {W : World}

theorem GoB.lt (h : GoB w A M b m a1 dl dc lp k f v Q ra rc W) : M + 1 + 1 + 1 + 1 + 1 + 1 + 1 < W.heap.size := (Array.getElem?_eq_some_iff.1 h.tou).1

/-- A step that touches the bound's block, the number's or the loop's alone. -/
theorem GoB.step (h : GoB w A M b m a1 dl dc lp k f v Q ra rc W) {W' : World} {row : Option Nat} (g : W.grownBy W' row) (hr : ∀ j, row = some j → j = M + 1 ∨ j = M + 1 + 1 ∨ j = M + 1 + 1 + 1 + 1 + 1 + 1) {f' : ByteArray} {k' : Nat} {lp' : Obj}
    (hf : OneBlk W' (M + 1) 9 (.string f')) (hk : OneBlk W' (M + 1 + 1) 3 (.int .i64 k')) (hl : W'.heap[M + 1 + 1 + 1 + 1 + 1 + 1]? = some lp') (hi : ∃ l, lp' = .loop l) : GoB w A M b m a1 dl dc lp' k' f' v Q ra rc W' := by
  have hlt := h.lt
  have hn := h.num
  have b2 := h.art.hb
  have m2 := h.art.hm
  have key : ∀ j, j < W.heap.size → j ≠ M + 1 → j ≠ M + 1 + 1 → j ≠ M + 1 + 1 + 1 + 1 + 1 + 1 → W'.heap[j]? = W.heap[j]? := fun j h1 x1 x2 x3 => g.block j h1 (fun e => by have := hr j e.symm; omega)
  refine ⟨h.art.stay (key _ (by omega) (by omega) (by omega) (by omega)) (key _ (by omega) (by omega) (by omega) (by omega)) (fun j hj => ?_), h.own, h.num, (key _ (by omega) (by omega) (by omega) (by omega)).trans h.dur, (key _ (by omega) (by omega) (by omega) (by omega)).trans h.res, (key _ (by omega) (by omega) (by omega) (by omega)).trans h.abk, (key _ (by omega) (by omega) (by omega) (by omega)).trans h.mbk, ?_, hf, hk, (key _ (by omega) (by omega) (by omega) (by omega)).trans h.dfr, hl, (key _ (by omega) (by omega) (by omega) (by omega)).trans h.tou, h.low.grown g h.low.size (fun j e => by have := hr j e; have := h.low.size; omega), hi⟩
  · have h1 := h.own j hj
    have h2 := h.art.row.lt j hj
    exact key _ h2.2 (by omega) (by omega) (by omega)
  · refine h.row.kept g ?_
    cases e : row with
    | none =>
      cases e2 : Value.ownBlock (.slice ra Q.length rc) with
      | none => exact .inl rfl
      | some j => exact .inr (by simp)
    | some j =>
      refine .inr ?_
      obtain ⟨l, rfl⟩ := h.isl
      rcases hr j e with rfl | rfl | rfl
      · exact prow_none h.row h.bnd (fun _ _ e => by cases e)
      · exact prow_none h.row h.cnt (fun _ _ e => by cases e)
      · exact prow_none h.row h.lop (fun _ _ e => by cases e)

/-- A step that lays new blocks alone. -/
theorem GoB.below (h : GoB w A M b m a1 dl dc lp k f v Q ra rc W) {W' : World} (hb : Below W.heap.size W W') : GoB w A M b m a1 dl dc lp k f v Q ra rc W' := by
  have hlt := h.lt
  exact h.step (grown_below hb none) (fun _ e => by cases e) (h.bnd.below (by omega) hb) (h.cnt.below (by omega) hb) ((hb.block _ (by omega)).trans h.lop) h.isl

theorem GoB.put (h : GoB w A M b m a1 dl dc lp k f v Q ra rc W) (lp' : Loop) : GoB w A M b m a1 dl dc (.loop lp') k f v Q ra rc (W.putObj (M + 1 + 1 + 1 + 1 + 1 + 1) (.loop lp')) := by
  have hlt := h.lt
  exact h.step (grownBy_putObj' W _ _) (fun _ e => by cases e; exact .inr (.inr rfl)) ((World.putObj_heap_other (by omega)).trans h.bnd) ((World.putObj_heap_other (by omega)).trans h.cnt) (World.putObj_heap_same (by omega)) ⟨_, rfl⟩

theorem GoB.bound (h : GoB w A M b m a1 dl dc lp k f v Q ra rc W) (f' : ByteArray) : GoB w A M b m a1 dl dc lp k f' v Q ra rc (W.setCell ⟨M + 1, 0, none⟩ (.string f')) := by
  have hlt := h.lt
  exact h.step (grownBy_setCell' W _ _) (fun _ e => by cases e; exact .inl rfl) (h.bnd.set _) ((Below.heap_setCell _ _ _ _ (by simp)).trans h.cnt) ((Below.heap_setCell _ _ _ _ (by simp; omega)).trans h.lop) h.isl

theorem GoB.count (h : GoB w A M b m a1 dl dc lp k f v Q ra rc W) (x : Int) (k' : Nat) (hx : x = (k' : Int)) : GoB w A M b m a1 dl dc lp k' f v Q ra rc (W.setCell ⟨M + 1 + 1, 0, none⟩ (.int .i64 x)) := by
  subst hx
  have hlt := h.lt
  exact h.step (grownBy_setCell' W _ _) (fun _ e => by cases e; exact .inr (.inl rfl)) ((Below.heap_setCell _ _ _ _ (by simp)).trans h.bnd) (h.cnt.set _) ((Below.heap_setCell _ _ _ _ (by simp; omega)).trans h.lop) h.isl

/-- An operation on the art and on its model. -/
theorem GoB.does (h : GoB w A M b m a1 dl dc lp k f v Q ra rc W) {W' : World} {v' : Value} {Q' : PS} {a' : Option Addr} {c' : Nat} (hA : ArtAt W' (w.heap.size + 1 + 1) b m v' Q') (hT : Turned b m v W v' W') (hp : PRow W' 0 (.slice a' Q'.length c') Q') :
    GoB w A M b m a1 dl dc lp k f v' Q' a' c' (W'.setCell ⟨M, 0, none⟩ (.slice a' Q'.length c')) := by
  have hlt := h.lt
  have hn := h.num
  have b2 := h.art.hb
  have m2 := h.art.hm
  have hs := hT.size
  have key : ∀ j, j < W.heap.size → j ≠ b → j ≠ m → v.ownBlock ≠ some j → j ≠ M → (W'.setCell ⟨M, 0, none⟩ (.slice a' Q'.length c')).heap[j]? = W.heap[j]? := fun j h1 x1 x2 x3 x4 => (Below.heap_setCell _ _ _ _ x4).trans (hT.1.block j h1 x1 x2 (Ne.symm x3))
  have keyN : ∀ j, j < w.heap.size + 1 + 1 → (W'.setCell ⟨M, 0, none⟩ (.slice a' Q'.length c')).heap[j]? = W.heap[j]? := fun j h1 => key j (by omega) (by omega) (by omega) (fun e => by have := (h.art.row.lt j e).1; omega) (by omega)
  have keyM : ∀ j, (M < j ∧ j < M + 8) → (W'.setCell ⟨M, 0, none⟩ (.slice a' Q'.length c')).heap[j]? = W.heap[j]? := fun j h1 => key j (by omega) (by omega) (by omega) (fun e => by have := (h.own j e).2; omega) (by omega)
  have hM : OneBlk W' M 28 (.slice ra Q.length rc) := (hT.1.block M (by omega) (by omega) (by omega) (fun e => by have := (h.own M e.symm).2; omega)).trans h.mbk
  refine ⟨art_set hA hM (by decide) (by decide) _, fun g hg => ?_, h.num, (keyN _ (by omega)).trans h.dur, (keyN _ (by omega)).trans h.res, (key A (by omega) (by omega) (by omega) (fun e => (h.own A e).1 rfl) (by omega)).trans h.abk, hM.set _, prow_set1 hp hM (by decide) _, (keyM _ (by omega)).trans h.bnd, (keyM _ (by omega)).trans h.cnt, (keyM _ (by omega)).trans h.dfr, (keyM _ (by omega)).trans h.lop, (keyM _ (by omega)).trans h.tou, ?_, h.isl⟩
  · rcases hT.2 with e | e | ⟨n, e, hn2⟩
    · exact h.own g (by rw [← e]; exact hg)
    · rw [e] at hg; cases hg
    · rw [e] at hg; cases hg; omega
  · have h1 := h.low.trans ((Turned.below h.art hT (by omega)).mono (show w.heap.size ≤ w.heap.size + 1 + 1 by omega))
    have hAM : w.heap.size ≤ M := by omega
    exact h1.grown (grownBy_setCell' W' M _) h1.size (fun j e => by cases e; exact hAM)

end Go.Proofs.Ytegccicplcjcmaa
