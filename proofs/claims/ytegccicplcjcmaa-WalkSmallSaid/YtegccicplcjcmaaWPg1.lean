/- WalkPages: the caller's own cells between two rounds; append of a slice of pairs, whatever fence. -/
import Derived.Test.YtegccicplcjcmaaWL4
import Derived.Test.YtegccicplcjcmaaWG1
namespace Go.Proofs.Ytegccicplcjcmaa
open Go Go.RowKit Go.Shelf Go.Proofs Go.Sort
attribute [local go_sem] Oper.semAt_some

theorem run_append_nn {P : Program} (w : World) (t ty e : TypeId) (i : TypeInfo) (ht : P.underlying t = some (.slice e)) (hi : P.info? e = some i) :
    (Builtin.append_ #[t, t] ty #[.slice none 0 0, .slice none 0 0]).run P w = .ok (.slice none 0 0) w := by
  simp [Builtin.append_, run_underlying ht, sizeOf, typeInfo, hi, Builtin.lenOf, Result.andThen, Builtin.firstCells, go_sem]

/-- append of a slice of pairs onto an own row. -/
theorem run_app_any (w : World) (B : Nat) (ty : TypeId) (v : Value) (n : Nat) (xs : PS) (hown : w.ownsRow B 48 2 v n (pcells xs)) (xa : Option Addr) (m xc : Nat) (news : PS) (hxc : xa = none → xc = 0)
    (hp : IsPairs w xa m news) (hB : B ≤ w.heap.size) (hnm : n + m ≤ 200000) :
    ∃ a' c' w', (Builtin.append_ #[26, 26] ty #[v, .slice xa m xc]).run Try.prog w = .ok (.slice a' (n + m) c') w' ∧ w'.ownsRow B 48 2 (.slice a' (n + m) c') (n + m) (pcells (xs ++ news)) ∧ w.grownBy w' v.ownBlock := by
  obtain ⟨i0, hi, hz0, hz1, hz2⟩ := info_parts2 infoPair
  cases xa with
  | none =>
    have hm : m = 0 := by
      rcases hp.2.2 with h0 | ⟨g, off, e, _⟩
      · exact h0
      · cases e
    subst hm
    have hn : news = [] := List.eq_nil_of_length_eq_zero hp.1
    subst hn
    have hc0 : xc = 0 := hxc rfl
    subst hc0
    rcases prow_slice hown with ⟨rfl, rfl⟩ | ⟨g, c, rfl⟩
    · exact ⟨none, 0, w, run_append_nn w _ _ _ i0 Try.underlying26 hi, by simpa using hown, grown_refl _ _⟩
    · have hnc : n ≤ c := by
        rcases hown.2 with ⟨h1, _⟩ | ⟨g', cap, cur, h1, _, _, h2, _⟩
        · cases h1
        · cases h1; exact h2
      exact ⟨_, _, w, run_append_nil w _ _ _ i0 Try.underlying26 hi g n c hnc, by simpa using hown, grown_refl _ _⟩
  | some ad =>
    obtain ⟨v', w', hr, h2, h3, hnil, h5⟩ := run_append_own_at (P := Try.prog) w B 26 ty 48 i0 (.agg #[.string ⟨#[]⟩, .string ⟨#[]⟩]) 2 32 Try.underlying26 hi hz0 hz1 hz2 rfl (by decide) _ n _ hown ad m xc (pcells news) (by rw [pcells_length, hp.1])
      (by
        rcases hp.2.2 with h0 | ⟨g2, off, e, _⟩
        · have hn : news = [] := List.eq_nil_of_length_eq_zero (by rw [hp.1, h0])
          subst hn
          intro j u hu
          simp [pcells] at hu
        · cases e
          exact pairs_cells hp) (pcells_one news) (by unfold maxLen; omega) (by omega) hB
    rw [← pcells_append] at h2
    obtain ⟨a', c', rfl⟩ := row2_slice h2
    exact ⟨a', c', w', hr, h2, h3⟩

theorem wpListIn_appV {F : Fence} {nn : Nat} {ops : Array Oper} {rest : List Oper} {o : Oper} {a : Act} {Q : Exit → Act → World → Prop} (w : World) (hgd : o.guard = none) (s x : Operand)
    (ho : o.op = .call { callee := .builtin .append, args := #[s, x], argTypes := #[26, 26] }) (B : Nat) (v : Value) (n : Nat) (xs : PS) (hs : a.eval s = v)
    (hown : w.ownsRow B 48 2 v n (pcells xs)) (xa : Option Addr) (m xc : Nat) (news : PS) (hx : a.eval x = .slice xa m xc) (hxc : xa = none → xc = 0)
    (hp : IsPairs w xa m news) (hB : B ≤ w.heap.size) (hnm : n + m ≤ 200000)
    (h : ∀ a' c' w', w'.ownsRow B 48 2 (.slice a' (n + m) c') (n + m) (pcells (xs ++ news)) → w.grownBy w' v.ownBlock → wpListIn F nn Try.prog ops Q rest (a.put o.dst (.slice a' (n + m) c')) w') : wpListIn F nn Try.prog ops Q (o :: rest) a w := by
  refine wpListIn_plain hgd fun K hK => ?_
  obtain ⟨a', c', w', hr, h1, h2⟩ := run_app_any w B o.type v n xs hown xa m xc news hxc hp hB hnm
  unfold Oper.wpIn
  refine ⟨?_, ?_⟩
  · simp [Oper.about, ho, resolve, Target.leads, Sem.run_pure]
  · rw [Oper.semAt_plain F _ _ (by rw [ho]; intro c hc'; cases hc')]
    simp [execOp, ho, resolve, invoke, builtin, hs, hx, hr, Result.andThen]
    exact hK _ _ (h a' c' w' h1 h2)

theorem wpList_appV {ops : Array Oper} {rest : List Oper} {o : Oper} {a : Act} {Q : Exit → Act → World → Prop} (w : World) (hgd : o.guard = none) (s x : Operand)
    (ho : o.op = .call { callee := .builtin .append, args := #[s, x], argTypes := #[26, 26] }) (B : Nat) (v : Value) (n : Nat) (xs : PS) (hs : a.eval s = v)
    (hown : w.ownsRow B 48 2 v n (pcells xs)) (xa : Option Addr) (m xc : Nat) (news : PS) (hx : a.eval x = .slice xa m xc) (hxc : xa = none → xc = 0)
    (hp : IsPairs w xa m news) (hB : B ≤ w.heap.size) (hnm : n + m ≤ 200000)
    (h : ∀ a' c' w', w'.ownsRow B 48 2 (.slice a' (n + m) c') (n + m) (pcells (xs ++ news)) → w.grownBy w' v.ownBlock → wpList Try.prog ops Q rest (a.put o.dst (.slice a' (n + m) c')) w') : wpList Try.prog ops Q (o :: rest) a w := by
  refine wpList_plain hgd fun K hK => ?_
  obtain ⟨a', c', w', hr, h1, h2⟩ := run_app_any w B o.type v n xs hown xa m xc news hxc hp hB hnm
  unfold Oper.wp execOp
  simp only [ho, resolve, invoke, builtin, Sem.run_bind, Sem.run_pure, Result.andThen_ok, List.map_toArray, List.map_cons, List.map_nil, hs, hx, hr]
  exact hK _ _ (h a' c' w' h1 h2)

theorem OneBlk.alloc' {w : World} {k : Nat} {t : TypeId} {x : Value} (h : OneBlk w k t x) (o : Obj) : OneBlk (w.alloc o) k t x := key1 _ _ _ _ h

/-- The caller's own cells between two rounds of the range. -/
structure PgB (w : World) (G b : Nat) (lp : Obj) (k : Nat) (Q : PS) (W : World) : Prop where
  out : ∃ v, OneBlk W G 26 v ∧ W.ownsRow (w.heap.size + 1 + 1 + 1 + 1 + 1) 48 2 v k (pcells (Q.take k))
  dfr : W.heap[w.heap.size + 1 + 1]? = some (.deferred (some []))
  lop : W.heap[w.heap.size + 1 + 1 + 1]? = some lp
  tou : W.heap[w.heap.size + 1 + 1 + 1 + 1]? = some (.cells #[.pointer (some ⟨b, 0, none⟩)] 82 (0, 0))
  gro : w.grownBy W (some G)

variable {w : World} {G b : Nat} {lp : Obj} {k : Nat} {Q : PS} {W : World}

theorem PgB.lt (h : PgB w G b lp k Q W) : w.heap.size + 1 + 1 + 1 + 1 < W.heap.size := (Array.getElem?_eq_some_iff.1 h.tou).1

theorem PgB.below (h : PgB w G b lp k Q W) (hG : G < w.heap.size) {W2 : World} (g : Below W.heap.size W W2) : PgB w G b lp k Q W2 := by
  have hlt := h.lt
  obtain ⟨v, hv, hrow⟩ := h.out
  exact ⟨⟨v, (g.block _ (by omega)).trans hv, own_grown hrow (grown_below g none) (fun j e => by cases e)⟩, (g.block _ (by omega)).trans h.dfr, (g.block _ (by omega)).trans h.lop, (g.block _ hlt).trans h.tou, grown_far h.gro (grown_below g none) (fun j e => by cases e)⟩

theorem PgB.put (h : PgB w G b lp k Q W) (hG : G < w.heap.size) (lp' : Obj) : PgB w G b lp' k Q (W.putObj (w.heap.size + 1 + 1 + 1) lp') := by
  have hlt := h.lt
  have g := grownBy_putObj' W (w.heap.size + 1 + 1 + 1) lp'
  have key : ∀ j, j ≠ w.heap.size + 1 + 1 + 1 → (W.putObj (w.heap.size + 1 + 1 + 1) lp').heap[j]? = W.heap[j]? := fun j hj => World.putObj_heap_other hj
  obtain ⟨v, hv, hrow⟩ := h.out
  exact ⟨⟨v, (key _ (by omega)).trans hv, own_grown hrow g (fun j e => by cases e; omega)⟩, (key _ (by omega)).trans h.dfr, World.putObj_heap_same (by omega), (key _ (by omega)).trans h.tou, grown_far h.gro g (fun j e => by cases e; omega)⟩

/-- One pair more. -/
theorem PgB.app (h : PgB w G b lp k Q W) (hG : G < w.heap.size) {v : Value} (hrow : W.ownsRow (w.heap.size + 1 + 1 + 1 + 1 + 1) 48 2 v k (pcells (Q.take k))) {o : Obj} {g' cap' : Nat} {w1 : World} (hgrow : (W.alloc o).grownBy w1 v.ownBlock)
    {xs : List Value} (hown : w1.ownsRow (w.heap.size + 1 + 1 + 1 + 1 + 1) 48 2 (.slice (some ⟨g', 0, none⟩) (k + 1) cap') (k + 1) xs) (hxs : xs = pcells (Q.take (k + 1))) (hv1 : OneBlk w1 G 26 v) :
    PgB w G b lp (k + 1) Q (w1.setCell ⟨G, 0, none⟩ (.slice (some ⟨g', 0, none⟩) (k + 1) cap')) := by
  subst hxs
  have hlt := h.lt
  have hrl := hrow.lt
  have hal := World.grownBy_alloc W o none
  have hs1 := hal.size
  have hg4 := grownBy_setCell' w1 G (.slice (some ⟨g', 0, none⟩) (k + 1) cap')
  have hnl : ∀ j, j < w.heap.size + 1 + 1 + 1 + 1 + 1 → some j ≠ v.ownBlock := fun j hj e => by have := (hrl j e.symm).1; omega
  have key : ∀ j, j < w.heap.size + 1 + 1 + 1 + 1 + 1 → j < W.heap.size → j ≠ G → (w1.setCell ⟨G, 0, none⟩ (.slice (some ⟨g', 0, none⟩) (k + 1) cap')).heap[j]? = W.heap[j]? := fun j h1 h2 h3 =>
    (Below.heap_setCell _ _ _ _ (by simpa using h3)).trans ((hgrow.block j (by omega) (hnl j h1)).trans (hal.block j h2 (by simp)))
  refine ⟨⟨_, hv1.set _, own_grown hown hg4 (fun j e => by cases e; omega)⟩, (key _ (by omega) (by omega) (by omega)).trans h.dfr, (key _ (by omega) (by omega) (by omega)).trans h.lop, (key _ (by omega) hlt (by omega)).trans h.tou, ?_⟩
  have g1 := grown_far h.gro hal (fun j e => by cases e)
  have g2 := grown_far g1 hgrow (fun j e => by have := (hrl j e).1; omega)
  exact grown_far g2 hg4 (fun j e => by cases e; omega)

/-- An art below, with steps on one block that is none of its own. -/
theorem art_grown {B m : Nat} {v : Value} {ps : PS} {w W : World} (h : ArtAt w B b m v ps) {G : Nat} (g : w.grownBy W (some G)) (h1 : b ≠ G) (h2 : m ≠ G) (h3 : v.ownBlock ≠ some G) : ArtAt W B b m v ps :=
  h.stay (g.block _ h.lt.1 (fun e => h1 (by cases e; rfl))) (g.block _ h.lt.2 (fun e => h2 (by cases e; rfl))) (fun j hj => g.block _ (h.row.lt j hj).2 (fun e => h3 (by rw [hj, e])))

/-- The bound behind j pairs: where it stands. -/
theorem pos_bnd {ps : PS} (hs : SortedP ps) {j : Nat} (hj : j ≤ ps.length) : posP ps (bndQ ⟨#[]⟩ ps j) = j := by
  cases j with
  | zero => exact pos_nil ps
  | succ j =>
    obtain ⟨q, hq⟩ : ∃ q, ps[j]? = some q := ⟨_, List.getElem?_eq_getElem (by omega)⟩
    have : bndQ ⟨#[]⟩ ps (j + 1) = q.1 ++ ⟨#[0]⟩ := by simp [bndQ, hq]
    rw [this]
    exact pos_after hs hq

theorem prow_key {w : World} {B c : Nat} {a : Option Addr} {ps : PS} (h : PRow w B (.slice a ps.length c) ps) (hs : ∀ p ∈ ps, p.1.size ≤ 1000 ∧ p.2.size ≤ 1000) {i : Nat} {q : ByteArray × ByteArray} (hi : ps[i]? = some q) : ∃ g, a = some ⟨g, 0, none⟩ ∧ w.cell? ⟨g, i * 2, none⟩ = some (.string q.1) := by
  obtain ⟨h1, _, _, h2⟩ := prow_in h hs
  rcases h2 with ⟨_, _, rfl⟩ | ⟨g, rfl⟩
  · cases hi
  · obtain ⟨g', off, e, _, hc⟩ := h1.2.2.resolve_left (by have := (List.getElem?_eq_some_iff.1 hi).1; omega)
    cases e
    have := (hc i q hi).1
    rw [Nat.zero_add] at this
    exact ⟨g, rfl, this⟩

theorem row_full {w : World} {B j : Nat} {v : Value} {ps : PS} (h : w.ownsRow B 48 2 v j (pcells (ps.take j))) (hj : j = ps.length) : w.ownsRow B 48 2 v ps.length (pcells ps) := by
  subst hj
  rwa [List.take_length] at h

theorem chain4 (w : World) (o0 o1 o2 o3 : Obj) (W : World) (hW : W = (((w.alloc o0).alloc o1).alloc o2).alloc o3) :
    W.heap[w.heap.size]? = some o0 ∧ W.heap[w.heap.size + 1]? = some o1 ∧ W.heap[w.heap.size + 1 + 1]? = some o2 ∧ W.heap[w.heap.size + 1 + 1 + 1]? = some o3 ∧ Below w.heap.size w W ∧ W.heap.size = w.heap.size + 1 + 1 + 1 + 1 := by
  subst hW
  refine ⟨?_, ?_, ?_, ?_, ?_, by simp⟩
  · exact key1 _ _ _ _ (key1 _ _ _ _ (key1 _ _ _ _ (World.alloc_heap_new _ _)))
  · have := World.alloc_heap_new (w.alloc o0) o1
    simp only [World.size_alloc] at this
    exact key1 _ _ _ _ (key1 _ _ _ _ this)
  · have := World.alloc_heap_new ((w.alloc o0).alloc o1) o2
    simp only [World.size_alloc] at this
    exact key1 _ _ _ _ this
  · have := World.alloc_heap_new (((w.alloc o0).alloc o1).alloc o2) o3
    simp only [World.size_alloc] at this
    exact this
  · refine ((((Below.refl _ _).alloc (Nat.le_refl _) _).alloc ?_ _).alloc ?_ _).alloc ?_ _ <;> simp <;> omega

theorem two_new2 (W : World) (o : Obj) (a b : Value) (t : TypeId) : ∀ j u, ([a, b] : List Value)[j]? = some u → ((W.alloc o).alloc (.cells #[a, b] t)).cell? ((⟨W.heap.size + 1, 0, none⟩ : Addr).add j) = some u := by
  have := two_new (W.alloc o) a b t
  rw [World.size_alloc] at this
  exact this

/-- A page from the bound behind j pairs. -/
theorem page_at {ps : PS} (hs : SortedP ps) {j n : Nat} (hj : j ≤ ps.length) : fromP ps (bndQ ⟨#[]⟩ ps j) (n : Int) = (ps.drop j).take n := by
  unfold fromP
  rw [pos_bnd hs hj]
  simp

theorem bnd_page {ps : PS} {j n : Nat} {q : ByteArray × ByteArray} {m : Nat} (hm : ((ps.drop j).take n).length = m + 1) (hq : ((ps.drop j).take n)[m]? = some q) : bndQ ⟨#[]⟩ ps (j + (m + 1)) = q.1 ++ ⟨#[0]⟩ := by
  have h1 : m < n := by
    rw [List.length_take] at hm
    omega
  rw [List.getElem?_take_of_lt h1, List.getElem?_drop] at hq
  show bndQ ⟨#[]⟩ ps (j + m + 1) = _
  simp [bndQ, hq]

theorem take_page {ps : PS} {j n : Nat} : ps.take j ++ (ps.drop j).take n = ps.take (j + ((ps.drop j).take n).length) := by
  rw [List.take_add, List.length_take]
  congr 1
  by_cases h : n ≤ (ps.drop j).length
  · rw [Nat.min_eq_left h]
  · rw [Nat.min_eq_right (by omega), List.take_of_length_le (by omega), List.take_of_length_le (Nat.le_refl _)]

end Go.Proofs.Ytegccicplcjcmaa
