/- Plain laws: a family of rows of pairs that lie apart, marked, grown, and put into an array. -/
import Derived.Test.YtgfhaldfjnepmaaAp2
namespace Go.Proofs.Ytgfhaldfjnepmaa
open Go Go.RowKit Go.Shelf Go.Proofs

/-- A family's value or list changed at one place. -/
def updF {α : Type} (f : Nat → α) (k : Nat) (x : α) : Nat → α := fun j => if j = k then x else f j
theorem updF_same {α : Type} (f : Nat → α) (k : Nat) (x : α) : updF f k x k = x := by simp [updF]
theorem updF_other {α : Type} (f : Nat → α) {k j : Nat} (x : α) (h : j ≠ k) : updF f k x j = f j := by simp [updF, h]

/-- What stays of the lists that are handed in: where they stand, how long they are, that they lie apart. -/
structure FlatIn (w0 : World) (B L n : Nat) (cur : Array Value) (vs : Nat → Value) (ns : Nat → Nat) : Prop where
  cur : ∀ k, k < n → cur[k]? = some (vs k)
  dis : ∀ i j, i < n → j < n → i ≠ j → ∀ g, (vs i).ownBlock = some g → (vs j).ownBlock ≠ some g
  hB : B ≤ w0.heap.size
  hn : n ≤ 1000
  hns : ∀ k, k < n → ns k ≤ 100000

/-- Blocks of another kind than rows of pairs lie as they lay. -/
def Others (w0 w : World) : Prop := ∀ (b : Nat) (ob : Obj), w0.heap[b]? = some ob → (∀ c f, ob ≠ .cells c 57 f) → w.heap[b]? = some ob
theorem Others.below {w0 w w' : World} (h : Others w0 w) (hs : w0.heap.size ≤ w.heap.size) (hb : Below w.heap.size w w') : Others w0 w' := fun b ob h1 h2 =>
  (hb.block b (Nat.lt_of_lt_of_le (Array.getElem?_eq_some_iff.1 h1).1 hs)).trans (h b ob h1 h2)
theorem Others.but {w0 w w' : World} (h : Others w0 w) {g : Nat} {c : Array Value} {f : Nat × Nat} (hg : w.heap[g]? = some (.cells c 57 f)) (hw : ∀ j, j < w0.heap.size → j ≠ g → w'.heap[j]? = w.heap[j]?) : Others w0 w' := fun b ob h1 h2 => by
  refine (hw b (Array.getElem?_eq_some_iff.1 h1).1 ?_).trans (h b ob h1 h2)
  rintro rfl
  have := h b ob h1 h2
  rw [hg] at this
  cases this
  exact h2 _ _ rfl

/-- While the lists are marked. -/
structure R1 (w0 : World) (B L n : Nat) (cur : Array Value) (fz : Nat × Nat) (vs : Nat → Value) (ns : Nat → Nat) (w : World) (k i : Nat) : Prop where
  below : Below B w0 w
  oth : Others w0 w
  lst : w.heap[L]? = some (.cells cur 47 fz)
  rows : ∀ j, j < n → ∃ p, p.length = ns j ∧ PRow w B (vs j) p ∧ (j < k → p = mks j (ns j)) ∧ (j = k → ∃ r, p = mks k i ++ r)

variable {w0 : World} {B L A n : Nat} {cur : Array Value} {fz : Nat × Nat} {vs : Nat → Value} {ns : Nat → Nat}

theorem lst_cell {w : World} (hF : FlatIn w0 B L n cur vs ns) (h : w.heap[L]? = some (.cells cur 47 fz)) {k : Nat} (hk : k < n) : w.cell? ⟨L, k, none⟩ = some (vs k) := by
  have := hF.cur k hk
  simp [World.cell?, h, this]

theorem R1.stay {w w' : World} {k i : Nat} (hF : FlatIn w0 B L n cur vs ns) (h : R1 w0 B L n cur fz vs ns w k i) (hb : Below w.heap.size w w') : R1 w0 B L n cur fz vs ns w' k i := by
  have hs := h.below.size
  refine ⟨h.below.trans (hb.mono (Nat.le_trans hF.hB hs)), h.oth.below hs hb, (hb.block L (Array.getElem?_eq_some_iff.1 h.lst).1).trans h.lst, fun j hj => ?_⟩
  obtain ⟨p, h1, h2, h3⟩ := h.rows j hj
  exact ⟨p, h1, ownsRow_below h2 hb (Nat.le_refl _), h3⟩

theorem R1.form {w : World} {k i : Nat} (h : R1 w0 B L n cur fz vs ns w k i) {j : Nat} (hj : j < n) : ∃ a c, vs j = .slice a (ns j) c ∧ (a = none → ns j = 0) := by
  obtain ⟨p, h1, h2, h3⟩ := h.rows j hj
  rcases prow_form h2 with ⟨e, e2⟩ | ⟨g, c, e⟩
  · subst e2
    simp at h1
    exact ⟨none, 0, by rw [e, ← h1], fun _ => h1.symm⟩
  · exact ⟨_, c, by rw [e, h1], fun e => by cases e⟩

theorem R1.at {w : World} {k i : Nat} (h : R1 w0 B L n cur fz vs ns w k i) (hk : k < n) (hi : i < ns k) {g c : Nat} (hv : vs k = .slice (some ⟨g, 0, none⟩) (ns k) c) :
    B ≤ g ∧ L ≠ g ∧ ns k ≤ c ∧ (∃ x y, w.cell? ⟨g, i * 2, none⟩ = some x ∧ w.cell? ⟨g, i * 2 + 1, none⟩ = some y) ∧ ∀ j, w.frozen? ⟨g, j, none⟩ = false := by
  obtain ⟨p, h1, h2, h3, h4⟩ := h.rows k hk
  rw [hv] at h2
  obtain ⟨q, hq⟩ : ∃ q, p[i]? = some q := ⟨_, List.getElem?_eq_getElem (by omega)⟩
  obtain ⟨c1, c2, f⟩ := prow_at h2 hq
  obtain ⟨cur1, k0, k1, k2, k3, _⟩ := prow_blk h2
  refine ⟨k1, ?_, k3, ⟨_, _, c1, c2⟩, f⟩
  rintro rfl
  rw [h.lst] at k2
  cases k2

theorem R1.put {w : World} {k i : Nat} (hF : FlatIn w0 B L n cur vs ns) (h : R1 w0 B L n cur fz vs ns w k i) (hk : k < n) (hi : i < ns k) {g c : Nat} (hv : vs k = .slice (some ⟨g, 0, none⟩) (ns k) c) :
    R1 w0 B L n cur fz vs ns ((w.setCell ⟨g, i * 2, none⟩ (.string (mkt k i))).setCell ⟨g, i * 2 + 1, none⟩ (.string ⟨#[]⟩)) k (i + 1) := by
  obtain ⟨hBg, hLg, _⟩ := h.at hk hi hv
  have hoth : ∀ j, j ≠ g → ((w.setCell ⟨g, i * 2, none⟩ (.string (mkt k i))).setCell ⟨g, i * 2 + 1, none⟩ (.string ⟨#[]⟩)).heap[j]? = w.heap[j]? := fun j hj => by
    rw [Below.heap_setCell _ _ _ _ (by simpa using hj), Below.heap_setCell _ _ _ _ (by simpa using hj)]
  have hgk : ∃ c1, w.heap[g]? = some (.cells c1 57 (0, 0)) := by
    obtain ⟨p, _, h2, _⟩ := h.rows k hk
    rw [hv] at h2
    obtain ⟨c1, _, _, k2, _⟩ := prow_blk h2
    exact ⟨c1, k2⟩
  obtain ⟨c1, hgk⟩ := hgk
  refine ⟨(h.below.setCell (p := ⟨g, i * 2, none⟩) hBg _).setCell (p := ⟨g, i * 2 + 1, none⟩) hBg _, h.oth.but hgk (fun j _ hj => hoth j hj), (hoth L hLg).trans h.lst, fun j hj => ?_⟩
  obtain ⟨p, h1, h2, h3, h4⟩ := h.rows j hj
  by_cases e : j = k
  · subst e
    obtain ⟨r, rfl⟩ := h4 rfl
    rw [hv] at h2 ⊢
    have := prow_set h2 i (mkt j i) ⟨#[]⟩
    have hr : r ≠ [] := by
      rintro rfl
      simp [mks_length] at h1
      omega
    obtain ⟨q, r', rfl⟩ := List.exists_cons_of_ne_nil hr
    have hset : (mks j i ++ q :: r').set i (mkt j i, ⟨#[]⟩) = mks j (i + 1) ++ r' := by
      rw [List.set_append, if_neg (by rw [mks_length]; omega), mks_length, Nat.sub_self, List.set_cons_zero, mks_succ]
      simp
    rw [hset] at this
    refine ⟨_, ?_, this, fun h => by omega, fun _ => ⟨r', rfl⟩⟩
    rw [← h1]
    simp [mks_length]
    omega
  · refine ⟨p, h1, prow_still h2 (fun g' hg' => hoth g' ?_), h3, fun e2 => absurd e2 e⟩
    rintro rfl
    exact hF.dis j k hj hk e g' hg' (by rw [hv]; rfl)

theorem R1.next {w : World} {k i : Nat} (h : R1 w0 B L n cur fz vs ns w k i) (hi : i = ns k) : R1 w0 B L n cur fz vs ns w (k + 1) 0 := by
  refine ⟨h.below, h.oth, h.lst, fun j hj => ?_⟩
  obtain ⟨p, h1, h2, h3, h4⟩ := h.rows j hj
  refine ⟨p, h1, h2, fun hj2 => ?_, fun _ => ⟨p, rfl⟩⟩
  by_cases e : j = k
  · subst e
    obtain ⟨r, rfl⟩ := h4 rfl
    have : r = [] := List.eq_nil_of_length_eq_zero (by simp [mks_length] at h1; omega)
    subst this
    rw [hi]; simp
  · exact h3 (by omega)

/-- While the lists are grown, and what has grown is put into an array. -/
structure R2 (w0 : World) (B L A n : Nat) (cur : Array Value) (fz : Nat × Nat) (vs : Nat → Value) (ns : Nat → Nat) (w : World) (k : Nat) (gs : Nat → Value) (F : Nat → PS) : Prop where
  below : Below B w0 w
  oth : Others w0 w
  lst : w.heap[L]? = some (.cells cur 47 fz)
  arr : ∃ ca, w.heap[A]? = some (.cells ca 47 (0, 0)) ∧ ca.size = n ∧ ∀ j, j < k → ca[j]? = some (gs j)
  rows : ∀ j, j < n → PRow w B (vs j) (mks j (ns j)) ∧ PRow w B (gs j) (F j) ∧ ∃ r, F j = mks j (ns j) ++ r
  dis : ∀ i j, i < n → j < n → i ≠ j → ∀ g, ((vs i).ownBlock = some g ∨ (gs i).ownBlock = some g) → ¬ ((vs j).ownBlock = some g ∨ (gs j).ownBlock = some g)
  hLA : L < A
  hBA : w0.heap.size ≤ A

theorem R2.start {w w' : World} {ca : Array Value} (hF : FlatIn w0 B L n cur vs ns) (h : R1 w0 B L n cur fz vs ns w n 0) (hw' : w' = w.alloc (.cells ca 47)) (hca : ca.size = n) : R2 w0 B L w.heap.size n cur fz vs ns w' 0 vs (fun j => mks j (ns j)) := by
  subst hw'
  have hb : Below w.heap.size w (w.alloc (.cells ca 47)) := (Below.refl _ _).alloc (Nat.le_refl _) _
  have h' := h.stay hF hb
  refine ⟨h'.below, h'.oth, h'.lst, ⟨ca, World.alloc_heap_new _ _, hca, fun j hj => by omega⟩, fun j hj => ?_, fun i j hi hj e g h1 => ?_, (Array.getElem?_eq_some_iff.1 h.lst).1, h.below.size⟩
  · obtain ⟨p, h1, h2, h3, h4⟩ := h'.rows j hj
    have := h3 hj
    subst this
    exact ⟨h2, h2, [], by simp⟩
  · simp only [or_self] at h1 ⊢
    exact hF.dis i j hi hj e g h1

theorem R2.restart {w : World} {k : Nat} {gs : Nat → Value} {F : Nat → PS} (h : R2 w0 B L A n cur fz vs ns w k gs F) : R2 w0 B L A n cur fz vs ns w 0 vs (fun j => mks j (ns j)) := by
  obtain ⟨ca, a1, a2, _⟩ := h.arr
  refine ⟨h.below, h.oth, h.lst, ⟨ca, a1, a2, fun j hj => by omega⟩, fun j hj => ⟨(h.rows j hj).1, (h.rows j hj).1, [], by simp⟩, fun i j hi hj e g h1 h2 => ?_, h.hLA, h.hBA⟩
  simp only [or_self] at h1 h2
  exact h.dis i j hi hj e g (.inl h1) (.inl h2)

theorem R2.stay {w w' : World} {k : Nat} {gs : Nat → Value} {F : Nat → PS} (hF : FlatIn w0 B L n cur vs ns) (h : R2 w0 B L A n cur fz vs ns w k gs F) (hb : Below w.heap.size w w') : R2 w0 B L A n cur fz vs ns w' k gs F := by
  have hs := h.below.size
  obtain ⟨ca, a1, a2, a3⟩ := h.arr
  exact ⟨h.below.trans (hb.mono (Nat.le_trans hF.hB hs)), h.oth.below hs hb, (hb.block L (Array.getElem?_eq_some_iff.1 h.lst).1).trans h.lst, ⟨ca, (hb.block A (Array.getElem?_eq_some_iff.1 a1).1).trans a1, a2, a3⟩,
    fun j hj => ⟨ownsRow_below (h.rows j hj).1 hb (Nat.le_refl _), ownsRow_below (h.rows j hj).2.1 hb (Nat.le_refl _), (h.rows j hj).2.2⟩, h.dis, h.hLA, h.hBA⟩

theorem R2.app {w w' : World} {k : Nat} {gs : Nat → Value} {F : Nat → PS} (hF : FlatIn w0 B L n cur vs ns) (h : R2 w0 B L A n cur fz vs ns w k gs F) (hk : k < n) {v' : Value} {q : PS}
    (h1 : PRow w' B v' (F k ++ q)) (h2 : w.grownBy w' (gs k).ownBlock) (h3 : v'.ownBlock = (gs k).ownBlock ∨ v'.ownBlock = some w.heap.size) (h4 : PRow w' B (gs k) (F k)) :
    R2 w0 B L A n cur fz vs ns w' k (updF gs k v') (updF F k (F k ++ q)) := by
  have hs := Nat.le_trans hF.hB h.below.size
  obtain ⟨ca, a1, a2, a3⟩ := h.arr
  have hgB : ∀ g, (gs k).ownBlock = some g → B ≤ g ∧ g < w.heap.size := fun g hg => (h.rows k hk).2.1.lt g hg
  have hty : ∀ (b : Nat) (c : Array Value) (f : Nat × Nat), w.heap[b]? = some (.cells c 47 f) → w'.heap[b]? = some (.cells c 47 f) := fun b c f hb => by
    refine (h2.block b (Array.getElem?_eq_some_iff.1 hb).1 ?_).trans hb
    intro e
    rcases prow_form (h.rows k hk).2.1 with ⟨e1, _⟩ | ⟨g, cc, e1⟩
    · rw [e1] at e; cases e
    · rw [e1] at e
      cases e
      obtain ⟨cur1, _, _, m2, _⟩ := prow_blk (e1 ▸ (h.rows k hk).2.1)
      rw [m2] at hb
      cases hb
  have hoth : Others w0 w' := by
    rcases prow_form (h.rows k hk).2.1 with ⟨e1, _⟩ | ⟨g, cc, e1⟩
    · intro b ob b1 b2
      refine (h2.block b (Nat.lt_of_lt_of_le (Array.getElem?_eq_some_iff.1 b1).1 h.below.size) ?_).trans (h.oth b ob b1 b2)
      rw [e1]; simp [Value.ownBlock]
    · obtain ⟨cur1, _, _, m2, _⟩ := prow_blk (e1 ▸ (h.rows k hk).2.1)
      exact h.oth.but m2 (fun j hj hne => h2.block j (Nat.lt_of_lt_of_le hj h.below.size) (by rw [e1]; simp [Value.ownBlock]; exact hne))
  have hlt : ∀ (v : Value) (p : PS), PRow w B v p → ∀ g, v.ownBlock = some g → g < w.heap.size := fun v p hp g hg => (hp.lt g hg).2
  refine ⟨h.below.grown h2 hs (fun g hg => (hgB g hg).1), hoth, hty L _ _ h.lst, ⟨ca, hty A _ _ a1, a2, fun j hj => ?_⟩, fun j hj => ?_, ?_, h.hLA, h.hBA⟩
  · by_cases e : j = k
    · omega
    · rw [updF_other _ _ e]; exact a3 j hj
  · by_cases e : j = k
    · subst e
      rw [updF_same, updF_same]
      obtain ⟨r, hr⟩ := (h.rows j hj).2.2
      refine ⟨?_, h1, r ++ q, by rw [hr, List.append_assoc]⟩
      rcases prow_form (h.rows j hj).1 with ⟨e1, e2⟩ | ⟨g, cc, e1⟩
      · rw [e1, e2]; exact prow_nil _ _
      · by_cases e2 : (gs j).ownBlock = some g
        · rcases prow_form (h.rows j hj).2.1 with ⟨f1, _⟩ | ⟨g', cc', f1⟩
          · rw [f1] at e2; cases e2
          · rw [f1] at e2
            cases e2
            have q1 := (h.rows j hj).1
            have q2 := (h.rows j hj).2.1
            rw [e1] at q1 ⊢
            rw [f1] at q2 h4
            exact prow_share q1 q2 h4 ⟨r, hr⟩
        · exact prow_still (h.rows j hj).1 (fun g' hg' => h2.block g' (hlt _ _ (h.rows j hj).1 g' hg') (by
            rw [e1] at hg'
            cases hg'
            exact fun e3 => e2 e3.symm))
    · rw [updF_other _ _ e, updF_other _ _ e]
      refine ⟨prow_still (h.rows j hj).1 (fun g' hg' => h2.block g' (hlt _ _ (h.rows j hj).1 g' hg') (fun e3 => ?_)), prow_still (h.rows j hj).2.1 (fun g' hg' => h2.block g' (hlt _ _ (h.rows j hj).2.1 g' hg') (fun e3 => ?_)), (h.rows j hj).2.2⟩
      · exact h.dis j k hj hk e g' (.inl hg') (.inr e3.symm)
      · exact h.dis j k hj hk e g' (.inr hg') (.inr e3.symm)
  · have key : ∀ j, j < n → j ≠ k → ∀ g, ((vs j).ownBlock = some g ∨ (gs j).ownBlock = some g) → ¬ ((vs k).ownBlock = some g ∨ v'.ownBlock = some g) := fun j hj e g h5 h6 => by
      rcases h6 with h6 | h6
      · exact h.dis j k hj hk e g h5 (.inl h6)
      · rcases h3 with h3 | h3
        · exact h.dis j k hj hk e g h5 (.inr (h3 ▸ h6))
        · rw [h3] at h6
          cases h6
          rcases h5 with h5 | h5
          · exact Nat.lt_irrefl _ (hlt _ _ (h.rows j hj).1 _ h5)
          · exact Nat.lt_irrefl _ (hlt _ _ (h.rows j hj).2.1 _ h5)
    intro i j hi hj e g h5 h6
    by_cases ei : i = k
    · subst ei
      rw [updF_same] at h5
      rw [updF_other _ _ (Ne.symm e)] at h6
      exact key j hj (Ne.symm e) g h6 h5
    · rw [updF_other _ _ ei] at h5
      by_cases ej : j = k
      · subst ej
        rw [updF_same] at h6
        exact key i hi ei g h5 h6
      · rw [updF_other _ _ ej] at h6
        exact h.dis i j hi hj e g h5 h6

theorem R2.put {w : World} {k : Nat} {gs : Nat → Value} {F : Nat → PS} (hF : FlatIn w0 B L n cur vs ns) (h : R2 w0 B L A n cur fz vs ns w k gs F) (hk : k < n) : R2 w0 B L A n cur fz vs ns (w.setCell ⟨A, k, none⟩ (gs k)) (k + 1) gs F := by
  obtain ⟨ca, a1, a2, a3⟩ := h.arr
  have hLA := h.hLA
  have hoth : ∀ j, j ≠ A → (w.setCell ⟨A, k, none⟩ (gs k)).heap[j]? = w.heap[j]? := fun j hj => Below.heap_setCell _ _ _ _ (by simpa using hj)
  have hrow : ∀ (v : Value) (p : PS), PRow w B v p → PRow (w.setCell ⟨A, k, none⟩ (gs k)) B v p := fun v p hp => prow_still hp (fun g hg => hoth g (by
    rintro rfl
    rcases prow_form hp with ⟨e1, _⟩ | ⟨g', cc, e1⟩
    · rw [e1] at hg; cases hg
    · rw [e1] at hg hp
      cases hg
      obtain ⟨_, _, _, m2, _⟩ := prow_blk hp
      rw [m2] at a1
      cases a1))
  refine ⟨h.below.setCell (p := ⟨A, k, none⟩) (Nat.le_trans hF.hB h.hBA) _, fun b ob b1 b2 => (hoth b (by have := (Array.getElem?_eq_some_iff.1 b1).1; have := h.hBA; omega)).trans (h.oth b ob b1 b2), (hoth L (by omega)).trans h.lst, ⟨_, heap_setCell_same a1 k (gs k), by simp [a2], fun j hj => ?_⟩, fun j hj => ⟨hrow _ _ (h.rows j hj).1, hrow _ _ (h.rows j hj).2.1, (h.rows j hj).2.2⟩, h.dis, h.hLA, h.hBA⟩
  rw [Array.getElem?_setIfInBounds]
  by_cases e : k = j
  · subst e; rw [if_pos rfl, if_pos (by omega)]
  · rw [if_neg e]; exact a3 j (by omega)

theorem R2.cells {w : World} {k : Nat} {gs : Nat → Value} {F : Nat → PS} (h : R2 w0 B L A n cur fz vs ns w k gs F) : (∀ j, j < k → w.cell? ⟨A, j, none⟩ = some (gs j)) ∧ (∀ j, j < n → ∃ u, w.cell? ⟨A, j, none⟩ = some u) ∧ ∀ j, w.frozen? ⟨A, j, none⟩ = false := by
  obtain ⟨ca, a1, a2, a3⟩ := h.arr
  refine ⟨fun j hj => ?_, fun j hj => ?_, fun j => by simp [World.frozen?, a1]⟩
  · simp [World.cell?, a1, a3 j hj]
  · exact ⟨ca[j]'(by omega), by simp [World.cell?, a1]⟩

end Go.Proofs.Ytgfhaldfjnepmaa
