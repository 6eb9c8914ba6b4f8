/- Plain laws: a family of rows of pairs that lie apart, marked, grown, and put into an array. -/
import Derived.Test.YtegccicplcjcmaaPairK
import Derived.Test.YtegccicplcjcmaaBkApp
import Derived.Lib.QuietBelow
/- Walks: the marks of the statements' own kit: texts and pairs. -/
namespace Go.Proofs.Ytegccicplcjcmaa
open Go Go.RowKit Go.Shelf Go.Proofs
attribute [local go_sem] Oper.semAt_some

/-- The mark of a place in a list, as a text. -/
def mkt (k n : Nat) : ByteArray :=
  { data := #[35, UInt8.ofNat ((k : Int) % 256).toNat, UInt8.ofNat ((k : Int) / 256 % 256).toNat, UInt8.ofNat ((k : Int) / 65536 % 256).toNat, 47, UInt8.ofNat ((n : Int) % 256).toNat, UInt8.ofNat ((n : Int) / 256 % 256).toNat, UInt8.ofNat ((n : Int) / 65536 % 256).toNat] }

theorem results_cell1 {fn : Func} {p : Tmp} {ty : TypeId} (h : fn.results = #[.cell p ty]) (tmps : Array Value) (P : Program) (w : World) :
    (results fn tmps).run P w = ((asAddr (tmps.getD p undef)).run P w).andThen fun a w₁ => (loadVar ty a).run P w₁ := by
  simp only [results, h]
  simp [Sem.run_bind, Result.andThen]

set_option linter.unusedVariables false in
set_option maxRecDepth 100000 in
theorem marktext_all (k n : Nat) (w : World) (hk2 : k < 100000000) (h2 : n < 100000000) :
    Calls Try.prog 102 #[.int .i64 k, .int .i64 n] w fun e w' => e = .returned (.string (mkt k n)) ∧ Below w.heap.size w w' := by
  have hcv := fun a b c d f g h i W cc => conv8 (P := Try.prog) 130 9 5 Try.underlying130 Try.underlying5 Try.underlying9 a b c d f g h i W cc
  go_enter Try.func102, Try.ntmps102
  go_wp2
  go_ret
  exact ⟨rfl, (Below.refl _ _).alloc (Nat.le_refl _) _⟩

set_option maxRecDepth 100000 in
theorem markpair_all (k n : Nat) (w : World) (hk2 : k < 100000000) (h2 : n < 100000000) :
    Calls Try.prog 105 #[.int .i64 k, .int .i64 n] w fun e w' => e = .returned (.agg #[.string (mkt k n), .string ⟨#[]⟩]) ∧ Below w.heap.size w w' := by
  have HM := Lib.hid (fun W => marktext_all k n W hk2 h2)
  have HB := Lib.hid ((Below.refl w.heap.size w).alloc (Nat.le_refl _) (.cells #[.string ⟨#[]⟩, .string ⟨#[]⟩] 48))
  have HC := Lib.hid (fun w' (hb : Below (w.heap.size + 1) (w.alloc (.cells #[.string ⟨#[]⟩, .string ⟨#[]⟩] 48)) w') => show (w'.cell? ⟨w.heap.size, 0, none⟩ = some (.string ⟨#[]⟩) ∧ w'.cell? ⟨w.heap.size, 1, none⟩ = some (.string ⟨#[]⟩)) ∧ ∀ j, w'.frozen? ⟨w.heap.size, j, none⟩ = false by
    have e := (hb.block w.heap.size (by omega)).trans (World.alloc_heap_new w (.cells #[.string ⟨#[]⟩, .string ⟨#[]⟩] 48))
    refine ⟨⟨?_, ?_⟩, fun j => ?_⟩ <;> simp [World.cell?, World.frozen?, e])
  go_enter Try.func105, Try.ntmps105
  go_wp2_with (go_at_call 102; refine (HM.out _).mono ?_; rintro e w3 ⟨rfl, hn3⟩; rw [World.size_alloc] at hn3; obtain ⟨⟨c0, c1⟩, f0⟩ := HC.out _ hn3)
  refine bodyPost_ret (v := .agg #[.string (mkt k n), .string ⟨#[]⟩]) ?_ rfl ⟨rfl, (HB.out.trans (hn3.mono (by omega))).setCell (p := ⟨w.heap.size, 0, none⟩) (Nat.le_refl _) _ |>.setCell (p := ⟨w.heap.size, 1, none⟩) (Nat.le_refl _) _⟩
  rw [results_cell1 rfl]
  go_simp

end Go.Proofs.Ytegccicplcjcmaa

/- Plain laws: rows of marked pairs under stores and appends; families of rows that lie apart. -/
namespace Go.Proofs.Ytegccicplcjcmaa
open Go Go.RowKit Go.Shelf Go.Proofs

def mks (k n : Nat) : PS := (List.range n).map fun i => (mkt k i, ⟨#[]⟩)
theorem mks_length (k n : Nat) : (mks k n).length = n := by simp [mks]
theorem mks_zero (k : Nat) : mks k 0 = [] := rfl
theorem mks_succ (k n : Nat) : mks k (n + 1) = mks k n ++ [(mkt k n, ⟨#[]⟩)] := by simp [mks, List.range_succ]
theorem mks_get (k n : Nat) {i : Nat} (h : i < n) : (mks k n)[i]? = some (mkt k i, ⟨#[]⟩) := by simp [mks, h]
theorem mks_take (k : Nat) {n m : Nat} (h : n ≤ m) : (mks k m).take n = mks k n := by
  apply List.ext_getElem?
  intro i
  rw [List.getElem?_take]
  by_cases hi : i < n
  · rw [if_pos hi, mks_get k m (by omega), mks_get k n hi]
  · rw [if_neg hi]
    symm
    rw [List.getElem?_eq_none_iff, mks_length]
    omega
theorem mks_pre (k : Nat) {n m : Nat} (h : n ≤ m) : ∃ r, mks k m = mks k n ++ r := ⟨(mks k m).drop n, by rw [← mks_take k h, List.take_append_drop]⟩
theorem mkt_small (k n : Nat) : (mkt k n).size = 8 := rfl
theorem mks_small (k n : Nat) : ∀ p ∈ mks k n, p.1.size ≤ 1000 ∧ p.2.size ≤ 1000 := by
  intro p hp
  simp only [mks, List.mem_map, List.mem_range] at hp
  obtain ⟨i, _, rfl⟩ := hp
  exact ⟨by rw [mkt_small]; omega, Nat.zero_le _⟩

theorem pcells_set (ps : PS) (i : Nat) (a b : ByteArray) : pcells (ps.set i (a, b)) = ((pcells ps).set (i * 2) (.string a)).set (i * 2 + 1) (.string b) := by
  induction ps generalizing i with
  | nil => simp [pcells]
  | cons p r ih =>
    cases i with
    | zero => simp [pcells]
    | succ i =>
      have e : pcells (p :: r) = .string p.1 :: .string p.2 :: pcells r := by simp [pcells]
      have e2 : pcells (p :: r.set i (a, b)) = .string p.1 :: .string p.2 :: pcells (r.set i (a, b)) := by simp [pcells]
      rw [List.set_cons_succ, e2, ih, e, show (i + 1) * 2 + 1 = i * 2 + 1 + 1 + 1 from by omega, show (i + 1) * 2 = i * 2 + 1 + 1 from by omega]
      simp

/-- The block of a row of pairs. -/
theorem prow_blk {w : World} {B n c g : Nat} {ps : PS} (h : PRow w B (.slice (some ⟨g, 0, none⟩) n c) ps) : ∃ cur, n = ps.length ∧ B ≤ g ∧ w.heap[g]? = some (.cells cur 48 (0, 0)) ∧ n ≤ c ∧ c ≤ maxLen ∧ cur.size = c * 2 ∧ cur.toList.take (n * 2) = pcells ps := by
  rcases h.2 with ⟨e, _⟩ | ⟨g', c', cur, e, h1, h2, h3, h4, h5, h6⟩
  · cases e
  · cases e
    exact ⟨cur, rfl, h1, h2, h3, h4, h5, h6⟩

theorem prow_mk {w : World} {B n c g : Nat} {ps : PS} {cur : Array Value} (h0 : n = ps.length) (h1 : B ≤ g) (h2 : w.heap[g]? = some (.cells cur 48 (0, 0))) (h3 : n ≤ c) (h4 : c ≤ maxLen) (h5 : cur.size = c * 2) (h6 : cur.toList.take (n * 2) = pcells ps) : PRow w B (.slice (some ⟨g, 0, none⟩) n c) ps := by
  subst h0
  exact ⟨pcells_length ps, .inr ⟨g, c, cur, rfl, h1, h2, h3, h4, h5, h6⟩⟩

/-- What a row of pairs looks like. -/
theorem prow_form {w : World} {B : Nat} {v : Value} {ps : PS} (h : PRow w B v ps) : (v = .slice none 0 0 ∧ ps = []) ∨ ∃ g c, v = .slice (some ⟨g, 0, none⟩) ps.length c := by
  rcases prow_slice h with ⟨e, e2⟩ | h
  · exact .inl ⟨e, List.eq_nil_of_length_eq_zero e2⟩
  · exact .inr h

/-- A row lies still where its block does. -/
theorem prow_still {w w' : World} {B : Nat} {v : Value} {ps : PS} (h : PRow w B v ps) (hb : ∀ g, v.ownBlock = some g → w'.heap[g]? = w.heap[g]?) : PRow w' B v ps := by
  refine ⟨h.1, ?_⟩
  rcases h.2 with h1 | ⟨g, cap, cur, rfl, a, hh, r⟩
  · exact .inl h1
  · exact .inr ⟨g, cap, cur, rfl, a, (hb g rfl).trans hh, r⟩

/-- A pair of a row is stored. -/
theorem prow_set {w : World} {B n c g : Nat} {ps : PS} (h : PRow w B (.slice (some ⟨g, 0, none⟩) n c) ps) (i : Nat) (a b : ByteArray) :
    PRow ((w.setCell ⟨g, i * 2, none⟩ (.string a)).setCell ⟨g, i * 2 + 1, none⟩ (.string b)) B (.slice (some ⟨g, 0, none⟩) n c) (ps.set i (a, b)) := by
  obtain ⟨cur, h0, h1, h2, h3, h4, h5, h6⟩ := prow_blk h
  have k1 := heap_setCell_same h2 (i * 2) (.string a)
  have k2 := heap_setCell_same k1 (i * 2 + 1) (.string b)
  refine prow_mk (by simp [h0]) h1 k2 h3 h4 (by simp [h5]) ?_
  rw [pcells_set, ← h6]
  simp [List.take_set]

/-- Where a pair lies. -/
theorem prow_at {w : World} {B n c g : Nat} {ps : PS} (h : PRow w B (.slice (some ⟨g, 0, none⟩) n c) ps) {i : Nat} {p : ByteArray × ByteArray} (hp : ps[i]? = some p) :
    w.cell? ⟨g, i * 2, none⟩ = some (.string p.1) ∧ w.cell? ⟨g, i * 2 + 1, none⟩ = some (.string p.2) ∧ ∀ j, w.frozen? ⟨g, j, none⟩ = false := by
  obtain ⟨cur, h0, h1, h2, h3, h4, h5, h6⟩ := prow_blk h
  obtain ⟨e1, e2⟩ := pcells_get ps i p hp
  have hi : i < ps.length := (List.getElem?_eq_some_iff.1 hp).1
  rw [← h6, List.getElem?_take_of_lt (by omega)] at e1 e2
  refine ⟨?_, ?_, fun j => by simp [World.frozen?, h2]⟩
  · rw [cell_of_row w g _ cur _ (0, 0) h2]; simpa using e1
  · rw [cell_of_row w g _ cur _ (0, 0) h2]; simpa using e2

/-- Two slices of one block: the shorter follows the longer. -/
theorem prow_share {w w' : World} {B n c n' c' g : Nat} {ps qs : PS} (h : PRow w B (.slice (some ⟨g, 0, none⟩) n c) ps) (k : PRow w B (.slice (some ⟨g, 0, none⟩) n' c') qs) (k' : PRow w' B (.slice (some ⟨g, 0, none⟩) n' c') qs) (hpre : ∃ r, qs = ps ++ r) : PRow w' B (.slice (some ⟨g, 0, none⟩) n c) ps := by
  obtain ⟨cur, h0, h1, h2, h3, h4, h5, h6⟩ := prow_blk h
  obtain ⟨cur1, k0, k1, k2, k3, k4, k5, k6⟩ := prow_blk k
  obtain ⟨cur2, m0, m1, m2, m3, m4, m5, m6⟩ := prow_blk k'
  obtain ⟨r, rfl⟩ := hpre
  rw [k2] at h2
  cases h2
  refine prow_mk h0 h1 m2 h3 h4 (by omega) ?_
  have hle : n * 2 ≤ n' * 2 := by rw [h0, k0]; simp; omega
  have : cur2.toList.take (n * 2) = (cur2.toList.take (n' * 2)).take (n * 2) := by rw [List.take_take, Nat.min_eq_left hle]
  rw [this, m6, pcells_append, List.take_left' (by rw [pcells_length, h0])]

/-- append of pairs onto an own row: the old slice still tells what it told. -/
theorem run_app_pairs (w : World) (B : Nat) (ty : TypeId) {v : Value} {xs : PS} (hown : PRow w B v xs) (ad : Addr) (m c : Nat) (news : PS) (hl : news.length = m) (hnews : ∀ j u, (pcells news)[j]? = some u → w.cell? (ad.add j) = some u) (hnm : xs.length + m ≤ 200000) (hB : B ≤ w.heap.size) :
    ∃ v' w', (Builtin.append_ #[26, 26] ty #[v, .slice (some ad) m c]).run Try.prog w = .ok v' w' ∧ PRow w' B v' (xs ++ news) ∧ w.grownBy w' v.ownBlock ∧ (v'.ownBlock = v.ownBlock ∨ v'.ownBlock = some w.heap.size) ∧ PRow w' B v xs := by
  obtain ⟨i0, hi, hz0, hz1, hz2⟩ := info_parts2 infoPair
  have hlc : (pcells news).length = m * 2 := by rw [pcells_length, hl]
  obtain ⟨v', w', hr, h2, h3, _, h5⟩ := run_append_own_at (P := Try.prog) w B 26 ty 48 i0 (.agg #[.string ⟨#[]⟩, .string ⟨#[]⟩]) 2 32 Try.underlying26 hi hz0 hz1 hz2 rfl (by decide) v xs.length (pcells xs) hown ad m c (pcells news) hlc hnews (pcells_one news) (by unfold maxLen; omega) (by omega) hB
  have h2' : PRow w' B v' (xs ++ news) := by unfold PRow; rw [List.length_append, hl, pcells_append]; exact h2
  refine ⟨v', w', hr, h2', h3, h5, ?_⟩
  rcases prow_form hown with ⟨rfl, rfl⟩ | ⟨g, cp, rfl⟩
  · exact prow_nil _ _
  · obtain ⟨cur, k0, k1, k2, k3, k4, k5, k6⟩ := prow_blk hown
    by_cases hroom : xs.length + m ≤ cp
    · have hfit : xs.length * i0.size + (pcells news).length ≤ cur.size := by rw [hz1, hlc, k5]; omega
      have hr2 := run_append_room (P := Try.prog) w 26 ty 48 i0 Try.underlying26 hi g xs.length cp cur k2 ad m c (pcells news) (by rw [hz1]; exact hlc) hnews (pcells_one news) hroom hfit
      rw [hr] at hr2
      cases hr2
      obtain ⟨cur2, m0, m1, m2, m3, m4, m5, m6⟩ := prow_blk h2'
      refine prow_mk rfl k1 m2 k3 k4 m5 ?_
      have : cur2.toList.take (xs.length * 2) = (cur2.toList.take ((xs.length + m) * 2)).take (xs.length * 2) := by rw [List.take_take, Nat.min_eq_left (by omega)]
      rw [this, m6, pcells_append, List.take_left' (pcells_length xs)]
    · have hr2 := run_append_grow (P := Try.prog) w 26 ty 48 i0 _ Try.underlying26 hi hz0 ⟨g, 0, none⟩ xs.length cp (pcells xs) (by rw [hz1, pcells_length]) (hown.cells (g := g) rfl) ad m c (pcells news) (by rw [hz1]; exact hlc) hnews (by omega) (by omega) (growslice_fits (by omega) (by rw [hz2]; omega))
      rw [hr] at hr2
      cases hr2
      exact prow_still hown (fun g' hg' => by
        cases hg'
        exact (Below.heap_alloc _ _ _ (by simpa using (Array.getElem?_eq_some_iff.1 k2).1)))

end Go.Proofs.Ytegccicplcjcmaa

namespace Go.Proofs.Ytegccicplcjcmaa
open Go Go.RowKit Go.Shelf Go.Proofs

/-- A family's value or list changed at one place. -/
def updF {α : Type} (f : Nat → α) (k : Nat) (x : α) : Nat → α := fun j => if j = k then x else f j
theorem updF_same {α : Type} (f : Nat → α) (k : Nat) (x : α) : updF f k x k = x := by simp [updF]
theorem updF_other {α : Type} (f : Nat → α) {k j : Nat} (x : α) (h : j ≠ k) : updF f k x j = f j := by simp [updF, h]

/-- What stays of the lists that are handed in: where they stand, how long they are, that they lie apart. -/
structure FlatIn (w0 : World) (B L n : Nat) (cur : Array Value) (vs : Nat → Value) (ns : Nat → Nat) : Prop where
  cur : ∀ k, k < n → cur[k]? = some (vs k)
  dis : ∀ i j, i < n → j < n → i ≠ j → ∀ g, (vs i).ownBlock = some g → (vs j).ownBlock ≠ some g
  hB : B ≤ w0.heap.size
  hn : n ≤ 1000
  hns : ∀ k, k < n → ns k ≤ 100000

/-- Blocks of another kind than rows of pairs lie as they lay. -/
def Others (w0 w : World) : Prop := ∀ (b : Nat) (ob : Obj), w0.heap[b]? = some ob → (∀ c f, ob ≠ .cells c 48 f) → w.heap[b]? = some ob
theorem Others.below {w0 w w' : World} (h : Others w0 w) (hs : w0.heap.size ≤ w.heap.size) (hb : Below w.heap.size w w') : Others w0 w' := fun b ob h1 h2 =>
  (hb.block b (Nat.lt_of_lt_of_le (Array.getElem?_eq_some_iff.1 h1).1 hs)).trans (h b ob h1 h2)
theorem Others.but {w0 w w' : World} (h : Others w0 w) {g : Nat} {c : Array Value} {f : Nat × Nat} (hg : w.heap[g]? = some (.cells c 48 f)) (hw : ∀ j, j < w0.heap.size → j ≠ g → w'.heap[j]? = w.heap[j]?) : Others w0 w' := fun b ob h1 h2 => by
  refine (hw b (Array.getElem?_eq_some_iff.1 h1).1 ?_).trans (h b ob h1 h2)
  rintro rfl
  have := h b ob h1 h2
  rw [hg] at this
  cases this
  exact h2 _ _ rfl

/-- While the lists are marked. -/
structure R1 (w0 : World) (B L n : Nat) (cur : Array Value) (fz : Nat × Nat) (vs : Nat → Value) (ns : Nat → Nat) (w : World) (k i : Nat) : Prop where
  below : Below B w0 w
  oth : Others w0 w
  lst : w.heap[L]? = some (.cells cur 26 fz)
  rows : ∀ j, j < n → ∃ p, p.length = ns j ∧ PRow w B (vs j) p ∧ (j < k → p = mks j (ns j)) ∧ (j = k → ∃ r, p = mks k i ++ r)

variable {w0 : World} {B L A n : Nat} {cur : Array Value} {fz : Nat × Nat} {vs : Nat → Value} {ns : Nat → Nat}

theorem lst_cell {w : World} (hF : FlatIn w0 B L n cur vs ns) (h : w.heap[L]? = some (.cells cur 26 fz)) {k : Nat} (hk : k < n) : w.cell? ⟨L, k, none⟩ = some (vs k) := by
  have := hF.cur k hk
  simp [World.cell?, h, this]

theorem R1.stay {w w' : World} {k i : Nat} (hF : FlatIn w0 B L n cur vs ns) (h : R1 w0 B L n cur fz vs ns w k i) (hb : Below w.heap.size w w') : R1 w0 B L n cur fz vs ns w' k i := by
  have hs := h.below.size
  refine ⟨h.below.trans (hb.mono (Nat.le_trans hF.hB hs)), h.oth.below hs hb, (hb.block L (Array.getElem?_eq_some_iff.1 h.lst).1).trans h.lst, fun j hj => ?_⟩
  obtain ⟨p, h1, h2, h3⟩ := h.rows j hj
  exact ⟨p, h1, ownsRow_below h2 hb (Nat.le_refl _), h3⟩

theorem R1.form {w : World} {k i : Nat} (h : R1 w0 B L n cur fz vs ns w k i) {j : Nat} (hj : j < n) : ∃ a c, vs j = .slice a (ns j) c ∧ (a = none → ns j = 0) := by
  obtain ⟨p, h1, h2, h3⟩ := h.rows j hj
  rcases prow_form h2 with ⟨e, e2⟩ | ⟨g, c, e⟩
  · subst e2
    simp at h1
    exact ⟨none, 0, by rw [e, ← h1], fun _ => h1.symm⟩
  · exact ⟨_, c, by rw [e, h1], fun e => by cases e⟩

theorem R1.at {w : World} {k i : Nat} (h : R1 w0 B L n cur fz vs ns w k i) (hk : k < n) (hi : i < ns k) {g c : Nat} (hv : vs k = .slice (some ⟨g, 0, none⟩) (ns k) c) :
    B ≤ g ∧ L ≠ g ∧ ns k ≤ c ∧ (∃ x y, w.cell? ⟨g, i * 2, none⟩ = some x ∧ w.cell? ⟨g, i * 2 + 1, none⟩ = some y) ∧ ∀ j, w.frozen? ⟨g, j, none⟩ = false := by
  obtain ⟨p, h1, h2, h3, h4⟩ := h.rows k hk
  rw [hv] at h2
  obtain ⟨q, hq⟩ : ∃ q, p[i]? = some q := ⟨_, List.getElem?_eq_getElem (by omega)⟩
  obtain ⟨c1, c2, f⟩ := prow_at h2 hq
  obtain ⟨cur1, k0, k1, k2, k3, _⟩ := prow_blk h2
  refine ⟨k1, ?_, k3, ⟨_, _, c1, c2⟩, f⟩
  rintro rfl
  rw [h.lst] at k2
  cases k2

theorem R1.put {w : World} {k i : Nat} (hF : FlatIn w0 B L n cur vs ns) (h : R1 w0 B L n cur fz vs ns w k i) (hk : k < n) (hi : i < ns k) {g c : Nat} (hv : vs k = .slice (some ⟨g, 0, none⟩) (ns k) c) :
    R1 w0 B L n cur fz vs ns ((w.setCell ⟨g, i * 2, none⟩ (.string (mkt k i))).setCell ⟨g, i * 2 + 1, none⟩ (.string ⟨#[]⟩)) k (i + 1) := by
  obtain ⟨hBg, hLg, _⟩ := h.at hk hi hv
  have hoth : ∀ j, j ≠ g → ((w.setCell ⟨g, i * 2, none⟩ (.string (mkt k i))).setCell ⟨g, i * 2 + 1, none⟩ (.string ⟨#[]⟩)).heap[j]? = w.heap[j]? := fun j hj => by
    rw [Below.heap_setCell _ _ _ _ (by simpa using hj), Below.heap_setCell _ _ _ _ (by simpa using hj)]
  have hgk : ∃ c1, w.heap[g]? = some (.cells c1 48 (0, 0)) := by
    obtain ⟨p, _, h2, _⟩ := h.rows k hk
    rw [hv] at h2
    obtain ⟨c1, _, _, k2, _⟩ := prow_blk h2
    exact ⟨c1, k2⟩
  obtain ⟨c1, hgk⟩ := hgk
  refine ⟨(h.below.setCell (p := ⟨g, i * 2, none⟩) hBg _).setCell (p := ⟨g, i * 2 + 1, none⟩) hBg _, h.oth.but hgk (fun j _ hj => hoth j hj), (hoth L hLg).trans h.lst, fun j hj => ?_⟩
  obtain ⟨p, h1, h2, h3, h4⟩ := h.rows j hj
  by_cases e : j = k
  · subst e
    obtain ⟨r, rfl⟩ := h4 rfl
    rw [hv] at h2 ⊢
    have := prow_set h2 i (mkt j i) ⟨#[]⟩
    have hr : r ≠ [] := by
      rintro rfl
      simp [mks_length] at h1
      omega
    obtain ⟨q, r', rfl⟩ := List.exists_cons_of_ne_nil hr
    have hset : (mks j i ++ q :: r').set i (mkt j i, ⟨#[]⟩) = mks j (i + 1) ++ r' := by
      rw [List.set_append, if_neg (by rw [mks_length]; omega), mks_length, Nat.sub_self, List.set_cons_zero, mks_succ]
      simp
    rw [hset] at this
    refine ⟨_, ?_, this, fun h => by omega, fun _ => ⟨r', rfl⟩⟩
    rw [← h1]
    simp [mks_length]
    omega
  · refine ⟨p, h1, prow_still h2 (fun g' hg' => hoth g' ?_), h3, fun e2 => absurd e2 e⟩
    rintro rfl
    exact hF.dis j k hj hk e g' hg' (by rw [hv]; rfl)

theorem R1.next {w : World} {k i : Nat} (h : R1 w0 B L n cur fz vs ns w k i) (hi : i = ns k) : R1 w0 B L n cur fz vs ns w (k + 1) 0 := by
  refine ⟨h.below, h.oth, h.lst, fun j hj => ?_⟩
  obtain ⟨p, h1, h2, h3, h4⟩ := h.rows j hj
  refine ⟨p, h1, h2, fun hj2 => ?_, fun _ => ⟨p, rfl⟩⟩
  by_cases e : j = k
  · subst e
    obtain ⟨r, rfl⟩ := h4 rfl
    have : r = [] := List.eq_nil_of_length_eq_zero (by simp [mks_length] at h1; omega)
    subst this
    rw [hi]; simp
  · exact h3 (by omega)

/-- While the lists are grown, and what has grown is put into an array. -/
structure R2 (w0 : World) (B L A n : Nat) (cur : Array Value) (fz : Nat × Nat) (vs : Nat → Value) (ns : Nat → Nat) (w : World) (k : Nat) (gs : Nat → Value) (F : Nat → PS) : Prop where
  below : Below B w0 w
  oth : Others w0 w
  lst : w.heap[L]? = some (.cells cur 26 fz)
  arr : ∃ ca, w.heap[A]? = some (.cells ca 26 (0, 0)) ∧ ca.size = n ∧ ∀ j, j < k → ca[j]? = some (gs j)
  rows : ∀ j, j < n → PRow w B (vs j) (mks j (ns j)) ∧ PRow w B (gs j) (F j) ∧ ∃ r, F j = mks j (ns j) ++ r
  dis : ∀ i j, i < n → j < n → i ≠ j → ∀ g, ((vs i).ownBlock = some g ∨ (gs i).ownBlock = some g) → ¬ ((vs j).ownBlock = some g ∨ (gs j).ownBlock = some g)
  hLA : L < A
  hBA : w0.heap.size ≤ A

theorem R2.start {w w' : World} {ca : Array Value} (hF : FlatIn w0 B L n cur vs ns) (h : R1 w0 B L n cur fz vs ns w n 0) (hw' : w' = w.alloc (.cells ca 26)) (hca : ca.size = n) : R2 w0 B L w.heap.size n cur fz vs ns w' 0 vs (fun j => mks j (ns j)) := by
  subst hw'
  have hb : Below w.heap.size w (w.alloc (.cells ca 26)) := (Below.refl _ _).alloc (Nat.le_refl _) _
  have h' := h.stay hF hb
  refine ⟨h'.below, h'.oth, h'.lst, ⟨ca, World.alloc_heap_new _ _, hca, fun j hj => by omega⟩, fun j hj => ?_, fun i j hi hj e g h1 => ?_, (Array.getElem?_eq_some_iff.1 h.lst).1, h.below.size⟩
  · obtain ⟨p, h1, h2, h3, h4⟩ := h'.rows j hj
    have := h3 hj
    subst this
    exact ⟨h2, h2, [], by simp⟩
  · simp only [or_self] at h1 ⊢
    exact hF.dis i j hi hj e g h1

theorem R2.restart {w : World} {k : Nat} {gs : Nat → Value} {F : Nat → PS} (h : R2 w0 B L A n cur fz vs ns w k gs F) : R2 w0 B L A n cur fz vs ns w 0 vs (fun j => mks j (ns j)) := by
  obtain ⟨ca, a1, a2, _⟩ := h.arr
  refine ⟨h.below, h.oth, h.lst, ⟨ca, a1, a2, fun j hj => by omega⟩, fun j hj => ⟨(h.rows j hj).1, (h.rows j hj).1, [], by simp⟩, fun i j hi hj e g h1 h2 => ?_, h.hLA, h.hBA⟩
  simp only [or_self] at h1 h2
  exact h.dis i j hi hj e g (.inl h1) (.inl h2)

theorem R2.stay {w w' : World} {k : Nat} {gs : Nat → Value} {F : Nat → PS} (hF : FlatIn w0 B L n cur vs ns) (h : R2 w0 B L A n cur fz vs ns w k gs F) (hb : Below w.heap.size w w') : R2 w0 B L A n cur fz vs ns w' k gs F := by
  have hs := h.below.size
  obtain ⟨ca, a1, a2, a3⟩ := h.arr
  exact ⟨h.below.trans (hb.mono (Nat.le_trans hF.hB hs)), h.oth.below hs hb, (hb.block L (Array.getElem?_eq_some_iff.1 h.lst).1).trans h.lst, ⟨ca, (hb.block A (Array.getElem?_eq_some_iff.1 a1).1).trans a1, a2, a3⟩,
    fun j hj => ⟨ownsRow_below (h.rows j hj).1 hb (Nat.le_refl _), ownsRow_below (h.rows j hj).2.1 hb (Nat.le_refl _), (h.rows j hj).2.2⟩, h.dis, h.hLA, h.hBA⟩

theorem R2.app {w w' : World} {k : Nat} {gs : Nat → Value} {F : Nat → PS} (hF : FlatIn w0 B L n cur vs ns) (h : R2 w0 B L A n cur fz vs ns w k gs F) (hk : k < n) {v' : Value} {q : PS}
    (h1 : PRow w' B v' (F k ++ q)) (h2 : w.grownBy w' (gs k).ownBlock) (h3 : v'.ownBlock = (gs k).ownBlock ∨ v'.ownBlock = some w.heap.size) (h4 : PRow w' B (gs k) (F k)) :
    R2 w0 B L A n cur fz vs ns w' k (updF gs k v') (updF F k (F k ++ q)) := by
  have hs := Nat.le_trans hF.hB h.below.size
  obtain ⟨ca, a1, a2, a3⟩ := h.arr
  have hgB : ∀ g, (gs k).ownBlock = some g → B ≤ g ∧ g < w.heap.size := fun g hg => (h.rows k hk).2.1.lt g hg
  have hty : ∀ (b : Nat) (c : Array Value) (f : Nat × Nat), w.heap[b]? = some (.cells c 26 f) → w'.heap[b]? = some (.cells c 26 f) := fun b c f hb => by
    refine (h2.block b (Array.getElem?_eq_some_iff.1 hb).1 ?_).trans hb
    intro e
    rcases prow_form (h.rows k hk).2.1 with ⟨e1, _⟩ | ⟨g, cc, e1⟩
    · rw [e1] at e; cases e
    · rw [e1] at e
      cases e
      obtain ⟨cur1, _, _, m2, _⟩ := prow_blk (e1 ▸ (h.rows k hk).2.1)
      rw [m2] at hb
      cases hb
  have hoth : Others w0 w' := by
    rcases prow_form (h.rows k hk).2.1 with ⟨e1, _⟩ | ⟨g, cc, e1⟩
    · intro b ob b1 b2
      refine (h2.block b (Nat.lt_of_lt_of_le (Array.getElem?_eq_some_iff.1 b1).1 h.below.size) ?_).trans (h.oth b ob b1 b2)
      rw [e1]; simp [Value.ownBlock]
    · obtain ⟨cur1, _, _, m2, _⟩ := prow_blk (e1 ▸ (h.rows k hk).2.1)
      exact h.oth.but m2 (fun j hj hne => h2.block j (Nat.lt_of_lt_of_le hj h.below.size) (by rw [e1]; simp [Value.ownBlock]; exact hne))
  have hlt : ∀ (v : Value) (p : PS), PRow w B v p → ∀ g, v.ownBlock = some g → g < w.heap.size := fun v p hp g hg => (hp.lt g hg).2
  refine ⟨h.below.grown h2 hs (fun g hg => (hgB g hg).1), hoth, hty L _ _ h.lst, ⟨ca, hty A _ _ a1, a2, fun j hj => ?_⟩, fun j hj => ?_, ?_, h.hLA, h.hBA⟩
  · by_cases e : j = k
    · omega
    · rw [updF_other _ _ e]; exact a3 j hj
  · by_cases e : j = k
    · subst e
      rw [updF_same, updF_same]
      obtain ⟨r, hr⟩ := (h.rows j hj).2.2
      refine ⟨?_, h1, r ++ q, by rw [hr, List.append_assoc]⟩
      rcases prow_form (h.rows j hj).1 with ⟨e1, e2⟩ | ⟨g, cc, e1⟩
      · rw [e1, e2]; exact prow_nil _ _
      · by_cases e2 : (gs j).ownBlock = some g
        · rcases prow_form (h.rows j hj).2.1 with ⟨f1, _⟩ | ⟨g', cc', f1⟩
          · rw [f1] at e2; cases e2
          · rw [f1] at e2
            cases e2
            have q1 := (h.rows j hj).1
            have q2 := (h.rows j hj).2.1
            rw [e1] at q1 ⊢
            rw [f1] at q2 h4
            exact prow_share q1 q2 h4 ⟨r, hr⟩
        · exact prow_still (h.rows j hj).1 (fun g' hg' => h2.block g' (hlt _ _ (h.rows j hj).1 g' hg') (by
            rw [e1] at hg'
            cases hg'
            exact fun e3 => e2 e3.symm))
    · rw [updF_other _ _ e, updF_other _ _ e]
      refine ⟨prow_still (h.rows j hj).1 (fun g' hg' => h2.block g' (hlt _ _ (h.rows j hj).1 g' hg') (fun e3 => ?_)), prow_still (h.rows j hj).2.1 (fun g' hg' => h2.block g' (hlt _ _ (h.rows j hj).2.1 g' hg') (fun e3 => ?_)), (h.rows j hj).2.2⟩
      · exact h.dis j k hj hk e g' (.inl hg') (.inr e3.symm)
      · exact h.dis j k hj hk e g' (.inr hg') (.inr e3.symm)
  · have key : ∀ j, j < n → j ≠ k → ∀ g, ((vs j).ownBlock = some g ∨ (gs j).ownBlock = some g) → ¬ ((vs k).ownBlock = some g ∨ v'.ownBlock = some g) := fun j hj e g h5 h6 => by
      rcases h6 with h6 | h6
      · exact h.dis j k hj hk e g h5 (.inl h6)
      · rcases h3 with h3 | h3
        · exact h.dis j k hj hk e g h5 (.inr (h3 ▸ h6))
        · rw [h3] at h6
          cases h6
          rcases h5 with h5 | h5
          · exact Nat.lt_irrefl _ (hlt _ _ (h.rows j hj).1 _ h5)
          · exact Nat.lt_irrefl _ (hlt _ _ (h.rows j hj).2.1 _ h5)
    intro i j hi hj e g h5 h6
    by_cases ei : i = k
    · subst ei
      rw [updF_same] at h5
      rw [updF_other _ _ (Ne.symm e)] at h6
      exact key j hj (Ne.symm e) g h6 h5
    · rw [updF_other _ _ ei] at h5
      by_cases ej : j = k
      · subst ej
        rw [updF_same] at h6
        exact key i hi ei g h5 h6
      · rw [updF_other _ _ ej] at h6
        exact h.dis i j hi hj e g h5 h6

theorem R2.put {w : World} {k : Nat} {gs : Nat → Value} {F : Nat → PS} (hF : FlatIn w0 B L n cur vs ns) (h : R2 w0 B L A n cur fz vs ns w k gs F) (hk : k < n) : R2 w0 B L A n cur fz vs ns (w.setCell ⟨A, k, none⟩ (gs k)) (k + 1) gs F := by
  obtain ⟨ca, a1, a2, a3⟩ := h.arr
  have hLA := h.hLA
  have hoth : ∀ j, j ≠ A → (w.setCell ⟨A, k, none⟩ (gs k)).heap[j]? = w.heap[j]? := fun j hj => Below.heap_setCell _ _ _ _ (by simpa using hj)
  have hrow : ∀ (v : Value) (p : PS), PRow w B v p → PRow (w.setCell ⟨A, k, none⟩ (gs k)) B v p := fun v p hp => prow_still hp (fun g hg => hoth g (by
    rintro rfl
    rcases prow_form hp with ⟨e1, _⟩ | ⟨g', cc, e1⟩
    · rw [e1] at hg; cases hg
    · rw [e1] at hg hp
      cases hg
      obtain ⟨_, _, _, m2, _⟩ := prow_blk hp
      rw [m2] at a1
      cases a1))
  refine ⟨h.below.setCell (p := ⟨A, k, none⟩) (Nat.le_trans hF.hB h.hBA) _, fun b ob b1 b2 => (hoth b (by have := (Array.getElem?_eq_some_iff.1 b1).1; have := h.hBA; omega)).trans (h.oth b ob b1 b2), (hoth L (by omega)).trans h.lst, ⟨_, heap_setCell_same a1 k (gs k), by simp [a2], fun j hj => ?_⟩, fun j hj => ⟨hrow _ _ (h.rows j hj).1, hrow _ _ (h.rows j hj).2.1, (h.rows j hj).2.2⟩, h.dis, h.hLA, h.hBA⟩
  rw [Array.getElem?_setIfInBounds]
  by_cases e : k = j
  · subst e; rw [if_pos rfl, if_pos (by omega)]
  · rw [if_neg e]; exact a3 j (by omega)

theorem R2.cells {w : World} {k : Nat} {gs : Nat → Value} {F : Nat → PS} (h : R2 w0 B L A n cur fz vs ns w k gs F) : (∀ j, j < k → w.cell? ⟨A, j, none⟩ = some (gs j)) ∧ (∀ j, j < n → ∃ u, w.cell? ⟨A, j, none⟩ = some u) ∧ ∀ j, w.frozen? ⟨A, j, none⟩ = false := by
  obtain ⟨ca, a1, a2, a3⟩ := h.arr
  refine ⟨fun j hj => ?_, fun j hj => ?_, fun j => by simp [World.frozen?, a1]⟩
  · simp [World.cell?, a1, a3 j hj]
  · exact ⟨ca[j]'(by omega), by simp [World.cell?, a1]⟩

end Go.Proofs.Ytegccicplcjcmaa

