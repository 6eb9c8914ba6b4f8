/- Plain facts for the closed law BookSmall: its fifteen operations, and what an operation on both leaves. -/
import Derived.Test.YtgfhaldfjnepmaaBkN2
import Derived.Test.YtgfhaldfjnepmaaBkR10
import Derived.Deep.RegionHeld3
namespace Go.Proofs.Ytgfhaldfjnepmaa
open Go Go.RowKit Go.Shelf Go.Proofs Go.Sort
attribute [local go_sem] Oper.semAt_some

/-- The fifteen operations lie in a block: each is a Deed of small strings. -/
def Deeds15 (W : World) (g : Nat) : Prop := ∀ i, i < 15 → ∃ d : Deed, W.cell? ⟨g, i * 5, none⟩ = some (.int .i64 d.what) ∧ W.cell? ⟨g, i * 5 + 1, none⟩ = some (.string d.key) ∧ W.cell? ⟨g, i * 5 + 2, none⟩ = some (.string d.value) ∧ W.cell? ⟨g, i * 5 + 3, none⟩ = some (.string d.old) ∧ W.cell? ⟨g, i * 5 + 4, none⟩ = some (.int .i64 d.n) ∧
  d.key.size ≤ 1000 ∧ d.value.size ≤ 1000 ∧ d.old.size ≤ 1000 ∧ -9223372036854775808 ≤ d.n ∧ d.n ≤ 9223372036854775807

theorem scell_at {W : World} {g : Nat} {cs : Array Value} {t : TypeId} {f : Nat × Nat} (h : W.heap[g]? = some (.cells cs t f)) {k : Nat} {u : Value} (hu : cs[k]? = some u) : W.cell? ⟨g, k, none⟩ = some u := by
  simp [World.cell?, h, hu]

theorem Deeds15.below {W W' : World} {g : Nat} (h : Deeds15 W g) (hb : Below W.heap.size W W') : Deeds15 W' g := fun i hi => by
  obtain ⟨d, d0, d1, d2, d3, d4, r⟩ := h i hi
  exact ⟨d, nb_cell hb d0, nb_cell hb d1, nb_cell hb d2, nb_cell hb d3, nb_cell hb d4, r⟩

theorem deeds15_new (w W : World) (hW : W = w.alloc (Obj.cells #[.int .i64 0, .string ⟨#[97]⟩, .string ⟨#[49, 50, 51]⟩, .string ⟨#[]⟩, .int .i64 0, .int .i64 0, .string ⟨#[98]⟩, .string ⟨#[]⟩, .string ⟨#[]⟩, .int .i64 0, .int .i64 4, .string ⟨#[97]⟩, .string ⟨#[49]⟩, .string ⟨#[49, 50, 51]⟩, .int .i64 0, .int .i64 4, .string ⟨#[97]⟩, .string ⟨#[49, 50, 51, 52, 53, 54, 55, 56]⟩, .string ⟨#[49]⟩, .int .i64 0, .int .i64 0, .string ⟨#[99]⟩, .string ⟨#[49, 50]⟩, .string ⟨#[]⟩, .int .i64 0, .int .i64 5, .string ⟨#[97]⟩, .string ⟨#[]⟩, .string ⟨#[]⟩, .int .i64 2, .int .i64 0, .string ⟨#[]⟩, .string ⟨#[49]⟩, .string ⟨#[]⟩, .int .i64 0, .int .i64 3, .string ⟨#[98]⟩, .string ⟨#[]⟩, .string ⟨#[]⟩, .int .i64 0, .int .i64 3, .string ⟨#[98]⟩, .string ⟨#[]⟩, .string ⟨#[]⟩, .int .i64 0, .int .i64 4, .string ⟨#[98]⟩, .string ⟨#[]⟩, .string ⟨#[]⟩, .int .i64 0, .int .i64 4, .string ⟨#[99]⟩, .string ⟨#[]⟩, .string ⟨#[49]⟩, .int .i64 0, .int .i64 0, .string ⟨#[97]⟩, .string ⟨#[49, 50, 51, 52, 53, 54, 55]⟩, .string ⟨#[]⟩, .int .i64 0, .int .i64 5, .string ⟨#[]⟩, .string ⟨#[]⟩, .string ⟨#[]⟩, .int .i64 4, .int .i64 0, .string ⟨#[99]⟩, .string ⟨#[]⟩, .string ⟨#[]⟩, .int .i64 0, .int .i64 0, .string ⟨#[97, 98]⟩, .string ⟨#[120]⟩, .string ⟨#[]⟩, .int .i64 0] 46)) : Deeds15 W w.heap.size ∧ Below w.heap.size w W ∧ W.heap.size = w.heap.size + 1 := by
  have h1 : W.heap[w.heap.size]? = some (Obj.cells #[.int .i64 0, .string ⟨#[97]⟩, .string ⟨#[49, 50, 51]⟩, .string ⟨#[]⟩, .int .i64 0, .int .i64 0, .string ⟨#[98]⟩, .string ⟨#[]⟩, .string ⟨#[]⟩, .int .i64 0, .int .i64 4, .string ⟨#[97]⟩, .string ⟨#[49]⟩, .string ⟨#[49, 50, 51]⟩, .int .i64 0, .int .i64 4, .string ⟨#[97]⟩, .string ⟨#[49, 50, 51, 52, 53, 54, 55, 56]⟩, .string ⟨#[49]⟩, .int .i64 0, .int .i64 0, .string ⟨#[99]⟩, .string ⟨#[49, 50]⟩, .string ⟨#[]⟩, .int .i64 0, .int .i64 5, .string ⟨#[97]⟩, .string ⟨#[]⟩, .string ⟨#[]⟩, .int .i64 2, .int .i64 0, .string ⟨#[]⟩, .string ⟨#[49]⟩, .string ⟨#[]⟩, .int .i64 0, .int .i64 3, .string ⟨#[98]⟩, .string ⟨#[]⟩, .string ⟨#[]⟩, .int .i64 0, .int .i64 3, .string ⟨#[98]⟩, .string ⟨#[]⟩, .string ⟨#[]⟩, .int .i64 0, .int .i64 4, .string ⟨#[98]⟩, .string ⟨#[]⟩, .string ⟨#[]⟩, .int .i64 0, .int .i64 4, .string ⟨#[99]⟩, .string ⟨#[]⟩, .string ⟨#[49]⟩, .int .i64 0, .int .i64 0, .string ⟨#[97]⟩, .string ⟨#[49, 50, 51, 52, 53, 54, 55]⟩, .string ⟨#[]⟩, .int .i64 0, .int .i64 5, .string ⟨#[]⟩, .string ⟨#[]⟩, .string ⟨#[]⟩, .int .i64 4, .int .i64 0, .string ⟨#[99]⟩, .string ⟨#[]⟩, .string ⟨#[]⟩, .int .i64 0, .int .i64 0, .string ⟨#[97, 98]⟩, .string ⟨#[120]⟩, .string ⟨#[]⟩, .int .i64 0] 46) := by rw [hW]; exact World.alloc_heap_new _ _
  refine ⟨fun i hi => ?_, by rw [hW]; exact (Below.refl _ _).alloc (Nat.le_refl _) _, by rw [hW]; simp⟩
  rcases i with _ | _ | _ | _ | _ | _ | _ | _ | _ | _ | _ | _ | _ | _ | _ | i
  all_goals first
    | exact ⟨⟨_, _, _, _, _⟩, scell_at h1 rfl, scell_at h1 rfl, scell_at h1 rfl, scell_at h1 rfl, scell_at h1 rfl, by decide, by decide, by decide, by decide, by decide⟩
    | omega

/-- What an operation on both has left: the book turned, the model's new value in a block of its own, the model's block as it was. -/
def Did (B b m mb K M L N : Nat) (w1 : World) (x y z p ok : Value) (W : World) : Prop :=
  ∃ (X : Nat) (v : Value) (Q : PS) (ra : Option Addr) (rc : Nat), p = .pointer (some ⟨X, 0, none⟩) ∧ ok = .bool true ∧ BookAt W B b m v K M Q ∧ Q.length ≤ L + 1 ∧ RefBlk W X (.slice ra Q.length rc) (.int .u64 K) (.int .u64 M) ∧ RefBlk W mb x y z ∧ PRow W 0 (.slice ra Q.length rc) Q ∧ Below N w1 W

theorem did_call {B b m mb K M N : Nat} {w1 X w6 : World} {x y z v v6 : Value} {ps : PS} (hlow : Below N w1 X) (hN : N ≤ B) (hBX : B ≤ X.heap.size) (hbk : BookAt X B b m v K M ps) (hm : RefBlk X mb x y z) (t6 : Turned b m v X v6 w6) :
    RefBlk w6 mb x y z ∧ Below N w1 w6 ∧ X.heap.size ≤ w6.heap.size :=
  ⟨hm.turned hbk t6, hlow.trans ((Turned.below hbk t6 hBX).mono hN), t6.size⟩

theorem did_end1 {B b m mb K M L N : Nat} {w1 w6 : World} {x y z v6 : Value} {Q : PS} {a6 : Option Addr} {c6 : Nat} (k6 : BookAt w6 B b m v6 K M Q) (p6 : PRow w6 0 (.slice a6 Q.length c6) Q) (m6 : RefBlk w6 mb x y z) (l6 : Below N w1 w6) (hN : N ≤ w6.heap.size) (ql : Q.length ≤ L + 1) :
    Did B b m mb K M L N w1 x y z (.pointer (some ⟨w6.heap.size, 0, none⟩)) (.bool true) (w6.alloc (.cells #[.slice a6 Q.length c6, .int .u64 K, .int .u64 M] 62)) := by
  have hbn : Below w6.heap.size w6 (w6.alloc (.cells #[.slice a6 Q.length c6, .int .u64 K, .int .u64 M] 62)) := (Below.refl _ _).alloc (Nat.le_refl _) _
  exact ⟨_, v6, Q, a6, c6, rfl, rfl, k6.below hbn, ql, RefBlk.new _ _ _ _, m6.below m6.lt hbn, prow_below hbn p6, l6.trans (hbn.mono hN)⟩

theorem did_end2 {B b m mb K M L N X0 : Nat} {w1 w6 : World} {x y z v6 x' y' z' : Value} {Q : PS} {a6 : Option Addr} {c6 : Nat} (k6 : BookAt w6 B b m v6 K M Q) (p6 : PRow w6 0 (.slice a6 Q.length c6) Q) (m6 : RefBlk w6 mb x y z) (l6 : Below N w1 w6) (h7 : RefBlk w6 X0 x' y' z') (hN : N ≤ X0) (hne : mb < X0) (ql : Q.length ≤ L + 1) :
    Did B b m mb K M L N w1 x y z (.pointer (some ⟨X0, 0, none⟩)) (.bool true) (set3 w6 X0 (.slice a6 Q.length c6) (.int .u64 K) (.int .u64 M)) := by
  refine ⟨_, v6, Q, a6, c6, rfl, rfl, BookAt.set3 k6 h7, ql, set3_same h7, ?_, prow_set3 p6 h7, set3_below l6 hN _ _ _⟩
  unfold RefBlk
  rw [set3_other _ _ _ _ _ _ (by omega)]
  exact m6

/-- What is copied into the model's block. -/
theorem did_copy {B b m mb K M N : Nat} {w1 W : World} {x y z v : Value} {Q : PS} {ra : Option Addr} {rc : Nat} (k : BookAt W B b m v K M Q) (hm : RefBlk W mb x y z) (p : PRow W 0 (.slice ra Q.length rc) Q) (l : Below N w1 W) (hmb : N ≤ mb) :
    BookAt (set3 W mb (.slice ra Q.length rc) (.int .u64 K) (.int .u64 M)) B b m v K M Q ∧ RefBlk (set3 W mb (.slice ra Q.length rc) (.int .u64 K) (.int .u64 M)) mb (.slice ra Q.length rc) (.int .u64 K) (.int .u64 M) ∧
    PRow (set3 W mb (.slice ra Q.length rc) (.int .u64 K) (.int .u64 M)) 0 (.slice ra Q.length rc) Q ∧ Below N w1 (set3 W mb (.slice ra Q.length rc) (.int .u64 K) (.int .u64 M)) :=
  ⟨BookAt.set3 k hm, set3_same hm, prow_set3 p hm, set3_below l hmb _ _ _⟩

theorem bytesAt_below {W W' : World} {x : Value} {s : ByteArray} (h : BytesAt W x s) (hb : Below W.heap.size W W') : BytesAt W' x s :=
  h.stay (fun g cur fz hg => (hb.block g (Array.getElem?_eq_some_iff.1 hg).1).trans hg)

/-- An operation of a drawn region taken first, its slot named. -/
theorem take_at {P : Program} {ops : Array Oper} {Q : Exit → Act → World → Prop} {md : Region.Mode} {S : World → Prop} {i dd : Nat} {oi : Oper} {v : Value} {fuel : Nat} {listed : Array Bool} {a : Act} {w : World} (hi : ops[i]? = some oi) (hd : oi.dst = some dd)
    (hs : Region.noSelect ops = true) (hf : Region.free md ops listed i = true) (hr : (Region.ready md ops listed).contains i = true)
    (hQ : ∀ c a w, Q (.panic c) (a.put oi.dst v) w → Q (.panic c) a w) (hy : YieldsIf P ops S oi v a) (hS : S w)
    (h : wpAnyH P md ops Q S fuel (listed.setIfInBounds i true) (a.put (some dd) v) w) : wpAnyH P md ops Q S (fuel + 1) listed a w :=
  wpAnyH_take hi hs hf hr hQ hy hS (by rw [hd]; exact h)

/-- The seven numbers. -/
theorem nums7 (w : World) {r : Nat} (hr : r < 7) : ∃ x : Int, (w.alloc (Obj.cells #[Value.int .i64 (-1), Value.int .i64 0, Value.int .i64 1, Value.int .i64 4096, Value.int .i64 4097, Value.int .i64 9223372036854775807, Value.int .i64 (-9223372036854775808)] 3)).cell? ⟨w.heap.size, r, none⟩ = some (.int .i64 x) ∧ -9223372036854775808 ≤ x ∧ x ≤ 9223372036854775807 := by
  have h1 := World.alloc_heap_new w (Obj.cells #[Value.int .i64 (-1), Value.int .i64 0, Value.int .i64 1, Value.int .i64 4096, Value.int .i64 4097, Value.int .i64 9223372036854775807, Value.int .i64 (-9223372036854775808)] 3)
  rcases r with _ | _ | _ | _ | _ | _ | _ | r
  all_goals first
    | exact ⟨_, scell_at h1 rfl, by decide, by decide⟩
    | omega

end Go.Proofs.Ytgfhaldfjnepmaa
