/- How limits and a slice of operations that came in are opened. -/
import Derived.Test.YtgfhaldfjnepmaaOpenStrs
import Derived.Test.YtgfhaldfjnepmaaBk19
import Derived.Lib.SmallJoins
import Derived.Deep.Slices
namespace Go.Proofs.Ytgfhaldfjnepmaa
open Go Go.RowKit Go.ChangeShapes Go.WideShapes Go.ChangeAt Go.Shelf Go.Deep Go.Proofs Go.Lib

theorem deed_struct : Try.prog.underlying 46 = some (.struct (Try.prog.fieldsOf 46)) := by kernel_rfl
theorem deed_fields : (Try.prog.fieldsOf 46).toList.map (fun f => (f.type, f.offset)) = [(3, 0), (9, 1), (9, 2), (9, 3), (3, 4)] := by kernel_rfl
theorem deed_cells : Try.prog.cellsOf 46 = 5 := by kernel_rfl
theorem int_cells : Try.prog.cellsOf 3 = 1 := by kernel_rfl
theorem string_cells : Try.prog.cellsOf 9 = 1 := by kernel_rfl
theorem lim_struct : Try.prog.underlying 41 = some (.struct (Try.prog.fieldsOf 41)) := by kernel_rfl
theorem lim_fields : (Try.prog.fieldsOf 41).toList.map (fun f => (f.type, f.offset)) = [(39, 0), (39, 1)] := by kernel_rfl
theorem lim_cells : Try.prog.cellsOf 41 = 2 := by kernel_rfl
theorem u64_cells : Try.prog.cellsOf 39 = 1 := by kernel_rfl

theorem wf_i64 {a : Int} (h : (Lit.int .i64 a).wf = true) : -9223372036854775808 ≤ a ∧ a ≤ 9223372036854775807 := by
  simp only [Lit.wf, Bool.and_eq_true, decide_eq_true_eq] at h; exact h
theorem wf_u64 {a : Int} (h : (Lit.int .u64 a).wf = true) : 0 ≤ a ∧ a < 18446744073709551616 := by
  simp only [Lit.wf, Bool.and_eq_true, decide_eq_true_eq] at h
  have h2 := h.2
  have : IntKind.u64.max = 18446744073709551615 := by rfl
  have h1 := h.1
  have : IntKind.u64.min = 0 := by rfl
  omega

theorem list5_of_map {α β : Type} {f : α → β} {l : List α} {a b c d e : β} (h : l.map f = [a, b, c, d, e]) : ∃ v w x y z, l = [v, w, x, y, z] ∧ f v = a ∧ f w = b ∧ f x = c ∧ f y = d ∧ f z = e := by
  match l, h with
  | [v, w, x, y, z], h => simp at h; exact ⟨v, w, x, y, z, rfl, h.1, h.2.1, h.2.2.1, h.2.2.2.1, h.2.2.2.2⟩

theorem list_len5 {α : Type} {l : List α} (h : l.length = 5) : ∃ v w x y z, l = [v, w, x, y, z] := by
  match l, h with
  | [v, w, x, y, z], _ => exact ⟨v, w, x, y, z, rfl⟩
theorem list_len2 {α : Type} {l : List α} (h : l.length = 2) : ∃ v w, l = [v, w] := by
  match l, h with
  | [v, w], _ => exact ⟨v, w, rfl⟩

theorem arr_get {α : Type} {A : Array α} {l : List α} (h : A.toList = l) (i : Nat) : A[i]? = l[i]? := by rw [← h]; simp

section
variable {H : Type} {enc : TypeId × Value → H} {w : World} {base : Nat} {sp : Nat → Bool} {held : Bool}

theorem deed_of_trod {n : Nat} {cs : List Value} {x : DataW H × List MemPlace} (h : DataW.trod enc Try.prog w base sp held n 46 cs = some x) :
    ∃ d : Deed, cs = deedCells d ∧ x.1 = .agg [.lit (.int .i64 d.what), .lit (.string d.key.data.toList), .lit (.string d.value.data.toList), .lit (.string d.old.data.toList), .lit (.int .i64 d.n)] ∧
      (-9223372036854775808 ≤ d.what ∧ d.what ≤ 9223372036854775807) ∧ (-9223372036854775808 ≤ d.n ∧ d.n ≤ 9223372036854775807) := by
  obtain ⟨xs, m, _, rfl, hl, hlen, hf⟩ := DataW.trod_struct deed_struct h
  obtain ⟨f0, f1, f2, f3, f4, hfs, e0, e1, e2, e3, e4⟩ := list5_of_map deed_fields
  rw [deed_cells] at hl
  obtain ⟨c0, c1, c2, c3, c4, rfl⟩ := list_len5 hl
  have hsz : (Try.prog.fieldsOf 46).size = 5 := by rw [← Array.length_toList, hfs]; rfl
  rw [hsz] at hlen
  obtain ⟨y0, y1, y2, y3, y4, rfl⟩ := list_len5 hlen
  simp only [Prod.mk.injEq] at e0 e1 e2 e3 e4
  have g0 := hf 0 f0 ((arr_get hfs 0).trans rfl)
  have g1 := hf 1 f1 ((arr_get hfs 1).trans rfl)
  have g2 := hf 2 f2 ((arr_get hfs 2).trans rfl)
  have g3 := hf 3 f3 ((arr_get hfs 3).trans rfl)
  have g4 := hf 4 f4 ((arr_get hfs 4).trans rfl)
  rw [e0.1, e0.2, int_cells] at g0
  rw [e1.1, e1.2, string_cells] at g1
  rw [e2.1, e2.2, string_cells] at g2
  rw [e3.1, e3.2, string_cells] at g3
  rw [e4.1, e4.2, int_cells] at g4
  obtain ⟨k0, h0, rfl, w0⟩ := DataW.trod_int Try.underlying3 (x := y0) g0
  obtain ⟨s1, h1, rfl, _⟩ := DataW.trod_string Try.underlying9 (x := y1) g1
  obtain ⟨s2, h2, rfl, _⟩ := DataW.trod_string Try.underlying9 (x := y2) g2
  obtain ⟨s3, h3, rfl, _⟩ := DataW.trod_string Try.underlying9 (x := y3) g3
  obtain ⟨k4, h4, rfl, w4⟩ := DataW.trod_int Try.underlying3 (x := y4) g4
  simp at h0 h1 h2 h3 h4
  subst h0 h1 h2 h3 h4
  exact ⟨⟨k0, s1, s2, s3, k4⟩, rfl, rfl, wf_i64 w0, wf_i64 w4⟩

set_option maxRecDepth 100000 in
theorem open_limits {r : Reach} {b0 : Nat} {v : Value} {d : DataW H} {p : List MemPlace} (hv : Value.okWide Try.prog w r b0 41 v) (h : DataW.Trod enc Try.prog w base sp held 41 v d p) :
    ∃ K M : Nat, v = .agg #[.int .u64 K, .int .u64 M] ∧ K < 2 ^ 64 ∧ M < 2 ^ 64 := by
  obtain ⟨cs, rfl, hsz⟩ := okWide_struct lim_struct hv
  obtain ⟨fuel, hf'⟩ := h
  obtain ⟨xs, m, _, _, hl, hlen, hf⟩ := DataW.trod_struct lim_struct hf'
  obtain ⟨f0, f1, hfs, e0, e1⟩ := list2_of_map lim_fields
  rw [lim_cells] at hl hsz
  obtain ⟨c0, c1, rfl⟩ : ∃ c0 c1, cs = #[c0, c1] := by
    obtain ⟨l⟩ := cs
    obtain ⟨x, y, rfl⟩ := list_len2 hsz
    exact ⟨x, y, rfl⟩
  have hsz : (Try.prog.fieldsOf 41).size = 2 := by rw [← Array.length_toList, hfs]; rfl
  rw [hsz] at hlen
  obtain ⟨y0, y1, rfl⟩ := list_len2 hlen
  simp only [Prod.mk.injEq] at e0 e1
  have g0 := hf 0 f0 ((arr_get hfs 0).trans rfl)
  have g1 := hf 1 f1 ((arr_get hfs 1).trans rfl)
  rw [e0.1, e0.2, u64_cells] at g0
  rw [e1.1, e1.2, u64_cells] at g1
  obtain ⟨k0, h0, rfl, w0⟩ := DataW.trod_int Try.underlying39 (x := y0) g0
  obtain ⟨k1, h1, rfl, w1⟩ := DataW.trod_int Try.underlying39 (x := y1) g1
  simp [Value.cells] at h0 h1
  subst h0 h1
  have q0 := wf_u64 w0
  have q1 := wf_u64 w1
  have e0' : ((k0.toNat : Nat) : Int) = k0 := Int.toNat_of_nonneg q0.1
  have e1' : ((k1.toNat : Nat) : Int) = k1 := Int.toNat_of_nonneg q1.1
  have b0' : k0.toNat < 18446744073709551616 := by omega
  have b1' : k1.toNat < 18446744073709551616 := by omega
  exact ⟨k0.toNat, k1.toNat, by rw [e0', e1'], b0', b1'⟩
end

/-- A slice of operations. -/
def IsDeeds (w : World) (a : Option Addr) (len : Nat) (ds : List Deed) : Prop :=
  ds.length = len ∧ len ≤ 9223372036854775807 ∧ (∀ d ∈ ds, d.key.size ≤ 140737488351232 ∧ d.value.size ≤ 140737488351232 ∧ d.old.size ≤ 140737488351232 ∧ (-9223372036854775808 ≤ d.what ∧ d.what ≤ 9223372036854775807) ∧ (-9223372036854775808 ≤ d.n ∧ d.n ≤ 9223372036854775807)) ∧
  (len = 0 ∨ ∃ g off, a = some ⟨g, off, none⟩ ∧ g < w.heap.size ∧ ∀ j d, ds[j]? = some d → ∀ i u, (deedCells d)[i]? = some u → w.cell? ⟨g, off + j * 5 + i, none⟩ = some u)

theorem IsDeeds.below {w w' : World} {a : Option Addr} {len : Nat} {ds : List Deed} (h : IsDeeds w a len ds) (hb : Below w.heap.size w w') : IsDeeds w' a len ds := by
  obtain ⟨h1, h0, h3, h2⟩ := h
  refine ⟨h1, h0, h3, ?_⟩
  rcases h2 with h2 | ⟨g, off, rfl, hg, hc⟩
  · exact .inl h2
  · exact .inr ⟨g, off, rfl, Nat.lt_of_lt_of_le hg hb.size, fun j d hd i u hu => (hb.cell (p := ⟨g, off + j * 5 + i, none⟩) hg).trans (hc j d hd i u hu)⟩

theorem weightsEach_five {H : Type} {P : Program} {a b c d e : TypeId} {x : List Nat} (v w y : List UInt8) (p q : Lit) (n : Nat) (hn : n = v.length ∨ n = w.length ∨ n = y.length) (hx : x = DataW.weightsEach (H := H) P [a, b, c, d, e] [.lit p, .lit (.string v), .lit (.string w), .lit (.string y), .lit q]) : n ∈ x := by
  subst hx
  rcases hn with rfl | rfl | rfl <;> simp [DataW.weightsEach, DataW.weights]

theorem opened_deeds {H : Type} {enc : TypeId × Value → H} {W : World} {a : Option Addr} {len cap : Nat} {d : DataW H} {p : List MemPlace} (h : DataW.Trod enc Try.prog W 0 (fun _ => true) true 42 (.slice a len cap) d p)
    {ts : List TypeId} {ds : List (DataW H)} (hsz : (DataW.weightsEach Try.prog ts ds).all (· ≤ reachBytes) = true) {j : Nat} (htj : ts[j]? = some 42) (hdj : ds[j]? = some d)
    (lt : ∀ x ∈ p, x.block < W.heap.size) : ∃ l, IsDeeds W a len l ∧ len ≤ cap ∧ cap ≤ 9223372036854775807 := by
  obtain ⟨fuel, hf⟩ := h
  have ht := Try.underlying42
  rcases open_slice ht hf with ⟨hcs, hx⟩ | ⟨x, l, c, m, n, D, Pl, hcs, _, hl, hm, hz, hx, hall⟩
  · simp [Value.cells] at hcs
    obtain ⟨rfl, rfl, rfl⟩ := hcs
    exact ⟨[], ⟨rfl, by omega, by simp, .inl rfl⟩, by omega, by omega⟩
  · simp [Value.cells] at hcs
    obtain ⟨rfl, rfl, rfl⟩ := hcs
    simp only [if_true] at hz
    simp only [Prod.mk.injEq] at hx
    obtain ⟨hd, hp⟩ := hx
    rw [deed_cells] at hall hp
    have hget : ∀ i, i < len → ∃ dd : Deed, W.cells? 0 (x.add (i * 5)) 5 = some (deedCells dd) ∧ D i = .agg [.lit (.int .i64 dd.what), .lit (.string dd.key.data.toList), .lit (.string dd.value.data.toList), .lit (.string dd.old.data.toList), .lit (.int .i64 dd.n)] ∧
        (-9223372036854775808 ≤ dd.what ∧ dd.what ≤ 9223372036854775807) ∧ (-9223372036854775808 ≤ dd.n ∧ dd.n ≤ 9223372036854775807) := fun i hi => by
      obtain ⟨cs', h1, h2⟩ := hall i (by omega)
      obtain ⟨dd, rfl, e, q1, q2⟩ := deed_of_trod h2
      exact ⟨dd, h1, e, q1, q2⟩
    obtain ⟨f', hfp⟩ : ∃ f : Nat → Deed, ∀ i, i < len → W.cells? 0 (x.add (i * 5)) 5 = some (deedCells (f i)) ∧ D i = .agg [.lit (.int .i64 (f i).what), .lit (.string (f i).key.data.toList), .lit (.string (f i).value.data.toList), .lit (.string (f i).old.data.toList), .lit (.int .i64 (f i).n)] ∧
        (-9223372036854775808 ≤ (f i).what ∧ (f i).what ≤ 9223372036854775807) ∧ (-9223372036854775808 ≤ (f i).n ∧ (f i).n ≤ 9223372036854775807) :=
      ⟨fun i => if hi : i < len then Classical.choose (hget i hi) else ⟨0, ByteArray.empty, ByteArray.empty, ByteArray.empty, 0⟩, fun i hi => by
        have := Classical.choose_spec (hget i hi)
        simp only [hi, dif_pos]
        exact this⟩
    clear hget hall
    have hmem : ∀ i, i < len → ∀ n, n = (f' i).key.data.toList.length ∨ n = (f' i).value.data.toList.length ∨ n = (f' i).old.data.toList.length → n ≤ 140737488351232 := by
      intro i hi n hn
      have hDm : D i ∈ (List.range len).map D := List.mem_map.2 ⟨i, List.mem_range.2 hi, rfl⟩
      have h1 : n ∈ (D i).weights Try.prog 46 := by
        rw [(hfp i hi).2.1]
        simp only [DataW.weights, deed_struct]
        have hT : (Try.prog.fieldsOf 46).toList.map (·.type) = [3, 9, 9, 9, 3] := by
          have := congrArg (List.map Prod.fst) deed_fields
          rw [List.map_map] at this
          exact this
        rw [hT]
        exact weightsEach_five _ _ _ _ _ n hn rfl
      have h2 := weightsAll_mem (P := Try.prog) (e := 46) hDm _ h1
      have h3 : n ∈ d.weights Try.prog 42 := by
        rw [hd]
        simp only [DataW.weights, ht, List.mem_cons, List.mem_append]
        exact Or.inr (Or.inl h2)
      have h4 := List.all_eq_true.1 hsz _ (DataW.weights_mem_each htj hdj _ h3)
      exact of_decide_eq_true h4
    unfold maxLen at hm
    refine ⟨(List.range len).map f', ⟨by simp, by omega, ?_, ?_⟩, hl, hm⟩
    · intro dd hdd
      obtain ⟨i, hi, rfl⟩ := List.mem_map.1 hdd
      have hi' := List.mem_range.1 hi
      have q := hmem i hi'
      exact ⟨by have := q _ (.inl rfl); simpa using this, by have := q _ (.inr (.inl rfl)); simpa using this, by have := q _ (.inr (.inr rfl)); simpa using this, (hfp i hi').2.2.1, (hfp i hi').2.2.2⟩
    · by_cases h0 : len = 0
      · exact .inl h0
      · right
        obtain ⟨g, off, spot⟩ := x
        have hspot : spot = none := by
          have c0 := (World.cells?_some (hfp 0 (by omega)).1).2.2 0 (by omega)
          have := World.cell?_spot (c0.trans (show (deedCells (f' 0))[0]? = some _ from rfl))
          simpa [Addr.add] using this
        subst hspot
        refine ⟨g, off, rfl, ?_, fun i dd hdd k u hu => ?_⟩
        · exact lt (.cell g off) (by rw [hp]; exact List.mem_append_left _ (MemPlace.mem_row.2 ⟨0, by omega, by simp⟩))
        · have hi : i < len := by have := (List.getElem?_eq_some_iff.1 hdd).1; simpa using this
          rw [List.getElem?_map, List.getElem?_range hi] at hdd
          simp only [Option.map_some, Option.some.injEq] at hdd
          subst hdd
          have hk : k < 5 := by have := (List.getElem?_eq_some_iff.1 hu).1; simpa [deedCells] using this
          have := (World.cells?_some (hfp i hi).1).2.2 k hk
          rw [hu, Addr.add_lit, Addr.add_lit] at this
          exact this

end Go.Proofs.Ytgfhaldfjnepmaa
