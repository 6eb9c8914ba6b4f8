/- How a slice of operations on an art that came in is opened. -/
import Derived.Test.YtegccicplcjcmaaWL2
import Derived.Lib.SmallJoins
import Derived.Deep.Slices
import Derived.ProofKit
import Derived.OpenShut
import Derived.ShutString
import Derived.SizedLaws
import Derived.SliceStrings
namespace Go.Proofs.Ytegccicplcjcmaa
open Go Go.RowKit Go.ChangeShapes Go.WideShapes Go.ChangeAt Go.Shelf Go.Deep Go.Proofs Go.Lib

theorem deed_struct : Try.prog.underlying 85 = some (.struct (Try.prog.fieldsOf 85)) := by kernel_rfl
theorem deed_fields : (Try.prog.fieldsOf 85).toList.map (fun f => (f.type, f.offset)) = [(3, 0), (4, 1), (9, 2), (9, 3)] := by kernel_rfl
theorem deed_cells : Try.prog.cellsOf 85 = 4 := by kernel_rfl
theorem int_cells : Try.prog.cellsOf 3 = 1 := by kernel_rfl
theorem bool_cells : Try.prog.cellsOf 4 = 1 := by kernel_rfl
theorem string_cells : Try.prog.cellsOf 9 = 1 := by kernel_rfl

theorem list4_of_map {α β : Type} {f : α → β} {l : List α} {a b c d : β} (h : l.map f = [a, b, c, d]) : ∃ v w x y, l = [v, w, x, y] ∧ f v = a ∧ f w = b ∧ f x = c ∧ f y = d := by
  match l, h with
  | [v, w, x, y], h => simp at h; exact ⟨v, w, x, y, rfl, h.1, h.2.1, h.2.2.1, h.2.2.2⟩

theorem list_len4 {α : Type} {l : List α} (h : l.length = 4) : ∃ v w x y, l = [v, w, x, y] := by
  match l, h with
  | [v, w, x, y], _ => exact ⟨v, w, x, y, rfl⟩

theorem arr_get {α : Type} {A : Array α} {l : List α} (h : A.toList = l) (i : Nat) : A[i]? = l[i]? := by rw [← h]; simp

section
variable {H : Type} {enc : TypeId × Value → H} {w : World} {base : Nat} {sp : Nat → Bool} {held : Bool}

theorem deed_of_trod {n : Nat} {cs : List Value} {x : DataW H × List MemPlace} (h : DataW.trod enc Try.prog w base sp held n 85 cs = some x) :
    ∃ d : Deed, cs = deedCells d ∧ x.1 = .agg [.lit (.int .i64 d.what), .lit (.bool d.raw), .lit (.string d.s.data.toList), .lit (.string d.text.data.toList)] := by
  obtain ⟨xs, m, _, rfl, hl, hlen, hf⟩ := DataW.trod_struct deed_struct h
  obtain ⟨f0, f1, f2, f3, hfs, e0, e1, e2, e3⟩ := list4_of_map deed_fields
  rw [deed_cells] at hl
  obtain ⟨c0, c1, c2, c3, rfl⟩ := list_len4 hl
  have hsz : (Try.prog.fieldsOf 85).size = 4 := by rw [← Array.length_toList, hfs]; rfl
  rw [hsz] at hlen
  obtain ⟨y0, y1, y2, y3, rfl⟩ := list_len4 hlen
  simp only [Prod.mk.injEq] at e0 e1 e2 e3
  have g0 := hf 0 f0 ((arr_get hfs 0).trans rfl)
  have g1 := hf 1 f1 ((arr_get hfs 1).trans rfl)
  have g2 := hf 2 f2 ((arr_get hfs 2).trans rfl)
  have g3 := hf 3 f3 ((arr_get hfs 3).trans rfl)
  rw [e0.1, e0.2, int_cells] at g0
  rw [e1.1, e1.2, bool_cells] at g1
  rw [e2.1, e2.2, string_cells] at g2
  rw [e3.1, e3.2, string_cells] at g3
  obtain ⟨k0, h0, rfl, w0⟩ := DataW.trod_int Try.underlying3 (x := y0) g0
  obtain ⟨s1, h1, rfl⟩ := DataW.trod_bool Try.underlying4 (x := y1) g1
  obtain ⟨s2, h2, rfl, _⟩ := DataW.trod_string Try.underlying9 (x := y2) g2
  obtain ⟨s3, h3, rfl, _⟩ := DataW.trod_string Try.underlying9 (x := y3) g3
  simp at h0 h1 h2 h3
  subst h0 h1 h2 h3
  exact ⟨⟨k0, s1, s2, s3⟩, rfl, rfl⟩
end

theorem weightsEach_four {H : Type} {P : Program} {a b c d : TypeId} {x : List Nat} (v w : List UInt8) (p q : Lit) (n : Nat) (hn : n = v.length ∨ n = w.length) (hx : x = DataW.weightsEach (H := H) P [a, b, c, d] [.lit p, .lit q, .lit (.string v), .lit (.string w)]) : n ∈ x := by
  subst hx
  rcases hn with rfl | rfl <;> simp [DataW.weightsEach, DataW.weights]

theorem weightsAll_mem {H : Type} {P : Program} {e : TypeId} : ∀ {l : List (DataW H)} {d : DataW H}, d ∈ l → ∀ n ∈ d.weights P e, n ∈ DataW.weightsAll P e l
  | [], _, h, _, _ => by cases h
  | x :: l, d, h, n, hn => by
    simp only [DataW.weightsAll, List.mem_append]
    rcases List.mem_cons.1 h with rfl | h
    · exact Or.inl hn
    · exact Or.inr (weightsAll_mem h n hn)

theorem opened_deeds {H : Type} {enc : TypeId × Value → H} {W : World} {a : Option Addr} {len cap : Nat} {d : DataW H} {p : List MemPlace} (h : DataW.Trod enc Try.prog W 0 (fun _ => true) true 45 (.slice a len cap) d p)
    {ts : List TypeId} {ds : List (DataW H)} (hsz : (DataW.weightsEach Try.prog ts ds).all (· ≤ reachBytes) = true) {j : Nat} (htj : ts[j]? = some 45) (hdj : ds[j]? = some d)
    (lt : ∀ x ∈ p, x.block < W.heap.size) : ∃ l, IsDeeds W a len l ∧ len ≤ cap ∧ cap ≤ 9223372036854775807 := by
  obtain ⟨fuel, hf⟩ := h
  have ht := Try.underlying45
  rcases open_slice ht hf with ⟨hcs, hx⟩ | ⟨x, l, c, m, n, D, Pl, hcs, _, hl, hm, hz, hx, hall⟩
  · simp [Value.cells] at hcs
    obtain ⟨rfl, rfl, rfl⟩ := hcs
    exact ⟨[], ⟨rfl, by omega, by simp, .inl rfl⟩, by omega, by omega⟩
  · simp [Value.cells] at hcs
    obtain ⟨rfl, rfl, rfl⟩ := hcs
    simp only [if_true] at hz
    simp only [Prod.mk.injEq] at hx
    obtain ⟨hd, hp⟩ := hx
    rw [deed_cells] at hall hp
    have hget : ∀ i, i < len → ∃ dd : Deed, W.cells? 0 (x.add (i * 4)) 4 = some (deedCells dd) ∧ D i = .agg [.lit (.int .i64 dd.what), .lit (.bool dd.raw), .lit (.string dd.s.data.toList), .lit (.string dd.text.data.toList)] := fun i hi => by
      obtain ⟨cs', h1, h2⟩ := hall i (by omega)
      obtain ⟨dd, rfl, e⟩ := deed_of_trod h2
      exact ⟨dd, h1, e⟩
    obtain ⟨f', hfp⟩ : ∃ f : Nat → Deed, ∀ i, i < len → W.cells? 0 (x.add (i * 4)) 4 = some (deedCells (f i)) ∧ D i = .agg [.lit (.int .i64 (f i).what), .lit (.bool (f i).raw), .lit (.string (f i).s.data.toList), .lit (.string (f i).text.data.toList)] :=
      ⟨fun i => if hi : i < len then Classical.choose (hget i hi) else ⟨0, false, ByteArray.empty, ByteArray.empty⟩, fun i hi => by
        have := Classical.choose_spec (hget i hi)
        simp only [hi, dif_pos]
        exact this⟩
    clear hget hall
    have hmem : ∀ i, i < len → ∀ n, n = (f' i).s.data.toList.length ∨ n = (f' i).text.data.toList.length → n ≤ 140737488351232 := by
      intro i hi n hn
      have hDm : D i ∈ (List.range len).map D := List.mem_map.2 ⟨i, List.mem_range.2 hi, rfl⟩
      have h1 : n ∈ (D i).weights Try.prog 85 := by
        rw [(hfp i hi).2]
        simp only [DataW.weights, deed_struct]
        have hT : (Try.prog.fieldsOf 85).toList.map (·.type) = [3, 4, 9, 9] := by
          have := congrArg (List.map Prod.fst) deed_fields
          rw [List.map_map] at this
          exact this
        rw [hT]
        exact weightsEach_four _ _ _ _ n hn rfl
      have h2 := weightsAll_mem (P := Try.prog) (e := 85) hDm _ h1
      have h3 : n ∈ d.weights Try.prog 45 := by
        rw [hd]
        simp only [DataW.weights, ht, List.mem_cons, List.mem_append]
        exact Or.inr (Or.inl h2)
      have h4 := List.all_eq_true.1 hsz _ (DataW.weights_mem_each htj hdj _ h3)
      exact of_decide_eq_true h4
    unfold maxLen at hm
    refine ⟨(List.range len).map f', ⟨by simp, by omega, ?_, ?_⟩, hl, hm⟩
    · intro dd hdd
      obtain ⟨i, hi, rfl⟩ := List.mem_map.1 hdd
      have hi' := List.mem_range.1 hi
      have q := hmem i hi'
      exact ⟨by have := q _ (.inl rfl); simpa using this, by have := q _ (.inr rfl); simpa using this⟩
    · by_cases h0 : len = 0
      · exact .inl h0
      · right
        obtain ⟨g, off, spot⟩ := x
        have hspot : spot = none := by
          have c0 := (World.cells?_some (hfp 0 (by omega)).1).2.2 0 (by omega)
          have := World.cell?_spot (c0.trans (show (deedCells (f' 0))[0]? = some _ from rfl))
          simpa [Addr.add] using this
        subst hspot
        refine ⟨g, off, rfl, ?_, fun i dd hdd k u hu => ?_⟩
        · exact lt (.cell g off) (by rw [hp]; exact List.mem_append_left _ (MemPlace.mem_row.2 ⟨0, by omega, by simp⟩))
        · have hi : i < len := by have := (List.getElem?_eq_some_iff.1 hdd).1; simpa using this
          rw [List.getElem?_map, List.getElem?_range hi] at hdd
          simp only [Option.map_some, Option.some.injEq] at hdd
          subst hdd
          have hk : k < 4 := by have := (List.getElem?_eq_some_iff.1 hu).1; simpa [deedCells] using this
          have := (World.cells?_some (hfp i hi).1).2.2 k hk
          rw [hu, Addr.add_lit, Addr.add_lit] at this
          exact this

end Go.Proofs.Ytegccicplcjcmaa
