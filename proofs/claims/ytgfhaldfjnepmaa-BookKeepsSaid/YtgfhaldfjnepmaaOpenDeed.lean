/- How one operation that came in is opened. -/
import Derived.Test.YtgfhaldfjnepmaaOpenDeeds
import Derived.Test.YtgfhaldfjnepmaaBk26
namespace Go.Proofs.Ytgfhaldfjnepmaa
open Go Go.RowKit Go.ChangeShapes Go.WideShapes Go.ChangeAt Go.Shelf Go.Deep Go.Proofs Go.Lib

set_option maxRecDepth 100000 in
theorem open_deed {H : Type} {enc : TypeId × Value → H} {W : World} {r : Reach} {b0 : Nat} {v : Value} {d : DataW H} {p : List MemPlace} (hv : Value.okWide Try.prog W r b0 46 v)
    (h : DataW.Trod enc Try.prog W 0 (fun _ => true) true 46 v d p)
    {ts : List TypeId} {ds : List (DataW H)} (hsz : (DataW.weightsEach Try.prog ts ds).all (· ≤ reachBytes) = true) {j : Nat} (htj : ts[j]? = some 46) (hdj : ds[j]? = some d) :
    ∃ x : Deed, v = deedV x ∧ IsDeed x := by
  obtain ⟨cs, rfl, _⟩ := okWide_struct deed_struct hv
  obtain ⟨fuel, hf⟩ := h
  obtain ⟨x, hx, hd, q1, q2⟩ := deed_of_trod hf
  have hcs : cs = #[.int .i64 x.what, .string x.key, .string x.value, .string x.old, .int .i64 x.n] := by
    apply Array.ext'
    simpa [Value.cells, deedCells] using hx
  have hw : ∀ n, n = x.key.data.toList.length ∨ n = x.value.data.toList.length ∨ n = x.old.data.toList.length → n ≤ 140737488351232 := by
    intro n hn
    have h1 : n ∈ d.weights Try.prog 46 := by
      simp only at hd
      rw [hd]
      simp only [DataW.weights, deed_struct]
      have hT : (Try.prog.fieldsOf 46).toList.map (·.type) = [3, 9, 9, 9, 3] := by
        have := congrArg (List.map Prod.fst) deed_fields
        rw [List.map_map] at this
        exact this
      rw [hT]
      exact weightsEach_five _ _ _ _ _ n hn rfl
    have h4 := List.all_eq_true.1 hsz _ (DataW.weights_mem_each htj hdj _ h1)
    exact of_decide_eq_true h4
  refine ⟨x, by rw [hcs]; rfl, ?_, ?_, ?_, q2⟩
  · have := hw _ (.inl rfl); simpa using this
  · have := hw _ (.inr (.inl rfl)); simpa using this
  · have := hw _ (.inr (.inr rfl)); simpa using this

end Go.Proofs.Ytgfhaldfjnepmaa
