/- How a slice of texts that came in is opened. -/
import Derived.Test.YtgfhaldfjnepmaaKit1
import Derived.ProofKit
import Derived.SliceStrings
import Derived.SizedLaws
namespace Go.Proofs.Ytgfhaldfjnepmaa
open Go Go.RowKit Go.ChangeShapes Go.WideShapes Go.ChangeAt

theorem weightsAll_mem {H : Type} {P : Program} {e : TypeId} : ∀ {l : List (DataW H)} {d : DataW H}, d ∈ l → ∀ n ∈ d.weights P e, n ∈ DataW.weightsAll P e l
  | [], _, h, _, _ => by cases h
  | x :: l, d, h, n, hn => by
    simp only [DataW.weightsAll, List.mem_append]
    rcases List.mem_cons.1 h with rfl | h
    · exact Or.inl hn
    · exact Or.inr (weightsAll_mem h n hn)

theorem opened_strs {H : Type} {enc : TypeId × Value → H} {P : Program} {W : World} {t e : TypeId} (ht : P.underlying t = some (.slice e)) (he : P.underlying e = some .string) (hc : P.cellsOf e = 1)
    {a : Option Addr} {len cap : Nat} {d : DataW H} {p : List MemPlace} (h : DataW.Trod enc P W 0 (fun _ => true) true t (.slice a len cap) d p)
    {ts : List TypeId} {ds : List (DataW H)} (hsz : (DataW.weightsEach P ts ds).all (· ≤ reachBytes) = true) {j : Nat} (htj : ts[j]? = some t) (hdj : ds[j]? = some d) (hb : P.bytesOf e = 16)
    (lt : ∀ x ∈ p, x.block < W.heap.size) : ∃ ss, IsStrs W a len cap ss := by
  obtain ⟨fuel, hf⟩ := h
  rcases open_strings ht he hc hf with ⟨hcs, hx⟩ | ⟨x, l, c, ss, hcs, _, hl, hm, hz, hx, hcell, _⟩
  · simp [Value.cells] at hcs
    obtain ⟨rfl, rfl, rfl⟩ := hcs
    exact ⟨[], rfl, Nat.le_refl _, by omega, by simp, .inl ⟨rfl, fun _ => rfl⟩⟩
  · simp [Value.cells] at hcs
    obtain ⟨rfl, rfl, rfl⟩ := hcs
    simp only [if_true] at hz
    simp only [Prod.mk.injEq] at hx
    obtain ⟨hd, hp⟩ := hx
    have hsl := sized_slice hsz (j := j) (t := t) (e := e) htj (by rw [hdj, hd]) ht
    rw [hb] at hsl
    simp only [strs, List.length_map, List.length_take, List.length_drop, reachBytes] at hsl
    have hel : ∀ s ∈ ss.take len, s.size ≤ 140737488351232 := by
      intro s hs
      have hmem : (DataW.lit (.string s.data.toList) : DataW H) ∈ strs (H := H) (ss.take len) := List.mem_map.2 ⟨s, hs, rfl⟩
      have h1 : s.data.toList.length ∈ (DataW.lit (.string s.data.toList) : DataW H).weights P e := by simp [DataW.weights]
      have h2 := weightsAll_mem (P := P) (e := e) hmem _ h1
      have h3 : s.data.toList.length ∈ (d.weights P t) := by
        rw [hd]
        simp only [DataW.weights, ht, List.mem_cons, List.mem_append]
        exact Or.inr (Or.inl h2)
      have h4 := List.all_eq_true.1 hsz _ (DataW.weights_mem_each htj hdj _ h3)
      rw [Array.length_toList] at h4
      exact of_decide_eq_true h4
    refine ⟨ss.take len, by rw [List.length_take]; omega, hl, by omega, hel, ?_⟩
    by_cases h0 : len = 0
    · left; exact ⟨h0, fun h => by cases h⟩
    · right
      obtain ⟨b, off, spot⟩ := x
      have hspot : spot = none := by simpa [Addr.add] using World.cell?_spot (hcell 0 (by omega))
      subst hspot
      refine ⟨b, off, rfl, ?_, fun i hi => ?_⟩
      · exact lt (.cell b off) (by rw [hp]; exact MemPlace.mem_row.2 ⟨0, by omega, by simp⟩)
      · have := hcell i (by omega)
        rw [Addr.add_lit] at this
        rw [this]
        simp [List.getD, List.getElem?_take_of_lt hi]
end Go.Proofs.Ytgfhaldfjnepmaa
