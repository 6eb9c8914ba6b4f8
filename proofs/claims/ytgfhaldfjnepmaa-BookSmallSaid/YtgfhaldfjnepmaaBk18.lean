/- Walks: are two slices of pairs the same. -/
import Derived.Test.YtgfhaldfjnepmaaBk17
import Derived.Laws.StructEq
namespace Go.Proofs.Ytgfhaldfjnepmaa
open Go Go.RowKit Go.Shelf Go.Proofs
attribute [local go_sem] Oper.semAt_some

/-- A slice of pairs, to be read. -/
def IsPairs (w : World) (a : Option Addr) (len : Nat) (ps : PS) : Prop :=
  ps.length = len ∧ (∀ p ∈ ps, p.1.size ≤ 1000 ∧ p.2.size ≤ 1000) ∧ (len = 0 ∨ ∃ g off, a = some ⟨g, off, none⟩ ∧ g < w.heap.size ∧ ∀ j p, ps[j]? = some p → w.cell? ⟨g, off + j * 2, none⟩ = some (.string p.1) ∧ w.cell? ⟨g, off + j * 2 + 1, none⟩ = some (.string p.2))

theorem IsPairs.below {w w' : World} {a : Option Addr} {len : Nat} {ps : PS} (h : IsPairs w a len ps) (hb : Below w.heap.size w w') : IsPairs w' a len ps := by
  obtain ⟨h1, h0, h2⟩ := h
  refine ⟨h1, h0, ?_⟩
  rcases h2 with h2 | ⟨g, off, rfl, hg, hc⟩
  · exact .inl h2
  · exact .inr ⟨g, off, rfl, Nat.lt_of_lt_of_le hg hb.size, fun j p hp => ⟨(hb.cell (p := ⟨g, off + j * 2, none⟩) hg).trans (hc j p hp).1, (hb.cell (p := ⟨g, off + j * 2 + 1, none⟩) hg).trans (hc j p hp).2⟩⟩

theorem prow_is {w : World} {B : Nat} {v : Value} {ps : PS} (h : PRow w B v ps) (hs : ∀ p ∈ ps, p.1.size ≤ 1000 ∧ p.2.size ≤ 1000) : ∃ a cap, v = .slice a ps.length cap ∧ IsPairs w a ps.length ps ∧ ps.length ≤ cap ∧ cap ≤ 9223372036854775807 := by
  rcases h.2 with ⟨h1, h2⟩ | ⟨g, cap, cur, rfl, _, hh, hc, hm, hz, ht⟩
  · exact ⟨none, 0, by rw [h1, h2], ⟨rfl, hs, .inl h2⟩, by omega, by omega⟩
  · refine ⟨_, cap, rfl, ⟨rfl, hs, .inr ⟨g, 0, rfl, (Array.getElem?_eq_some_iff.1 hh).1, fun j p hp => ?_⟩⟩, hc, by unfold maxLen at hm; exact hm⟩
    obtain ⟨e1, e2⟩ := pcells_get ps j p hp
    have hj : j < ps.length := (List.getElem?_eq_some_iff.1 hp).1
    rw [← ht, List.getElem?_take_of_lt (by omega)] at e1 e2
    rw [Nat.zero_add, cell_of_row w g _ cur _ (0, 0) hh, cell_of_row w g _ cur _ (0, 0) hh]
    exact ⟨by simpa using e1, by simpa using e2⟩

theorem take_eq_succ {ps qs : PS} {k : Nat} (h : ps.take k = qs.take k) {p : ByteArray × ByteArray} (h1 : ps[k]? = some p) (h2 : qs[k]? = some p) : ps.take (k + 1) = qs.take (k + 1) := by
  rw [List.take_add_one, List.take_add_one, h, h1, h2]

theorem pair_guard : Try.prog.eqGuardType Try.prog.depth 57 = false := by kernel_rfl
theorem pair_held : Try.prog.stoodInHeld 57 = false := by kernel_rfl
theorem pair_struct : Try.prog.underlying 57 = some (.struct (Try.prog.fieldsOf 57)) := by kernel_rfl
theorem pair_fields : (Try.prog.fieldsOf 57).toList.map (fun f => (f.name == "_", f.type, f.offset)) = [(false, 9, 0), (false, 9, 1)] := by kernel_rfl

theorem list2_of_map {α β : Type} {f : α → β} {l : List α} {x y : β} (h : l.map f = [x, y]) : ∃ a b, l = [a, b] ∧ f a = x ∧ f b = y := by
  match l, h with
  | [a, b], h => simp at h; exact ⟨a, b, rfl, h.1, h.2⟩

theorem part_string (xs : Array Value) (i : Nat) (a : ByteArray) (h : xs[i]? = some (.string a)) (W : World) : (part 9 xs i).run Try.prog W = .ok (.string a) W := by
  have h1 := Try.isAgg9 W
  have h2 := Try.sizeOf9 W
  unfold part
  simp [h1, h2, go_sem, h, Result.andThen]

theorem pair_neq (a b c d : ByteArray) (W : World) : (binOp .neq 57 (.agg #[.string a, .string b]) (.agg #[.string c, .string d])).run Try.prog W = .ok (.bool (!(a.toList == c.toList && b.toList == d.toList))) W := by
  obtain ⟨f, g, hl, hf, hg⟩ := list2_of_map pair_fields
  simp only [Prod.mk.injEq, beq_eq_false_iff_ne] at hf hg
  obtain ⟨f1, f2, f3⟩ := hf
  obtain ⟨g1, g2, g3⟩ := hg
  have q1 : ∀ (d : Nat) (a c : ByteArray) (W : World), (Op.equalIn (d + 1) 9 (.string a) (.string c)).run Try.prog W = .ok (a.toList == c.toList) W := fun d a c W => run_equalIn_string W d 9 a c Try.underlying9
  rw [run_neq_struct, show (10000 : Nat) = 9998 + 1 + 1 from rfl, run_equalIn_struct W (9998 + 1) 57 _ _ pair_struct pair_held, hl]
  unfold Op.eqFields Op.eqFields Op.eqFields
  rw [if_pos f1, f2, f3, g2, g3]
  rw [if_pos g1]
  simp only [Sem.run_bind, part_string _ _ a (show (#[Value.string a, .string b] : Array Value)[0]? = some (.string a) from rfl), part_string _ _ c (show (#[Value.string c, .string d] : Array Value)[0]? = some (.string c) from rfl), Result.andThen_ok, q1]
  cases h1 : (a.toList == c.toList)
  · simp [Result.andThen]
  · simp only [Bool.not_true, Bool.false_eq_true, if_false, Sem.run_bind, part_string _ _ b (show (#[Value.string a, .string b] : Array Value)[1]? = some (.string b) from rfl), part_string _ _ d (show (#[Value.string c, .string d] : Array Value)[1]? = some (.string d) from rfl), Result.andThen_ok, q1]
    cases h2 : (b.toList == d.toList) <;> simp [Result.andThen]

theorem strEq (a b : ByteArray) : (a.toList == b.toList) = decide (a = b) := by
  rw [toList_by, toList_by]
  by_cases h : a = b
  · subst h; simp
  · have : ¬ by_ a = by_ b := fun e => h (by_inj e)
    simp [h, this]

set_option maxRecDepth 100000 in
set_option maxHeartbeats 4000000 in
theorem same_any (a : Option Addr) (len cap : Nat) (ps : PS) (a' : Option Addr) (len' cap' : Nat) (qs : PS) (w : World) (hp : IsPairs w a len ps) (hq : IsPairs w a' len' qs) (hl : len < 100000) (hl' : len' < 100000) :
    Calls Try.prog 32 #[.slice a len cap, .slice a' len' cap'] w fun e w' => e = .returned (.bool (decide (ps = qs))) ∧ Below w.heap.size w w' := by
  have HP := Lib.hid hp
  have HQ := Lib.hid hq
  have h1 := hp.1
  have h2 := hq.1
  have hB0 := Below.refl w.heap.size w
  clear hp hq
  by_cases hne : len = len'
  · subst hne
    go_enter Try.func32, Try.ntmps32
    go_wp2
    go_loopw [5] (fun i wr => ∃ k : Nat, k ≤ len ∧ i = .int .i64 k ∧ Below w.heap.size w wr ∧ Hid (ps.take k = qs.take k)) (fun i _ => len - (intOf i).toNat)
    case atStart => exact ⟨0, Nat.zero_le _, rfl, hB0, Lib.hid (by simp)⟩
    case round =>
      obtain ⟨k, hk, rfl, hB, HT⟩ := hrel
      clear hB0
      by_cases hk2 : k < len
      · obtain ⟨p, hpk⟩ : ∃ p, ps[k]? = some p := ⟨_, List.getElem?_eq_getElem (by omega)⟩
        obtain ⟨q, hqk⟩ : ∃ q, qs[k]? = some q := ⟨_, List.getElem?_eq_getElem (by omega)⟩
        obtain ⟨g, off, rfl, hg, hc⟩ := (HP.out.below hB).2.2.resolve_left (by omega)
        obtain ⟨g', off', rfl, hg', hc'⟩ := (HQ.out.below hB).2.2.resolve_left (by omega)
        obtain ⟨c1, c2⟩ := hc k p hpk
        obtain ⟨d1, d2⟩ := hc' k q hqk
        clear hc hc'
        obtain ⟨p1, p2⟩ := p
        obtain ⟨q1, q2⟩ := q
        simp only at c1 c2 d1 d2
        have HPK := Lib.hid hpk
        have HQK := Lib.hid hqk
        clear hpk hqk
        have hgd := pair_guard
        by_cases heq : p1 = q1 ∧ p2 = q2
        · obtain ⟨rfl, rfl⟩ := heq
          have hne : ∀ W, (binOp .neq 57 (.agg #[.string p1, .string p2]) (.agg #[.string p1, .string p2])).run Try.prog W = .ok (.bool false) W := fun W => by rw [pair_neq]; simp
          go_wp2
          go_quiet (fail)
          go_wp2
          go_roundw
          case rel => exact ⟨k + 1, by omega, by go_num, below_drewN _ hB, Lib.hid (take_eq_succ HT.out HPK.out HQK.out)⟩
          case measure => simp [intOf]; omega
        · have hne : ∀ W, (binOp .neq 57 (.agg #[.string p1, .string p2]) (.agg #[.string q1, .string q2])).run Try.prog W = .ok (.bool true) W := fun W => by
            rw [pair_neq, strEq, strEq]
            have : (decide (p1 = q1) && decide (p2 = q2)) = false := by simpa using heq
            rw [this]; rfl
          have he : decide (ps = qs) = false := decide_eq_false (fun e => heq (by
            have := HPK.out
            rw [e, HQK.out] at this
            simp at this
            exact ⟨this.1.symm, this.2.symm⟩))
          go_wp2
          go_quiet (fail)
          go_wp2
          go_ret
          exact ⟨ret_bool he.symm, below_drewN _ hB⟩
      · obtain rfl : k = len := by omega
        have he : decide (ps = qs) = true := by
          have := HT.out
          rw [List.take_of_length_le (by omega), List.take_of_length_le (by omega)] at this
          simp [this]
        go_wp2
        go_ret
        exact ⟨ret_bool he.symm, hB⟩
  · have he : decide (ps = qs) = false := decide_eq_false (fun e => hne (by rw [← h1, ← h2, e]))
    have hi : ¬ (len : Int) = (len' : Int) := by omega
    rw [he]
    go_enter Try.func32, Try.ntmps32
    go_wp2
    go_ret
    exact ⟨rfl, hB0⟩

end Go.Proofs.Ytgfhaldfjnepmaa
