/- Walks of the statements' own kit: lists of texts with marks behind them. -/
import Derived.Test.YtgfhaldfjnepmaaLex
import Derived.Test.YtgfhaldfjnepmaaProg
import Derived.Lib.QuietBelow
namespace Go.Proofs.Ytgfhaldfjnepmaa
open Go Go.RowKit Go.Shelf Go.Proofs
attribute [local go_sem] Oper.semAt_some

/-- The mark of a place in a list of texts. -/
def markT (i : Nat) : ByteArray := bs [35, 1, 0, 0, 47, UInt8.ofNat i, 0, 0]

set_option maxRecDepth 100000 in
theorem marktext_any (n : Int) (w : World) (h : 0 ≤ n) (h2 : n < 12) :
    Calls Try.prog 49 #[.int .i64 1, .int .i64 n] w fun e w' => e = .returned (.string (markT n.toNat)) ∧ Below w.heap.size w w' := by
  have hcv := fun a b c d f g h i W cc => conv8 (P := Try.prog) 74 9 5 Try.underlying74 Try.underlying5 Try.underlying9 a b c d f g h i W cc
  have he := Lib.hid (show (⟨#[UInt8.ofNat (35 : Int).toNat, UInt8.ofNat (1 : Int).toNat, UInt8.ofNat (0 : Int).toNat, UInt8.ofNat (0 : Int).toNat, UInt8.ofNat (47 : Int).toNat, UInt8.ofNat n.toNat, UInt8.ofNat (n / 256).toNat, UInt8.ofNat (n / 65536).toNat]⟩ : ByteArray) = markT n.toNat by
    rw [show n / 256 = 0 from by omega, show n / 65536 = 0 from by omega]; rfl)
  go_enter Try.func49, Try.ntmps49
  go_wp2
  go_ret
  exact ⟨ret_str he.out, (Below.refl _ _).alloc (Nat.le_refl _) _⟩

/-- A slice of texts: its elements ss lie in the cells of an old block, or there are none. -/
def IsStrs (w : World) (a : Option Addr) (len cap : Nat) (ss : List ByteArray) : Prop :=
  ss.length = len ∧ len ≤ cap ∧ (cap ≤ 9223372036854775807 ∧ len * 16 ≤ 140737488351232) ∧ (∀ s ∈ ss, s.size ≤ 140737488351232) ∧
  ((len = 0 ∧ (a = none → cap = 0)) ∨ ∃ b off, a = some ⟨b, off, none⟩ ∧ b < w.heap.size ∧ ∀ j, j < len → w.cell? ⟨b, off + j, none⟩ = some (.string (ss.getD j ByteArray.empty)))

theorem IsStrs.below {w w' : World} {a : Option Addr} {len cap : Nat} {ss : List ByteArray} (h : IsStrs w a len cap ss) {B : Nat} (hb : Below B w w') (hB : w.heap.size ≤ B) : IsStrs w' a len cap ss := by
  obtain ⟨h1, h2, h3, h4, h5⟩ := h
  refine ⟨h1, h2, h3, h4, ?_⟩
  rcases h5 with h5 | ⟨b, off, rfl, hl, hc⟩
  · exact .inl h5
  · exact .inr ⟨b, off, rfl, Nat.lt_of_lt_of_le hl hb.size, fun j hj => (hb.cell (p := ⟨b, off + j, none⟩) (Nat.lt_of_lt_of_le hl hB)).trans (hc j hj)⟩

theorem IsStrs.none_ {w : World} {a : Option Addr} {len cap : Nat} {ss : List ByteArray} (h : IsStrs w a len cap ss) : a = none → len = 0 ∧ cap = 0 := by
  intro ha
  rcases h.2.2.2.2 with h5 | ⟨b, off, h6, _⟩
  · exact ⟨h5.1, h5.2 ha⟩
  · rw [ha] at h6; cases h6

theorem IsStrs.cells {w w' : World} {a : Option Addr} {len cap : Nat} {ss : List ByteArray} (h : IsStrs w a len cap ss) (hb : Below w.heap.size w w') :
    ∀ ad, a = some ad → ∀ j u, (ss.map Value.string)[j]? = some u → w'.cell? (ad.add j) = some u := by
  intro ad ha j u hu
  obtain ⟨h1, _, _, _, h5⟩ := h
  have hj : j < ss.length := by have := (List.getElem?_eq_some_iff.1 hu).1; simpa using this
  rcases h5 with h5 | ⟨b, off, h6, hlt, hc⟩
  · omega
  · rw [ha] at h6
    cases h6
    have := hc j (by omega)
    rw [← hb.cell (p := ⟨b, off + j, none⟩) hlt] at this
    rw [Addr.add_lit, this]
    simp [List.getD, List.getElem?_eq_getElem hj] at hu ⊢
    rw [hu]

theorem infoString : (Try.prog.info? 9).map (fun i => (i.zero, i.size, i.bytes)) = some (some (.string ⟨#[]⟩), 1, 16) := by kernel_rfl

/-- The cells of a slice that was lent: the texts, then k marks. -/
def lentCells (ss : List ByteArray) (k : Nat) : List Value := ss.map Value.string ++ (List.range k).map (fun i => Value.string (markT i))
theorem lentCells_zero (ss : List ByteArray) : lentCells ss 0 = ss.map Value.string := by simp [lentCells]
theorem lentCells_succ (ss : List ByteArray) (k : Nat) : lentCells ss (k + 1) = lentCells ss k ++ [Value.string (markT k)] := by simp [lentCells, List.range_succ]
theorem lentCells_length (ss : List ByteArray) (k : Nat) : (lentCells ss k).length = ss.length + k := by simp [lentCells]

theorem strs_oneCell (ss : List ByteArray) : ∀ u ∈ ss.map Value.string, u.oneCell' = true := by
  intro u hu
  obtain ⟨_, _, rfl⟩ := List.mem_map.1 hu
  rfl

set_option maxRecDepth 100000 in
set_option maxHeartbeats 2000000 in
theorem lent_any (a : Option Addr) (len cap : Nat) (ss : List ByteArray) (w : World) (hs : IsStrs w a len cap ss) (hl : len ≤ 1000) :
    Calls Try.prog 16 #[.slice a len cap] w fun e w' => ∃ g, e = .returned (.slice (some ⟨g, 0, none⟩) len (len + 12)) ∧ w.heap.size ≤ g ∧
      w'.ownsRow w.heap.size 9 1 (.slice (some ⟨g, 0, none⟩) (len + 12) (len + 12)) (len + 12) (lentCells ss 12) ∧ Below w.heap.size w w' := by
  obtain ⟨i0, hi, hz0, hz1, hz2⟩ := info_parts infoString
  have HN := Lib.hid hs.none_
  have HC := Lib.hid (fun w' hb => hs.cells (w' := w') hb)
  have h1 := Lib.hid hs.1
  have hmaxl : len + 12 ≤ maxLen := by unfold maxLen; omega
  clear hs
  go_enter Try.func16, Try.ntmps16
  go_wp2_with (first
    | (at_make; refine wpList_make_own _ rfl _ _ 22 rfl w.heap.size 9 i0 (.string ⟨#[]⟩) 1 Try.underlying22 hi hz0 hz1 _ _ _ (len + 12) rfl rfl (by omega) (by rw [hz2]; omega) hmaxl (Nat.le_refl _) ?_; intro w1 hown1 hgrow1)
    | (at_builtin; refine wpList_append_fits_any _ rfl _ _ 22 rfl w.heap.size 9 i0 1 Try.underlying22 hi hz1 w.heap.size 0 (len + 12) [] rfl hown1 a len cap (ss.map Value.string) rfl (by rw [List.length_map, h1.out]; omega) HN.out (HC.out _ ((Below.refl w.heap.size w).grown hgrow1 (Nat.le_refl _) (fun k e => by cases e))) (strs_oneCell ss) (by omega) ?_; intro w2 hown2 hgrow2))
  have hB2 : Below w.heap.size w w2 := ((Below.refl w.heap.size w).grown hgrow1 (Nat.le_refl _) (fun k e => by cases e)).grown hgrow2 hgrow1.size (fun k e => by cases e; exact Nat.le_refl _)
  simp only [Nat.zero_add, List.nil_append] at hown2
  clear hown1 hgrow1 hgrow2 HN HC
  go_loopw [3, 4] (fun v i wr => ∃ k : Nat, k ≤ 12 ∧ i = .int .i64 k ∧ v = .slice (some ⟨w.heap.size, 0, none⟩) (len + k) (len + 12) ∧ wr.ownsRow w.heap.size 9 1 (.slice (some ⟨w.heap.size, 0, none⟩) (len + k) (len + 12)) (len + k) (lentCells ss k) ∧ Below w.heap.size w wr)
    (fun _ i _ => 12 - (intOf i).toNat)
  case atStart => exact ⟨0, by omega, rfl, rfl, by rw [lentCells_zero]; exact hown2, hB2⟩
  case round =>
    obtain ⟨k, hk, rfl, rfl, hown, hB⟩ := hrel
    clear hown2 hB2
    by_cases hk2 : k < 12
    · go_wp2_with (first
        | (go_at_call 49; refine (marktext_any _ _ (by omega) (by omega)).mono ?_; rintro e w' ⟨rfl, hn⟩; have hown' := ownsRow_below hown hn (Nat.le_refl _))
        | (at_builtin; refine wpList_append_fits _ rfl _ _ 22 rfl w.heap.size 9 i0 1 Try.underlying22 hi hz1 w.heap.size (len + k) (len + 12) _ rfl (hown'.alloc _) ⟨w'.heap.size, 0, none⟩ 1 1 [.string (markT k)] rfl rfl (cell_one_new' _ _ _) (by simp [Value.oneCell']) (by omega) ?_; intro w3 hown3 hgrow3))
      have hB3 : Below w.heap.size w w3 := (((hB.trans (hn.mono hB.size)).alloc (Nat.le_trans hB.size hn.size) _).grown hgrow3 (by simp; have := hB.size; have := hn.size; omega) (fun k e => by cases e; exact Nat.le_refl _))
      go_roundw
      case rel => exact ⟨k + 1, by omega, by go_num, rfl, by rw [lentCells_succ]; exact hown3, hB3⟩
      case measure => simp [intOf]; omega
    · obtain rfl : k = 12 := by omega
      go_wp2
      go_ret
      exact ⟨w.heap.size, rfl, Nat.le_refl _, hown, hB⟩

theorem lent_cell {w : World} {base g n : Nat} {ss : List ByteArray} (h : w.ownsRow base 9 1 (.slice (some ⟨g, 0, none⟩) n n) n (lentCells ss 12)) (k : Nat) (v : Value) (hv : (lentCells ss 12)[k]? = some v) :
    w.cell? ⟨g, k, none⟩ = some v := by
  obtain ⟨hl, h2⟩ := h
  rcases h2 with ⟨h2, _⟩ | ⟨g', cap, cur, hv', _, hh, _, _, _, ht⟩
  · cases h2
  · cases hv'
    have hk : (cur.toList.take (n * 1))[k]? = some v := by rw [ht]; exact hv
    have hk2 : k < n * 1 := by
      rcases Nat.lt_or_ge k (n * 1) with h | h
      · exact h
      · rw [List.getElem?_eq_none (by simp; omega)] at hk; cases hk
    rw [List.getElem?_take_of_lt hk2] at hk
    simp [World.cell?, hh]
    simpa using hk

set_option maxRecDepth 100000 in
set_option maxHeartbeats 4000000 in
theorem kept_any (g : Nat) (a : Option Addr) (len cap base : Nat) (ss : List ByteArray) (w : World) (hs : IsStrs w a len cap ss) (hl : len ≤ 1000)
    (hown : w.ownsRow base 9 1 (.slice (some ⟨g, 0, none⟩) (len + 12) (len + 12)) (len + 12) (lentCells ss 12)) :
    Calls Try.prog 19 #[.slice (some ⟨g, 0, none⟩) len (len + 12), .slice a len cap] w fun e w' => e = .returned (.bool true) ∧ Below w.heap.size w w' := by
  have HO := Lib.hid (fun w' (hb : Below w.heap.size w w') => ownsRow_below hown hb (Nat.le_refl _))
  have HS := Lib.hid (fun w' (hb : Below w.heap.size w w') => hs.below hb (Nat.le_refl _))
  have h1 := Lib.hid hs.1
  have hgl : g < w.heap.size := by
    rcases hown.2 with ⟨h2, _⟩ | ⟨g', cap, cur, hv', _, hh, _⟩
    · cases h2
    · cases hv'; exact (Array.getElem?_eq_some_iff.1 hh).1
  clear hown
  have hB0 := Below.refl w.heap.size w
  go_enter Try.func19, Try.ntmps19
  go_wp2_with fail
  go_loopw [6] (fun i wr => ∃ k : Nat, k ≤ len + 12 ∧ i = .int .i64 k ∧ Below w.heap.size w wr) (fun i _ => len + 12 - (intOf i).toNat)
  case atStart => exact ⟨0, by omega, rfl, hB0⟩
  case round =>
    obtain ⟨k, hk, rfl, hB⟩ := hrel
    clear hB0
    have hown := HO.out wr hB
    have hs' := HS.out wr hB
    by_cases hk2 : k < len
    · -- an element
      obtain ⟨s, hsk⟩ : ∃ s, ss[k]? = some s := ⟨_, List.getElem?_eq_getElem (by rw [h1.out]; exact hk2)⟩
      have hc1 := lent_cell hown k (.string s) (by unfold lentCells; rw [List.getElem?_append_left (by rw [List.length_map, h1.out]; exact hk2)]; simp [hsk])
      obtain ⟨b, off, rfl, hbl, hc⟩ : ∃ b off, a = some ⟨b, off, none⟩ ∧ b < wr.heap.size ∧ ∀ j, j < len → wr.cell? ⟨b, off + j, none⟩ = some (.string (ss.getD j ByteArray.empty)) := by
        rcases hs'.2.2.2.2 with h | h
        · omega
        · exact h
      have hc2 := hc k hk2
      rw [List.getD_eq_getElem?_getD, hsk] at hc2
      simp only [Option.getD_some] at hc2
      have q1 := fun d os => cell_regrown hc1 d os
      have q2 := fun d os => cell_regrown hc2 d os
      clear hown hs' hc hsk hc1 hc2
      have hd : decide (len ≤ k) = false := decide_eq_false (by omega)
      go_wp2_with fail
      refine wp_region_quiet_below (by kernel_rfl) (by kernel_rfl) ?_
      repeat (go_big_quiet_step (fail))
      refine wpQuiet_nil ?_
      intro _ hw'
      obtain ⟨⟨dq, osq⟩, hw''⟩ := hw'
      subst hw''
      go_wp2_with fail
      go_roundw
      case rel => exact ⟨k + 1, by omega, by go_num, hB.trans ((below_regrown wr dq osq).mono hB.size)⟩
      case measure => simp [intOf]; omega
    · by_cases hk3 : k < len + 12
      · -- a mark
        have hc1 := lent_cell hown k (.string (markT (k - len))) (by
          unfold lentCells
          rw [List.getElem?_append_right (by rw [List.length_map, h1.out]; omega), List.length_map, h1.out]
          simp [List.getElem?_range (show k - len < 12 by omega)])
        have q1 := fun d os => cell_regrown hc1 d os
        have hd : decide (k < len) = false := decide_eq_false hk2
        have hd2 : decide (len ≤ k) = true := decide_eq_true (by omega)
        have hs1 : IntKind.i64.wrap ((k : Int) - (len : Int)) = (k : Int) - (len : Int) := by rw [IntKind.wrap_i64]; omega
        have hm := Lib.hid (fun W => by
          have := marktext_any ((k : Int) - (len : Int)) W (by omega) (by omega)
          rw [show ((k : Int) - (len : Int)).toNat = k - len from by omega] at this
          exact this)
        clear hown hs' hc1
        go_wp2_with fail
        refine wp_region_quiet_below (by kernel_rfl) (by kernel_rfl) ?_
        repeat (go_big_quiet_step (exact Calls.regrown_of (hm.out _)))
        refine wpQuiet_nil ?_
        intro _ hw'
        obtain ⟨⟨dq, osq⟩, hw''⟩ := hw'
        subst hw''
        go_wp2_with fail
        go_roundw
        case rel => exact ⟨k + 1, by omega, by go_num, hB.trans ((below_regrown wr dq osq).mono hB.size)⟩
        case measure => simp [intOf]; omega
      · obtain rfl : k = len + 12 := by omega
        clear hown hs'
        go_wp2
        go_ret
        exact ⟨rfl, hB⟩
end Go.Proofs.Ytgfhaldfjnepmaa
