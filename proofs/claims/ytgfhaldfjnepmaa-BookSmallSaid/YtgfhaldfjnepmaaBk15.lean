/- Walks: All and its iterator. -/
import Derived.Test.YtgfhaldfjnepmaaBk14
import Derived.Test.YtgfhaldfjnepmaaRangeOwn
namespace Go.Proofs.Ytgfhaldfjnepmaa
open Go Go.RowKit Go.Shelf Go.Proofs Go.Sort
attribute [local go_sem] Oper.semAt_some

theorem all_any (b : Nat) (w : World) :
    Calls Try.prog 43 #[.pointer (some ⟨b, 0, none⟩)] w fun e w' => e = .returned (.func (.func 75) #[] #[.pointer (some ⟨w.heap.size, 0, none⟩)]) ∧ w.alloc (.cells #[.pointer (some ⟨b, 0, none⟩)] 43) = w' := by
  go_enter Try.func43, Try.ntmps43
  go_wp2
  go_ret
  exact ⟨rfl, rfl⟩

/-- What a round leaves alone: the iterator's own copy. -/
structure Stay (N0 N1 : Nat) (W W' : World) : Prop where
  size : W.heap.size ≤ W'.heap.size
  own : ∀ g, N0 ≤ g → g < N1 → W'.heap[g]? = W.heap[g]?
  bytes : ∀ (g : Nat) (cur : Array Value) (fz : Nat × Nat), W.heap[g]? = some (.cells cur 5 fz) → W'.heap[g]? = some (.cells cur 5 fz)

theorem Stay.refl (N0 N1 : Nat) (W : World) : Stay N0 N1 W W := ⟨Nat.le_refl _, fun _ _ _ => rfl, fun _ _ _ h => h⟩
theorem Stay.trans {N0 N1 : Nat} {A B C : World} (h : Stay N0 N1 A B) (k : Stay N0 N1 B C) : Stay N0 N1 A C :=
  ⟨Nat.le_trans h.size k.size, fun g a b => (k.own g a b).trans (h.own g a b), fun g c f e => k.bytes g c f (h.bytes g c f e)⟩

/-- The copy is less than N1 all along. -/
def Under (N0 N1 b m : Nat) (v : Value) : Prop := N0 ≤ b ∧ b < N1 ∧ N0 ≤ m ∧ m < N1 ∧ ∀ k, v.ownBlock = some k → N0 ≤ k ∧ k < N1

theorem book_under {B b m : Nat} {v : Value} {K M : Nat} {ps : PS} {W : World} (h : BookAt W B b m v K M ps) : Under B W.heap.size b m v :=
  ⟨h.hb, h.lt.1, h.hm, h.lt.2, fun k hk => h.row.lt k hk⟩

theorem book_stay {N0 N1 B b m : Nat} {v : Value} {K M : Nat} {ps : PS} {W W' : World} (h : BookAt W B b m v K M ps) (hu : Under N0 N1 b m v) (hs : Stay N0 N1 W W') : BookAt W' B b m v K M ps :=
  h.stay (hs.own _ hu.1 hu.2.1) (hs.own _ hu.2.2.1 hu.2.2.2.1) (fun k hk => hs.own _ (hu.2.2.2.2 k hk).1 (hu.2.2.2.2 k hk).2) (fun g c f e => hs.bytes g c f e)

theorem keysP_get {ps : PS} {k : Nat} (hk : k < ps.length) : (keysP ps).getD k ByteArray.empty = (ps[k]).1 := by
  simp [keysP, List.getD, hk]

set_option maxRecDepth 100000 in
set_option maxHeartbeats 4000000 in
theorem all1_in (n : Nat) (hn : 1 ≤ n) (l X B b m : Nat) (v : Value) (K M : Nat) (ps : PS) (W : World) (h : BookAt W B b m v K M ps) (hlen : ps.length < 90000) (hX : W.cell? ⟨X, 0, none⟩ = some (.pointer (some ⟨b, 0, none⟩)))
    (J : Nat → Nat → World → Prop)
    (hJ0 : ∀ W', Below W.heap.size W W' → J W'.heap.size 0 W')
    (hY : ∀ N1 k p W1, W.heap.size ≤ N1 → N1 ≤ W1.heap.size → J N1 k W1 → ps[k]? = some p → YieldAt Fence.wide (n - 1) Try.prog l #[.string p.1, .string p.2] W1 fun e W2 => e = .returned (.bool true) ∧ J N1 (k + 1) W2 ∧ Stay W.heap.size N1 W1 W2) :
    CallsIn Fence.wide n Try.prog 75 #[.func (.yield l) #[] #[], .pointer (some ⟨X, 0, none⟩)] W fun e W' => (∃ v, e = .returned v) ∧ ∃ N1, W.heap.size ≤ N1 ∧ J N1 ps.length W' := by
  have HN := Lib.hid (none_any W h)
  have HC := Lib.hid (copy_any W h hlen)
  have HJ0 := Lib.hid hJ0
  have HY := Lib.hid hY
  clear h hJ0 hY
  refine callsIn_of_wp Try.func75 rfl trivial ?_ rfl
  simp only [Try.ntmps75, List.size_toArray, List.length_cons, List.length_nil, Nat.reduceAdd, Nat.reduceSub, Array.replicate_succ, Array.replicate_zero, List.push_toArray, List.append_toArray, List.nil_append, List.cons_append]
  gi_wp2_with (refine ⟨trivial, ?_⟩; first
    | (gi_at_call 61; refine (callsIn_wide.2 HN.out).mono ?_; rintro e W ⟨rfl, rfl⟩)
    | (gi_at_call 42; refine (callsIn_wide.2 HC.out).mono ?_; rintro e W1 ⟨b', m', v', rfl, hbk, hb1⟩; obtain ⟨ka, kc, rfl⟩ := row_slice hbk.row; have hc0 := hbk.cell.1))
  have hj0 := HJ0.out W1 hb1
  have hu := Lib.hid (book_under hbk)
  have hbs := hb1.size
  have hle := Nat.le_refl W1.heap.size
  have HBK := Lib.hid hbk
  clear hbk hc0 HN HC HJ0
  gi_loopw [5, 16] (fun _ i wr => ∃ k : Nat, k ≤ ps.length ∧ i = .int .i64 k ∧ Hid (BookAt wr W.heap.size b' m' (.slice ka ps.length kc) K M ps) ∧ J W1.heap.size k wr ∧ W1.heap.size ≤ wr.heap.size) (fun _ i _ => ps.length - (intOf i).toNat)
  case atStart => exact ⟨0, Nat.zero_le _, rfl, HBK, hj0, hle⟩
  case round =>
    obtain ⟨k, hk, rfl, HB, hj, hsz⟩ := hrel
    clear hj0 HBK hle
    by_cases hk2 : k < ps.length
    · obtain ⟨g, rfl, hck⟩ : ∃ g, ka = some ⟨g, 0, none⟩ ∧ wr.cell? ⟨g, 0 + k, none⟩ = some (.string (ps[k]).1) := by
        rcases row_get HB.out.row with ⟨h1, h2, _⟩ | ⟨g, cap, cur, h1, _⟩
        · omega
        · cases h1
          refine ⟨g, rfl, ?_⟩
          rw [row_cells HB.out.row k hk2, keysP_get hk2]
      have hmem : (ps[k]) ∈ ps := List.getElem_mem hk2
      have hgp : getP ps (ps[k]).1 = some (ps[k]).2 := getP_of_mem HB.out.sorted hmem
      have hp16 := (HB.out.small _ hmem).1
      obtain ⟨x, hx, _, hlk⟩ := look_some HB.out (by omega) hgp
      have hcv := bytesAt_conv hx
      have hcm := HB.out.cell.2.1
      obtain ⟨fn, tmps, assign, body, hy, hR⟩ := HY.out W1.heap.size k (ps[k]) wr hbs hsz hj (List.getElem?_eq_getElem hk2)
      generalize (ps[k]).1 = ky at *
      generalize (ps[k]).2 = vl at *
      have hy : (Instr.yield l #[.string ky, .string vl]).run Try.prog wr = .ok (.round l fn tmps assign body) wr := hy
      clear hx hmem hgp
      rw [Nat.zero_add] at hck
      gi_wp2
      refine hR.mono ?_
      rintro e W3 ⟨rfl, hJ3, hst⟩
      have HB3 := Lib.hid (book_stay HB.out hu.out hst)
      have hsz3 := Nat.le_trans hsz hst.size
      gi_wp2
      go_roundw
      case rel => exact ⟨k + 1, by omega, by go_num, HB3, hJ3, hsz3⟩
      case measure => simp [intOf]; omega
    · obtain rfl : k = ps.length := by omega
      gi_wp2
      first
        | (refine bodyPost_end (results_none rfl _ _ _) rfl ?_; exact ⟨⟨_, rfl⟩, _, hbs, hj⟩)
        | trace_state

end Go.Proofs.Ytgfhaldfjnepmaa
