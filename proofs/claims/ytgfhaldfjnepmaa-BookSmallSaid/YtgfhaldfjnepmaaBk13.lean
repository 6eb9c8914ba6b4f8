/- Walks: Swap, New. -/
import Derived.Test.YtgfhaldfjnepmaaBk12
namespace Go.Proofs.Ytgfhaldfjnepmaa
open Go Go.RowKit Go.Shelf Go.Proofs Go.ChangeMaps Go.MapKept
attribute [local go_sem] Oper.semAt_some

def swapE (K M : Nat) (ps : PS) (s o x : ByteArray) : Int := if thereE ps s [o, x] = 0 then (if thereV ps s [o, x] = o then putE K M ps s x else 9) else thereE ps s [o, x]
def swapQ (K M : Nat) (ps : PS) (s o x : ByteArray) : PS := if thereE ps s [o, x] = 0 then (if thereV ps s [o, x] = o then putQ K M ps s x else ps) else ps

theorem thereE_cases (ps : PS) (s : ByteArray) (ss : List ByteArray) : thereE ps s ss = 0 ∨ thereE ps s ss = 2 ∨ thereE ps s ss = 5 := by
  unfold thereE
  rcases mayE_or s ss with e | e
  · rw [e]
    cases getP ps s <;> simp
  · rw [e]; simp

set_option maxRecDepth 100000 in
set_option maxHeartbeats 4000000 in
theorem swap_any {B b m : Nat} {v : Value} {K M : Nat} {ps : PS} (w : World) (h : BookAt w B b m v K M ps) (hn : ps.length < 90000) (hBs : B ≤ w.heap.size) (s o x : ByteArray) (hs : s.size ≤ 1000) (ho : o.size ≤ 1000) (hx : x.size ≤ 1000) :
    Calls Try.prog 47 #[.pointer (some ⟨b, 0, none⟩), .string s, .string o, .string x] w fun e w' => e = .returned (.int .i64 (swapE K M ps s o x)) ∧ ∃ v', BookAt w' B b m v' K M (swapQ K M ps s o x) ∧ Turned b m v w v' w' := by
  have hw1 := (Below.refl w.heap.size w).alloc (Nat.le_refl _) (Obj.cells #[.string o, .string x] 9)
  have HM := Lib.hid (there_any (w.alloc (.cells #[.string o, .string x] 9)) (h.below hw1) s (some ⟨w.heap.size, 0, none⟩) 2 2 [o, x] hs (isstrs2 (hasB_new rfl) ho hx) (by omega))
  have HB := Lib.hid (fun w' (hb : Below w.heap.size w w') => h.below hb)
  unfold swapE swapQ
  by_cases e0 : thereE ps s [o, x] = 0
  · rw [if_pos e0, if_pos e0]
    rw [e0] at HM
    by_cases e1 : thereV ps s [o, x] = o
    · rw [if_pos e1, if_pos e1]
      rw [e1] at HM
      clear h
      go_enter Try.func47, Try.ntmps47
      go_wp2_with (first
        | (go_at_call 76; refine HM.out.mono ?_; rintro e w3 ⟨rfl, hn1⟩; have hb3 := hw1.trans (hn1.mono (by simp)))
        | (go_at_call 48; refine (put_any _ (HB.out _ hb3) hn (by have := hb3.size; omega) s x hs hx).mono ?_; rintro e w4 ⟨rfl, v', k1, k2⟩))
      go_ret
      exact ⟨rfl, v', k1, Turned.trans (Turned.of_below hb3) k2⟩
    · rw [if_neg e1, if_neg e1]
      generalize thereV ps s [o, x] = t at HM e1
      have e3 : (!t.toList == o.toList) = true := by
        simp only [Bool.not_eq_true', beq_eq_false_iff_ne, ne_eq]
        rw [toList_by, toList_by]
        exact fun e => e1 (by_inj e)
      clear h
      go_enter Try.func47, Try.ntmps47
      go_wp2_with (go_at_call 76; refine HM.out.mono ?_; rintro e w3 ⟨rfl, hn1⟩; have hb3 := hw1.trans (hn1.mono (by simp)))
      go_ret
      exact ⟨rfl, v, HB.out _ hb3, Turned.of_below hb3⟩
  · rw [if_neg e0, if_neg e0]
    clear h
    rcases thereE_cases ps s [o, x] with e2 | e2 | e2
    · exact absurd e2 e0
    all_goals
      rw [e2] at HM ⊢
      go_enter Try.func47, Try.ntmps47
      go_wp2_with (go_at_call 76; refine HM.out.mono ?_; rintro e w3 ⟨rfl, hn1⟩; have hb3 := hw1.trans (hn1.mono (by simp)))
      go_ret
      exact ⟨rfl, v, HB.out _ hb3, Turned.of_below hb3⟩

theorem book_empty {w : World} {b m K M : Nat} (hb : b = w.heap.size) (hm : MapAt w m 0 (fun _ => none)) (hK : K < 2 ^ 64) (hM : M < 2 ^ 64) {B : Nat} (hB : B ≤ m) (hB2 : B ≤ b) :
    BookAt (w.alloc (.cells #[.slice none 0 0, .map (some m), .int .u64 K, .int .u64 M, .int .u64 0] 95)) B b m (.slice none 0 0) K M [] where
  hb := hB2
  hm := hB
  cells := by rw [hb]; exact World.alloc_heap_new _ _
  row := World.ownsRow_nil _ _ _ _
  map := ⟨fun _ => none, hm.block (Below.heap_alloc _ _ _ hm.lt), fun s _ => ⟨fun _ => rfl, fun u hu => by simp [getP] at hu⟩⟩
  sorted := List.Pairwise.nil
  small := fun p hp => by simp at hp
  keys := Nat.zero_le _
  bytes := Nat.zero_le _
  hK := hK
  hM := hM

set_option maxRecDepth 100000 in
theorem new_any (K M : Nat) (w : World) (hK : K < 2 ^ 64) (hM : M < 2 ^ 64) :
    Calls Try.prog 28 #[.agg #[.int .u64 K, .int .u64 M]] w fun e w' => ∃ b m, e = .returned (.pointer (some ⟨b, 0, none⟩)) ∧ BookAt w' w.heap.size b m (.slice none 0 0) K M [] ∧ Below w.heap.size w w' := by
  have hmm := @run_makeMap Try.prog
  go_enter Try.func28, Try.ntmps28
  go_wp2
  go_ret
  have hm : MapAt ((w.alloc (.cells #[.int .u64 K, .int .u64 M] 41)).alloc (.map #[] 0)) (w.heap.size + 1) 0 (fun _ => none) := by
    have := MapAt.made (w.alloc (.cells #[.int .u64 K, .int .u64 M] 41))
    simpa using this
  refine ⟨w.heap.size + 1 + 1, w.heap.size + 1, rfl, book_empty (by simp) hm hK hM (by omega) (by omega), ?_⟩
  exact (((Below.refl w.heap.size w).alloc (Nat.le_refl _) _).alloc (by simp) _).alloc (by simp; omega) _

end Go.Proofs.Ytgfhaldfjnepmaa
