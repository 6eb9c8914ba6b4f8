/- Walks: adding a key to the keys, dropping one. -/
import Derived.Test.YtgfhaldfjnepmaaBk8
namespace Go.Proofs.Ytgfhaldfjnepmaa
open Go Go.RowKit Go.Shelf Go.Proofs
attribute [local go_sem] Oper.semAt_some

theorem putP_length_keys (ps : PS) (s x : ByteArray) : (keysP (putP ps s x)).length = (putP ps s x).length := keysP_length _

theorem heap_alloc_at (w : World) (o : Obj) {k : Nat} {o' : Obj} (h : w.heap[k]? = some o') : (w.alloc o).heap[k]? = some o' := (Below.heap_alloc w o k (Array.getElem?_eq_some_iff.1 h).1).trans h

theorem grown_setCell (w : World) (a : Addr) (v : Value) : w.grownBy (w.setCell a v) (some a.block) :=
  ⟨rfl, rfl, rfl, by simp [World.setCell], fun k _ hk => Below.heap_setCell w a v k (fun e => hk (by rw [e]))⟩

theorem row_slice {w : World} {B n : Nat} {v : Value} {xs : List ByteArray} (h : Row w B v n xs) : ∃ a cap, v = .slice a n cap := by
  rcases row_get h with ⟨rfl, h0, _⟩ | ⟨g, cap, cur, rfl, _⟩
  · exact ⟨none, 0, by rw [h0]⟩
  · exact ⟨_, _, rfl⟩

theorem Row.grown {w w' : World} {B n : Nat} {v : Value} {xs : List ByteArray} {row : Option Nat} (h : Row w B v n xs) (hg : w.grownBy w' row) (hne : v.ownBlock = none ∨ v.ownBlock ≠ row) : Row w' B v n xs := World.ownsRow.kept h hg hne

set_option maxRecDepth 100000 in
set_option maxHeartbeats 1000000 in
theorem add_any {B b m : Nat} {v : Value} {K M : Nat} {ps : PS} (w : World) (h : BookAt w B b m v K M ps) (hn : ps.length < 90000) (hBs : B ≤ w.heap.size) (s x : ByteArray) :
    Calls Try.prog 79 #[.pointer (some ⟨b, 0, none⟩), .string s] w fun e w' => e = .returned (.tuple #[]) ∧ ∃ v', w'.heap[b]? = some (.cells #[v', .map (some m), .int .u64 K, .int .u64 M, .int .u64 (totP ps)] 95 (0, 0)) ∧
      Row w' B v' (putP ps s x).length (keysP (putP ps s x)) ∧ Turned b b v w v' w' := by
  have HF := Lib.hid (find_any w h (by omega) s)
  cases hg : getP ps s with
  | some u =>
    have HB := Lib.hid (fun w' (hb : Below w.heap.size w w') => h.below hb)
    have hl := (len_put_present h.sorted x hg).1
    have hk := keys_put_present h.sorted x hg
    rw [hg] at HF
    clear h
    go_enter Try.func79, Try.ntmps79
    go_wp2_with (go_at_call 63; refine HF.out.mono ?_; rintro e w' ⟨rfl, hn⟩)
    go_end0
    exact ⟨rfl, v, (HB.out _ hn).cells, by rw [hl, hk]; exact (HB.out _ hn).row, Turned.of_below hn⟩
  | none =>
    have hl := (len_put_absent h.sorted x hg).1
    have hk := keys_put_absent h.sorted x hg
    rw [hg] at HF
    have hap := h.apart.2.1
    have HB := Lib.hid (fun w' (hb : Below w.heap.size w w') => And.intro (h.below hb).cells (And.intro (h.below hb).cell.1 (And.intro ((h.below hb).cell.2.2.2.2.2 0) (h.below hb).row)))
    have HLT := Lib.hid h.lt.1
    have HOLT := Lib.hid (fun k hk => (h.row.lt k hk).2)
    clear h
    go_enter Try.func79, Try.ntmps79
    go_wp2_with (first
      | (go_at_call 63; refine HF.out.mono ?_; rintro e w' ⟨rfl, hn1⟩; obtain ⟨c0, c1, c2, c3⟩ := HB.out w' hn1)
      | (go_at_call 110
         refine (insert_any B v ps.length (posP ps s) w'.heap.size (keysP ps) s _ (Row.grown c3 (World.grownBy_alloc w' (Obj.cells #[.string s] 9) none) (by cases v.ownBlock <;> simp)) (by have := hn1.size; simp; omega) (posP_le ps s) (by omega) (World.alloc_heap_new _ _)
           (by intro e; have := HOLT.out _ e; have := hn1.size; omega)).mono ?_
         rintro e w'' ⟨v', rfl, hrow, hgr, hown⟩
         obtain ⟨a', cap', rfl⟩ := row_slice hrow
         have hb2 : w''.heap[b]? = some (.cells #[v, .map (some m), .int .u64 K, .int .u64 M, .int .u64 (totP ps)] 95 (0, 0)) := by
           rw [hgr.block b (by have := HLT.out; have := hn1.size; simp; omega) (Ne.symm hap)]
           exact heap_alloc_at _ _ c0
         have d1 : w''.cell? ⟨b, 0, none⟩ = some v := by simp [World.cell?, hb2]
         have d2 : w''.frozen? ⟨b, 0, none⟩ = false := by simp [World.frozen?, hb2]))
    go_end0
    have hsz := hgr.size
    simp at hsz
    have hn1s := hn1.size
    have hlt := HLT.out
    refine ⟨rfl, .slice a' (ps.length + 1) cap', ?_, ?_, ?_, ?_⟩
    · rw [heap_setCell_same hb2 0 _]; rfl
    · rw [hl, hk]
      refine Row.grown hrow (grown_setCell _ _ _) ?_
      rcases hown with e | e
      · exact .inr (by rw [e]; exact hap)
      · exact .inr (by rw [e]; intro e2; simp at e2; omega)
    · have g1 : Kept b b v.ownBlock w w' := Kept.of_below hn1
      have g2 : Kept b b v.ownBlock w' w'' := ⟨hgr.os, hgr.tape, hgr.output, by omega, fun k hk _ _ h3 => (hgr.block k (by simp; omega) h3).trans (Below.heap_alloc _ _ _ hk)⟩
      have g3 := grown_setCell w'' ⟨b, 0, none⟩ (.slice a' (ps.length + 1) cap')
      refine ⟨g3.os.trans (g2.os.trans g1.os), g3.tape.trans (g2.tape.trans g1.tape), g3.output.trans (g2.output.trans g1.output), by have := g3.size; have := g2.size; have := g1.size; omega, fun k hk h1 h2 h3 => ?_⟩
      exact (g3.block k (by have := g2.size; omega) (fun e => h1 (by simpa using e))).trans ((g2.block k (by omega) h1 h2 h3).trans (g1.block k hk h1 h2 h3))
    · rcases hown with e | e
      · exact .inl e
      · exact .inr (.inr ⟨_, e, by simp; omega⟩)

set_option maxRecDepth 100000 in
set_option maxHeartbeats 1000000 in
theorem drop_any {B b m : Nat} {v : Value} {K M : Nat} {ps : PS} (w : World) (h : BookAt w B b m v K M ps) (hn : ps.length < 90000) (s u : ByteArray) (hg : getP ps s = some u) :
    Calls Try.prog 77 #[.pointer (some ⟨b, 0, none⟩), .string s] w fun e w' => e = .returned (.tuple #[]) ∧ ∃ v', w'.heap[b]? = some (.cells #[v', .map (some m), .int .u64 K, .int .u64 M, .int .u64 (totP ps)] 95 (0, 0)) ∧
      Row w' B v' (delP ps s).length (keysP (delP ps s)) ∧ Turned b b v w v' w' := by
  have HF := Lib.hid (find_any w h (by omega) s)
  have hl := (len_del h.sorted hg).1
  have hk := keys_del h.sorted hg
  have hpos : posP ps s < ps.length := by
    have := (key_there h.sorted s).1 ⟨u, hg⟩
    have := (List.getElem?_eq_some_iff.1 this).1
    rw [keysP_length] at this; exact this
  rw [hg] at HF
  have hap := h.apart.2.1
  obtain ⟨g, cap, rfl⟩ : ∃ g cap, v = .slice (some ⟨g, 0, none⟩) ps.length cap := by
    rcases row_get h.row with ⟨rfl, h0, _⟩ | ⟨g, cap, cur, rfl, _⟩
    · omega
    · exact ⟨_, _, rfl⟩
  have HB := Lib.hid (fun w' (hb : Below w.heap.size w w') => And.intro (h.below hb).cells (And.intro (h.below hb).cell.1 (And.intro ((h.below hb).cell.2.2.2.2.2 0) (h.below hb).row)))
  have HLT := Lib.hid h.lt.1
  have HOLT := Lib.hid (h.row.lt g rfl).2
  clear h
  go_enter Try.func77, Try.ntmps77
  go_wp2_with (first
    | (go_at_call 63; refine HF.out.mono ?_; rintro e w' ⟨rfl, hn1⟩; obtain ⟨c0, c1, c2, c3⟩ := HB.out w' hn1)
    | (go_at_call 109
       refine (delete_any B g ps.length cap (posP ps s) (keysP ps) _ c3 hpos).mono ?_
       rintro e w'' ⟨rfl, hrow, hgr⟩
       have hb2 : w''.heap[b]? = some (.cells #[.slice (some ⟨g, 0, none⟩) ps.length cap, .map (some m), .int .u64 K, .int .u64 M, .int .u64 (totP ps)] 95 (0, 0)) := by
         rw [hgr.block b (by have := HLT.out; have := hn1.size; omega) (Ne.symm hap)]
         exact c0
       have d1 : w''.cell? ⟨b, 0, none⟩ = some (.slice (some ⟨g, 0, none⟩) ps.length cap) := by simp [World.cell?, hb2]
       have d2 : w''.frozen? ⟨b, 0, none⟩ = false := by simp [World.frozen?, hb2]))
  go_end0
  have hsz := hgr.size
  have hn1s := hn1.size
  have hlt := HLT.out
  refine ⟨rfl, .slice (some ⟨g, 0, none⟩) (ps.length - 1) cap, ?_, ?_, ?_, ?_⟩
  · rw [heap_setCell_same hb2 0 _]; rfl
  · rw [show (delP ps s).length = ps.length - 1 from by omega, hk]
    exact Row.grown hrow (grown_setCell _ _ _) (.inr hap)
  · have g1 : Kept b b (some g) w w' := Kept.of_below hn1
    have g2 : Kept b b (some g) w' w'' := ⟨hgr.os, hgr.tape, hgr.output, hsz, fun k hk _ _ h3 => hgr.block k hk h3⟩
    have g3 := grown_setCell w'' ⟨b, 0, none⟩ (.slice (some ⟨g, 0, none⟩) (ps.length - 1) cap)
    refine ⟨g3.os.trans (g2.os.trans g1.os), g3.tape.trans (g2.tape.trans g1.tape), g3.output.trans (g2.output.trans g1.output), by have := g3.size; have := g2.size; have := g1.size; omega, fun k hk h1 h2 h3 => ?_⟩
    exact (g3.block k (by have := g2.size; omega) (fun e => h1 (by simpa using e))).trans ((g2.block k (by omega) h1 h2 h3).trans (g1.block k hk h1 h2 h3))
  · exact .inl rfl

end Go.Proofs.Ytgfhaldfjnepmaa
