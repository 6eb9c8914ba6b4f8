/- Walk: Put. -/
import Derived.Test.YtgfhaldfjnepmaaBk9
import Derived.BigQuiet
import Derived.Lib.ConvBytes
namespace Go.Proofs.Ytgfhaldfjnepmaa
open Go Go.RowKit Go.Shelf Go.Proofs Go.ChangeMaps Go.MapKept
attribute [local go_sem] Oper.semAt_some

theorem mayE_zero {s : ByteArray} {ss : List ByteArray} : mayE s ss = 0 ↔ s.size ≤ 16 ∧ ∀ u ∈ ss, u.size ≤ 32 := by
  unfold mayE shortB
  simp

def putE (K M : Nat) (ps : PS) (s x : ByteArray) : Int := if mayE s [x] = 0 then (if K < (putP ps s x).length ∨ M < totP (putP ps s x) then 10 else 0) else 2
def putQ (K M : Nat) (ps : PS) (s x : ByteArray) : PS := if putE K M ps s x = 0 then putP ps s x else ps

theorem small_put {ps : PS} (h : ∀ p ∈ ps, p.1.size ≤ 16 ∧ p.2.size ≤ 32) {s x : ByteArray} (hs : s.size ≤ 16) (hx : x.size ≤ 32) : ∀ p ∈ putP ps s x, p.1.size ≤ 16 ∧ p.2.size ≤ 32 := by
  intro p hp
  rcases mem_putP.1 hp with rfl | ⟨a, _⟩
  · exact ⟨hs, hx⟩
  · exact h p a

theorem bytesAt_new (w : World) (s : ByteArray) : BytesAt (Lib.bytesWorld w 5 s) (.slice (some ⟨w.heap.size, 0, none⟩) s.size (grownCap w s.size 0 5)) s := by
  refine ⟨_, _, _, _, rfl, Lib.bytesWorld_at_new w _ s, fun j hj => ?_⟩
  simp only [Array.length_toList] at hj
  simp only [Lib.bytesCells, Array.getElem?_append]
  rw [if_pos (by simpa using hj)]
  simp
  exact ⟨_, Array.getElem?_eq_getElem hj, rfl⟩

/-- Region 13: the value's bytes, the entry, the store, the total: the book is whole again. -/
theorem book_whole {B b m : Nat} {v v' : Value} {K M : Nat} {ps : PS} {w w1 : World} (h : BookAt w B b m v K M ps) (hn : ps.length < 90000) {s x : ByteArray} (hs : s.size ≤ 16) (hx : x.size ≤ 32)
    (hK : (putP ps s x).length ≤ K) (hM : totP (putP ps s x) ≤ M)
    (hc : w1.heap[b]? = some (.cells #[v', .map (some m), .int .u64 K, .int .u64 M, .int .u64 (totP ps)] 95 (0, 0))) (hr : Row w1 B v' (putP ps s x).length (keysP (putP ps s x))) (ht : Turned b b v w v' w1) :
    ∃ (v0 : Value) (st : Nat) (es1 : Array MapEntry) (clock1 : Nat) (es2 : Array MapEntry) (clock2 : Nat),
      (Instr.mapEntry 91 (.map (some m)) (.string s)).run Try.prog (Lib.bytesWorld w1 5 x) = .ok (.tuple #[v0, goInt st]) (setBlock (Lib.bytesWorld w1 5 x) m (.map es1 clock1)) ∧
      (Instr.entryStore 91 (.map (some m)) (goInt st) (.slice (some ⟨w1.heap.size, 0, none⟩) x.size (grownCap w1 x.size 0 5))).run Try.prog (setBlock (Lib.bytesWorld w1 5 x) m (.map es1 clock1)) =
        .ok () (setBlock (setBlock (Lib.bytesWorld w1 5 x) m (.map es1 clock1)) m (.map es2 clock2)) ∧
      (setBlock (setBlock (Lib.bytesWorld w1 5 x) m (.map es1 clock1)) m (.map es2 clock2)).cell? ⟨b, 4, none⟩ = some (.int .u64 (totP ps)) ∧
      (setBlock (setBlock (Lib.bytesWorld w1 5 x) m (.map es1 clock1)) m (.map es2 clock2)).frozen? ⟨b, 4, none⟩ = false ∧
      BookAt ((setBlock (setBlock (Lib.bytesWorld w1 5 x) m (.map es1 clock1)) m (.map es2 clock2)).setCell ⟨b, 4, none⟩ (.int .u64 (totP (putP ps s x)))) B b m v' K M (putP ps s x) ∧
      Turned b m v w v' ((setBlock (setBlock (Lib.bytesWorld w1 5 x) m (.map es1 clock1)) m (.map es2 clock2)).setCell ⟨b, 4, none⟩ (.int .u64 (totP (putP ps s x)))) := by
  obtain ⟨f, hf, hfx⟩ := h.map
  have hap := h.apart
  have hlt := h.lt
  have hs1 := ht.size
  have hm1 : w1.heap[m]? = w.heap[m]? := ht.1.block m hlt.2 (Ne.symm hap.1) (Ne.symm hap.1) (Ne.symm hap.2.2)
  have hf1 : MapAt (Lib.bytesWorld w1 5 x) m ps.length f := hf.block ((Lib.bytesWorld_at_old w1 _ x m (by omega)).trans hm1)
  obtain ⟨v0, st, es1, clock1, h1, h2⟩ := hf1.entry (by omega) Try.underlying91 (fun u => Try.zeroValue74 u) (s := s) (by omega)
  obtain ⟨es0, clock0, hom⟩ := hf1.isMap
  obtain ⟨es2, clock2, h3, h4⟩ := h2 (setBlock (Lib.bytesWorld w1 5 x) m (.map es1 clock1)) (.slice (some ⟨w1.heap.size, 0, none⟩) x.size (grownCap w1 x.size 0 5)) (heap_setBlock_same hom _)
  generalize hW : setBlock (setBlock (Lib.bytesWorld w1 5 x) m (.map es1 clock1)) m (.map es2 clock2) = W at h3 h4
  have hWo : ∀ k, k ≠ m → W.heap[k]? = (Lib.bytesWorld w1 5 x).heap[k]? := fun k hk => by
    rw [← hW, heap_setBlock_other (heap_setBlock_same hom _) _ hk, heap_setBlock_other hom _ hk]
  have hWs : W.heap.size = w1.heap.size + 1 := by rw [← hW]; simp [setBlock, Lib.bytesWorld_size]
  have hWb : W.heap[b]? = some (.cells #[v', .map (some m), .int .u64 K, .int .u64 M, .int .u64 (totP ps)] 95 (0, 0)) := by
    rw [hWo b hap.1, Lib.bytesWorld_at_old w1 _ x b (by omega)]; exact hc
  have hvm : v'.ownBlock ≠ some m ∧ v'.ownBlock ≠ some b := by
    rcases ht.2 with e | e | ⟨k, e, hk⟩
    · rw [e]; exact ⟨hap.2.2, hap.2.1⟩
    · rw [e]; simp
    · rw [e]; constructor <;> (intro e2; cases e2; omega)
  have hgrow : ∀ k, k < w1.heap.size → k ≠ m → k ≠ b → (W.setCell ⟨b, 4, none⟩ (.int .u64 (totP (putP ps s x)))).heap[k]? = w1.heap[k]? := fun k hk h1 h2 => by
    rw [Below.heap_setCell _ _ _ _ (by simpa using h2), hWo k h1, Lib.bytesWorld_at_old w1 _ x k hk]
  have hos : W.os = w1.os ∧ W.tape = w1.tape ∧ W.output = w1.output := by rw [← hW]; exact ⟨rfl, rfl, rfl⟩
  have hnew : (W.setCell ⟨b, 4, none⟩ (.int .u64 (totP (putP ps s x)))).heap[w1.heap.size]? = (Lib.bytesWorld w1 5 x).heap[w1.heap.size]? := by
    rw [Below.heap_setCell _ _ _ _ (by simp; omega), hWo _ (by omega)]
  refine ⟨v0, st, es1, clock1, es2, clock2, h1, by rw [hW]; exact h3, ?_⟩
  rw [hW]
  refine ⟨by simp [World.cell?, hWb], by simp [World.frozen?, hWb], ?_, ?_⟩
  · refine { h with cells := ?_, row := ?_, map := ⟨putF f s (.slice (some ⟨w1.heap.size, 0, none⟩) x.size (grownCap w1 x.size 0 5)), ?_, ?_⟩, sorted := sorted_put h.sorted s x, small := small_put h.small hs hx, keys := hK, bytes := hM }
    · rw [heap_setCell_same hWb]; rfl
    · refine ⟨hr.1, ?_⟩
      rcases hr.2 with h5 | ⟨g, cap, cur, rfl, a, h6, r⟩
      · exact .inl h5
      · refine .inr ⟨g, cap, cur, rfl, a, ?_, r⟩
        rw [hgrow g (Array.getElem?_eq_some_iff.1 h6).1 (by rintro rfl; exact hvm.1 rfl) (by rintro rfl; exact hvm.2 rfl)]
        exact h6
    · have hlen : (if (f s).isSome then ps.length else ps.length + 1) = (putP ps s x).length := by
        cases hg : getP ps s with
        | none => rw [(hfx s (by omega)).1 hg, (len_put_absent h.sorted x hg).1]; rfl
        | some u =>
          obtain ⟨y, hy, _⟩ := (hfx s (by omega)).2 u hg
          rw [hy, (len_put_present h.sorted x hg).1]; rfl
      rw [← hlen]
      exact h4.block (Below.heap_setCell _ _ _ _ (Ne.symm hap.1))
    · intro t htz
      by_cases e : t = s
      · subst e
        rw [getP_put_same h.sorted]
        refine ⟨(fun e => by cases e), fun u hu => ?_⟩
        cases hu
        refine ⟨_, (by simp [putF]; rfl), ?_⟩
        obtain ⟨a, cap, cur, fz, e1, e2, e3⟩ := bytesAt_new w1 x
        refine ⟨a, cap, cur, fz, e1, ?_, e3⟩
        cases e1
        rw [hnew]; exact e2
      · rw [getP_put_other h.sorted x e]
        refine ⟨(fun e2 => by simp [putF, e]; exact (hfx t htz).1 e2), fun u hu => ?_⟩
        obtain ⟨y, hy, hb⟩ := (hfx t htz).2 u hu
        refine ⟨y, (by simp [putF, e]; exact hy), hb.stay (fun g cur fz hg => ?_)⟩
        have hg2 := Turned.cells_stay (m := m) h ⟨⟨ht.1.os, ht.1.tape, ht.1.output, ht.1.size, fun k a c _ d => ht.1.block k a c c d⟩, ht.2⟩ hg (by decide) (by decide)
        rw [hgrow g (Array.getElem?_eq_some_iff.1 hg2).1 ?_ ?_]
        · exact hg2
        · rintro rfl
          obtain ⟨es, clock, hm⟩ := hf.isMap
          rw [hm] at hg; cases hg
        · rintro rfl
          rw [h.cells] at hg; cases hg
  · refine ⟨⟨hos.1.trans ht.1.os, hos.2.1.trans ht.1.tape, hos.2.2.trans ht.1.output, by simp [World.setCell]; omega, fun k hk a c d => ?_⟩, ht.2⟩
    rw [hgrow k (by omega) c a]
    exact ht.1.block k hk a a d

end Go.Proofs.Ytgfhaldfjnepmaa
