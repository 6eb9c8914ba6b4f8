/- Walks: the art's New, Put, Get, Delete, Len. -/
import Derived.Test.YtegccicplcjcmaaArt6
import Derived.Test.YtegccicplcjcmaaCodeC8
import Derived.Deep.RegionWith
namespace Go.Proofs.Ytegccicplcjcmaa
open Go Go.RowKit Go.Shelf Go.Proofs Go.ChangeMaps Go.MapKept
attribute [local go_sem] Oper.semAt_some

/-- Storing in one step. -/
theorem MapAt.store {w : World} {m n : Nat} {f : ByteArray → Option Value} (h : MapAt w m n f) (hn : n < 100000) {t e : TypeId} (ht : Try.prog.underlying t = some (.map 9 e)) {s : ByteArray} (hs : s.size ≤ 1000) (val : Value) :
    ∃ es clock es' clock', w.heap[m]? = some (.map es clock) ∧ (Instr.mapUpdate t (.map (some m)) (.string s) val).run Try.prog w = .ok () (setBlock w m (.map es' clock')) ∧
      MapAt (setBlock w m (.map es' clock')) m (if (f s).isSome then n else n + 1) (putF f s val) := by
  obtain ⟨D, h, hT, hsz, hf⟩ := h
  obtain ⟨w', h1, h2, es, clock, es', clock', hb, rfl⟩ := h.store lawK ht (by unfold maxLen; omega) (val := val) (d := .held val) (ps := []) (kl_of (small_len hs)) rfl
  exact ⟨es, clock, es', clock', hb, h1, mapat_put hT hsz hf hs h2⟩

theorem small_putA {ps : PS} (h : ∀ p ∈ ps, p.1.size ≤ 1000 ∧ p.2.size ≤ 32) {s x : ByteArray} (hs : s.size ≤ 1000) (hx : x.size ≤ 32) : ∀ p ∈ putP ps s x, p.1.size ≤ 1000 ∧ p.2.size ≤ 32 := fun p hp => by
  rcases mem_putP.1 hp with rfl | ⟨h1, _⟩
  · exact ⟨hs, hx⟩
  · exact h p h1

theorem small_delA {ps : PS} (h : ∀ p ∈ ps, p.1.size ≤ 1000 ∧ p.2.size ≤ 32) (s : ByteArray) : ∀ p ∈ delP ps s, p.1.size ≤ 1000 ∧ p.2.size ≤ 32 := fun p hp => h p (mem_delP.1 hp).1

theorem art_look {B b m : Nat} {v : Value} {ps : PS} {w : World} (h : ArtAt w B b m v ps) {s : ByteArray} (hs : s.size ≤ 1000) :
    (Instr.lookup 37 (.map (some m)) (.string s) true).run Try.prog w = .ok (.tuple #[.agg #[.string ((getP ps s).getD ⟨#[]⟩)], .bool (getP ps s).isSome]) w ∧
    (Instr.lookup 37 (.map (some m)) (.string s) false).run Try.prog w = .ok (.agg #[.string ((getP ps s).getD ⟨#[]⟩)]) w := by
  obtain ⟨f, hf, hx⟩ := h.map
  have h1 := hf.look Try.underlying37 (Try.zeroValue74 w) hs
  have h2 := hf.look1 Try.underlying37 (Try.zeroValue74 w) hs
  cases hg : getP ps s with
  | none =>
    rw [(hx s hs).1 hg] at h1 h2
    exact ⟨h1, h2⟩
  | some u =>
    rw [(hx s hs).2 u hg] at h1 h2
    exact ⟨h1, h2⟩

set_option maxRecDepth 100000 in
theorem len_any {B b m : Nat} {v : Value} {ps : PS} (w : World) (h : ArtAt w B b m v ps) (hn : ps.length < 100000) :
    Calls Try.prog 24 #[.pointer (some ⟨b, 0, none⟩)] w fun e w' => e = .returned (.int .i64 (ps.length : Nat)) ∧ w' = w := by
  have HN := Lib.hid (none_any w h)
  obtain ⟨a, cap, rfl⟩ := row_slice h.row
  have h1 := h.cell.1
  clear h
  go_enter Try.func24, Try.ntmps24
  go_wp2_with (go_at_call 34; refine HN.out.mono ?_; rintro e w' ⟨rfl, rfl⟩)
  go_ret
  exact ⟨rfl, rfl⟩

def agetV (ps : PS) (s : ByteArray) : ByteArray := (getP ps s).getD ⟨#[]⟩

set_option maxRecDepth 100000 in
theorem aget_any {B b m : Nat} {v : Value} {ps : PS} (w : World) (h : ArtAt w B b m v ps) (s : ByteArray) (hs : s.size ≤ 1000) :
    Calls Try.prog 25 #[.pointer (some ⟨b, 0, none⟩), .string s] w fun e w' => e = .returned (.tuple #[.string (agetV ps s), .bool (getP ps s).isSome]) ∧ Below w.heap.size w w' := by
  have HN := Lib.hid (none_any w h)
  have h1 := h.cell.2.1
  have h2 := (art_look h hs).1
  unfold agetV
  generalize (getP ps s).getD ⟨#[]⟩ = u at h2 ⊢
  generalize (getP ps s).isSome = q at h2 ⊢
  clear h
  go_enter Try.func25, Try.ntmps25
  go_wp2_with (go_at_call 34; refine HN.out.mono ?_; rintro e w' ⟨rfl, rfl⟩)
  go_ret2
  exact ⟨rfl, (Below.refl _ _).alloc (Nat.le_refl _) _⟩


/-- Behind 'add': the map's entry is stored: the art is whole again. -/
theorem art_more {B b m : Nat} {v v' : Value} {ps : PS} {w w1 : World} (h : ArtAt w B b m v ps) {s x : ByteArray} (hs : s.size ≤ 1000) (hx : x.size ≤ 32) (hn : ps.length < 90000)
    (hc : w1.heap[b]? = some (.cells #[v', .map (some m)] 39 (0, 0))) (hr : Row w1 B v' (putP ps s x).length (keysP (putP ps s x))) (ht : Turned b b v w v' w1) :
    ∃ W, (Instr.mapUpdate 37 (.map (some m)) (.string s) (.agg #[.string x])).run Try.prog w1 = .ok () W ∧ ArtAt W B b m v' (putP ps s x) ∧ Turned b m v w v' W := by
  obtain ⟨f, hf, hfx⟩ := h.map
  have hap := h.apart
  have hlt := h.lt
  have hs1 := ht.size
  have hm1 : w1.heap[m]? = w.heap[m]? := ht.1.block m hlt.2 (Ne.symm hap.1) (Ne.symm hap.1) (Ne.symm hap.2.2)
  have hf1 : MapAt w1 m ps.length f := hf.block hm1
  obtain ⟨es0, clock0, es2, clock2, hom, h3, h4⟩ := hf1.store (by omega) Try.underlying37 hs (.agg #[.string x])
  generalize hW : setBlock w1 m (.map es2 clock2) = W at h3 h4
  have hWo : ∀ k, k ≠ m → W.heap[k]? = w1.heap[k]? := fun k hk => by rw [← hW, heap_setBlock_other hom _ hk]
  have hWs : W.heap.size = w1.heap.size := by rw [← hW]; simp [setBlock]
  have hvm : v'.ownBlock ≠ some m ∧ v'.ownBlock ≠ some b := by
    rcases ht.2 with e | e | ⟨k, e, hk⟩
    · rw [e]; exact ⟨hap.2.2, hap.2.1⟩
    · rw [e]; simp
    · rw [e]; constructor <;> (intro e2; cases e2; omega)
  have hos : W.os = w1.os ∧ W.tape = w1.tape ∧ W.output = w1.output := by rw [← hW]; exact ⟨rfl, rfl, rfl⟩
  refine ⟨W, h3, ?_, ?_⟩
  · refine { h with cells := (hWo b hap.1).trans hc, row := ?_, map := ⟨putF f s (.agg #[.string x]), ?_, ?_⟩, sorted := sorted_put h.sorted s x, small := small_putA h.small hs hx }
    · refine ⟨hr.1, ?_⟩
      rcases hr.2 with h5 | ⟨g, cap, cur, rfl, a, h6, r⟩
      · exact .inl h5
      · exact .inr ⟨g, cap, cur, rfl, a, (hWo g (by rintro rfl; exact hvm.1 rfl)).trans h6, r⟩
    · have hlen : (if (f s).isSome then ps.length else ps.length + 1) = (putP ps s x).length := by
        cases hg : getP ps s with
        | none =>
          rw [(hfx s hs).1 hg, (len_put_absent h.sorted x hg).1]; simp
        | some u =>
          rw [(hfx s hs).2 u hg, (len_put_present h.sorted x hg).1]; simp
      rw [← hlen]
      exact h4
    · intro t htz
      by_cases e : t = s
      · subst e
        rw [getP_put_same h.sorted]
        exact ⟨(fun e => by cases e), (fun u hu => by cases hu; simp [putF])⟩
      · rw [getP_put_other h.sorted _ e]
        exact ⟨(fun e2 => by simp [putF, e]; exact (hfx t htz).1 e2), fun u hu => by simp [putF, e]; exact (hfx t htz).2 u hu⟩
  · refine ⟨⟨hos.1.trans ht.1.os, hos.2.1.trans ht.1.tape, hos.2.2.trans ht.1.output, by omega, fun k hk a c d => ?_⟩, ht.2⟩
    rw [hWo k c]
    exact ht.1.block k hk a a d

theorem delP_absent {ps : PS} (h : SortedP ps) {s : ByteArray} (hg : getP ps s = none) : delP ps s = ps := by
  unfold delP
  refine List.filter_eq_self.2 fun p hp => ?_
  have : p.1 ≠ s := by
    rintro rfl
    have := getP_of_mem h hp
    rw [hg] at this; cases this
  simpa using this

/-- Behind 'drop': the map's entry goes. -/
theorem art_less {B b m : Nat} {v v' : Value} {ps : PS} {w w1 : World} (h : ArtAt w B b m v ps) {s u : ByteArray} (hs : s.size ≤ 1000) (hg : getP ps s = some u)
    (hc : w1.heap[b]? = some (.cells #[v', .map (some m)] 39 (0, 0))) (hr : Row w1 B v' (delP ps s).length (keysP (delP ps s))) (ht : Turned b b v w v' w1) (ty : TypeId) :
    ∃ W, (Builtin.delete_ #[37, 9] ty #[.map (some m), .string s]).run Try.prog w1 = .ok (.tuple #[]) W ∧ ArtAt W B b m v' (delP ps s) ∧ Turned b m v w v' W := by
  obtain ⟨f, hf, hfx⟩ := h.map
  have hap := h.apart
  have hlt := h.lt
  have hs1 := ht.size
  have hm1 : w1.heap[m]? = w.heap[m]? := ht.1.block m hlt.2 (Ne.symm hap.1) (Ne.symm hap.1) (Ne.symm hap.2.2)
  have hf1 : MapAt w1 m ps.length f := hf.block hm1
  obtain ⟨es2, clock2, h3, h4⟩ := hf1.drop Try.underlying37 ty hs
  obtain ⟨es0, clock0, hom⟩ := hf1.isMap
  generalize hW : setBlock w1 m (.map es2 clock2) = W at h3 h4
  have hWo : ∀ k, k ≠ m → W.heap[k]? = w1.heap[k]? := fun k hk => by rw [← hW, heap_setBlock_other hom _ hk]
  have hWs : W.heap.size = w1.heap.size := by rw [← hW]; simp [setBlock]
  have hvm : v'.ownBlock ≠ some m ∧ v'.ownBlock ≠ some b := by
    rcases ht.2 with e | e | ⟨k, e, hk⟩
    · rw [e]; exact ⟨hap.2.2, hap.2.1⟩
    · rw [e]; simp
    · rw [e]; constructor <;> (intro e2; cases e2; omega)
  have hos : W.os = w1.os ∧ W.tape = w1.tape ∧ W.output = w1.output := by rw [← hW]; exact ⟨rfl, rfl, rfl⟩
  have hl := len_del h.sorted hg
  refine ⟨W, h3, ?_, ?_⟩
  · refine { h with cells := (hWo b hap.1).trans hc, row := ?_, map := ⟨delF f s, ?_, ?_⟩, sorted := sorted_del h.sorted s, small := small_delA h.small s }
    · refine ⟨hr.1, ?_⟩
      rcases hr.2 with h5 | ⟨g, cap, cur, rfl, a, h6, r⟩
      · exact .inl h5
      · exact .inr ⟨g, cap, cur, rfl, a, (hWo g (by rintro rfl; exact hvm.1 rfl)).trans h6, r⟩
    · have hlen : (if (f s).isSome then ps.length - 1 else ps.length) = (delP ps s).length := by
        rw [(hfx s hs).2 u hg]; simp; omega
      rw [← hlen]
      exact h4
    · intro t htz
      by_cases e : t = s
      · subst e
        rw [getP_del_same]
        exact ⟨fun _ => by simp [delF], fun u hu => by cases hu⟩
      · rw [getP_del_other h.sorted e]
        exact ⟨(fun e2 => by simp [delF, e]; exact (hfx t htz).1 e2), fun u hu => by simp [delF, e]; exact (hfx t htz).2 u hu⟩
  · refine ⟨⟨hos.1.trans ht.1.os, hos.2.1.trans ht.1.tape, hos.2.2.trans ht.1.output, by omega, fun k hk a c d => ?_⟩, ht.2⟩
    rw [hWo k c]
    exact ht.1.block k hk a a d

theorem art_empty {w : World} {b m : Nat} (hb : b = w.heap.size) (hm : MapAt w m 0 (fun _ => none)) {B : Nat} (hB : B ≤ m) (hB2 : B ≤ b) :
    ArtAt (w.alloc (.cells #[.slice none 0 0, .map (some m)] 39)) B b m (.slice none 0 0) [] where
  hb := hB2
  hm := hB
  cells := by rw [hb]; exact World.alloc_heap_new _ _
  row := World.ownsRow_nil _ _ _ _
  map := ⟨fun _ => none, hm.block (Below.heap_alloc _ _ _ hm.lt), fun s _ => ⟨fun _ => rfl, fun u hu => by simp [getP] at hu⟩⟩
  sorted := List.Pairwise.nil
  small := fun p hp => by simp at hp

set_option maxRecDepth 100000 in
theorem anew_any (w : World) :
    Calls Try.prog 8 #[] w fun e w' => ∃ b m, e = .returned (.pointer (some ⟨b, 0, none⟩)) ∧ ArtAt w' w.heap.size b m (.slice none 0 0) [] ∧ Below w.heap.size w w' := by
  have hmm := @run_makeMap Try.prog
  go_enter Try.func8, Try.ntmps8
  go_wp2
  go_ret
  refine ⟨w.heap.size + 1, w.heap.size, rfl, art_empty (by simp) (MapAt.made w) (by omega) (by omega), ?_⟩
  exact ((Below.refl w.heap.size w).alloc (Nat.le_refl _) _).alloc (by simp) _

def aputE (s x : ByteArray) : Int := if decB s then (if x.size ≤ 32 then 0 else 3) else 2
def aputQ (ps : PS) (s x : ByteArray) : PS := if aputE s x = 0 then putP ps s x else ps

theorem aputE_cases (s x : ByteArray) : (decB s = true ∧ x.size ≤ 32 ∧ aputE s x = 0) ∨ (decB s = true ∧ ¬ x.size ≤ 32 ∧ aputE s x = 3) ∨ (decB s = false ∧ aputE s x = 2) := by
  unfold aputE
  cases decB s <;> by_cases h : x.size ≤ 32 <;> simp [h]

set_option maxRecDepth 100000 in
set_option maxHeartbeats 4000000 in
theorem aput_any {B b m : Nat} {v : Value} {ps : PS} (w : World) (h : ArtAt w B b m v ps) (hn : ps.length < 90000) (hBs : B ≤ w.heap.size) (s x : ByteArray) (hs : s.size ≤ 1000) (hx : x.size ≤ 1000) :
    Calls Try.prog 11 #[.pointer (some ⟨b, 0, none⟩), .string s, .string x] w fun e w' => e = .returned (.int .i64 (aputE s x)) ∧ ∃ v', ArtAt w' B b m v' (aputQ ps s x) ∧ Turned b m v w v' w' := by
  have HN := Lib.hid (none_any w h)
  have HI := Lib.hid (is_any s w (by omega))
  have HB := Lib.hid (fun w' (hb : Below w.heap.size w w') => h.below hb)
  unfold aputQ
  rcases aputE_cases s x with ⟨e1, e2, e3⟩ | ⟨e1, e2, e3⟩ | ⟨e1, e3⟩
  · rw [e3, if_pos rfl]
    rw [e1] at HI
    clear h e1 e3
    go_enter Try.func11, Try.ntmps11
    go_wp2_with (first
      | (go_at_call 34; refine HN.out.mono ?_; rintro e w' ⟨rfl, rfl⟩)
      | (go_at_call 35; refine HI.out.mono ?_; rintro e w3 ⟨rfl, hb3⟩)
      | (go_at_call 36
         refine (add_any _ (HB.out _ hb3) hn (by have := hb3.size; omega) s x).mono ?_
         rintro e w4 ⟨rfl, v', r1, r2, r3⟩
         have d1 : w4.cell? ⟨b, 1, none⟩ = some (.map (some m)) := by simp [World.cell?, r1]
         obtain ⟨W, k1, k4, k5⟩ := art_more (HB.out _ hb3) hs e2 hn r1 r2 r3))
    go_ret
    exact ⟨rfl, v', k4, Turned.trans (Turned.of_below hb3) k5⟩
  · rw [e3, if_neg (by decide)]
    rw [e1] at HI
    clear h e1 e3
    go_enter Try.func11, Try.ntmps11
    go_wp2_with (first
      | (go_at_call 34; refine HN.out.mono ?_; rintro e w' ⟨rfl, rfl⟩)
      | (go_at_call 35; refine HI.out.mono ?_; rintro e w3 ⟨rfl, hb3⟩))
    go_ret
    exact ⟨rfl, v, HB.out _ hb3, Turned.of_below hb3⟩
  · rw [e3, if_neg (by decide)]
    rw [e1] at HI
    clear h e1 e3
    go_enter Try.func11, Try.ntmps11
    go_wp2_with (first
      | (go_at_call 34; refine HN.out.mono ?_; rintro e w' ⟨rfl, rfl⟩)
      | (go_at_call 35; refine HI.out.mono ?_; rintro e w3 ⟨rfl, hb3⟩))
    go_ret
    exact ⟨rfl, v, HB.out _ hb3, Turned.of_below hb3⟩

def adelE (ps : PS) (s : ByteArray) : Int := if (getP ps s).isSome then 0 else 5

set_option maxRecDepth 100000 in
set_option maxHeartbeats 4000000 in
theorem adel_any {B b m : Nat} {v : Value} {ps : PS} (w : World) (h : ArtAt w B b m v ps) (hn : ps.length < 90000) (s : ByteArray) (hs : s.size ≤ 1000) :
    Calls Try.prog 44 #[.pointer (some ⟨b, 0, none⟩), .string s] w fun e w' => e = .returned (.int .i64 (adelE ps s)) ∧ ∃ v', ArtAt w' B b m v' (delP ps s) ∧ Turned b m v w v' w' := by
  have HN := Lib.hid (none_any w h)
  have h1 := h.cell.2.1
  have h2 := (art_look h hs).1
  unfold adelE
  have HBL := fun o => (Below.refl w.heap.size w).alloc (Nat.le_refl _) o
  cases hg : getP ps s with
  | none =>
    rw [hg] at h2
    simp only [Option.isSome_none, Bool.false_eq_true, if_false]
    have hd : delP ps s = ps := delP_absent h.sorted hg
    have hx := Lib.hid (fun o => h.below (HBL o))
    clear h
    go_enter Try.func44, Try.ntmps44
    go_wp2_with (go_at_call 34; refine HN.out.mono ?_; rintro e w' ⟨rfl, rfl⟩)
    go_ret
    exact ⟨rfl, v, by rw [hd]; exact hx.out _, Turned.of_below (HBL _)⟩
  | some u =>
    rw [hg] at h2
    simp only [Option.isSome_some, if_true]
    have hx := Lib.hid (fun o => h.below (HBL o))
    clear h
    go_enter Try.func44, Try.ntmps44
    go_wp2_with (first
      | (go_at_call 34; refine HN.out.mono ?_; rintro e w' ⟨rfl, rfl⟩)
      | (go_at_call 62
         refine (drop_any _ (hx.out _) hn s u hg).mono ?_
         rintro e w4 ⟨rfl, v', r1, r2, r3⟩
         have d1 : w4.cell? ⟨b, 1, none⟩ = some (.map (some m)) := by simp [World.cell?, r1]
         obtain ⟨W, k1, k4, k5⟩ := art_less (hx.out _) hs hg r1 r2 r3 0))
    go_ret
    exact ⟨rfl, v', k4, Turned.trans (Turned.of_below (HBL _)) k5⟩

end Go.Proofs.Ytegccicplcjcmaa
