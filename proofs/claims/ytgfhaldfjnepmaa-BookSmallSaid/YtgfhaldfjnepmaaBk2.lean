/- A map from strings, read as a function: storing in two steps (entry, then value), looking up, deleting. -/
import Derived.Test.YtgfhaldfjnepmaaBase
import Derived.Test.YtgfhaldfjnepmaaProg
import Derived.Maps.OwnSet
import Derived.WideKeyEntry
namespace Go.Proofs.Ytgfhaldfjnepmaa
open Go Go.RowKit Go.Shelf Go.Proofs Go.ChangeMaps Go.MapKept
open Go.Maps (Keyed IsMap Tidy)

def Rv (v : Value) : Option (DataW Value × List MemPlace) := some (.held v, [])
def kl (s : ByteArray) : Lit := .string s.data.toList
theorem kl_inj {s t : ByteArray} (h : kl s = kl t) : s = t := by
  unfold kl at h
  simp only [Lit.string.injEq] at h
  exact by_inj h
theorem kl_key (s : ByteArray) : WideAt.IsKeyLit (kl s) := by simp [WideAt.IsKeyLit, kl]
theorem kl_of {s : ByteArray} (h : s.size ≤ maxLen) : keyOf Try.prog 9 (.string s) = some (kl s) := WideMaps.keyOf_string_mk Try.underlying9 h
theorem lawK : Keyed Try.prog 9 := Maps.string_keyed Try.underlying9
theorem lawKL : WideMaps.KeyLaw Try.prog 9 := WideMaps.string_law Try.underlying9

/-- Block m is a map of n entries; under the key s lies f s. -/
def MapAt (w : World) (m n : Nat) (f : ByteArray → Option Value) : Prop :=
  ∃ D, w.ownsMap Try.prog 9 Rv m n D ∧ Tidy D ∧ Maps.size D = n ∧ ∀ s, s.size ≤ 1000 → (∀ z, D.atKey (kl s) (.held z) = .held ((f s).getD z)) ∧ Maps.has D (kl s) = (f s).isSome

theorem small_len {s : ByteArray} (h : s.size ≤ 1000) : s.size ≤ maxLen := by unfold maxLen; omega

theorem ownsMap_tight {w : World} {m n : Nat} {D : DataW Value} (h : w.ownsMap Try.prog 9 Rv m n D) : w.ownsMap Try.prog 9 Rv m (Maps.size D) D := by
  obtain ⟨es, clock, hb, F, _, rfl⟩ := h
  refine ⟨es, clock, hb, F, ?_, rfl⟩
  simp [Maps.size, length_sorted]

theorem MapAt.made (w : World) : MapAt (w.alloc (.map #[] 0)) w.heap.size 0 (fun _ => none) :=
  ⟨.map [], World.ownsMap_made w _ _ _, Maps.tidy_empty, rfl, fun s _ => ⟨fun z => rfl, rfl⟩⟩

theorem MapAt.lt {w : World} {m n : Nat} {f : ByteArray → Option Value} (h : MapAt w m n f) : m < w.heap.size := by
  obtain ⟨D, h, _⟩ := h
  exact h.lt

theorem MapAt.block {w w' : World} {m n : Nat} {f : ByteArray → Option Value} (h : MapAt w m n f) (hb : w'.heap[m]? = w.heap[m]?) : MapAt w' m n f := by
  obtain ⟨D, ⟨es, clock, hh, r⟩, r2⟩ := h
  exact ⟨D, ⟨es, clock, hb.trans hh, r⟩, r2⟩

theorem MapAt.isMap {w : World} {m n : Nat} {f : ByteArray → Option Value} (h : MapAt w m n f) : ∃ es clock, w.heap[m]? = some (.map es clock) := by
  obtain ⟨D, ⟨es, clock, hh, _⟩, _⟩ := h
  exact ⟨es, clock, hh⟩

theorem MapAt.copy {w w' : World} {m m' n : Nat} {f : ByteArray → Option Value} (h : MapAt w m n f) {es : Array MapEntry} {clock : Nat} (he : w.heap[m]? = some (.map es clock)) (hb : w'.heap[m']? = some (.map es clock)) : MapAt w' m' n f := by
  obtain ⟨D, ⟨es', clock', hh, r⟩, r2⟩ := h
  rw [he] at hh; cases hh
  exact ⟨D, ⟨es, clock, hb, r⟩, r2⟩

/-- Looking up. -/
theorem MapAt.look {w : World} {m n : Nat} {f : ByteArray → Option Value} (h : MapAt w m n f) {t e : TypeId} (ht : Try.prog.underlying t = some (.map 9 e)) {z : Value} (hz : (zeroValue e).run Try.prog w = .ok z w) {s : ByteArray} (hs : s.size ≤ 1000) :
    (Instr.lookup t (.map (some m)) (.string s) true).run Try.prog w = .ok (.tuple #[(f s).getD z, .bool (f s).isSome]) w := by
  obtain ⟨D, h, _, _, hf⟩ := h
  obtain ⟨v, ps, h1, h2⟩ := h.look_ok lawK ht hz (zd := .held z) (zp := []) rfl (kl_of (small_len hs))
  rw [(hf s hs).1 z, Rv] at h2
  simp only [Option.some.injEq, Prod.mk.injEq, DataW.held.injEq] at h2
  rw [h1, h2.1, (hf s hs).2]

theorem MapAt.look1 {w : World} {m n : Nat} {f : ByteArray → Option Value} (h : MapAt w m n f) {t e : TypeId} (ht : Try.prog.underlying t = some (.map 9 e)) {z : Value} (hz : (zeroValue e).run Try.prog w = .ok z w) {s : ByteArray} (hs : s.size ≤ 1000) :
    (Instr.lookup t (.map (some m)) (.string s) false).run Try.prog w = .ok ((f s).getD z) w := by
  obtain ⟨D, h, _, _, hf⟩ := h
  obtain ⟨v, ps, h1, h2⟩ := h.lookup lawK ht hz (zd := .held z) (zp := []) rfl (kl_of (small_len hs))
  rw [(hf s hs).1 z, Rv] at h2
  simp only [Option.some.injEq, Prod.mk.injEq, DataW.held.injEq] at h2
  rw [h1, h2.1]

/-- What a store leaves. -/
def putF (f : ByteArray → Option Value) (s : ByteArray) (v : Value) : ByteArray → Option Value := fun t => if t = s then some v else f t
def delF (f : ByteArray → Option Value) (s : ByteArray) : ByteArray → Option Value := fun t => if t = s then none else f t

theorem mapat_put {D : DataW Value} {w : World} {m n : Nat} {f : ByteArray → Option Value} (hT : Tidy D) (hn : Maps.size D = n) (hf : ∀ s, s.size ≤ 1000 → (∀ z, D.atKey (kl s) (.held z) = .held ((f s).getD z)) ∧ Maps.has D (kl s) = (f s).isSome)
    {s : ByteArray} (hs : s.size ≤ 1000) {v : Value} {n' : Nat} (h : w.ownsMap Try.prog 9 Rv m n' (D.put (kl s) (.held v))) :
    MapAt w m (if (f s).isSome then n else n + 1) (putF f s v) := by
  have hsz := Maps.size_put (k := kl s) hT (.held v)
  rw [(hf s hs).2, hn] at hsz
  refine ⟨_, by rw [← hsz]; exact ownsMap_tight h, hT.put (kl_key s) _, hsz, fun t ht => ?_⟩
  by_cases e : t = s
  · subst e
    refine ⟨fun z => ?_, ?_⟩
    · rw [Maps.atKey_put_same hT.isMap (kl_key t)]; simp [putF]
    · rw [Maps.has_put_same hT.isMap (kl_key t)]; simp [putF]
  · have e2 : kl t ≠ kl s := fun h => e (kl_inj h)
    refine ⟨fun z => ?_, ?_⟩
    · rw [Maps.atKey_put_other e2, (hf t ht).1 z]; simp [putF, e]
    · rw [Maps.has_put_other e2, (hf t ht).2]; simp [putF, e]

/-- Storing, in two steps. -/
theorem MapAt.entry {w : World} {m n : Nat} {f : ByteArray → Option Value} (h : MapAt w m n f) (hn : n < 100000) {t e : TypeId} (ht : Try.prog.underlying t = some (.map 9 e)) {z : Value} (hz : ∀ u : World, (zeroValue e).run Try.prog u = .ok z u) {s : ByteArray} (hs : s.size ≤ 1000) :
    ∃ (v0 : Value) (st : Nat) (es1 : Array MapEntry) (clock1 : Nat), (Instr.mapEntry t (.map (some m)) (.string s)).run Try.prog w = .ok (.tuple #[v0, goInt st]) (setBlock w m (.map es1 clock1)) ∧
      ∀ (w2 : World) (val : Value), w2.heap[m]? = some (.map es1 clock1) → ∃ es' clock', (Instr.entryStore t (.map (some m)) (goInt st) val).run Try.prog w2 = .ok () (setBlock w2 m (.map es' clock')) ∧
        MapAt (setBlock w2 m (.map es' clock')) m (if (f s).isSome then n else n + 1) (putF f s val) := by
  obtain ⟨D, h, hT, hsz, hf⟩ := h
  obtain ⟨es, clock, hb, F, hle, hD⟩ := id h
  obtain ⟨v0, st, es1, clock1, h1, _, h3⟩ := WideElems.entry_then_store lawKL ht hz hb F (kl_of (small_len hs))
  refine ⟨v0, st, es1, clock1, h1, fun w2 val hw2 => ?_⟩
  obtain ⟨es', clock', h4, h5⟩ := h3 w2 val hw2
  refine ⟨es', clock', h4, ?_⟩
  obtain ⟨w', h6, h7, _⟩ := h.store lawK ht (by unfold maxLen; omega) (val := val) (d := .held val) (ps := []) (kl_of (small_len hs)) rfl
  rw [h5] at h6
  cases h6
  have := mapat_put hT hsz hf hs h7
  have hblk : (setBlock w2 m (.map es' clock')).heap[m]? = (setBlock w m (.map es' clock')).heap[m]? := by
    rw [heap_setBlock_same hb _, heap_setBlock_same hw2 _]
  exact this.block hblk

/-- Deleting. -/
theorem MapAt.drop {w : World} {m n : Nat} {f : ByteArray → Option Value} (h : MapAt w m n f) {t e : TypeId} (ht : Try.prog.underlying t = some (.map 9 e)) (ty : TypeId) {s : ByteArray} (hs : s.size ≤ 1000) :
    ∃ es' clock', (Builtin.delete_ #[t, 9] ty #[.map (some m), .string s]).run Try.prog w = .ok (.tuple #[]) (setBlock w m (.map es' clock')) ∧
      MapAt (setBlock w m (.map es' clock')) m (if (f s).isSome then n - 1 else n) (delF f s) := by
  obtain ⟨D, h, hT, hsz, hf⟩ := h
  obtain ⟨w', h1, h2, es, clock, es', clock', hb, rfl⟩ := h.drop lawK ht (kl_of (small_len hs)) ty
  refine ⟨es', clock', h1, ?_⟩
  have hsz2 := Maps.size_del (k := kl s) hT
  rw [(hf s hs).2, hsz] at hsz2
  have hsz3 : Maps.size (D.del (kl s)) = (if (f s).isSome then n - 1 else n) := by
    split at hsz2 <;> simp_all <;> omega
  refine ⟨_, by rw [← hsz3]; exact ownsMap_tight h2, hT.del _, hsz3, fun u hu => ?_⟩
  by_cases e : u = s
  · subst e
    refine ⟨fun z => ?_, ?_⟩
    · rw [Maps.atKey_del_same]; simp [delF]
    · rw [Maps.has_del_same]; simp [delF]
  · have e2 : kl u ≠ kl s := fun h => e (kl_inj h)
    refine ⟨fun z => ?_, ?_⟩
    · rw [Maps.atKey_del_other e2, (hf u hu).1 z]; simp [delF, e]
    · rw [Maps.has_del_other e2, (hf u hu).2]; simp [delF, e]

end Go.Proofs.Ytgfhaldfjnepmaa
