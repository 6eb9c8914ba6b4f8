/- Walk: Delete. -/
import Derived.Test.YtgfhaldfjnepmaaBk11
import Derived.Deep.RegionWith
namespace Go.Proofs.Ytgfhaldfjnepmaa
open Go Go.RowKit Go.Shelf Go.Proofs Go.ChangeMaps Go.MapKept
attribute [local go_sem] Oper.semAt_some

def delQ (ps : PS) (s : ByteArray) : PS := if getE ps s = 0 then delP ps s else ps

theorem getE_zero {ps : PS} {s : ByteArray} : getE ps s = 0 ↔ s.size ≤ 16 ∧ ∃ u, getP ps s = some u := by
  unfold getE thereE
  by_cases e : mayE s [] = 0
  · have := (mayE_zero.1 e).1
    rw [if_pos e]
    cases getP ps s <;> simp [this]
  · rw [if_neg e]
    have h2 : ¬ s.size ≤ 16 := fun h => e (mayE_zero.2 ⟨h, by simp⟩)
    simp [h2, e]

theorem getE_cases (ps : PS) (s : ByteArray) : getE ps s = 0 ∨ getE ps s = 2 ∨ getE ps s = 5 := by
  unfold getE thereE
  rcases mayE_or s [] with e | e
  · rw [e]
    cases getP ps s <;> simp
  · rw [e]; simp

theorem getV_of {ps : PS} {s u : ByteArray} (h : getE ps s = 0) (hg : getP ps s = some u) : getV ps s = u := by
  have : mayE s [] = 0 := mayE_zero.2 ⟨(getE_zero.1 h).1, by simp⟩
  unfold getV thereV
  rw [if_pos this, hg]; rfl

theorem small_del {ps : PS} (h : ∀ p ∈ ps, p.1.size ≤ 16 ∧ p.2.size ≤ 32) (s : ByteArray) : ∀ p ∈ delP ps s, p.1.size ≤ 16 ∧ p.2.size ≤ 32 := fun p hp => h p (mem_delP.1 hp).1

theorem BookAt.heap {B b m : Nat} {v : Value} {w w' : World} {K M : Nat} {ps : PS} (h : BookAt w B b m v K M ps) (e : w'.heap = w.heap) : BookAt w' B b m v K M ps :=
  h.stay (by rw [e]) (by rw [e]) (fun _ _ => by rw [e]) (fun _ _ _ hg => by rw [e]; exact hg)
theorem Turned.heap {b m : Nat} {v v' : Value} {w w' w'' : World} (h : Turned b m v w v' w') (e : w''.heap = w'.heap) (e1 : w''.os = w'.os) (e2 : w''.tape = w'.tape) (e3 : w''.output = w'.output) : Turned b m v w v' w'' :=
  ⟨⟨e1.trans h.1.os, e2.trans h.1.tape, e3.trans h.1.output, by rw [e]; exact h.1.size, fun k a c d f => by rw [e]; exact h.1.block k a c d f⟩, h.2⟩

/-- Behind 'drop': the map's entry goes, the total shrinks: the book is whole again. -/
theorem book_less {B b m : Nat} {v v' : Value} {K M : Nat} {ps : PS} {w w1 : World} (h : BookAt w B b m v K M ps) {s u : ByteArray} (hs : s.size ≤ 1000) (hg : getP ps s = some u)
    (hc : w1.heap[b]? = some (.cells #[v', .map (some m), .int .u64 K, .int .u64 M, .int .u64 (totP ps)] 95 (0, 0))) (hr : Row w1 B v' (delP ps s).length (keysP (delP ps s))) (ht : Turned b b v w v' w1) (ty : TypeId) :
    ∃ W, (Builtin.delete_ #[91, 9] ty #[.map (some m), .string s]).run Try.prog w1 = .ok (.tuple #[]) W ∧
      W.cell? ⟨b, 4, none⟩ = some (.int .u64 (totP ps)) ∧ W.frozen? ⟨b, 4, none⟩ = false ∧
      BookAt (W.setCell ⟨b, 4, none⟩ (.int .u64 (totP (delP ps s)))) B b m v' K M (delP ps s) ∧
      Turned b m v w v' (W.setCell ⟨b, 4, none⟩ (.int .u64 (totP (delP ps s)))) := by
  obtain ⟨f, hf, hfx⟩ := h.map
  have hap := h.apart
  have hlt := h.lt
  have hs1 := ht.size
  have hm1 : w1.heap[m]? = w.heap[m]? := ht.1.block m hlt.2 (Ne.symm hap.1) (Ne.symm hap.1) (Ne.symm hap.2.2)
  have hf1 : MapAt w1 m ps.length f := hf.block hm1
  obtain ⟨es2, clock2, h3, h4⟩ := hf1.drop Try.underlying91 ty hs
  obtain ⟨es0, clock0, hom⟩ := hf1.isMap
  generalize hW : setBlock w1 m (.map es2 clock2) = W at h3 h4
  have hWo : ∀ k, k ≠ m → W.heap[k]? = w1.heap[k]? := fun k hk => by rw [← hW, heap_setBlock_other hom _ hk]
  have hWs : W.heap.size = w1.heap.size := by rw [← hW]; simp [setBlock]
  have hWb : W.heap[b]? = some (.cells #[v', .map (some m), .int .u64 K, .int .u64 M, .int .u64 (totP ps)] 95 (0, 0)) := by
    rw [hWo b hap.1]; exact hc
  have hvm : v'.ownBlock ≠ some m ∧ v'.ownBlock ≠ some b := by
    rcases ht.2 with e | e | ⟨k, e, hk⟩
    · rw [e]; exact ⟨hap.2.2, hap.2.1⟩
    · rw [e]; simp
    · rw [e]; constructor <;> (intro e2; cases e2; omega)
  have hgrow : ∀ k, k ≠ m → k ≠ b → (W.setCell ⟨b, 4, none⟩ (.int .u64 (totP (delP ps s)))).heap[k]? = w1.heap[k]? := fun k h1 h2 => by
    rw [Below.heap_setCell _ _ _ _ (by simpa using h2), hWo k h1]
  have hos : W.os = w1.os ∧ W.tape = w1.tape ∧ W.output = w1.output := by rw [← hW]; exact ⟨rfl, rfl, rfl⟩
  have hl := len_del h.sorted hg
  refine ⟨W, h3, by simp [World.cell?, hWb], by simp [World.frozen?, hWb], ?_, ?_⟩
  · have hk := h.keys
    have hby := h.bytes
    refine { h with cells := ?_, row := ?_, map := ⟨delF f s, ?_, ?_⟩, sorted := sorted_del h.sorted s, small := small_del h.small s, keys := by omega, bytes := by omega }
    · rw [heap_setCell_same hWb]; rfl
    · refine ⟨hr.1, ?_⟩
      rcases hr.2 with h5 | ⟨g, cap, cur, rfl, a, h6, r⟩
      · exact .inl h5
      · refine .inr ⟨g, cap, cur, rfl, a, ?_, r⟩
        rw [hgrow g (by rintro rfl; exact hvm.1 rfl) (by rintro rfl; exact hvm.2 rfl)]
        exact h6
    · have hlen : (if (f s).isSome then ps.length - 1 else ps.length) = (delP ps s).length := by
        obtain ⟨y, hy, _⟩ := (hfx s (by omega)).2 u hg
        rw [hy]; simp; omega
      rw [← hlen]
      exact h4.block (Below.heap_setCell _ _ _ _ (Ne.symm hap.1))
    · intro t htz
      by_cases e : t = s
      · subst e
        rw [getP_del_same]
        exact ⟨fun _ => by simp [delF], fun u hu => by cases hu⟩
      · rw [getP_del_other h.sorted e]
        refine ⟨(fun e2 => by simp [delF, e]; exact (hfx t htz).1 e2), fun u hu => ?_⟩
        obtain ⟨y, hy, hb⟩ := (hfx t htz).2 u hu
        refine ⟨y, (by simp [delF, e]; exact hy), hb.stay (fun g cur fz hg => ?_)⟩
        have hg2 := Turned.cells_stay (m := m) h ⟨⟨ht.1.os, ht.1.tape, ht.1.output, ht.1.size, fun k a c _ d => ht.1.block k a c c d⟩, ht.2⟩ hg (by decide) (by decide)
        rw [hgrow g ?_ ?_]
        · exact hg2
        · rintro rfl
          obtain ⟨es, clock, hm⟩ := hf.isMap
          rw [hm] at hg; cases hg
        · rintro rfl
          rw [h.cells] at hg; cases hg
  · refine ⟨⟨hos.1.trans ht.1.os, hos.2.1.trans ht.1.tape, hos.2.2.trans ht.1.output, by simp [World.setCell]; omega, fun k hk a c d => ?_⟩, ht.2⟩
    rw [hgrow k c a]
    exact ht.1.block k hk a a d

set_option maxRecDepth 100000 in
set_option maxHeartbeats 4000000 in
theorem del_any {B b m : Nat} {v : Value} {K M : Nat} {ps : PS} (w : World) (h : BookAt w B b m v K M ps) (hn : ps.length < 90000) (s : ByteArray) (hs : s.size ≤ 1000) :
    Calls Try.prog 46 #[.pointer (some ⟨b, 0, none⟩), .string s] w fun e w' => e = .returned (.int .i64 (getE ps s)) ∧ ∃ v', BookAt w' B b m v' K M (delQ ps s) ∧ Turned b m v w v' w' := by
  have HM := Lib.hid (there_any w h s none 0 0 [] hs (isstrs_nil w) (by omega))
  have HB := Lib.hid (fun w' (hb : Below w.heap.size w w') => h.below hb)
  rw [show thereE ps s [] = getE ps s from rfl, show thereV ps s [] = getV ps s from rfl] at HM
  unfold delQ
  by_cases e0 : getE ps s = 0
  · rw [e0] at HM ⊢
    obtain ⟨z1, u, hg⟩ := getE_zero.1 e0
    rw [getV_of e0 hg] at HM
    have hu32 : u.size ≤ 32 := (h.small _ (getP_mem hg)).2
    have htot := totP_le h.small
    have hsz := (len_del h.sorted hg).2
    have hcast : ((totP (delP ps s) : Nat) : Int) = ((totP ps : Nat) : Int) - ((s.size : Int) + (u.size : Int)) := by omega
    have hwr : IntKind.u64.wrap (((totP ps : Nat) : Int) - ((s.size : Int) + (u.size : Int))) = ((totP (delP ps s) : Nat) : Int) := by rw [← hcast]; exact wrap64 _ (by omega)
    simp only [if_true]
    clear h
    go_enter Try.func46, Try.ntmps46
    go_wp2_with (first
      | (go_at_call 76; refine HM.out.mono ?_; rintro e w3 ⟨rfl, hb3⟩)
      | (go_at_call 77
         refine (drop_any _ (HB.out _ hb3) hn s u hg).mono ?_
         rintro e w4 ⟨rfl, v', r1, r2, r3⟩
         have d1 : w4.cell? ⟨b, 1, none⟩ = some (.map (some m)) := by simp [World.cell?, r1]
         obtain ⟨W, k1, k2, k3, k4, k5⟩ := book_less (HB.out _ hb3) hs hg r1 r2 r3 0))
    rw [hcast] at k4 k5 hwr
    clear r1 r2 r3 d1 k1 HM HB hg
    go_region_with (go_at_call 78; refine (size_any _ _ _ (by omega) (by omega)).mono ?_; rintro e w' ⟨rfl, rfl⟩)
    all_goals
      go_wp2
      go_ret
      exact ⟨rfl, v', k4.heap rfl, Turned.trans (Turned.of_below hb3) (k5.heap rfl rfl rfl rfl)⟩
  · have e1 : ¬ (getE ps s : Int) = 0 := e0
    rw [if_neg e0]
    clear h
    rcases getE_cases ps s with e2 | e2 | e2
    · exact absurd e2 e0
    all_goals
      rw [e2] at HM ⊢
      go_enter Try.func46, Try.ntmps46
      go_wp2_with (go_at_call 76; refine HM.out.mono ?_; rintro e w3 ⟨rfl, hb3⟩)
      go_ret
      exact ⟨rfl, v, HB.out _ hb3, Turned.of_below hb3⟩

end Go.Proofs.Ytgfhaldfjnepmaa
