/- Walk: the pairs of a book. -/
import Derived.Test.YtgfhaldfjnepmaaBk15
namespace Go.Proofs.Ytgfhaldfjnepmaa
open Go Go.RowKit Go.Shelf Go.Proofs Go.Sort
attribute [local go_sem] Oper.semAt_some

theorem infoPair : (Try.prog.info? 57).map (fun i => (i.zero, i.size, i.bytes)) = some (some (.agg #[.string ⟨#[]⟩, .string ⟨#[]⟩]), 2, 32) := by kernel_rfl

theorem info_parts2 {P : Program} {e : TypeId} {z : Value} {s b : Nat} (h : (P.info? e).map (fun i => (i.zero, i.size, i.bytes)) = some (some z, s, b)) : ∃ i, P.info? e = some i ∧ i.zero = some z ∧ i.size = s ∧ i.bytes = b := by
  cases hi : P.info? e with
  | none => rw [hi] at h; cases h
  | some i => rw [hi] at h; simp at h; exact ⟨i, rfl, h.1, h.2.1, h.2.2⟩

def pcells (l : PS) : List Value := l.flatMap (fun p => [Value.string p.1, Value.string p.2])
theorem pcells_append (a b : PS) : pcells (a ++ b) = pcells a ++ pcells b := by simp [pcells]
theorem pcells_length (a : PS) : (pcells a).length = a.length * 2 := by
  induction a with
  | nil => rfl
  | cons p r ih => simp [pcells] at ih ⊢; omega
theorem pcells_get : ∀ (a : PS) (k : Nat) (p : ByteArray × ByteArray), a[k]? = some p → (pcells a)[k * 2]? = some (.string p.1) ∧ (pcells a)[k * 2 + 1]? = some (.string p.2)
  | [], k, p, h => by simp at h
  | q :: r, 0, p, h => by simp at h; subst h; simp [pcells]
  | q :: r, k + 1, p, h => by
    have := pcells_get r k p (by simpa using h)
    rw [show (k + 1) * 2 = k * 2 + 2 from by omega, show k * 2 + 2 + 1 = (k * 2 + 1) + 2 from by omega]
    have e : pcells (q :: r) = .string q.1 :: .string q.2 :: pcells r := rfl
    rw [e]
    exact this
theorem pcells_one (a : PS) : ∀ u ∈ pcells a, u.oneCell' = true := by
  intro u hu
  simp only [pcells, List.mem_flatMap, List.mem_cons, List.not_mem_nil, or_false] at hu
  obtain ⟨p, _, rfl | rfl⟩ := hu <;> rfl

/-- A slice of pairs. -/
abbrev PRow (w : World) (B : Nat) (v : Value) (ps : PS) : Prop := w.ownsRow B 57 2 v ps.length (pcells ps)

theorem prow_slice {w : World} {B n : Nat} {v : Value} {xs : List Value} (h : w.ownsRow B 57 2 v n xs) : (v = .slice none 0 0 ∧ n = 0) ∨ ∃ g cap, v = .slice (some ⟨g, 0, none⟩) n cap := by
  rcases h.2 with ⟨h1, h2⟩ | ⟨g, cap, cur, rfl, _⟩
  · exact .inl ⟨h1, h2⟩
  · exact .inr ⟨g, cap, rfl⟩

theorem stay_grown {N0 N1 : Nat} {W W' : World} {row : Option Nat} (h : W.grownBy W' row) (hN : N1 ≤ W.heap.size) (h1 : ∀ k, row = some k → (k < N0 ∨ N1 ≤ k) ∧ ∀ cur fz, W.heap[k]? ≠ some (.cells cur 5 fz)) : Stay N0 N1 W W' :=
  ⟨h.size, fun g hg hg2 => h.block g (by omega) (fun e => by have := (h1 g e.symm).1; omega), fun g cur fz hg => (h.block g (Array.getElem?_eq_some_iff.1 hg).1 (fun e => (h1 g e.symm).2 cur fz hg)).trans hg⟩

/-- The caller's own cells between two rounds. -/
def PJ (w : World) (O D L : Nat) (rec : LoopState → Option Code → Loop) (ps : PS) (N1 k : Nat) (W : World) : Prop :=
  (∃ v, Boxed W O 47 v ∧ W.ownsRow N1 57 2 v k (pcells (ps.take k))) ∧ W.heap[D]? = some (.deferred (some [])) ∧ W.heap[L]? = some (.loop (rec .ready none)) ∧ Below w.heap.size w W

theorem key1 (X : World) (ob ob' : Obj) (j : Nat) (h : X.heap[j]? = some ob) : (X.alloc ob').heap[j]? = some ob := (Below.heap_alloc _ _ _ (Array.getElem?_eq_some_iff.1 h).1).trans h

theorem two_new (W : World) (a b : Value) (t : TypeId) : ∀ j u, ([a, b] : List Value)[j]? = some u → (W.alloc (.cells #[a, b] t)).cell? ((⟨W.heap.size, 0, none⟩ : Addr).add j) = some u := by
  intro j u hu
  have hn := World.alloc_heap_new W (Obj.cells #[a, b] t)
  rw [Addr.add_lit, Nat.zero_add, cell_of_row _ _ j _ t (0, 0) hn]
  match j, hu with
  | 0, hu => simpa using hu
  | 1, hu => simpa using hu

theorem two_one (a b : ByteArray) : ∀ u ∈ ([.string a, .string b] : List Value), u.oneCell' = true := by
  intro u hu
  simp at hu
  rcases hu with rfl | rfl <;> rfl

theorem ownsRow_base {w : World} {B B' : Nat} {e : TypeId} {size : Nat} {v : Value} {n : Nat} {xs : List Value} (h : w.ownsRow B e size v n xs) (hb : B' ≤ B) : w.ownsRow B' e size v n xs := by
  refine ⟨h.1, ?_⟩
  rcases h.2 with h1 | ⟨g, cap, cur, rfl, a, r⟩
  · exact .inl h1
  · exact .inr ⟨g, cap, cur, rfl, Nat.le_trans hb a, r⟩

set_option maxRecDepth 100000 in
set_option maxHeartbeats 4000000 in
theorem pairs_any {B b m : Nat} {v : Value} {K M : Nat} {ps : PS} (w : World) (h : BookAt w B b m v K M ps) (hlen : ps.length < 90000) :
    Calls Try.prog 30 #[.pointer (some ⟨b, 0, none⟩)] w fun e w' => ∃ pv, e = .returned pv ∧ PRow w' w.heap.size pv ps ∧ Below w.heap.size w w' := by
  have hmf : ∀ (fn : Fn) (first cap : Array Value) (w : World), (Instr.makeFunc fn first cap).run Try.prog w = .ok (.func fn first cap) w := fun _ _ _ _ => rfl
  obtain ⟨i0, hi, hz0, hz1, hz2⟩ := info_parts2 infoPair
  refine (callsIn_wide (n := 6)).1 ?_
  refine callsIn_of_wp_marks Try.func30 rfl trivial ?_ rfl
  simp only [Try.ntmps30, List.size_toArray, List.length_cons, List.length_nil, Nat.reduceAdd, Nat.reduceSub, Array.replicate_succ, Array.replicate_zero, List.push_toArray, List.append_toArray, List.nil_append, List.cons_append]
  gi_wp2_with (refine ⟨trivial, ?_⟩; gi_at_call 43; refine (callsIn_wide.2 (all_any b _)).mono ?_; rintro e w' ⟨rfl, rfl⟩)
  obtain ⟨W0, hW0⟩ : ∃ W0, (w.alloc (Obj.cells #[Value.slice none 0 0] 47)).alloc (Obj.cells #[Value.pointer (some { block := b, off := 0 })] 43) = W0 := ⟨_, rfl⟩
  have hsz : W0.heap.size = w.heap.size + 1 + 1 := by rw [← hW0]; simp
  have hb0 : Below w.heap.size w W0 := by
    rw [← hW0]
    exact ((Below.refl _ w).alloc (Nat.le_refl _) _).alloc (by simp) _
  have m0 : W0.heap[w.heap.size]? = some (.cells #[Value.slice none 0 0] 47) := by
    rw [← hW0]; exact key1 _ _ _ _ (World.alloc_heap_new w _)
  have m1 : W0.heap[w.heap.size + 1]? = some (.cells #[Value.pointer (some { block := b, off := 0 })] 43) := by
    rw [← hW0]
    have := World.alloc_heap_new (w.alloc (Obj.cells #[Value.slice none 0 0] 47)) (Obj.cells #[Value.pointer (some { block := b, off := 0 })] 43)
    simpa using this
  try simp only [World.size_alloc]
  rw [hW0]
  clear hW0
  refine rangeFunc_open rfl (by omega) (gf := 75) (lb := #[.pointer (some ⟨w.heap.size + 1, 0, none⟩)]) rfl trivial (enters_of Try.func75 (by kernel_rfl) rfl) ?_
  intro fn hfn
  rw [hsz]
  generalize hrec : recOf fn _ _ _ _ _ = rec
  have hst : ∀ st pe, (rec st pe).state = st := by intro st pe; rw [← hrec]; rfl
  have hup : ∀ st pe st' pe', ({ rec st pe with state := st', pending := pe' } : Loop) = rec st' pe' := by intro st pe st' pe'; rw [← hrec]; rfl
  have hup1 : ({ rec .ready none with state := .busy } : Loop) = rec .busy none := by rw [← hrec]; rfl
  obtain ⟨S0, hS0⟩ : ∃ S0, (W0.alloc (.deferred (some []))).alloc (.loop (rec .ready none)) = S0 := ⟨_, rfl⟩
  have hsz2 : S0.heap.size = w.heap.size + 1 + 1 + 1 + 1 := by rw [← hS0]; simp [hsz]
  have hbs : Below w.heap.size w S0 := by rw [← hS0]; exact (hb0.alloc (by omega) _).alloc (by simp; omega) _
  have s0 : Boxed S0 w.heap.size 47 (.slice none 0 0) := by rw [← hS0]; exact key1 _ _ _ _ (key1 _ _ _ _ m0)
  have s1 : S0.cell? ⟨w.heap.size + 1, 0, none⟩ = some (.pointer (some ⟨b, 0, none⟩)) := by
    have : S0.heap[w.heap.size + 1]? = some (.cells #[Value.pointer (some { block := b, off := 0 })] 43) := by rw [← hS0]; exact key1 _ _ _ _ (key1 _ _ _ _ m1)
    simp [World.cell?, this]
  have sD : S0.heap[w.heap.size + 1 + 1]? = some (.deferred (some [])) := by
    rw [← hS0]
    have := World.alloc_heap_new W0 (.deferred (some []))
    rw [hsz] at this
    exact key1 _ _ _ _ this
  have sL : S0.heap[w.heap.size + 1 + 1 + 1]? = some (.loop (rec .ready none)) := by
    rw [← hS0]
    have := World.alloc_heap_new (W0.alloc (.deferred (some []))) (.loop (rec .ready none))
    simpa [hsz] using this
  rw [hS0]
  clear hS0 hb0 m0 m1
  refine (all1_in (6 - 1) (by omega) (w.heap.size + 1 + 1 + 1) (w.heap.size + 1) B b m v K M ps S0 (h.below hbs) hlen s1 (PJ w w.heap.size (w.heap.size + 1 + 1) (w.heap.size + 1 + 1 + 1) rec ps) ?j0 ?jy).mono ?post
  case j0 =>
    intro W' hb
    exact ⟨⟨_, (hb.block _ s0.lt).trans s0, World.ownsRow_nil _ _ _ _⟩, (hb.block _ (by omega)).trans sD, (hb.block _ (by omega)).trans sL, hbs.trans (hb.mono (by omega))⟩
  case jy =>
    rintro N1 k p W hN1 hN1W ⟨⟨v, hv, hrow⟩, hD, hl, hB⟩ hp
    rw [hsz2] at hN1 ⊢
    clear s0 s1 sD sL h hbs
    have hk : k < ps.length := (List.getElem?_eq_some_iff.1 hp).1
    have hl' := hl
    rw [← hrec] at hl'
    refine yield_open hl' rfl hfn ?_
    clear hl'
    gi_wp2
    have hpb := run_beginRound (P := Try.prog) hl (hst _ _)
    rw [hup1] at hpb
    refine ⟨_, hpb, ?_⟩
    clear hpb
    have hlt := (Array.getElem?_eq_some_iff.1 hl).1
    have hl2 := World.putObj_heap_same (w := W) (o := .loop (rec .busy none)) hlt
    have hg1 := grownBy_putObj' W (w.heap.size + 1 + 1 + 1) (.loop (rec .busy none))
    have st1 : Stay (w.heap.size + 1 + 1 + 1 + 1) N1 W (W.putObj (w.heap.size + 1 + 1 + 1) (.loop (rec .busy none))) := stay_grown hg1 hN1W (fun k e => by cases e; exact ⟨.inl (by omega), fun cur fz e => by rw [hl] at e; cases e⟩)
    have hv2 := boxed_putNon hv (.loop (rec .busy none)) hl rfl
    have hrow2 := hrow.kept hg1 (by
      cases e : v.ownBlock with
      | none => exact .inl rfl
      | some g => refine .inr (fun e2 => ?_); cases e2; have := (hrow.lt _ e).1; omega)
    have hD2 : (W.putObj (w.heap.size + 1 + 1 + 1) (.loop (rec .busy none))).heap[w.heap.size + 1 + 1]? = some (.deferred (some [])) := (World.putObj_heap_other (by omega)).trans hD
    have hB2 := hB.grown hg1 hB.size (fun k e => by cases e; omega)
    have hsz3 := hg1.size
    generalize W.putObj (w.heap.size + 1 + 1 + 1) (.loop (rec .busy none)) = W2 at hl2 st1 hv2 hrow2 hD2 hB2 hsz3 ⊢
    have kv := hv2.cell
    have kva := fun o => (hv2.alloc o).cell
    clear hv hrow hg1 hD hB hl
    have htk : ps.take (k + 1) = ps.take k ++ [p] := by rw [List.take_add_one, hp]; rfl
    have HR := Lib.hid hrow2
    have HV := Lib.hid hv2
    have HT := Lib.hid htk
    clear hrow2 hv2 htk hp
    gi_wp2_with (gi_at_builtin; refine wpListIn_append_own _ rfl _ _ 47 rfl N1 57 i0 (.agg #[.string ⟨#[]⟩, .string ⟨#[]⟩]) 2 32 Try.underlying47 hi hz0 hz1 hz2 rfl (by decide) v k (pcells (ps.take k)) rfl (HR.out.alloc _) ⟨W2.heap.size, 0, none⟩ 1 1 [.string p.1, .string p.2] rfl rfl (two_new _ _ _ _) (two_one _ _) (by unfold maxLen; omega) (by omega) (by simp; omega) ?_; intro v' w1 hown' hgrow hnil; obtain ⟨g', cap', rfl⟩ := (prow_slice hown').resolve_left (fun e => by have := e.2; omega); have hv1 := (HV.out.alloc _).kept hgrow (HV.out.not_row (by decide) HR.out); have k1 := hv1.cell; have f1 := hv1.frozen)
    have hrl := HR.out.lt
    have hal := World.grownBy_alloc W2 (.cells #[.string p.1, .string p.2] 57) none
    have hs1 := hal.size
    have hs2 := hgrow.size
    have hnl : ∀ j, j < N1 → some j ≠ v.ownBlock := fun j hj e => by have := (hrl j e.symm).1; omega
    have key3 : ∀ j, j < N1 → j < W2.heap.size → j ≠ w.heap.size → (w1.setCell ⟨w.heap.size, 0, none⟩ (.slice (some ⟨g', 0, none⟩) (k + 1) cap')).heap[j]? = W2.heap[j]? := fun j h1 h2 h3 =>
      (Below.heap_setCell _ _ _ _ (by simpa using h3)).trans ((hgrow.block j (by omega) (hnl j h1)).trans (hal.block j h2 (by simp)))
    have hl3 := (key3 (w.heap.size + 1 + 1 + 1) (by omega) (by omega) (by omega)).trans hl2
    have hg4 := grownBy_setCell' w1 w.heap.size (.slice (some ⟨g', 0, none⟩) (k + 1) cap')
    have st2 : Stay (w.heap.size + 1 + 1 + 1 + 1) N1 W2 (w1.setCell ⟨w.heap.size, 0, none⟩ (.slice (some ⟨g', 0, none⟩) (k + 1) cap')) := by
      refine (stay_grown hal (by omega) (fun k e => by cases e)).trans ((stay_grown hgrow (by omega) (fun j e => ⟨.inr (hrl j e).1, fun cur fz e2 => ?_⟩)).trans (stay_grown hg4 (by omega) (fun j e => by cases e; exact ⟨.inl (by omega), fun cur fz e2 => by have := hv1; unfold Boxed at this; rw [this] at e2; cases e2⟩)))
      rcases HR.out.2 with ⟨rfl, _⟩ | ⟨g, cap, cur2, rfl, _, hh, _⟩
      · simp [Value.ownBlock] at e
      · simp [Value.ownBlock] at e
        subst e
        rw [key1 _ _ _ _ hh] at e2
        cases e2
    have hs4 := hg4.size
    generalize hW3 : w1.setCell ⟨w.heap.size, 0, none⟩ (.slice (some ⟨g', 0, none⟩) (k + 1) cap') = W3 at hl3 st2 key3 hs4 hg4 ⊢
    have hg5 := grownBy_putObj' W3 (w.heap.size + 1 + 1 + 1) (.loop (rec .ready none))
    have hbx : Boxed W3 w.heap.size 47 (.slice (some ⟨g', 0, none⟩) (k + 1) cap') := by rw [← hW3]; exact hv1.set _
    have hrow3 : W3.ownsRow N1 57 2 (.slice (some ⟨g', 0, none⟩) (k + 1) cap') (k + 1) (pcells (ps.take (k + 1))) := by
      rw [HT.out, pcells_append]
      exact hown'.kept hg4 (.inr (hv1.not_row (by decide) hown').symm)
    have hBw1 : Below w.heap.size w W3 := by
      refine ((hB2.grown hal hB2.size (fun k e => by cases e)).grown hgrow (by have := hB2.size; omega) (fun j e => ?_)).grown hg4 (by have := hB2.size; omega) (fun j e => by cases e; exact Nat.le_refl _)
      have := (hrl j e).1; omega
    have hendr : (Instr.endRound (w.heap.size + 1 + 1 + 1) none).run Try.prog W3 = .ok (.bool true) (W3.putObj (w.heap.size + 1 + 1 + 1) (.loop (rec .ready none))) := by
      have := run_endRound (P := Try.prog) none hl3
      rw [hup] at this
      exact this
    refine ⟨_, _, hendr, rfl, ⟨⟨_, boxed_putNon hbx _ hl3 rfl, hrow3.kept hg5 (.inr (fun e => ?_))⟩, (World.putObj_heap_other (by omega)).trans ((key3 _ (by omega) (by omega) (by omega)).trans hD2), ?_, hBw1.grown hg5 (by have := hB2.size; omega) (fun j e => by cases e; omega)⟩, st1.trans (st2.trans (stay_grown hg5 (by omega) (fun j e => by cases e; exact ⟨.inl (by omega), fun cur fz e2 => by rw [hl3] at e2; cases e2⟩)))⟩
    · have h1 := (hown'.lt g' rfl).1
      simp [Value.ownBlock] at e
      omega
    · rw [World.putObj_heap_same (Array.getElem?_eq_some_iff.1 hl3).1]
  case post =>
    rintro e W' ⟨⟨v0, rfl⟩, N1, hN1, ⟨v, hv, hrow⟩, hD, hl, hB⟩
    rw [hsz2] at hN1
    have hrun : (Instr.endLoop (w.heap.size + 1 + 1 + 1)).run Try.prog W' = .ok none (W'.putObj (w.heap.size + 1 + 1 + 1) (.loop (rec .exhausted none))) := by
      rw [← hrec] at hl ⊢
      exact run_endLoop hl (by simp [recOf])
    refine ⟨none, _, hrun, ?_⟩
    have hg1 := grownBy_putObj' W' (w.heap.size + 1 + 1 + 1) (.loop (rec .exhausted none))
    have hv2 := boxed_putNon hv (.loop (rec .exhausted none)) hl rfl
    have hrow2 := hrow.kept hg1 (by
      cases e : v.ownBlock with
      | none => exact .inl rfl
      | some g => refine .inr (fun e2 => ?_); cases e2; have := (hrow.lt _ e).1; omega)
    have hD2 : (W'.putObj (w.heap.size + 1 + 1 + 1) (.loop (rec .exhausted none))).heap[w.heap.size + 1 + 1]? = some (.deferred (some [])) := (World.putObj_heap_other (by omega)).trans hD
    have hB2 := hB.grown hg1 hB.size (fun k e => by cases e; omega)
    clear hrun
    generalize W'.putObj (w.heap.size + 1 + 1 + 1) (.loop (rec .exhausted none)) = W4 at hv2 hrow2 hD2 hB2 ⊢
    have kv := hv2.cell
    clear hv hrow hg1 hD hB hl s0 s1 sD sL h hbs
    gi_wp2
    have hg2 := grownBy_putObj' W4 (w.heap.size + 1 + 1) (.deferred none)
    refine ⟨by simp, .inl ⟨_, _, rfl, run_takeDeferred hD2, ?_⟩⟩
    refine ⟨v, ?_, v, rfl, ?_, hB2.grown hg2 hB2.size (fun k e => by cases e; omega)⟩
    · simp [results, Try.f30, go_sem]
    · rw [List.take_of_length_le (Nat.le_refl _)] at hrow2
      refine ownsRow_base ?_ (show w.heap.size ≤ N1 by omega)
      refine hrow2.kept hg2 ?_
      cases e : v.ownBlock with
      | none => exact .inl rfl
      | some g => refine .inr (fun e2 => ?_); cases e2; have := (hrow2.lt _ e).1; omega

end Go.Proofs.Ytgfhaldfjnepmaa
