/- Walks: built, all: an art made by operations; its pairs as All yields them. -/
import Derived.Test.YtegccicplcjcmaaWL3
namespace Go.Proofs.Ytegccicplcjcmaa
open Go Go.RowKit Go.Shelf Go.Proofs Go.Sort
attribute [local go_sem] Oper.semAt_some

theorem stay_grown {N0 N1 : Nat} {W W' : World} {row : Option Nat} (h : W.grownBy W' row) (hN : N1 ≤ W.heap.size) (h1 : ∀ k, row = some k → (k < N0 ∨ N1 ≤ k)) : Stay N0 N1 W W' :=
  ⟨h.size, fun g hg hg2 => h.block g (by omega) (fun e => by have := (h1 g e.symm); omega)⟩

set_option maxRecDepth 100000 in
theorem built_any (w : World) (a : Option Addr) (len cap : Nat) (ds : List Deed) (hds : IsDeeds w a len ds) :
    Calls Try.prog 17 #[.slice a len cap] w fun e w' => ∃ b m v, e = .returned (.pointer (some ⟨b, 0, none⟩)) ∧ ArtAt w' w.heap.size b m v (bothQ [] ds) ∧ Below w.heap.size w w' := by
  have HB := Lib.hid (fun (W : World) (b m : Nat) (v : Value) (hA : ArtAt W w.heap.size b m v []) (hb : Below w.heap.size w W) => both_any W hA (by decide) hb.size none 0 (prow_nil _ _) w (Nat.le_refl _) hb a len cap ds hds)
  go_enter Try.func17, Try.ntmps17
  go_wp2_with (first
    | (go_at_call 8; refine (anew_any _).mono ?_; rintro e w1 ⟨b, m, rfl, hA1, hb1⟩; have HB2 := HB.out w1 b m _ hA1 hb1)
    | (go_at_call 15; refine HB2.mono ?_; rintro e w2 ⟨a2, c2, v2, rfl, hp2, hA2, hT2⟩))
  go_ret
  exact ⟨b, m, v2, rfl, hA2, hb1.trans (Turned.below hA1 hT2 hb1.size)⟩

/-- The caller's own cells between two rounds. -/
def PJ (w : World) (O D L : Nat) (rec : LoopState → Option Code → Loop) (ps : PS) (N1 k : Nat) (W : World) : Prop :=
  (∃ v, Boxed W O 26 v ∧ W.ownsRow N1 48 2 v k (pcells (ps.take k))) ∧ W.heap[D]? = some (.deferred (some [])) ∧ W.heap[L]? = some (.loop (rec .ready none)) ∧ Below w.heap.size w W

set_option maxRecDepth 100000 in
set_option maxHeartbeats 4000000 in
theorem wall_any {B b m : Nat} {v : Value} {ps : PS} (w : World) (h : ArtAt w B b m v ps) (hlen : ps.length < 90000) :
    Calls Try.prog 19 #[.pointer (some ⟨b, 0, none⟩)] w fun e w' => ∃ pv, e = .returned pv ∧ PRow w' w.heap.size pv ps ∧ Below w.heap.size w w' := by
  have hmf : ∀ (fn : Fn) (first cap : Array Value) (w : World), (Instr.makeFunc fn first cap).run Try.prog w = .ok (.func fn first cap) w := fun _ _ _ _ => rfl
  obtain ⟨i0, hi, hz0, hz1, hz2⟩ := info_parts2 infoPair
  refine (callsIn_wide (n := 6)).1 ?_
  refine callsIn_of_wp_marks Try.func19 rfl trivial ?_ rfl
  simp only [Try.ntmps19, List.size_toArray, List.length_cons, List.length_nil, Nat.reduceAdd, Nat.reduceSub, Array.replicate_succ, Array.replicate_zero, List.push_toArray, List.append_toArray, List.nil_append, List.cons_append]
  gi_wp2_with (refine ⟨trivial, ?_⟩; gi_at_call 47; refine (callsIn_wide.2 (all_any b _)).mono ?_; rintro e w' ⟨rfl, rfl⟩)
  obtain ⟨W0, hW0⟩ : ∃ W0, (w.alloc (Obj.cells #[Value.slice none 0 0] 26)).alloc (Obj.cells #[Value.pointer (some { block := b, off := 0 })] 24) = W0 := ⟨_, rfl⟩
  have hsz : W0.heap.size = w.heap.size + 1 + 1 := by rw [← hW0]; simp
  have hb0 : Below w.heap.size w W0 := by
    rw [← hW0]
    exact ((Below.refl _ w).alloc (Nat.le_refl _) _).alloc (by simp) _
  have m0 : W0.heap[w.heap.size]? = some (.cells #[Value.slice none 0 0] 26) := by
    rw [← hW0]; exact key1 _ _ _ _ (World.alloc_heap_new w _)
  have m1 : W0.heap[w.heap.size + 1]? = some (.cells #[Value.pointer (some { block := b, off := 0 })] 24) := by
    rw [← hW0]
    have := World.alloc_heap_new (w.alloc (Obj.cells #[Value.slice none 0 0] 26)) (Obj.cells #[Value.pointer (some { block := b, off := 0 })] 24)
    simpa using this
  try simp only [World.size_alloc]
  rw [hW0]
  clear hW0
  refine rangeFunc_open rfl (by omega) (gf := 64) (lb := #[.pointer (some ⟨w.heap.size + 1, 0, none⟩)]) rfl trivial (enters_of Try.func64 (by kernel_rfl) rfl) ?_
  intro fn hfn
  rw [hsz]
  generalize hrec : recOf fn _ _ _ _ _ = rec
  have hst : ∀ st pe, (rec st pe).state = st := by intro st pe; rw [← hrec]; rfl
  have hup : ∀ st pe st' pe', ({ rec st pe with state := st', pending := pe' } : Loop) = rec st' pe' := by intro st pe st' pe'; rw [← hrec]; rfl
  have hup1 : ({ rec .ready none with state := .busy } : Loop) = rec .busy none := by rw [← hrec]; rfl
  obtain ⟨S0, hS0⟩ : ∃ S0, (W0.alloc (.deferred (some []))).alloc (.loop (rec .ready none)) = S0 := ⟨_, rfl⟩
  have hsz2 : S0.heap.size = w.heap.size + 1 + 1 + 1 + 1 := by rw [← hS0]; simp [hsz]
  have hbs : Below w.heap.size w S0 := by rw [← hS0]; exact (hb0.alloc (by omega) _).alloc (by simp; omega) _
  have s0 : Boxed S0 w.heap.size 26 (.slice none 0 0) := by rw [← hS0]; exact key1 _ _ _ _ (key1 _ _ _ _ m0)
  have s1 : S0.cell? ⟨w.heap.size + 1, 0, none⟩ = some (.pointer (some ⟨b, 0, none⟩)) := by
    have : S0.heap[w.heap.size + 1]? = some (.cells #[Value.pointer (some { block := b, off := 0 })] 24) := by rw [← hS0]; exact key1 _ _ _ _ (key1 _ _ _ _ m1)
    simp [World.cell?, this]
  have sD : S0.heap[w.heap.size + 1 + 1]? = some (.deferred (some [])) := by
    rw [← hS0]
    have := World.alloc_heap_new W0 (.deferred (some []))
    rw [hsz] at this
    exact key1 _ _ _ _ this
  have sL : S0.heap[w.heap.size + 1 + 1 + 1]? = some (.loop (rec .ready none)) := by
    rw [← hS0]
    have := World.alloc_heap_new (W0.alloc (.deferred (some []))) (.loop (rec .ready none))
    simpa [hsz] using this
  rw [hS0]
  clear hS0 hb0 m0 m1
  refine (all1_in (6 - 1) (by omega) (w.heap.size + 1 + 1 + 1) (w.heap.size + 1) B b m v ps S0 (h.below hbs) hlen s1 (PJ w w.heap.size (w.heap.size + 1 + 1) (w.heap.size + 1 + 1 + 1) rec ps) ?j0 ?jy).mono ?post
  case j0 =>
    intro W' hb
    exact ⟨⟨_, (hb.block _ s0.lt).trans s0, World.ownsRow_nil _ _ _ _⟩, (hb.block _ (by omega)).trans sD, (hb.block _ (by omega)).trans sL, hbs.trans (hb.mono (by omega))⟩
  case jy =>
    rintro N1 k p W hN1 hN1W ⟨⟨v, hv, hrow⟩, hD, hl, hB⟩ hp
    rw [hsz2] at hN1 ⊢
    clear s0 s1 sD sL h hbs
    have hk : k < ps.length := (List.getElem?_eq_some_iff.1 hp).1
    have hl' := hl
    rw [← hrec] at hl'
    refine yield_open hl' rfl hfn ?_
    clear hl'
    gi_wp2
    have hpb := run_beginRound (P := Try.prog) hl (hst _ _)
    rw [hup1] at hpb
    refine ⟨_, hpb, ?_⟩
    clear hpb
    have hlt := (Array.getElem?_eq_some_iff.1 hl).1
    have hl2 := World.putObj_heap_same (w := W) (o := .loop (rec .busy none)) hlt
    have hg1 := grownBy_putObj' W (w.heap.size + 1 + 1 + 1) (.loop (rec .busy none))
    have st1 : Stay (w.heap.size + 1 + 1 + 1 + 1) N1 W (W.putObj (w.heap.size + 1 + 1 + 1) (.loop (rec .busy none))) := stay_grown hg1 hN1W (fun k e => by cases e; exact .inl (by omega))
    have hv2 := boxed_putNon hv (.loop (rec .busy none)) hl rfl
    have hrow2 := hrow.kept hg1 (by
      cases e : v.ownBlock with
      | none => exact .inl rfl
      | some g => refine .inr (fun e2 => ?_); cases e2; have := (hrow.lt _ e).1; omega)
    have hD2 : (W.putObj (w.heap.size + 1 + 1 + 1) (.loop (rec .busy none))).heap[w.heap.size + 1 + 1]? = some (.deferred (some [])) := (World.putObj_heap_other (by omega)).trans hD
    have hB2 := hB.grown hg1 hB.size (fun k e => by cases e; omega)
    have hsz3 := hg1.size
    generalize W.putObj (w.heap.size + 1 + 1 + 1) (.loop (rec .busy none)) = W2 at hl2 st1 hv2 hrow2 hD2 hB2 hsz3 ⊢
    have kv := hv2.cell
    have kva := fun o => (hv2.alloc o).cell
    clear hv hrow hg1 hD hB hl
    have htk : ps.take (k + 1) = ps.take k ++ [p] := by rw [List.take_add_one, hp]; rfl
    have HR := Lib.hid hrow2
    have HV := Lib.hid hv2
    have HT := Lib.hid htk
    clear hrow2 hv2 htk hp
    gi_wp2_with (gi_at_builtin; refine wpListIn_append_own _ rfl _ _ 26 rfl N1 48 i0 (.agg #[.string ⟨#[]⟩, .string ⟨#[]⟩]) 2 32 Try.underlying26 hi hz0 hz1 hz2 rfl (by decide) v k (pcells (ps.take k)) rfl (HR.out.alloc _) ⟨W2.heap.size, 0, none⟩ 1 1 [.string p.1, .string p.2] rfl rfl (two_new _ _ _ _) (two_one _ _) (by unfold maxLen; omega) (by omega) (by simp; omega) ?_; intro v' w1 hown' hgrow hnil; obtain ⟨g', cap', rfl⟩ := (prow_slice hown').resolve_left (fun e => by have := e.2; omega); have hv1 := (HV.out.alloc _).kept hgrow (HV.out.not_row (by decide) HR.out); have k1 := hv1.cell; have f1 := hv1.frozen)
    have hrl := HR.out.lt
    have hal := World.grownBy_alloc W2 (.cells #[.string p.1, .string p.2] 48) none
    have hs1 := hal.size
    have hs2 := hgrow.size
    have hnl : ∀ j, j < N1 → some j ≠ v.ownBlock := fun j hj e => by have := (hrl j e.symm).1; omega
    have key3 : ∀ j, j < N1 → j < W2.heap.size → j ≠ w.heap.size → (w1.setCell ⟨w.heap.size, 0, none⟩ (.slice (some ⟨g', 0, none⟩) (k + 1) cap')).heap[j]? = W2.heap[j]? := fun j h1 h2 h3 =>
      (Below.heap_setCell _ _ _ _ (by simpa using h3)).trans ((hgrow.block j (by omega) (hnl j h1)).trans (hal.block j h2 (by simp)))
    have hl3 := (key3 (w.heap.size + 1 + 1 + 1) (by omega) (by omega) (by omega)).trans hl2
    have hg4 := grownBy_setCell' w1 w.heap.size (.slice (some ⟨g', 0, none⟩) (k + 1) cap')
    have st2 : Stay (w.heap.size + 1 + 1 + 1 + 1) N1 W2 (w1.setCell ⟨w.heap.size, 0, none⟩ (.slice (some ⟨g', 0, none⟩) (k + 1) cap')) := by
      refine (stay_grown hal (by omega) (fun k e => by cases e)).trans ((stay_grown hgrow (by omega) (fun j e => .inr (hrl j e).1)).trans (stay_grown hg4 (by omega) (fun j e => by cases e; exact .inl (by omega))))
    have hs4 := hg4.size
    generalize hW3 : w1.setCell ⟨w.heap.size, 0, none⟩ (.slice (some ⟨g', 0, none⟩) (k + 1) cap') = W3 at hl3 st2 key3 hs4 hg4 ⊢
    have hg5 := grownBy_putObj' W3 (w.heap.size + 1 + 1 + 1) (.loop (rec .ready none))
    have hbx : Boxed W3 w.heap.size 26 (.slice (some ⟨g', 0, none⟩) (k + 1) cap') := by rw [← hW3]; exact hv1.set _
    have hrow3 : W3.ownsRow N1 48 2 (.slice (some ⟨g', 0, none⟩) (k + 1) cap') (k + 1) (pcells (ps.take (k + 1))) := by
      rw [HT.out, pcells_append]
      exact hown'.kept hg4 (.inr (hv1.not_row (by decide) hown').symm)
    have hBw1 : Below w.heap.size w W3 := by
      refine ((hB2.grown hal hB2.size (fun k e => by cases e)).grown hgrow (by have := hB2.size; omega) (fun j e => ?_)).grown hg4 (by have := hB2.size; omega) (fun j e => by cases e; exact Nat.le_refl _)
      have := (hrl j e).1; omega
    have hendr : (Instr.endRound (w.heap.size + 1 + 1 + 1) none).run Try.prog W3 = .ok (.bool true) (W3.putObj (w.heap.size + 1 + 1 + 1) (.loop (rec .ready none))) := by
      have := run_endRound (P := Try.prog) none hl3
      rw [hup] at this
      exact this
    refine ⟨_, _, hendr, rfl, ⟨⟨_, boxed_putNon hbx _ hl3 rfl, hrow3.kept hg5 (.inr (fun e => ?_))⟩, (World.putObj_heap_other (by omega)).trans ((key3 _ (by omega) (by omega) (by omega)).trans hD2), ?_, hBw1.grown hg5 (by have := hB2.size; omega) (fun j e => by cases e; omega)⟩, st1.trans (st2.trans (stay_grown hg5 (by omega) (fun j e => by cases e; exact .inl (by omega))))⟩
    · have h1 := (hown'.lt g' rfl).1
      simp [Value.ownBlock] at e
      omega
    · rw [World.putObj_heap_same (Array.getElem?_eq_some_iff.1 hl3).1]
  case post =>
    rintro e W' ⟨⟨v0, rfl⟩, N1, hN1, ⟨v, hv, hrow⟩, hD, hl, hB⟩
    rw [hsz2] at hN1
    have hrun : (Instr.endLoop (w.heap.size + 1 + 1 + 1)).run Try.prog W' = .ok none (W'.putObj (w.heap.size + 1 + 1 + 1) (.loop (rec .exhausted none))) := by
      rw [← hrec] at hl ⊢
      exact run_endLoop hl (by simp [recOf])
    refine ⟨none, _, hrun, ?_⟩
    have hg1 := grownBy_putObj' W' (w.heap.size + 1 + 1 + 1) (.loop (rec .exhausted none))
    have hv2 := boxed_putNon hv (.loop (rec .exhausted none)) hl rfl
    have hrow2 := hrow.kept hg1 (by
      cases e : v.ownBlock with
      | none => exact .inl rfl
      | some g => refine .inr (fun e2 => ?_); cases e2; have := (hrow.lt _ e).1; omega)
    have hD2 : (W'.putObj (w.heap.size + 1 + 1 + 1) (.loop (rec .exhausted none))).heap[w.heap.size + 1 + 1]? = some (.deferred (some [])) := (World.putObj_heap_other (by omega)).trans hD
    have hB2 := hB.grown hg1 hB.size (fun k e => by cases e; omega)
    clear hrun
    generalize W'.putObj (w.heap.size + 1 + 1 + 1) (.loop (rec .exhausted none)) = W4 at hv2 hrow2 hD2 hB2 ⊢
    have kv := hv2.cell
    clear hv hrow hg1 hD hB hl s0 s1 sD sL h hbs
    gi_wp2
    have hg2 := grownBy_putObj' W4 (w.heap.size + 1 + 1) (.deferred none)
    refine ⟨by simp, .inl ⟨_, _, rfl, run_takeDeferred hD2, ?_⟩⟩
    refine ⟨v, ?_, v, rfl, ?_, hB2.grown hg2 hB2.size (fun k e => by cases e; omega)⟩
    · simp [results, Try.f19, go_sem]
    · rw [List.take_of_length_le (Nat.le_refl _)] at hrow2
      refine ownsRow_base ?_ (show w.heap.size ≤ N1 by omega)
      refine hrow2.kept hg2 ?_
      cases e : v.ownBlock with
      | none => exact .inl rfl
      | some g => refine .inr (fun e2 => ?_); cases e2; have := (hrow2.lt _ e).1; omega

end Go.Proofs.Ytegccicplcjcmaa
