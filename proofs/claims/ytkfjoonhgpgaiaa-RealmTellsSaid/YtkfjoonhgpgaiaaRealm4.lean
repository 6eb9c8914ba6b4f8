/- Walks of realm.find over the tenants, and of realm.Owner. -/
import Derived.Test.YtkfjoonhgpgaiaaRealm3
namespace Go.Proofs.Ytkfjoonhgpgaiaa
open Go Go.RowKit Go.Shelf Go.Proofs Go.Sort
attribute [local go_sem] Oper.semAt_some

/-- find's own blocks between two rounds, the tenants ahead of the k-th done. -/
def FindC (w : World) (t : ByteArray) (B : Nat) (k : Nat) (W : World) : Prop :=
  Boxed W w.heap.size 77 (.func (.func 61) #[] #[.pointer (some ⟨B, 0, none⟩)]) ∧ Boxed W (w.heap.size + 1) 73 (.int .i64 0) ∧ Boxed W (w.heap.size + 1 + 1) 4 (.bool false) ∧
  W.heap[w.heap.size + 1 + 1 + 1]? = some (.deferred (some [])) ∧ Below w.heap.size w W ∧ (∀ j, 1 ≤ j → j < k → begB t (bs (preL j)) = false) ∧ k ≤ 17

def FindX (w : World) (t : ByteArray) (rec : LoopState → Option Code → Loop) (k : Nat) (W : World) : Prop :=
  Boxed W (w.heap.size + 1) 73 (.int .i64 k) ∧ Boxed W (w.heap.size + 1 + 1) 4 (.bool true) ∧
  W.heap[w.heap.size + 1 + 1 + 1]? = some (.deferred (some [])) ∧ W.heap[w.heap.size + 1 + 1 + 1 + 1]? = some (.loop (rec .done (some .ret))) ∧ Below w.heap.size w W ∧ begB t (bs (preL k)) = true

theorem findC_lt {w : World} {t : ByteArray} {B k : Nat} {W : World} (h : FindC w t B k W) : w.heap.size + 1 + 1 + 1 < W.heap.size := (Array.getElem?_eq_some_iff.1 h.2.2.2.1).1

theorem findC_below {w : World} {t : ByteArray} {B k : Nat} {W W' : World} (h : FindC w t B k W) (hb : Below W.heap.size W W') : FindC w t B k W' := by
  have hlt := findC_lt h
  obtain ⟨h1, h2, h3, h4, h5, h6⟩ := h
  have key : ∀ j, j < W.heap.size → W'.heap[j]? = W.heap[j]? := hb.block
  exact ⟨(key _ (by omega)).trans h1, (key _ (by omega)).trans h2, (key _ (by omega)).trans h3, (key _ (by omega)).trans h4, h5.trans (hb.mono (by omega)), h6⟩

theorem findC_put {w : World} {t : ByteArray} {B k : Nat} {W : World} (h : FindC w t B k W) {l : Nat} {o : Obj} (o' : Obj) (hl : w.heap.size + 1 + 1 + 1 < l) (ho : W.heap[l]? = some o) : FindC w t B k (W.putObj l o') := by
  obtain ⟨h1, h2, h3, h4, h5, h6⟩ := h
  have key : ∀ j, j ≠ l → (W.putObj l o').heap[j]? = W.heap[j]? := fun j hj => World.putObj_heap_other hj
  exact ⟨(key _ (by omega)).trans h1, (key _ (by omega)).trans h2, (key _ (by omega)).trans h3, (key _ (by omega)).trans h4, h5.grown (grownBy_putObj' W l o') (by have := (Array.getElem?_eq_some_iff.1 ho).1; omega) (fun k e => by cases e; omega), h6⟩

theorem findC_next {w : World} {t : ByteArray} {B k : Nat} {W : World} (h : FindC w t B k W) (hk : k ≤ 16) (hb : begB t (bs (preL k)) = false) : FindC w t B (k + 1) W := by
  obtain ⟨h1, h2, h3, h4, h5, h6, h7⟩ := h
  exact ⟨h1, h2, h3, h4, h5, fun j h8 h9 => if e : j = k then e ▸ hb else h6 j h8 (by omega), by omega⟩

theorem tenants_any (w : World) :
    Calls Try.prog 71 #[] w fun e w' => e = .returned (.func (.func 73) #[] #[]) ∧ w = w' := by
  go_enter Try.func71, Try.ntmps71
  go_wp2
  go_ret
  exact ⟨rfl, rfl⟩

set_option maxRecDepth 100000 in
set_option maxHeartbeats 4000000 in
theorem find_any (t : ByteArray) (B : Nat) (w : World) (hc : w.cell? ⟨B, 0, none⟩ = some (.string t)) :
    Calls Try.prog 60 #[.func (.func 61) #[] #[.pointer (some ⟨B, 0, none⟩)]] w fun e w' => e = .returned (.tuple #[.agg #[.int .i64 (ownerN t)], .bool (decide (1 ≤ ownerN t))]) ∧ Below w.heap.size w w' := by
  have hmf : ∀ (fn : Fn) (first cap : Array Value) (w : World), (Instr.makeFunc fn first cap).run Try.prog w = .ok (.func fn first cap) w := fun _ _ _ _ => rfl
  refine (callsIn_wide (n := 6)).1 ?_
  refine callsIn_of_wp_marks Try.func60 rfl trivial ?_ rfl
  simp only [Try.ntmps60, List.size_toArray, List.length_cons, List.length_nil, Nat.reduceAdd, Nat.reduceSub, Array.replicate_succ, Array.replicate_zero, List.push_toArray, List.append_toArray, List.nil_append, List.cons_append]
  gi_wp2_with (refine ⟨trivial, ?_⟩; gi_at_call 71; refine (callsIn_wide.2 (tenants_any _)).mono ?_; rintro e w' ⟨rfl, rfl⟩)
  have n0 := World.alloc_heap_new w (Obj.cells #[Value.func (Fn.func 61) #[] #[Value.pointer (some { block := B, off := 0 })]] 77)
  have n1 := World.alloc_heap_new (w.alloc (Obj.cells #[Value.func (Fn.func 61) #[] #[Value.pointer (some { block := B, off := 0 })]] 77)) (Obj.cells #[Value.int IntKind.i64 0] 73)
  have n2 := World.alloc_heap_new ((w.alloc (Obj.cells #[Value.func (Fn.func 61) #[] #[Value.pointer (some { block := B, off := 0 })]] 77)).alloc (Obj.cells #[Value.int IntKind.i64 0] 73)) (Obj.cells #[Value.bool false] 4)
  simp only [World.size_alloc] at n1 n2
  have key1 : ∀ (X : World) (ob ob' : Obj) (j : Nat), X.heap[j]? = some ob → (X.alloc ob').heap[j]? = some ob := fun X ob ob' j h => (Below.heap_alloc _ _ _ (Array.getElem?_eq_some_iff.1 h).1).trans h
  obtain ⟨W0, hW0⟩ : ∃ W0, ((w.alloc (Obj.cells #[Value.func (Fn.func 61) #[] #[Value.pointer (some { block := B, off := 0 })]] 77)).alloc (Obj.cells #[Value.int IntKind.i64 0] 73)).alloc (Obj.cells #[Value.bool false] 4) = W0 := ⟨_, rfl⟩
  have hsz : W0.heap.size = w.heap.size + 1 + 1 + 1 := by rw [← hW0]; simp
  have hb0 : Below w.heap.size w W0 := by
    rw [← hW0]
    exact (((Below.refl _ w).alloc (Nat.le_refl _) _).alloc (by simp) _).alloc (by simp; omega) _
  have m0 := key1 _ _ (Obj.cells #[Value.bool false] 4) _ (key1 _ _ (Obj.cells #[Value.int IntKind.i64 0] 73) _ n0)
  have m1 := key1 _ _ (Obj.cells #[Value.bool false] 4) _ n1
  rw [hW0] at m0 m1 n2 ⊢
  clear hW0 n0 n1
  have hC0 : ∀ o, FindC w t B 1 ((W0.alloc (.deferred (some []))).alloc o) := fun o => by
    have nd := World.alloc_heap_new W0 (.deferred (some []))
    rw [hsz] at nd
    exact ⟨key1 _ _ _ _ (key1 _ _ _ _ m0), key1 _ _ _ _ (key1 _ _ _ _ m1), key1 _ _ _ _ (key1 _ _ _ _ n2), key1 _ _ _ _ nd, (hb0.alloc (by omega) _).alloc (by simp; omega) _, fun j h1 h2 => by omega, by omega⟩
  have HT : Hid (∀ W, Below w.heap.size w W → W.cell? ⟨B, 0, none⟩ = some (.string t)) := Lib.hid (fun W hb => (hb.cell (block_lt_of_cell hc)).trans hc)
  clear m0 m1 n2 hb0 hc
  refine rangeFunc_open rfl (by omega) (gf := 73) (lb := #[]) rfl trivial (enters_of Try.func73 (by kernel_rfl) rfl) ?_
  intro fn hfn
  rw [hsz]
  generalize hrec : recOf fn _ _ _ _ _ = rec
  have hst : ∀ st pe, (rec st pe).state = st := by intro st pe; rw [← hrec]; rfl
  have hup : ∀ st pe st' pe', ({ rec st pe with state := st', pending := pe' } : Loop) = rec st' pe' := by intro st pe st' pe'; rw [← hrec]; rfl
  have hup1 : ({ rec .ready none with state := .busy } : Loop) = rec .busy none := by rw [← hrec]; rfl
  refine (tenants1_in (6 - 1) (by omega) (w.heap.size + 1 + 1 + 1 + 1)
    (fun k W => FindC w t B k W ∧ W.heap[w.heap.size + 1 + 1 + 1 + 1]? = some (.loop (rec .ready none))) (FindX w t rec) ?jy _ ?j0).mono ?post
  case j0 =>
    refine ⟨hC0 _, ?_⟩
    have := World.alloc_heap_new (W0.alloc (.deferred (some []))) (.loop (rec .ready none))
    rwa [World.size_alloc, hsz] at this
  case jy =>
    rintro k W ⟨hc, hl⟩ hk1 hk2
    have hl' := hl
    rw [← hrec] at hl'
    refine yield_open hl' rfl hfn ?_
    clear hl' hC0
    have hlt := (Array.getElem?_eq_some_iff.1 hl).1
    gi_wp2
    have hl2 : (W.alloc (.cells #[.int .i64 k] 73)).heap[w.heap.size + 1 + 1 + 1 + 1]? = some (.loop (rec .ready none)) := (Below.heap_alloc _ _ _ hlt).trans hl
    have ob := Boxed.new W 73 (.int .i64 k)
    have hcA := findC_below hc ((Below.refl _ W).alloc (Nat.le_refl _) (.cells #[.int .i64 k] 73))
    have hpb := run_beginRound (P := Try.prog) hl2 (hst _ _)
    rw [hup1] at hpb
    refine ⟨_, hpb, ?_⟩
    clear hpb
    have hlt2 := (Array.getElem?_eq_some_iff.1 hl2).1
    have hl3 := World.putObj_heap_same (w := W.alloc (.cells #[.int .i64 k] 73)) (o := .loop (rec .busy none)) hlt2
    have hc2 := findC_put hcA (.loop (rec .busy none)) (by omega) hl2
    have ob2 : Boxed ((W.alloc (.cells #[.int .i64 k] 73)).putObj (w.heap.size + 1 + 1 + 1 + 1) (.loop (rec .busy none))) W.heap.size 73 (.int .i64 k) := (World.putObj_heap_other (by omega)).trans ob
    generalize (W.alloc (.cells #[.int .i64 k] 73)).putObj (w.heap.size + 1 + 1 + 1 + 1) (.loop (rec .busy none)) = W2 at hc2 hl3 ob2 ⊢
    clear hcA hl2 ob hlt2 hc hl
    generalize W.heap.size = O at hlt ob2 ⊢
    have hcall := isowned_any t k B W2 (by omega) (HT.out W2 hc2.2.2.2.2.1)
    have k1 := hc2.1.cell
    have k2 := ob2.cell
    have HC := Lib.hid hc2
    have HL := Lib.hid hl3
    have HO := Lib.hid ob2
    clear hc2 hl3 ob2
    cases hb : begB t (bs (preL k)) with
    | false =>
      rw [hb] at hcall
      have HB := Lib.hid hb
      clear hb
      gi_wp2_with (refine ⟨trivial, ?_⟩; gi_at_call 61; refine (CallsIn.inRound _ (callsIn_wide.2 hcall)).mono ?_; clear hcall; rintro e w1 ⟨rfl, hn1⟩)
      have hl4 := (hn1.block _ (Array.getElem?_eq_some_iff.1 HL.out).1).trans HL.out
      refine ⟨_, _, run_endRound none hl4, .inl ⟨rfl, findC_put (findC_next (findC_below HC.out hn1) hk2 HB.out) _ (by omega) hl4, ?_⟩⟩
      rw [World.putObj_heap_same (Array.getElem?_eq_some_iff.1 hl4).1]
      simp [hup]
    | true =>
      rw [hb] at hcall
      have HB := Lib.hid hb
      clear hb
      gi_wp2_with (refine ⟨trivial, ?_⟩; gi_at_call 61; refine (CallsIn.inRound _ (callsIn_wide.2 hcall)).mono ?_; clear hcall; rintro e w1 ⟨rfl, hn1⟩; have hc3 := findC_below HC.out hn1; have b1 := hc3.2.1; have b2 := hc3.2.2.1; have c1 := b1.cell; have c2 := b2.cell; have f1 := b1.frozen; have f2 := b2.frozen; have ob3 : Boxed w1 O 73 (.int .i64 k) := (hn1.block _ HO.out.lt).trans HO.out; have c3 := ob3.cell)
      have hl4 := (hn1.block _ (Array.getElem?_eq_some_iff.1 HL.out).1).trans HL.out
      have hlt4 := (Array.getElem?_eq_some_iff.1 hl4).1
      have hl5 := ((KeepsOthers.setCell w1 ⟨w.heap.size + 1, 0, none⟩ (.int .i64 k)).trans (KeepsOthers.setCell _ ⟨w.heap.size + 1 + 1, 0, none⟩ (.bool true))).same _ _ hl4 rfl
      have hD5 := ((KeepsOthers.setCell w1 ⟨w.heap.size + 1, 0, none⟩ (.int .i64 k)).trans (KeepsOthers.setCell _ ⟨w.heap.size + 1 + 1, 0, none⟩ (.bool true))).same _ _ hc3.2.2.2.1 rfl
      have e1 := (b1.set (.int .i64 k)).kept (grownBy_setCell' _ (w.heap.size + 1 + 1) (.bool true)) (by simp)
      have e2 := (b2.kept (grownBy_setCell' _ (w.heap.size + 1) (.int .i64 k)) (by simp)).set (.bool true)
      have eB := (hc3.2.2.2.2.1.setCell (p := ⟨w.heap.size + 1, 0, none⟩) (Nat.le_succ _) (.int .i64 k)).setCell (p := ⟨w.heap.size + 1 + 1, 0, none⟩) (by simp; omega) (.bool true)
      have hlt5 := (Array.getElem?_eq_some_iff.1 hl5).1
      refine ⟨_, _, run_endRound (some .ret) hl5, .inr ⟨rfl, boxed_putNon e1 _ hl5 rfl, boxed_putNon e2 _ hl5 rfl, (World.putObj_heap_other (by omega)).trans hD5, ?_, eB.grown (grownBy_putObj' _ _ _) (by omega) (fun k e => by cases e; omega), HB.out⟩⟩
      rw [World.putObj_heap_same hlt5]
      simp [hup]
  case post =>
    rintro e W' ⟨⟨v, rfl⟩, (⟨hc, hl⟩ | ⟨k, hk1, hk2, hx⟩)⟩
    · have hrun : (Instr.endLoop (w.heap.size + 1 + 1 + 1 + 1)).run Try.prog W' = .ok none (W'.putObj (w.heap.size + 1 + 1 + 1 + 1) (.loop (rec .exhausted none))) := by
        rw [← hrec] at hl ⊢
        exact run_endLoop hl (by simp [recOf])
      refine ⟨none, _, hrun, ?_⟩
      have hc4 := findC_put hc (.loop (rec .exhausted none)) (by omega) hl
      clear hrun
      generalize W'.putObj (w.heap.size + 1 + 1 + 1 + 1) (.loop (rec .exhausted none)) = W4 at hc4 ⊢
      clear hc hl hC0
      have hlt2 := findC_lt hc4
      have hO : ownerN t = 0 := ownerN_miss (fun j h1 h2 => hc4.2.2.2.2.2.1 j h1 (by omega))
      have HV : Hid (ownerN t = 0) := Lib.hid hO
      obtain ⟨b0, b1, b2, hD, hB, -⟩ := hc4
      have c1 := b1.cell
      have c2 := b2.cell
      have f1 := b1.frozen
      have f2 := b2.frozen
      clear hO
      gi_wp2
      have e1 := (b1.set (.int .i64 0)).kept (grownBy_setCell' _ (w.heap.size + 1 + 1) (.bool false)) (by simp)
      have e2 := (b2.kept (grownBy_setCell' _ (w.heap.size + 1) (.int .i64 0)) (by simp)).set (.bool false)
      have hD5 := ((KeepsOthers.setCell W4 ⟨w.heap.size + 1, 0, none⟩ (.int .i64 0)).trans (KeepsOthers.setCell _ ⟨w.heap.size + 1 + 1, 0, none⟩ (.bool false))).same _ _ hD rfl
      have eB := (hB.setCell (p := ⟨w.heap.size + 1, 0, none⟩) (Nat.le_succ _) (.int .i64 0)).setCell (p := ⟨w.heap.size + 1 + 1, 0, none⟩) (by simp; omega) (.bool false)
      have q1 := (boxed_putNon e1 (.deferred none) hD5 rfl).cell
      have q2 := (boxed_putNon e2 (.deferred none) hD5 rfl).cell
      refine ⟨by simp, .inl ⟨_, _, rfl, run_takeDeferred hD5, ?_⟩⟩
      refine ⟨.tuple #[.agg #[.int .i64 0], .bool false], ?_, by rw [HV.out]; rfl, eB.grown (grownBy_putObj' _ _ _) eB.size (fun k e => by cases e; omega)⟩
      simp [results, Try.f60, go_sem, q1, q2]
    · obtain ⟨b1, b2, hD, hl, hB, hbeg⟩ := hx
      have hrun : (Instr.endLoop (w.heap.size + 1 + 1 + 1 + 1)).run Try.prog W' = .ok (some .ret) (W'.putObj (w.heap.size + 1 + 1 + 1 + 1) (.loop (rec .exhausted (some .ret)))) := by
        rw [← hrec] at hl ⊢
        exact run_endLoop hl (by simp [recOf])
      refine ⟨some .ret, _, hrun, ?_⟩
      have HV : Hid (ownerN t = k) := Lib.hid (ownerN_hit hk1 hk2 hbeg)
      have e1 := boxed_putNon b1 (.loop (rec .exhausted (some .ret))) hl rfl
      have e2 := boxed_putNon b2 (.loop (rec .exhausted (some .ret))) hl rfl
      have hlt := (Array.getElem?_eq_some_iff.1 hl).1
      have hD2 : (W'.putObj (w.heap.size + 1 + 1 + 1 + 1) (.loop (rec .exhausted (some .ret)))).heap[w.heap.size + 1 + 1 + 1]? = some (.deferred (some [])) := (World.putObj_heap_other (by omega)).trans hD
      have eB := hB.grown (grownBy_putObj' W' (w.heap.size + 1 + 1 + 1 + 1) (.loop (rec .exhausted (some .ret)))) hB.size (fun k e => by cases e; omega)
      clear hrun hC0
      gi_wp2
      have q1 := (boxed_putNon e1 (.deferred none) hD2 rfl).cell
      have q2 := (boxed_putNon e2 (.deferred none) hD2 rfl).cell
      refine ⟨by simp, .inl ⟨_, _, rfl, run_takeDeferred hD2, ?_⟩⟩
      refine ⟨.tuple #[.agg #[.int .i64 k], .bool true], ?_, by rw [HV.out, decide_eq_true hk1], eB.grown (grownBy_putObj' _ _ _) eB.size (fun k e => by cases e; omega)⟩
      simp [results, Try.f60, go_sem, q1, q2]
end Go.Proofs.Ytkfjoonhgpgaiaa
