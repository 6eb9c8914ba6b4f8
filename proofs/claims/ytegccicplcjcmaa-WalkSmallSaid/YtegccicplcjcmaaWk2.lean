/- Walk: within: the pairs of a tour while a condition holds. -/
import Derived.Test.YtegccicplcjcmaaWk1
import Derived.RangeFuncNested
import Derived.RangeFuncBound
import Derived.RangeFuncLeaves
namespace Go.Proofs.Ytegccicplcjcmaa
open Go Go.RowKit Go.Shelf Go.Proofs Go.Sort
attribute [local go_sem] Oper.semAt_some

/-- The bound behind k pairs. -/
def bndQ (f0 : ByteArray) (qs : PS) : Nat → ByteArray
  | 0 => f0
  | k + 1 => ((qs[k]?).map (·.1)).getD ⟨#[]⟩ ++ ⟨#[0]⟩

/-- From, at one bound. -/
def FromIs (av : Value) (f : ByteArray) (r : Option (ByteArray × ByteArray)) (W : World) : Prop :=
  Calls Try.prog 91 #[av, .string f] W (fun e W' => e = .returned (hitV r) ∧ Below W.heap.size W W')

/-- The caller's own cells between two steps. -/
structure WiB (w : World) (cb : Nat) (hv av : Value) (qs : PS) (k : Nat) (lp : Obj) (W : World) : Prop where
  out : ∃ v, Boxed W (w.heap.size + 1 + 1) 26 v ∧ W.ownsRow (w.heap.size + 1 + 1 + 1 + 1 + 1 + 1 + 1 + 1) 48 2 v k (pcells (qs.take k))
  hol : Boxed W (w.heap.size + 1) 71 hv
  dfr : W.heap[w.heap.size + 1 + 1 + 1 + 1 + 1]? = some (.deferred (some []))
  lop : W.heap[w.heap.size + 1 + 1 + 1 + 1 + 1 + 1]? = some lp
  tou : W.heap[w.heap.size + 1 + 1 + 1 + 1 + 1 + 1 + 1]? = some (.cells #[av] 82 (0, 0))
  gro : w.grownBy W (some cb)

/-- .. between two rounds. -/
structure WiJ (w : World) (cb : Nat) (C : Nat → World → Prop) (hv av : Value) (f0 : ByteArray) (qs : PS) (N : Nat) (lp : Obj) (k : Nat) (f : ByteArray) (W : World) : Prop where
  fk : f = bndQ f0 qs k
  kN : k ≤ N
  cst : C k W
  own : WiB w cb hv av qs k lp W

/-- What the rounds leave. -/
def WiE (w : World) (cb : Nat) (hv av : Value) (qs : PS) (N : Nat) (lp lq : Obj) (W : World) : Prop := WiB w cb hv av qs N lp W ∨ WiB w cb hv av qs N lq W

theorem grown_below {w W : World} (h : Below w.heap.size w W) (row : Option Nat) : w.grownBy W row := ⟨h.os, h.tape, h.output, h.size, fun k hk _ => h.block k hk⟩

theorem grown_far {w W W2 : World} {cb : Nat} {row : Option Nat} (h : w.grownBy W (some cb)) (k : W.grownBy W2 row) (hr : ∀ j, row = some j → j = cb ∨ w.heap.size ≤ j) : w.grownBy W2 (some cb) :=
  ⟨k.os.trans h.os, k.tape.trans h.tape, k.output.trans h.output, Nat.le_trans h.size k.size, fun j hj hne => (k.block j (Nat.lt_of_lt_of_le hj h.size) (fun e => by
    rcases hr j e.symm with e2 | e2
    · exact hne (by rw [e2])
    · omega)).trans (h.block j hj hne)⟩

theorem own_grown {W W2 : World} {B n size : Nat} {e : TypeId} {v : Value} {xs : List Value} {row : Option Nat} (h : W.ownsRow B e size v n xs) (g : W.grownBy W2 row) (hr : ∀ j, row = some j → j < B ∨ W.heap.size ≤ j) : W2.ownsRow B e size v n xs := by
  refine h.kept g ?_
  cases e : v.ownBlock with
  | none => exact .inl rfl
  | some j =>
    refine .inr (fun e2 => ?_)
    have := h.lt j e
    rcases hr j e2.symm with h2 | h2 <;> omega

theorem WiB.lt {w : World} {cb : Nat} {hv av : Value} {qs : PS} {k : Nat} {lp : Obj} {W : World} (h : WiB w cb hv av qs k lp W) : w.heap.size + 1 + 1 + 1 + 1 + 1 + 1 + 1 < W.heap.size := (Array.getElem?_eq_some_iff.1 h.tou).1

/-- Steps that change one block, none of the loop's own. -/
theorem WiB.grown {w : World} {cb : Nat} {hv av : Value} {qs : PS} {k : Nat} {lp : Obj} {W W2 : World} (h : WiB w cb hv av qs k lp W) (hcb : cb < w.heap.size) {row : Option Nat} (g : W.grownBy W2 row) (hr : ∀ j, row = some j → j = cb ∨ W.heap.size ≤ j) : WiB w cb hv av qs k lp W2 := by
  have hlt := h.lt
  have key : ∀ j, w.heap.size ≤ j → j < W.heap.size → W2.heap[j]? = W.heap[j]? := fun j h1 hj => g.block j hj (fun e => by have := hr j e.symm; omega)
  obtain ⟨v, hv, hrow⟩ := h.out
  exact ⟨⟨v, (key _ (by omega) (by omega)).trans hv, own_grown hrow g (fun j e => by have := hr j e; omega)⟩, (key _ (by omega) (by omega)).trans h.hol, (key _ (by omega) (by omega)).trans h.dfr, (key _ (by omega) (by omega)).trans h.lop, (key _ (by omega) hlt).trans h.tou, grown_far h.gro g (fun j e => by have := hr j e; omega)⟩

/-- The loop's record, turned. -/
theorem WiB.put {w : World} {cb : Nat} {hv av : Value} {qs : PS} {k : Nat} {lp : Obj} {W : World} (h : WiB w cb hv av qs k lp W) (lp' : Obj) : WiB w cb hv av qs k lp' (W.putObj (w.heap.size + 1 + 1 + 1 + 1 + 1 + 1) lp') := by
  have hlt := h.lt
  have g := grownBy_putObj' W (w.heap.size + 1 + 1 + 1 + 1 + 1 + 1) lp'
  have key : ∀ j, j < W.heap.size → j ≠ w.heap.size + 1 + 1 + 1 + 1 + 1 + 1 → (W.putObj (w.heap.size + 1 + 1 + 1 + 1 + 1 + 1) lp').heap[j]? = W.heap[j]? := fun j h1 hj => World.putObj_heap_other hj
  obtain ⟨v, hv, hrow⟩ := h.out
  exact ⟨⟨v, (key _ (by omega) (by omega)).trans hv, own_grown hrow g (fun j e => by cases e; omega)⟩, (key _ (by omega) (by omega)).trans h.hol, (key _ (by omega) (by omega)).trans h.dfr, World.putObj_heap_same (by omega), (key _ hlt (by omega)).trans h.tou, grown_far h.gro g (fun j e => by cases e; omega)⟩

theorem row2_slice {w : World} {B n : Nat} {v : Value} {xs : List Value} (h : w.ownsRow B 48 2 v n xs) : ∃ a c, v = .slice a n c := by
  rcases prow_slice h with ⟨rfl, rfl⟩ | ⟨g, c, rfl⟩
  · exact ⟨_, _, rfl⟩
  · exact ⟨_, _, rfl⟩

/-- One pair more. -/
theorem WiB.app {w : World} {cb : Nat} {hv av : Value} {qs : PS} {k : Nat} {lp : Obj} {W w1 : World} (h : WiB w cb hv av qs k lp W) {v : Value} (hrow : W.ownsRow (w.heap.size + 1 + 1 + 1 + 1 + 1 + 1 + 1 + 1) 48 2 v k (pcells (qs.take k))) {o : Obj} {g' cap' : Nat} (hgrow : (W.alloc o).grownBy w1 v.ownBlock)
    {xs : List Value} (hown : w1.ownsRow (w.heap.size + 1 + 1 + 1 + 1 + 1 + 1 + 1 + 1) 48 2 (.slice (some ⟨g', 0, none⟩) (k + 1) cap') (k + 1) xs) (hxs : xs = pcells (qs.take (k + 1))) (hv1 : Boxed w1 (w.heap.size + 1 + 1) 26 v) :
    WiB w cb hv av qs (k + 1) lp (w1.setCell ⟨w.heap.size + 1 + 1, 0, none⟩ (.slice (some ⟨g', 0, none⟩) (k + 1) cap')) := by
  subst hxs
  have hlt := h.lt
  have hrl := hrow.lt
  have hal := World.grownBy_alloc W o none
  have hs1 := hal.size
  have hg4 := grownBy_setCell' w1 (w.heap.size + 1 + 1) (.slice (some ⟨g', 0, none⟩) (k + 1) cap')
  have hnl : ∀ j, j < w.heap.size + 1 + 1 + 1 + 1 + 1 + 1 + 1 + 1 → some j ≠ v.ownBlock := fun j hj e => by have := (hrl j e.symm).1; omega
  have key : ∀ j, j < w.heap.size + 1 + 1 + 1 + 1 + 1 + 1 + 1 + 1 → j < W.heap.size → j ≠ w.heap.size + 1 + 1 → (w1.setCell ⟨w.heap.size + 1 + 1, 0, none⟩ (.slice (some ⟨g', 0, none⟩) (k + 1) cap')).heap[j]? = W.heap[j]? := fun j h1 h2 h3 =>
    (Below.heap_setCell _ _ _ _ (by simpa using h3)).trans ((hgrow.block j (by omega) (hnl j h1)).trans (hal.block j h2 (by simp)))
  refine ⟨⟨_, hv1.set _, own_grown hown hg4 (fun j e => by cases e; omega)⟩, (key _ (by omega) (by omega) (by omega)).trans h.hol, (key _ (by omega) (by omega) (by omega)).trans h.dfr, (key _ (by omega) (by omega) (by omega)).trans h.lop, (key _ (by omega) hlt (by omega)).trans h.tou, ?_⟩
  have g1 := grown_far h.gro hal (fun j e => by cases e)
  have g2 := grown_far g1 hgrow (fun j e => by have := (hrl j e).1; omega)
  exact grown_far g2 hg4 (fun j e => by cases e; omega)

/-- .. and what the closure keeps. -/
theorem kept_app {w W w1 : World} {cb B k n : Nat} {v u : Value} {xs : List Value} (hcb : cb < w.heap.size) (hB : w.heap.size ≤ B) (hW : cb < W.heap.size) (hrow : W.ownsRow B 48 2 v n xs) {o : Obj} (hgrow : (W.alloc o).grownBy w1 v.ownBlock) (hk : cb ≠ k) : (w1.setCell ⟨k, 0, none⟩ u).heap[cb]? = W.heap[cb]? :=
  (Below.heap_setCell _ _ _ _ (by simpa using hk)).trans ((hgrow.block cb (by simp; omega) (fun e => by have := (hrow.lt cb e.symm).1; omega)).trans ((World.grownBy_alloc W o none).block cb hW (by simp)))

set_option maxRecDepth 100000 in
set_option maxHeartbeats 4000000 in
theorem within_any (a0 : Option Addr) (av : Value) (hav : av = .pointer a0) (f0 : ByteArray) (hf : Nat) (caps : Array Value) (hv : Value) (hhv : hv = .func (.func hf) #[] caps) (w : World) (cb : Nat) (hent : ∀ args w, (callFunc hf args).run Try.prog w = .ok (.enter hf args) w) (hcb : cb < w.heap.size) (N : Nat) (qs : PS) (hN : N ≤ qs.length) (hql : qs.length < 90000)
    (hqs : ∀ p ∈ qs, p.1.size ≤ 1000) (C : Nat → World → Prop)
    (hC0 : C 0 w) (hC : ∀ k W1 W2, C k W1 → W2.heap[cb]? = W1.heap[cb]? → C k W2)
    (hF : ∀ k W', k ≤ qs.length → w.grownBy W' (some cb) → FromIs av (bndQ f0 qs k) qs[k]? W')
    (hH : ∀ k W' p, k ≤ N → qs[k]? = some p → w.grownBy W' (some cb) → C k W' → Calls Try.prog hf (#[.string p.1] ++ caps) W' (fun e W2 => e = .returned (.bool (decide (k < N))) ∧ C (k + 1) W2 ∧ W'.grownBy W2 (some cb))) :
    Calls Try.prog 49 #[.agg #[av], .string f0, hv] w fun e w' => ∃ pv, e = .returned pv ∧ PRow w' w.heap.size pv (qs.take N) ∧ w.grownBy w' (some cb) := by
  have hmf : ∀ (fn : Fn) (first cap : Array Value) (w : World), (Instr.makeFunc fn first cap).run Try.prog w = .ok (.func fn first cap) w := fun _ _ _ _ => rfl
  obtain ⟨i0, hi, hz0, hz1, hz2⟩ := info_parts2 infoPair
  have HF := Lib.hid hF
  have HH := Lib.hid hH
  have HC := Lib.hid hC
  have HC0 := Lib.hid hC0
  have HQS := Lib.hid hqs
  clear hF hH hC hC0 hqs
  subst hav hhv
  refine (callsIn_wide (n := 6)).1 ?_
  refine callsIn_of_wp_marks Try.func49 rfl trivial ?_ rfl
  simp only [Try.ntmps49, List.size_toArray, List.length_cons, List.length_nil, Nat.reduceAdd, Nat.reduceSub, Array.replicate_succ, Array.replicate_zero, List.push_toArray, List.append_toArray, List.nil_append, List.cons_append]
  gi_wp2_with (refine ⟨trivial, ?_⟩; gi_at_call 42; refine (callsIn_wide.2 (tpairs_any a0 f0 _)).mono ?_; rintro e w' ⟨rfl, rfl⟩)
  obtain ⟨W0, hW0⟩ : ∃ W0, ((((w.alloc (Obj.cells #[Value.pointer a0] 82)).alloc (Obj.cells #[Value.func (Fn.func hf) #[] caps] 71)).alloc (Obj.cells #[Value.slice none 0 0] 26)).alloc (Obj.cells #[Value.pointer a0] 82)).alloc (Obj.cells #[Value.string f0] 9) = W0 := ⟨_, rfl⟩
  have hsz : W0.heap.size = w.heap.size + 1 + 1 + 1 + 1 + 1 := by rw [← hW0]; simp
  have hb0 : Below w.heap.size w W0 := by
    rw [← hW0]
    exact (((((Below.refl _ w).alloc (Nat.le_refl _) _).alloc (by simp) _).alloc (by simp; omega) _).alloc (by simp; omega) _).alloc (by simp; omega) _
  have m1 : W0.heap[w.heap.size + 1]? = some (Obj.cells #[Value.func (Fn.func hf) #[] caps] 71) := by
    rw [← hW0]
    have := World.alloc_heap_new (w.alloc (Obj.cells #[Value.pointer a0] 82)) (Obj.cells #[Value.func (Fn.func hf) #[] caps] 71)
    rw [World.size_alloc] at this
    exact key1 _ _ _ _ (key1 _ _ _ _ (key1 _ _ _ _ this))
  have m2 : W0.heap[w.heap.size + 1 + 1]? = some (Obj.cells #[Value.slice none 0 0] 26) := by
    rw [← hW0]
    have := World.alloc_heap_new ((w.alloc (Obj.cells #[Value.pointer a0] 82)).alloc (Obj.cells #[Value.func (Fn.func hf) #[] caps] 71)) (Obj.cells #[Value.slice none 0 0] 26)
    simp only [World.size_alloc] at this
    exact key1 _ _ _ _ (key1 _ _ _ _ this)
  have m3 : W0.heap[w.heap.size + 1 + 1 + 1]? = some (Obj.cells #[Value.pointer a0] 82) := by
    rw [← hW0]
    have := World.alloc_heap_new (((w.alloc (Obj.cells #[Value.pointer a0] 82)).alloc (Obj.cells #[Value.func (Fn.func hf) #[] caps] 71)).alloc (Obj.cells #[Value.slice none 0 0] 26)) (Obj.cells #[Value.pointer a0] 82)
    simp only [World.size_alloc] at this
    exact key1 _ _ _ _ this
  have m4 : W0.heap[w.heap.size + 1 + 1 + 1 + 1]? = some (Obj.cells #[Value.string f0] 9) := by
    rw [← hW0]
    have := World.alloc_heap_new ((((w.alloc (Obj.cells #[Value.pointer a0] 82)).alloc (Obj.cells #[Value.func (Fn.func hf) #[] caps] 71)).alloc (Obj.cells #[Value.slice none 0 0] 26)).alloc (Obj.cells #[Value.pointer a0] 82)) (Obj.cells #[Value.string f0] 9)
    simp only [World.size_alloc] at this
    exact this
  try simp only [World.size_alloc]
  rw [hW0]
  clear hW0
  refine rangeFunc_open rfl (by omega) (gf := 60) (lb := #[.pointer (some ⟨w.heap.size + 1 + 1 + 1, 0, none⟩), .pointer (some ⟨w.heap.size + 1 + 1 + 1 + 1, 0, none⟩)]) rfl trivial (enters_of Try.func60 (by kernel_rfl) rfl) ?_
  intro fn hfn
  rw [hsz]
  generalize hrec : recOf fn _ _ _ _ _ = rec
  have hst : ∀ st pe, (rec st pe).state = st := by intro st pe; rw [← hrec]; rfl
  have hup : ∀ st pe st' pe', ({ rec st pe with state := st', pending := pe' } : Loop) = rec st' pe' := by intro st pe st' pe'; rw [← hrec]; rfl
  have hup1 : ({ rec .ready none with state := .busy } : Loop) = rec .busy none := by rw [← hrec]; rfl
  obtain ⟨S0, hS0⟩ : ∃ S0, (W0.alloc (.deferred (some []))).alloc (.loop (rec .ready none)) = S0 := ⟨_, rfl⟩
  have hsz2 : S0.heap.size = w.heap.size + 1 + 1 + 1 + 1 + 1 + 1 + 1 := by rw [← hS0]; simp [hsz]
  have hbs : Below w.heap.size w S0 := by rw [← hS0]; exact (hb0.alloc (by omega) _).alloc (by simp; omega) _
  have s1 : S0.heap[w.heap.size + 1]? = some (Obj.cells #[Value.func (Fn.func hf) #[] caps] 71) := by rw [← hS0]; exact key1 _ _ _ _ (key1 _ _ _ _ m1)
  have s2 : S0.heap[w.heap.size + 1 + 1]? = some (Obj.cells #[Value.slice none 0 0] 26) := by rw [← hS0]; exact key1 _ _ _ _ (key1 _ _ _ _ m2)
  have s3 : S0.cell? ⟨w.heap.size + 1 + 1 + 1, 0, none⟩ = some (Value.pointer a0) := by
    have : S0.heap[w.heap.size + 1 + 1 + 1]? = some (Obj.cells #[Value.pointer a0] 82) := by rw [← hS0]; exact key1 _ _ _ _ (key1 _ _ _ _ m3)
    simp [World.cell?, this]
  have s4 : S0.cell? ⟨w.heap.size + 1 + 1 + 1 + 1, 0, none⟩ = some (Value.string f0) := by
    have : S0.heap[w.heap.size + 1 + 1 + 1 + 1]? = some (Obj.cells #[Value.string f0] 9) := by rw [← hS0]; exact key1 _ _ _ _ (key1 _ _ _ _ m4)
    simp [World.cell?, this]
  have sD : S0.heap[w.heap.size + 1 + 1 + 1 + 1 + 1]? = some (.deferred (some [])) := by
    rw [← hS0]
    have := World.alloc_heap_new W0 (.deferred (some []))
    rw [hsz] at this
    exact key1 _ _ _ _ this
  have sL : S0.heap[w.heap.size + 1 + 1 + 1 + 1 + 1 + 1]? = some (.loop (rec .ready none)) := by
    rw [← hS0]
    have := World.alloc_heap_new (W0.alloc (.deferred (some []))) (.loop (rec .ready none))
    rw [World.size_alloc, hsz] at this
    exact this
  rw [hS0]
  clear hS0 hb0 m1 m2 m3 m4 hsz
  refine (pairs1_in (6 - 1) (by omega) (w.heap.size + 1 + 1 + 1 + 1 + 1 + 1) N (w.heap.size + 1 + 1 + 1 + 1 + 1 + 1 + 1) (w.heap.size + 1 + 1 + 1) (w.heap.size + 1 + 1 + 1 + 1) (.pointer a0) a0 rfl f0 S0 hsz2
    (WiJ w cb C (.func (.func hf) #[] caps) (.pointer a0) f0 qs N (.loop (rec .ready none))) (WiE w cb (.func (.func hf) #[] caps) (.pointer a0) qs N (.loop (rec .ready none)) (.loop (rec .done (some (.exit 0))))) s3 s4 ?j0 ?jt ?ja (by omega)).mono ?post
  case j0 =>
    have hal := Below.alloc (Below.refl S0.heap.size S0) (Nat.le_refl _) (Obj.cells #[Value.pointer a0] 82)
    have ht := World.alloc_heap_new S0 (Obj.cells #[Value.pointer a0] 82)
    rw [hsz2] at ht
    have hfin := hbs.trans (hal.mono (by omega))
    exact ⟨rfl, Nat.zero_le _, HC.out _ _ _ HC0.out (hfin.block _ hcb), ⟨_, (hal.block _ (by omega)).trans s2, World.ownsRow_nil _ _ _ _⟩, (hal.block _ (by omega)).trans s1, (hal.block _ (by omega)).trans sD, (hal.block _ (by omega)).trans sL, ht, grown_below hfin _⟩
  case jt =>
    intro k f W h
    exact ⟨h.kN, by have := h.own.tou; simp [World.cell?, this]⟩
  case ja =>
    intro k f W h
    have hgs := h.own.gro.size
    have hcW : ∀ W', Below W.heap.size W W' → C k W' := fun W' hb => HC.out _ _ _ h.cst (hb.block _ (by omega))
    refine ⟨qs[k]?, fun p hp => HQS.out p (List.mem_of_getElem? hp), ?_, ?_, ?_⟩
    · rw [h.fk]
      exact HF.out k W (Nat.le_trans h.kN hN) h.own.gro
    · intro hnone W' hb
      obtain rfl : k = N := by have := h.kN; have := List.getElem?_eq_none_iff.1 hnone; omega
      exact .inl (h.own.grown hcb (grown_below hb none) (fun _ e => by cases e))
    · intro p hp W' hb
      have h' := h.own.grown hcb (grown_below hb none) (fun _ e => by cases e)
      have hc' := hcW W' hb
      have hkN := h.kN
      clear h hb s1 s2 s3 s4 sD sL hbs hgs hcW
      have hl' := h'.lop
      rw [← hrec] at hl'
      refine yield_open hl' rfl hfn ?_
      clear hl'
      gi_wp2
      obtain ⟨X1, hX1⟩ : ∃ X1, W'.alloc (Obj.cells #[Value.string p.fst, Value.string p.snd] 48) = X1 := ⟨_, rfl⟩
      have hal : Below W'.heap.size W' X1 := by rw [← hX1]; exact (Below.refl _ _).alloc (Nat.le_refl _) _
      have hp1 : X1.heap[W'.heap.size]? = some (Obj.cells #[Value.string p.fst, Value.string p.snd] 48) := by rw [← hX1]; exact World.alloc_heap_new _ _
      have h1 := h'.grown hcb (grown_below hal none) (fun _ e => by cases e)
      have c1 : C k X1 := HC.out _ _ _ hc' (hal.block _ (by have := h'.lt; omega))
      have hPlt := h'.lt
      have hsP : X1.heap.size = W'.heap.size + 1 := by rw [← hX1]; simp
      rw [hX1]
      clear hX1 hal h' hc'
      generalize W'.heap.size = P at hp1 hPlt hsP ⊢
      have hpb := run_beginRound (P := Try.prog) h1.lop (hst _ _)
      rw [hup1] at hpb
      refine ⟨_, hpb, ?_⟩
      clear hpb
      have h2 := h1.put (.loop (rec .busy none))
      have c2 : C k (X1.putObj (w.heap.size + 1 + 1 + 1 + 1 + 1 + 1) (.loop (rec .busy none))) := HC.out _ _ _ c1 (World.putObj_heap_other (by omega))
      have hp2 : (X1.putObj (w.heap.size + 1 + 1 + 1 + 1 + 1 + 1) (.loop (rec .busy none))).heap[P]? = some (Obj.cells #[Value.string p.fst, Value.string p.snd] 48) := (World.putObj_heap_other (by omega)).trans hp1
      clear h1 c1 hp1 hsP
      generalize X1.putObj (w.heap.size + 1 + 1 + 1 + 1 + 1 + 1) (.loop (rec .busy none)) = X2 at h2 c2 hp2 ⊢
      have q0 := h2.hol.cell
      have q1 : X2.cell? ⟨P, 0, none⟩ = some (.string p.1) := by simp [World.cell?, hp2]
      have hcall := HH.out k X2 p hkN hp h2.gro c2
      have HB := Lib.hid h2
      have HP2 := Lib.hid hp2
      clear h2 c2 hp2
      obtain ⟨p1, p2⟩ := p
      simp only at q1 hcall HP2
      by_cases hk2 : k < N
      · rw [decide_eq_true hk2] at hcall
        have htk : qs.take (k + 1) = qs.take k ++ [(p1, p2)] := by rw [List.take_add_one, hp]; rfl
        have HT := Lib.hid htk
        have HNX : Hid (bndQ f0 qs (k + 1) = p1 ++ ⟨#[0]⟩) := Lib.hid (by simp [bndQ, hp])
        have hPb := HB.out.lt
        clear htk hp
        gi_wp2_with (first
          | (refine ⟨trivial, ?_⟩; refine (CallsIn.inRound _ (callsIn_wide.2 hcall)).mono ?_; clear hcall; rintro e X3 ⟨rfl, hc3, hg3⟩; have HB3 := Lib.hid (HB.out.grown hcb hg3 (fun j e => by cases e; exact .inl rfl)); obtain ⟨v, hv, hrow⟩ := HB3.out.out; have HV := Lib.hid hv; have HR := Lib.hid hrow; have kv := hv.cell; have hp3 : X3.heap[P]? = some (Obj.cells #[Value.string p1, Value.string p2] 48) := ((hg3.block P (Array.getElem?_eq_some_iff.1 HP2.out).1 (fun e => by cases e; omega)).trans HP2.out); have x0 : X3.cell? ⟨P, 0, none⟩ = some (.string p1) := (by simp [World.cell?, hp3]); have x1 : X3.cell? ⟨P, 1, none⟩ = some (.string p2) := (by simp [World.cell?, hp3]); have hX3 := HB3.out.lt; clear hv hrow hp3)
          | (gi_at_builtin; refine wpListIn_append_own _ rfl _ _ 26 rfl (w.heap.size + 1 + 1 + 1 + 1 + 1 + 1 + 1 + 1) 48 i0 (.agg #[.string ⟨#[]⟩, .string ⟨#[]⟩]) 2 32 Try.underlying26 hi hz0 hz1 hz2 rfl (by decide) v k (pcells (qs.take k)) rfl (HR.out.alloc _) ⟨X3.heap.size, 0, none⟩ 1 1 [.string p1, .string p2] rfl rfl (two_new _ _ _ _) (two_one _ _) (by unfold maxLen; omega) (by omega) (by simp; omega) ?_; intro v' w1 hown' hgrow hnil; obtain ⟨g', cap', rfl⟩ := (prow_slice hown').resolve_left (fun e => by have := e.2; omega); have hv1 := (HV.out.alloc _).kept hgrow (HV.out.not_row (by decide) HR.out); have k1 := hv1.cell; have f1 := hv1.frozen))
        have HB4 := HB3.out.app HR.out hgrow hown' (by rw [HT.out, pcells_append]; rfl) hv1
        have hc4 := HC.out _ _ _ hc3 (kept_app (u := .slice (some ⟨g', 0, none⟩) (k + 1) cap') hcb (show w.heap.size ≤ w.heap.size + 1 + 1 + 1 + 1 + 1 + 1 + 1 + 1 by omega) (by omega) HR.out hgrow (show cb ≠ w.heap.size + 1 + 1 by omega))
        generalize w1.setCell ⟨w.heap.size + 1 + 1, 0, none⟩ (.slice (some ⟨g', 0, none⟩) (k + 1) cap') = W4 at HB4 hc4 ⊢
        have hendr : (Instr.endRound (w.heap.size + 1 + 1 + 1 + 1 + 1 + 1) none).run Try.prog W4 = .ok (.bool true) (W4.putObj (w.heap.size + 1 + 1 + 1 + 1 + 1 + 1) (.loop (rec .ready none))) := by
          have := run_endRound (P := Try.prog) none HB4.lop
          rw [hup] at this
          exact this
        exact ⟨_, _, hendr, .inl ⟨rfl, HNX.out.symm, by omega, HC.out _ _ _ hc4 (World.putObj_heap_other (by omega)), HB4.put _⟩⟩
      · rw [decide_eq_false hk2] at hcall
        obtain rfl : k = N := by omega
        gi_wp2_with (first
          | (refine ⟨trivial, ?_⟩; refine (CallsIn.inRound _ (callsIn_wide.2 hcall)).mono ?_; clear hcall; rintro e X3 ⟨rfl, hc3, hg3⟩; have HB3 := Lib.hid (HB.out.grown hcb hg3 (fun j e => by cases e; exact .inl rfl))))
        have hendr : (Instr.endRound (w.heap.size + 1 + 1 + 1 + 1 + 1 + 1) (some (.exit 0))).run Try.prog X3 = .ok (.bool false) (X3.putObj (w.heap.size + 1 + 1 + 1 + 1 + 1 + 1) (.loop (rec .done (some (.exit 0))))) := by
          have := run_endRound (P := Try.prog) (some (.exit 0)) HB3.out.lop
          rw [hup] at this
          exact this
        exact ⟨_, _, hendr, rfl, .inr (HB3.out.put _)⟩
  case post =>
    clear s1 s2 s3 s4 sD sL hbs hsz2
    rintro e W' ⟨⟨v0, rfl⟩, (hE | hE)⟩
    · have hrun : (Instr.endLoop (w.heap.size + 1 + 1 + 1 + 1 + 1 + 1)).run Try.prog W' = .ok none (W'.putObj (w.heap.size + 1 + 1 + 1 + 1 + 1 + 1) (.loop (rec .exhausted none))) := by
        have hl := hE.lop
        rw [← hrec] at hl ⊢
        exact run_endLoop hl (by simp [recOf])
      refine ⟨none, _, hrun, ?_⟩
      have h2 := hE.put (.loop (rec .exhausted none))
      clear hE hrun
      generalize W'.putObj (w.heap.size + 1 + 1 + 1 + 1 + 1 + 1) (.loop (rec .exhausted none)) = W4 at h2 ⊢
      obtain ⟨v, hv, hrow⟩ := h2.out
      obtain ⟨va, vc, rfl⟩ := row2_slice hrow
      have kv := hv.cell
      have kf := hv.frozen
      have HB := Lib.hid h2
      have HV := Lib.hid hv
      have HR := Lib.hid hrow
      clear h2 hv hrow
      gi_wp2
      have hD := ((Below.heap_setCell _ _ _ _ (by show w.heap.size + 1 + 1 + 1 + 1 + 1 ≠ w.heap.size + 1 + 1; omega)).trans HB.out.dfr : (W4.setCell ⟨w.heap.size + 1 + 1, 0, none⟩ (.slice va N vc)).heap[w.heap.size + 1 + 1 + 1 + 1 + 1]? = _)
      have hg4 := grownBy_setCell' W4 (w.heap.size + 1 + 1) (.slice va N vc)
      have hb5 := HV.out.set (.slice va N vc)
      have hr5 := own_grown HR.out hg4 (fun j e => by cases e; omega)
      have hgr5 := grown_far HB.out.gro hg4 (fun j e => by cases e; omega)
      have hsz5 := hg4.size
      have hlt5 := HB.out.lt
      generalize W4.setCell ⟨w.heap.size + 1 + 1, 0, none⟩ (.slice va N vc) = W5 at hD hb5 hr5 hgr5 hsz5 ⊢
      have hg6 := grownBy_putObj' W5 (w.heap.size + 1 + 1 + 1 + 1 + 1) (.deferred none)
      have q1 := (boxed_putNon hb5 (.deferred none) hD rfl).cell
      refine ⟨by simp, .inl ⟨_, _, rfl, run_takeDeferred hD, ?_⟩⟩
      refine ⟨.slice va N vc, ?_, _, rfl, ?_, grown_far hgr5 hg6 (fun j e => by cases e; omega)⟩
      · simp [results, Try.f49, go_sem, q1]
      · unfold PRow
        rw [List.length_take, Nat.min_eq_left hN]
        exact ownsRow_base (own_grown hr5 hg6 (fun j e => by cases e; omega)) (by omega)
    · have hrun : (Instr.endLoop (w.heap.size + 1 + 1 + 1 + 1 + 1 + 1)).run Try.prog W' = .ok (some (.exit 0)) (W'.putObj (w.heap.size + 1 + 1 + 1 + 1 + 1 + 1) (.loop (rec .exhausted (some (.exit 0))))) := by
        have hl := hE.lop
        rw [← hrec] at hl ⊢
        exact run_endLoop hl (by simp [recOf])
      refine ⟨some (.exit 0), _, hrun, ?_⟩
      have h2 := hE.put (.loop (rec .exhausted (some (.exit 0))))
      clear hE hrun
      generalize W'.putObj (w.heap.size + 1 + 1 + 1 + 1 + 1 + 1) (.loop (rec .exhausted (some (.exit 0)))) = W4 at h2 ⊢
      obtain ⟨v, hv, hrow⟩ := h2.out
      obtain ⟨va, vc, rfl⟩ := row2_slice hrow
      have kv := hv.cell
      have kf := hv.frozen
      have HB := Lib.hid h2
      have HV := Lib.hid hv
      have HR := Lib.hid hrow
      clear h2 hv hrow
      gi_wp2
      have hD := ((Below.heap_setCell _ _ _ _ (by show w.heap.size + 1 + 1 + 1 + 1 + 1 ≠ w.heap.size + 1 + 1; omega)).trans HB.out.dfr : (W4.setCell ⟨w.heap.size + 1 + 1, 0, none⟩ (.slice va N vc)).heap[w.heap.size + 1 + 1 + 1 + 1 + 1]? = _)
      have hg4 := grownBy_setCell' W4 (w.heap.size + 1 + 1) (.slice va N vc)
      have hb5 := HV.out.set (.slice va N vc)
      have hr5 := own_grown HR.out hg4 (fun j e => by cases e; omega)
      have hgr5 := grown_far HB.out.gro hg4 (fun j e => by cases e; omega)
      have hsz5 := hg4.size
      have hlt5 := HB.out.lt
      generalize W4.setCell ⟨w.heap.size + 1 + 1, 0, none⟩ (.slice va N vc) = W5 at hD hb5 hr5 hgr5 hsz5 ⊢
      have hg6 := grownBy_putObj' W5 (w.heap.size + 1 + 1 + 1 + 1 + 1) (.deferred none)
      have q1 := (boxed_putNon hb5 (.deferred none) hD rfl).cell
      refine ⟨by simp, .inl ⟨_, _, rfl, run_takeDeferred hD, ?_⟩⟩
      refine ⟨.slice va N vc, ?_, _, rfl, ?_, grown_far hgr5 hg6 (fun j e => by cases e; omega)⟩
      · simp [results, Try.f49, go_sem, q1]
      · unfold PRow
        rw [List.length_take, Nat.min_eq_left hN]
        exact ownsRow_base (own_grown hr5 hg6 (fun j e => by cases e; omega)) (by omega)

end Go.Proofs.Ytegccicplcjcmaa
