/- Soft slots that hold slices of pairs. -/
import Derived.Test.YtegccicplcjcmaaBase
import Derived.Lib.QuietBelow
import Derived.Lib.Hide
import Derived.BigQuiet
import Derived.Test.YtegccicplcjcmaaPairK
/- A region that draws its order, some of whose slots hold fresh addresses ('soft' slots: what lies there is told by a predicate, kept by every later step): walked ONCE in the order of the text. -/
namespace Go.Proofs.Ytegccicplcjcmaa.Soft
open Go Go.RowKit Go.Proofs

/-- What stands in a soft slot in the walk of the text's order. -/
def tok : Value := .tuple #[.tuple #[]]

def get (a : Act) (t : Tmp) : Value := a.tmps.getD t undef

theorem get_put_ne {a : Act} {dst : Option Tmp} {v : Value} {t : Tmp} (h : dst ≠ some t) : get (a.put dst v) t = get a t := by
  cases dst with
  | none => rfl
  | some d =>
    have hne : d ≠ t := fun e => h (by rw [e])
    simp [get, Act.put, Array.getElem?_setIfInBounds_ne hne]

theorem get_put_eq {a : Act} {d : Tmp} {v : Value} (h : d < a.tmps.size) : get (a.put (some d) v) d = v := by
  simp [get, Act.put, h]

theorem size_put (a : Act) (dst : Option Tmp) (v : Value) : (a.put dst v).tmps.size = a.tmps.size := by
  cases dst <;> simp [Act.put]
theorem get_put_out {a : Act} {d : Tmp} {v : Value} (h : ¬ d < a.tmps.size) : get (a.put (some d) v) d = undef := by
  have h1 : (a.put (some d) v).tmps.size ≤ d := by rw [size_put]; exact Nat.not_lt.1 h
  unfold get
  rw [Array.getD_eq_getD_getElem?, Array.getElem?_eq_none h1]
  rfl

theorem defers_put (a : Act) (dst : Option Tmp) (v : Value) : (a.put dst v).defers = a.defers := by
  cases dst <;> rfl

section
variable (P : Program) (ops : Array Oper) (md : Region.Mode) (R : World → World → Prop) (w0 : World) (soft : List Tmp) (G : Tmp → Value → World → Prop)

/-- Slot t of the walk's frame a and of the true frame b. -/
def SimAt (a b : Act) (w : World) (t : Tmp) : Prop :=
  (t ∈ soft → get a t = tok → G t (get b t) w) ∧ (t ∉ soft → get b t = get a t)

def Sim (a b : Act) (w : World) : Prop := b.defers = a.defers ∧ b.tmps.size = a.tmps.size ∧ ∀ t, SimAt soft G a b w t

/-- The walk's value v, the true value u of an operation that writes 'dst'. -/
def ValSim (dst : Option Tmp) (v u : Value) : Prop :=
  u = v ∨ ∃ d, dst = some d ∧ d ∈ soft

def Upon (dst : Option Tmp) (v : Value) (w : World) : Result Next → Prop
  | .ok (.value u) w' => R w w' ∧ ValSim soft dst v u ∧ (∀ d, dst = some d → d ∈ soft → v = tok → G d u w')
  | .ok .skip w' => R w w' ∧ v = undef
  | .ok (.enter f args) w' => Calls P f args w' (fun e w'' => ∃ u, e = .returned u ∧ R w w'' ∧ ValSim soft dst v u ∧ (∀ d, dst = some d → d ∈ soft → v = tok → G d u w''))
  | _ => False

/-- Operation o yields v in the walk's state a. -/
def Yields (o : Oper) (v : Value) (a : Act) : Prop :=
  ∀ b w, R w0 w → (∀ t, t ∈ o.looksAt ops → SimAt soft G a b w t) →
    (Region.wanted o (yielded ops b.tmps) = true ∧ Upon P R soft G o.dst v w ((execOp b.eval o).run P w)) ∨
    (Region.wanted o (yielded ops b.tmps) = false ∧ v = undef)

/-- The walk in the text's order. -/
def wpSoft (Q : Act → Prop) : List Oper → Act → Prop
  | [], a => Q a
  | o :: rest, a => ∃ v, Yields P ops R w0 soft G o v a ∧ wpSoft Q rest (a.put o.dst v)

/-- Whatever order. -/
def wpAnyA (Q : Act → Prop) : Nat → Array Bool → Act → Prop
  | 0, listed, a => Region.ready md ops listed = [] ∧ Q a
  | n + 1, listed, a => (Region.ready md ops listed = [] → Q a) ∧
    ∀ i ∈ Region.ready md ops listed, ∃ o, ops[i]? = some o ∧ ∃ v, Yields P ops R w0 soft G o v a ∧ wpAnyA Q n (listed.setIfInBounds i true) (a.put o.dst v)
end

section
variable {P : Program} {ops : Array Oper} {md : Region.Mode} {R : World → World → Prop} {w0 : World} {soft : List Tmp} {G : Tmp → Value → World → Prop}

theorem undef_ne_tok : undef ≠ tok := by unfold tok; intro h; cases h

theorem SimAt.congr {a a' b : Act} {w : World} {t : Tmp} (h : SimAt soft G a b w t) (e : get a' t = get a t) : SimAt soft G a' b w t := by
  unfold SimAt at *; rw [e]; exact h

theorem Yields.put {o : Oper} {v u : Value} {a : Act} {dst : Option Tmp} (hd : ∀ d, dst = some d → d ∉ o.looksAt ops) (h : Yields P ops R w0 soft G o v a) :
    Yields P ops R w0 soft G o v (a.put dst u) := fun b w hw hs =>
  h b w hw fun t ht => (hs t ht).congr (get_put_ne fun e => hd t e ht).symm

theorem Yields.unput {o : Oper} {v u : Value} {a : Act} {dst : Option Tmp} (hd : ∀ d, dst = some d → d ∉ o.looksAt ops) (h : Yields P ops R w0 soft G o v (a.put dst u)) :
    Yields P ops R w0 soft G o v a := fun b w hw hs =>
  h b w hw fun t ht => (hs t ht).congr (get_put_ne fun e => hd t e ht)

theorem wpAnyA_first {Q : Act → Prop} {i : Nat} {oi : Oper} {v : Value} (hi : ops[i]? = some oi) :
    ∀ (n : Nat) (listed : Array Bool) (a : Act),
      (∀ j oj, ops[j]? = some oj → j ≠ i → listed.getD j true = false → (∀ e ∈ oj.after, Region.binds md e = true → e.on ≠ i) → oi.apart ops oj = true) →
      i ∈ Region.ready md ops listed → Yields P ops R w0 soft G oi v a →
      wpAnyA P ops md R w0 soft G Q n (listed.setIfInBounds i true) (a.put oi.dst v) → wpAnyA P ops md R w0 soft G Q (n + 1) listed a := by
  intro n
  induction n with
  | zero =>
    intro listed a _ hr hy H
    refine ⟨fun h => (by rw [h] at hr; cases hr), fun j hj => ?_⟩
    by_cases hji : j = i
    · subst hji; exact ⟨oi, hi, v, hy, H⟩
    · have := ready_mono hj hji
      rw [H.1] at this; cases this
  | succ n ih =>
    intro listed a hfree hr hy H
    refine ⟨fun h => (by rw [h] at hr; cases hr), fun j hj => ?_⟩
    by_cases hji : j = i
    · subst hji; exact ⟨oi, hi, v, hy, H⟩
    · obtain ⟨oj, hoj, u, hyj, hK⟩ := H.2 j (ready_mono hj hji)
      obtain ⟨hun, oj', hoj', hall⟩ := mem_ready.1 hj
      obtain rfl : oj = oj' := by rw [hoj] at hoj'; exact Option.some.inj hoj'
      have hun_i := (mem_ready.1 hr).1
      have hno : ∀ e ∈ oj.after, Region.binds md e = true → e.on ≠ i := fun e he hb heq => by
        have h1 := hall e he hb
        rw [heq] at h1
        rcases Nat.lt_or_ge i listed.size with h' | h'
        · simp [h'] at hun_i h1; rw [hun_i] at h1; cases h1
        · simp [Array.getElem?_eq_none h'] at h1
      have hap := hfree j oj hoj hji hun hno
      obtain ⟨p1, p2, p3⟩ := Oper.apart_spec hap
      refine ⟨oj, hoj, u, hyj.unput p1, ih _ _ ?_ (ready_mono hr (Ne.symm hji)) (hy.put p3) ?_⟩
      · intro k ok hk hki hkun hkno
        refine hfree k ok hk hki ?_ hkno
        by_cases hjk : j = k
        · subst hjk; exact hun
        · rw [getD_set_ne true hjk] at hkun; exact hkun
      · rw [Array.setIfInBounds_comm _ _ hji, ← Act.put_comm a v u p2]
        exact hK

theorem wpAnyA_lex {Q : Act → Prop} : ∀ (l : List Oper) (k : Nat) (listed : Array Bool) (a : Act), (∀ j, l[j]? = ops[k + j]?) →
    Region.lexFrom md ops l.length k listed = true → wpSoft P ops R w0 soft G Q l a → wpAnyA P ops md R w0 soft G Q l.length listed a
  | [], _, _, _, _, hB, h => ⟨by simpa [Region.lexFrom] using hB, h⟩
  | o :: l, k, listed, a, hl, hB, ⟨v, hy, hK⟩ => by
    have h0 : ops[k]? = some o := by simpa using (hl 0).symm
    simp only [List.length_cons, Region.lexFrom, Bool.and_eq_true] at hB
    obtain ⟨⟨hr, hf⟩, hB'⟩ := hB
    exact wpAnyA_first h0 l.length listed a (Region.free_spec h0 hf) (by simpa using hr) hy
      (wpAnyA_lex l (k + 1) _ _ (fun j => by have := hl (j + 1); simpa [Nat.add_assoc, Nat.add_comm 1 j] using this) hB' hK)

theorem Sim.put (hG : ∀ t v w w', G t v w → R w w' → G t v w') {a b : Act} {w w' : World} {dst : Option Tmp} {v u : Value} (h : Sim soft G a b w) (hr : R w w')
    (hv : ValSim soft dst v u) (hv2 : ∀ d, dst = some d → d ∈ soft → v = tok → G d u w') : Sim soft G (a.put dst v) (b.put dst u) w' := by
  obtain ⟨h1, h2, h3⟩ := h
  refine ⟨by rw [defers_put, defers_put, h1], by rw [size_put, size_put, h2], fun t => ?_⟩
  by_cases ht : dst = some t
  · subst ht
    by_cases hlt : t < a.tmps.size
    · unfold SimAt
      rw [get_put_eq hlt, get_put_eq (a := b) (h2.symm ▸ hlt)]
      refine ⟨fun hm e => hv2 t rfl hm e, fun hn => ?_⟩
      rcases hv with e | ⟨d, hd, hm⟩
      · exact e
      · cases hd
        exact absurd hm hn
    · unfold SimAt
      rw [get_put_out hlt, get_put_out (a := b) (h2.symm ▸ hlt)]
      exact ⟨fun _ e => absurd e undef_ne_tok, fun _ => rfl⟩
  · unfold SimAt
    rw [get_put_ne ht, get_put_ne ht]
    exact ⟨fun hm e => hG _ _ _ _ ((h3 t).1 hm e) hr, (h3 t).2⟩

theorem wpAny_of_A {Q : Act → Prop} {Q' : Exit → Act → World → Prop} (hrefl : ∀ w, R w w) (htrans : ∀ w1 w2 w3, R w1 w2 → R w2 w3 → R w1 w3) (hG : ∀ t v w w', G t v w → R w w' → G t v w')
    (hQ : ∀ a b w, R w0 w → Sim soft G a b w → Q a → Q' .normal b w) :
    ∀ (n : Nat) (listed : Array Bool) (a b : Act) (w : World), R w0 w → Sim soft G a b w → wpAnyA P ops md R w0 soft G Q n listed a → wpAny P md ops Q' n listed b w
  | 0, _, a, b, w, hw, hs, h => ⟨h.1, hQ a b w hw hs h.2⟩
  | n + 1, listed, a, b, w, hw, hs, h => by
    refine ⟨fun h0 => hQ a b w hw hs (h.1 h0), fun i hi => ?_⟩
    obtain ⟨o, ho, v, hy, hK⟩ := h.2 i hi
    unfold wpOp
    simp only [ho]
    rcases hy b w hw (fun t _ => hs.2.2 t) with ⟨hw1, hu⟩ | ⟨hw1, rfl⟩
    · simp only [hw1, if_true]
      refine .inl ?_
      unfold Oper.wp
      generalize (execOp b.eval o).run P w = r at hu
      cases r with
      | ok n' w' =>
        cases n' <;> simp only [Upon] at hu <;> simp only [Oper.upon]
        case value u => exact wpAny_of_A hrefl htrans hG hQ n _ _ _ w' (htrans _ _ _ hw hu.1) (hs.put hG hu.1 hu.2.1 hu.2.2) hK
        case skip =>
          obtain ⟨hr, rfl⟩ := hu
          exact wpAny_of_A hrefl htrans hG hQ n _ _ _ w' (htrans _ _ _ hw hr) (hs.put hG hr (.inl rfl) (fun _ _ _ e => absurd e undef_ne_tok)) hK
        case enter f args =>
          exact hu.mono fun e w'' ⟨u, he, hr, hv, hg⟩ => by
            subst he
            exact wpAny_of_A hrefl htrans hG hQ n _ _ _ w'' (htrans _ _ _ hw hr) (hs.put hG hr hv hg) hK
      | halt x w' => simp only [Upon] at hu
    · simp only [hw1, Bool.false_eq_true, if_false]
      exact wpAny_of_A hrefl htrans hG hQ n _ _ _ w hw (hs.put hG (hrefl w) (.inl rfl) (fun _ _ _ e => absurd e undef_ne_tok)) hK

/-- The walk's frame with the soft slots' true values. -/
def patch (us : Tmp → Value) : List Tmp → Act → Act
  | [], a => a
  | t :: r, a => patch us r (a.put (some t) (us t))

theorem patch_get (us : Tmp → Value) : ∀ (l : List Tmp) (a : Act) (t : Tmp), t < a.tmps.size → get (patch us l a) t = if t ∈ l then us t else get a t
  | [], a, t, _ => by simp [patch]
  | x :: r, a, t, h => by
    rw [patch, patch_get us r _ t (by rw [size_put]; exact h)]
    by_cases hr : t ∈ r
    · simp [hr]
    · rw [if_neg hr]
      by_cases hx : t = x
      · subst hx; rw [get_put_eq h]; simp
      · rw [get_put_ne (fun e => hx (Option.some.inj e).symm)]; simp [hr, hx]

theorem patch_size (us : Tmp → Value) : ∀ (l : List Tmp) (a : Act), (patch us l a).tmps.size = a.tmps.size
  | [], _ => rfl
  | x :: r, a => by rw [patch, patch_size us r, size_put]
theorem patch_defers (us : Tmp → Value) : ∀ (l : List Tmp) (a : Act), (patch us l a).defers = a.defers
  | [], _ => rfl
  | x :: r, a => by rw [patch, patch_defers us r, defers_put]

theorem Sim.eq_patch {a b : Act} {w : World} (h : Sim soft G a b w) : b = patch (get b) soft a := by
  obtain ⟨h1, h2, h3⟩ := h
  have hd := patch_defers (get b) soft a
  have hz := patch_size (get b) soft a
  have hg := patch_get (get b) soft a
  generalize Soft.patch (get b) soft a = c at hd hz hg ⊢
  obtain ⟨tb, db⟩ := b
  obtain ⟨tc, dc⟩ := c
  have e1 : db = dc := by rw [show dc = a.defers from hd]; exact h1
  have e2 : tb = tc := by
    apply Array.ext
    · rw [show tb.size = a.tmps.size from h2, show tc.size = a.tmps.size from hz]
    · intro t ht1 ht2
      have hlt : t < a.tmps.size := by rw [← show tb.size = a.tmps.size from h2]; exact ht1
      have e3 := hg t hlt
      have e4 : get ⟨tb, db⟩ t = tb[t] := by simp [get, ht1]
      have e5 : get ⟨tc, dc⟩ t = tc[t] := by simp [get, ht2]
      rw [e4, e5] at e3
      by_cases hm : t ∈ soft
      · rw [if_pos hm] at e3; exact e3.symm
      · rw [if_neg hm, ← (h3 t).2 hm, e4] at e3; exact e3.symm
  rw [e1, e2]

theorem sim_start (a : Act) (w : World) : Sim soft G (patch (fun _ => undef) soft a) a w := by
  refine ⟨(patch_defers _ _ _).symm, (patch_size _ _ _).symm, fun t => ?_⟩
  by_cases hlt : t < a.tmps.size
  · have h := patch_get (fun _ => undef) soft a t hlt
    unfold SimAt
    rw [h]
    by_cases hm : t ∈ soft
    · rw [if_pos hm]; exact ⟨fun _ e => absurd e undef_ne_tok, fun h => absurd hm h⟩
    · rw [if_neg hm]; exact ⟨fun h => absurd h hm, fun _ => rfl⟩
  · have e1 : get a t = undef := by
      unfold get; rw [Array.getD_eq_getD_getElem?, Array.getElem?_eq_none (Nat.not_lt.1 hlt)]; rfl
    have e2 : get (patch (fun _ => undef) soft a) t = undef := by
      unfold get; rw [Array.getD_eq_getD_getElem?, Array.getElem?_eq_none (by rw [patch_size]; exact Nat.not_lt.1 hlt)]; rfl
    unfold SimAt
    rw [e1, e2]
    exact ⟨fun _ e => absurd e undef_ne_tok, fun _ => rfl⟩

/-- ONE WALK OF THE TEXT'S ORDER, in the class 'what was there is as it was'. -/
theorem wp_region_soft {id : Nat} {Q : Exit → Act → World → Prop} {a : Act} {w : World} {l : List Oper} (soft : List Tmp) (G : Tmp → Value → World → Prop)
    (hG : ∀ t v w w', G t v w → Below w.heap.size w w' → G t v w')
    (hm : P.follows .mixedOrders = true) (hB : Region.lexB .any l.toArray = true)
    (h : wpSoft P l.toArray (fun w w' => Below w.heap.size w w') w soft G (fun a' => ∀ us w', Below w.heap.size w w' → Q .normal (patch us soft a') w') l (patch (fun _ => undef) soft a)) : (Code.region id l.toArray true).wp P Q a w := by
  simp only [Region.lexB, Bool.and_eq_true] at hB
  refine wp_region_any hm (wpAny_of_A (soft := soft) (G := G) (R := fun w w' => Below w.heap.size w w') (w0 := w) (fun w => Below.refl _ _) (fun w1 w2 w3 h1 h2 => h1.trans (h2.mono h1.size)) hG (Q := fun a' => ∀ us w', Below w.heap.size w w' → Q .normal (patch us soft a') w') ?_ _ _ (patch (fun _ => undef) soft a) a _ ?_ (sim_start a _) ?_)
  · intro a b w' hw' hs hq
    rw [hs.eq_patch]
    exact hq _ _ hw'
  · exact (Below.refl w.heap.size w).drew
  · have := wpAnyA_lex (P := P) (R := fun w w' => Below w.heap.size w w') (w0 := w) (soft := soft) (G := G) (md := .any) l 0 (Array.replicate l.toArray.size false) (patch (fun _ => undef) soft a) (by simp) (by simpa using hB.2) h
    simpa using this
end
end Go.Proofs.Ytegccicplcjcmaa.Soft

/- The steps of a soft walk. -/
namespace Go.Proofs.Ytegccicplcjcmaa.Soft
open Go Go.RowKit Go.Proofs Go.Sort

def boolOf : Value → Option Bool
  | .bool b => some b
  | _ => none

section
variable {P : Program} {ops : Array Oper} {md : Region.Mode} {w0 : World} {soft : List Tmp} {G : Tmp → Value → World → Prop}

theorem yielded_get (a : Act) (j : Nat) : yielded ops a.tmps j = ((ops[j]?).bind (·.dst)).bind (fun t => boolOf (get a t)) := by
  unfold yielded
  cases (ops[j]?).bind (·.dst) with
  | none => rfl
  | some t =>
    show (match a.tmps[t]? with | some (.bool b) => some b | _ => none) = boolOf (get a t)
    unfold get
    rw [Array.getD_eq_getD_getElem?]
    cases a.tmps[t]? with
    | none => rfl
    | some u => cases u <;> rfl

theorem wanted_congr {o : Oper} {a b : Act} (h : ∀ g want t, o.guard = some (g, want) → (ops[g]?).bind (·.dst) = some t → get b t = get a t) :
    Region.wanted o (yielded ops b.tmps) = Region.wanted o (yielded ops a.tmps) := by
  unfold Region.wanted
  cases hg : o.guard with
  | none => rfl
  | some gw =>
    obtain ⟨g, want⟩ := gw
    have hy : yielded ops b.tmps g = yielded ops a.tmps g := by
      rw [yielded_get, yielded_get]
      cases hd : (ops[g]?).bind (·.dst) with
      | none => rfl
      | some t => show boolOf (get b t) = boolOf (get a t); rw [h g want t hg hd]
    simp only [hy]

theorem eval_get (a : Act) (t : Tmp) : a.eval (.tmp t) = get a t := rfl

theorem looks_operand {o : Oper} {t : Tmp} (h : .tmp t ∈ o.op.operands) : t ∈ o.looksAt ops :=
  List.mem_append_left _ (List.mem_filterMap.2 ⟨.tmp t, by simpa using h, rfl⟩)
theorem looks_guard {o : Oper} {g : Nat} {want : Bool} {t : Tmp} (hg : o.guard = some (g, want)) (hd : (ops[g]?).bind (·.dst) = some t) : t ∈ o.looksAt ops :=
  List.mem_append_right _ (by simp [hg, hd])

theorem exec_congr {o : Oper} {a b : Act} (hs : ∀ cs b, o.op ≠ .select cs b) (h : ∀ t ∈ o.looksAt ops, get b t = get a t) : execOp b.eval o = execOp a.eval o :=
  execOp_congr o hs fun x hx => by
    cases x with
    | tmp t => exact h t (looks_operand hx)
    | _ => rfl

/-- An operation that never enters a function of the program. -/
def plainOp : Op → Bool
  | .move _ | .assign _ | .pick _ _ _ | .load _ _ | .binOp _ _ _ _ _ | .unOp _ _ _ | .convert _ _ _ | .makeInterface _ _ | .slice _ _ _ _ _ | .fieldAddr _ _ _ | .field _ _ _ | .indexAddr _ _ _ | .index _ _ _ | .extract _ _ => true
  | .call c => match c.callee with | .builtin .len => true | _ => false
  | _ => false

theorem andThen_value {s : Result Value} {f : FuncId} {args : Array Value} {w' : World} (h : (s.andThen fun v w' => .ok (Next.value v) w') = .ok (.enter f args) w') : False := by
  cases s <;> simp [Result.andThen] at h

theorem andThen_value' {α : Type} {s : Result α} {g : α → Value} {f : FuncId} {args : Array Value} {w' : World} (h : (s.andThen fun v w' => .ok (Next.value (g v)) w') = .ok (.enter f args) w') : False := by
  cases s <;> simp [Result.andThen] at h

theorem plain_no_enter {o : Oper} {ρ : Operand → Value} {w w' : World} {f : FuncId} {args : Array Value} (hp : plainOp o.op = true) (h : (execOp ρ o).run P w = .ok (.enter f args) w') : False := by
  obtain ⟨dst, op, type, pos, after, guard⟩ := o
  cases op <;> simp only [plainOp, Bool.false_eq_true] at hp
  case call c =>
    obtain ⟨callee, cargs, ats⟩ := c
    cases callee with
    | builtin bi =>
      cases bi <;> simp only [Bool.false_eq_true] at hp
      simp only [execOp, resolve, Sem.run_bind, Sem.run_pure, Result.andThen, invoke, builtin] at h
      exact andThen_value h
    | _ => simp at hp
  all_goals (simp only [execOp, Sem.run_bind, Sem.run_pure] at h; first | exact andThen_value h | exact andThen_value' h | cases h | (split at h <;> first | exact andThen_value h | cases h))

abbrev Cls (w0 : World) : World → Prop := fun w' => ∃ p : Regrown, w' = grow (redrawn w0 p.d) p.os

theorem cls_of_below {w : World} (h : Below w0.heap.size w0 w) : Cls w0 w := regrown_of_below h

abbrev Rb : World → World → Prop := fun w w' => Below w.heap.size w w'

def notSoft (soft : List Tmp) (dst : Option Tmp) : Bool := match dst with | none => true | some d => !soft.contains d

theorem notSoft_spec {dst : Option Tmp} (h : notSoft soft dst = true) (d : Tmp) (hd : dst = some d) (hm : d ∈ soft) : False := by
  subst hd
  simp [notSoft, hm] at h

/-- May be walked as an operation of a quiet region. -/
def plainB (soft : List Tmp) (ops : Array Oper) (o : Oper) : Bool := plainOp o.op && (o.looksAt ops).all (fun t => !soft.contains t) && notSoft soft o.dst

theorem plain_not_select {op : Op} (h : plainOp op = true) (cs : Array SelectCase) (b : Bool) : op ≠ .select cs b := by
  intro e; rw [e] at h; cases h

theorem sims_same {a b : Act} {w : World} {l : List Tmp} (hn : l.all (fun t => !soft.contains t) = true) (hs : ∀ t, t ∈ l → SimAt soft G a b w t) : ∀ t ∈ l, get b t = get a t := fun t ht =>
  (hs t ht).2 (by have := List.all_eq_true.1 hn t ht; simpa using this)

theorem soft_op {o : Oper} {rest : List Oper} {a : Act} {Q : Act → Prop} (hp : plainB soft ops o = true)
    (h : wpQuiet P ops (Cls w0) (fun a' => wpSoft P ops Rb w0 soft G Q rest a') [o] a) : wpSoft P ops Rb w0 soft G Q (o :: rest) a := by
  unfold plainB at hp
  simp only [Bool.and_eq_true] at hp
  obtain ⟨⟨hp1, hp2⟩, hp3⟩ := hp
  have hsel := plain_not_select hp1
  simp only [wpQuiet] at h
  by_cases hw : Region.wanted o (yielded ops a.tmps) = true
  · rw [if_pos hw] at h
    obtain ⟨v, hq, hK⟩ := h
    refine ⟨v, fun b w hR hs => ?_, hK⟩
    have hsame := sims_same hp2 hs
    have hw2 : Region.wanted o (yielded ops b.tmps) = true := by rw [wanted_congr fun g want t hg hd => hsame t (looks_guard hg hd)]; exact hw
    refine .inl ⟨hw2, ?_⟩
    rw [exec_congr hsel hsame]
    have h1 := hq w (cls_of_below hR)
    unfold Oper.quietAt at h1
    generalize hr : (execOp a.eval o).run P w = r at h1
    cases r with
    | ok n w' =>
      cases n <;> simp only [Oper.quietUpon] at h1 <;> simp only [Upon]
      case value u =>
        obtain ⟨rfl, rfl⟩ := h1
        exact ⟨Below.refl _ _, .inl rfl, fun d hd hm => absurd hm (fun hm => notSoft_spec hp3 d hd hm)⟩
      case skip =>
        obtain ⟨rfl, e⟩ := h1
        exact ⟨Below.refl _ _, e⟩
      case enter f args => exact (plain_no_enter hp1 hr).elim
    | halt x w' => simp only [Oper.quietUpon] at h1
  · rw [if_neg hw] at h
    refine ⟨undef, fun b w hR hs => ?_, h⟩
    have hsame := sims_same hp2 hs
    refine .inr ⟨?_, rfl⟩
    rw [wanted_congr fun g want t hg hd => hsame t (looks_guard hg hd)]
    simpa using hw

/-- What writes a value into a slot, for the quiet walk to lay. -/
def putOp (d : Tmp) (v : Value) : Oper := { dst := some d, op := .move (.const v), type := 0, pos := "", after := #[], guard := none }

theorem quiet_put {a : Act} {d : Tmp} {v : Value} {K : Act → Prop} (h : wpQuiet P ops (Cls w0) K [{ dst := some d, op := .move (.const v), type := 0, pos := "", after := #[], guard := none }] a) : K (a.put (some d) v) := by
  simp only [wpQuiet, Region.wanted, if_true] at h
  obtain ⟨v', hq, hK⟩ := h
  have h1 := hq w0 (cls_of_below (Below.refl _ _))
  simp [Oper.quietAt, execOp, Oper.quietUpon, Act.eval] at h1
  rw [h1]; exact hK

def guardOk (soft : List Tmp) (ops : Array Oper) (o : Oper) : Bool :=
  match o.guard with
  | none => true
  | some (g, _) => notSoft soft ((ops[g]?).bind (·.dst))

def entersB (P : Program) (f : FuncId) : Bool := match P.funcs[f]? with | some fn => !(fn.name == "runtime.NumGoroutine") && !fn.body.isNone | none => false

theorem exec_call {o : Oper} {a : Act} {w : World} {f : FuncId} {xs : List Operand} {ats : Array TypeId} (hop : o.op = .call { callee := .value (.func f), args := xs.toArray, argTypes := ats }) (hf : entersB P f = true) :
    (execOp a.eval o).run P w = .ok (.enter f (xs.map a.eval).toArray) w := by
  have ef : a.eval (.func f) = .func (.func f) #[] #[] := rfl
  have e1 : execOp a.eval o = callFunc f (xs.map a.eval).toArray := by
    unfold execOp
    simp [hop, resolve, Deferred.ofValue, invoke, ef]
  rw [e1]
  unfold entersB at hf
  cases hfn : P.funcs[f]? with
  | none => rw [hfn] at hf; cases hf
  | some fn =>
    rw [hfn] at hf
    simp only [Bool.and_eq_true, Bool.not_eq_true'] at hf
    have h1 : fn.name ≠ "runtime.NumGoroutine" := by simpa using hf.1
    cases hb : fn.body with
    | none => rw [hb] at hf; exact absurd hf.2 (by simp)
    | some c => simp [callFunc, hfn, h1, hb]

/-- A call of a function. -/
theorem soft_call {o : Oper} {rest : List Oper} {a : Act} {Q : Act → Prop} (d : Tmp) (v : Value) {f : FuncId} {xs : List Operand} {ats : Array TypeId}
    (hop : o.op = .call { callee := .value (.func f), args := xs.toArray, argTypes := ats }) (hd : o.dst = some d) (hf : entersB P f = true)
    (hg : guardOk soft ops o = true) (hw : Region.wanted o (yielded ops a.tmps) = true) (hv : v ≠ tok)
    (hc : ∀ b w, Below w0.heap.size w0 w → (∀ t, t ∈ o.looksAt ops → SimAt soft G a b w t) → Calls P f (xs.map b.eval).toArray w (fun e w'' => e = .returned v ∧ Below w.heap.size w w''))
    (h : wpQuiet P ops (Cls w0) (fun a' => wpSoft P ops Rb w0 soft G Q rest a') [{ dst := some d, op := .move (.const v), type := 0, pos := "", after := #[], guard := none }] a) : wpSoft P ops Rb w0 soft G Q (o :: rest) a := by
  refine ⟨v, fun b w hR hs => .inl ⟨?_, ?_⟩, ?_⟩
  · rw [wanted_congr fun g want t hg' hd => ?_]
    · exact hw
    · refine (hs t (looks_guard hg' hd)).2 (fun hm => ?_)
      unfold guardOk at hg
      rw [hg'] at hg
      exact notSoft_spec hg t hd hm
  · rw [exec_call hop hf]
    exact (hc b w hR hs).mono fun e w'' ⟨he, hr⟩ => ⟨v, he, hr, .inl rfl, fun _ _ _ e => absurd e hv⟩
  · rw [hd]; exact quiet_put h

/-- A call of a function whose arguments lie in no soft slot. -/
theorem soft_call_plain {o : Oper} {rest : List Oper} {a : Act} {Q : Act → Prop} (d : Tmp) (v : Value) {f : FuncId} {xs : List Operand} {ats : Array TypeId}
    (hop : o.op = .call { callee := .value (.func f), args := xs.toArray, argTypes := ats }) (hd : o.dst = some d) (hf : entersB P f = true)
    (hl : (o.looksAt ops).all (fun t => !soft.contains t) = true) (hw : Region.wanted o (yielded ops a.tmps) = true) (hv : v ≠ tok)
    (hc : ∀ w, Below w0.heap.size w0 w → Calls P f (xs.map a.eval).toArray w (fun e w'' => e = .returned v ∧ Below w.heap.size w w''))
    (h : wpQuiet P ops (Cls w0) (fun a' => wpSoft P ops Rb w0 soft G Q rest a') [{ dst := some d, op := .move (.const v), type := 0, pos := "", after := #[], guard := none }] a) : wpSoft P ops Rb w0 soft G Q (o :: rest) a := by
  refine ⟨v, fun b w hR hs => .inl ⟨?_, ?_⟩, ?_⟩
  · rw [wanted_congr fun g want t hg' hd => (sims_same hl hs) t (looks_guard hg' hd)]; exact hw
  · rw [exec_congr (fun cs b e => by rw [hop] at e; cases e) (sims_same hl hs), exec_call hop hf]
    exact (hc w hR).mono fun e w'' ⟨he, hr⟩ => ⟨v, he, hr, .inl rfl, fun _ _ _ e => absurd e hv⟩
  · rw [hd]; exact quiet_put h

/-- A call whose result is told by a predicate alone. -/
theorem soft_callS {o : Oper} {rest : List Oper} {a : Act} {Q : Act → Prop} (d : Tmp) {f : FuncId} {xs : List Operand} {ats : Array TypeId}
    (hop : o.op = .call { callee := .value (.func f), args := xs.toArray, argTypes := ats }) (hd : o.dst = some d) (hf : entersB P f = true)
    (hg : guardOk soft ops o = true) (hw : Region.wanted o (yielded ops a.tmps) = true) (hm : d ∈ soft)
    (hc : ∀ b w, Below w0.heap.size w0 w → (∀ t, t ∈ o.looksAt ops → SimAt soft G a b w t) → Calls P f (xs.map b.eval).toArray w (fun e w'' => ∃ u, e = .returned u ∧ Below w.heap.size w w'' ∧ G d u w''))
    (h : wpQuiet P ops (Cls w0) (fun a' => wpSoft P ops Rb w0 soft G Q rest a') [{ dst := some d, op := .move (.const tok), type := 0, pos := "", after := #[], guard := none }] a) : wpSoft P ops Rb w0 soft G Q (o :: rest) a := by
  refine ⟨tok, fun b w hR hs => .inl ⟨?_, ?_⟩, ?_⟩
  · rw [wanted_congr fun g want t hg' hd => ?_]
    · exact hw
    · refine (hs t (looks_guard hg' hd)).2 (fun hm => ?_)
      unfold guardOk at hg
      rw [hg'] at hg
      exact notSoft_spec hg t hd hm
  · rw [exec_call hop hf]
    refine (hc b w hR hs).mono fun e w'' ⟨u, he, hr, hG⟩ => ⟨u, he, hr, .inr ⟨d, hd, hm⟩, fun d' hd' _ _ => ?_⟩
    rw [hd] at hd'
    cases hd'
    exact hG
  · rw [hd]; exact quiet_put h

/-- A slice of its own is laid. -/
theorem soft_build {o : Oper} {rest : List Oper} {a : Act} {Q : Act → Prop} (d : Tmp) {t : TypeId} {n : Nat} {ps : List (Nat × Operand)} (vs : List (Nat × Value)) (obj : Obj)
    (hop : o.op = .buildSlice t n ps.toArray) (hd : o.dst = some d)
    (hl : (o.looksAt ops).all (fun t => !soft.contains t) = true) (hw : Region.wanted o (yielded ops a.tmps) = true)
    (hvs : ps.map (fun p => (p.1, a.eval p.2)) = vs)
    (hrun : ∀ w : World, (Instr.buildSlice t n vs.toArray).run P w = .ok (.slice (some ⟨w.heap.size, 0, none⟩) n n) (w.alloc obj))
    (hG : ∀ w, Below w0.heap.size w0 w → G d (.slice (some ⟨w.heap.size, 0, none⟩) n n) (w.alloc obj)) (hm : d ∈ soft)
    (h : wpQuiet P ops (Cls w0) (fun a' => wpSoft P ops Rb w0 soft G Q rest a') [{ dst := some d, op := .move (.const tok), type := 0, pos := "", after := #[], guard := none }] a) : wpSoft P ops Rb w0 soft G Q (o :: rest) a := by
  refine ⟨tok, fun b w hR hs => .inl ⟨?_, ?_⟩, ?_⟩
  · rw [wanted_congr fun g want t hg' hd => (sims_same hl hs) t (looks_guard hg' hd)]; exact hw
  · rw [exec_congr (fun cs b e => by rw [hop] at e; cases e) (sims_same hl hs)]
    have e1 : (execOp a.eval o).run P w = .ok (.value (.slice (some ⟨w.heap.size, 0, none⟩) n n)) (w.alloc obj) := by
      unfold execOp
      simp only [hop]
      rw [show (ps.toArray.map fun (i, x) => (i, a.eval x)) = vs.toArray from by rw [← hvs]; simp]
      rw [Sem.run_bind, hrun]
      rfl
    rw [e1]
    have hg := hG w hR
    refine ⟨(Below.refl _ _).alloc (Nat.le_refl _) _, .inr ⟨d, hd, hm⟩, fun d' hd' _ _ => ?_⟩
    rw [hd] at hd'
    cases hd'
    exact hg
  · rw [hd]; exact quiet_put h

theorem soft_put {rest : List Oper} {a : Act} {Q : Act → Prop} {t : Tmp} {l : List Tmp}
    (h : wpQuiet P ops (Cls w0) (fun a' => wpSoft P ops Rb w0 soft G Q rest (patch (fun _ => undef) l a')) [{ dst := some t, op := .move (.const undef), type := 0, pos := "", after := #[], guard := none }] a) :
    wpSoft P ops Rb w0 soft G Q rest (patch (fun _ => undef) (t :: l) a) := quiet_put (K := fun a' => wpSoft P ops Rb w0 soft G Q rest (patch (fun _ => undef) l a')) h
theorem soft_begun {rest : List Oper} {a : Act} {Q : Act → Prop} (h : wpSoft P ops Rb w0 soft G Q rest a) : wpSoft P ops Rb w0 soft G Q rest (patch (fun _ => undef) [] a) := h

theorem soft_nil {a : Act} {Q : Act → Prop} (h : Q a) : wpSoft P ops Rb w0 soft G Q [] a := h

end
end Go.Proofs.Ytegccicplcjcmaa.Soft

namespace Go.Proofs.Ytegccicplcjcmaa.Soft
open Go Go.RowKit Go.Proofs Go.Sort

def SoftP (ps : PS) (v : Value) (w : World) : Prop := ∃ a c, v = .slice a ps.length c ∧ IsPairs w a ps.length ps

def Gp : List (Tmp × PS) → Tmp → Value → World → Prop
  | [], _, _, _ => True
  | (t0, xs) :: l, t, v, w => (t0 = t → SoftP xs v w) ∧ Gp l t v w

theorem gp_stable : ∀ (l : List (Tmp × PS)) (t : Tmp) (v : Value) (w w' : World), Gp l t v w → Below w.heap.size w w' → Gp l t v w'
  | [], _, _, _, _, _, _ => trivial
  | (t0, xs) :: l, t, v, w, w', h, hb => ⟨fun e => by
      obtain ⟨a, c, e1, h1⟩ := h.1 e
      exact ⟨a, c, e1, h1.below hb⟩, gp_stable l t v w w' h.2 hb⟩

theorem softp_row {w : World} {B : Nat} {v : Value} {ps : PS} (h : PRow w B v ps) (hs : ∀ p ∈ ps, p.1.size ≤ 1000 ∧ p.2.size ≤ 1000) : SoftP ps v w := by
  obtain ⟨a, c, e, h1, _⟩ := prow_is h hs
  exact ⟨a, c, e, h1⟩

end Go.Proofs.Ytegccicplcjcmaa.Soft

