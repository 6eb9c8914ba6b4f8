/- A region that draws its order, some of whose slots hold fresh addresses ('soft' slots: what lies there is told by a predicate, kept by every later step): walked ONCE in the order of the text. -/
import Derived.Test.YtgfhaldfjnepmaaBase
import Derived.Lib.QuietBelow
import Derived.Lib.Hide
namespace Go.Proofs.Ytgfhaldfjnepmaa.Soft
open Go Go.RowKit Go.Proofs

/-- What stands in a soft slot in the walk of the text's order. -/
def tok : Value := .tuple #[.tuple #[]]

def get (a : Act) (t : Tmp) : Value := a.tmps.getD t undef

theorem get_put_ne {a : Act} {dst : Option Tmp} {v : Value} {t : Tmp} (h : dst ≠ some t) : get (a.put dst v) t = get a t := by
  cases dst with
  | none => rfl
  | some d =>
    have hne : d ≠ t := fun e => h (by rw [e])
    simp [get, Act.put, Array.getElem?_setIfInBounds_ne hne]

theorem get_put_eq {a : Act} {d : Tmp} {v : Value} (h : d < a.tmps.size) : get (a.put (some d) v) d = v := by
  simp [get, Act.put, h]

theorem size_put (a : Act) (dst : Option Tmp) (v : Value) : (a.put dst v).tmps.size = a.tmps.size := by
  cases dst <;> simp [Act.put]
theorem get_put_out {a : Act} {d : Tmp} {v : Value} (h : ¬ d < a.tmps.size) : get (a.put (some d) v) d = undef := by
  have h1 : (a.put (some d) v).tmps.size ≤ d := by rw [size_put]; exact Nat.not_lt.1 h
  unfold get
  rw [Array.getD_eq_getD_getElem?, Array.getElem?_eq_none h1]
  rfl

theorem defers_put (a : Act) (dst : Option Tmp) (v : Value) : (a.put dst v).defers = a.defers := by
  cases dst <;> rfl

section
variable (P : Program) (ops : Array Oper) (md : Region.Mode) (R : World → World → Prop) (w0 : World) (soft : List Tmp) (G : Tmp → Value → World → Prop)

/-- Slot t of the walk's frame a and of the true frame b. -/
def SimAt (a b : Act) (w : World) (t : Tmp) : Prop :=
  (t ∈ soft → get a t = tok → G t (get b t) w) ∧ (t ∉ soft → get b t = get a t)

def Sim (a b : Act) (w : World) : Prop := b.defers = a.defers ∧ b.tmps.size = a.tmps.size ∧ ∀ t, SimAt soft G a b w t

/-- The walk's value v, the true value u of an operation that writes 'dst'. -/
def ValSim (dst : Option Tmp) (v u : Value) : Prop :=
  u = v ∨ ∃ d, dst = some d ∧ d ∈ soft

def Upon (dst : Option Tmp) (v : Value) (w : World) : Result Next → Prop
  | .ok (.value u) w' => R w w' ∧ ValSim soft dst v u ∧ (∀ d, dst = some d → d ∈ soft → v = tok → G d u w')
  | .ok .skip w' => R w w' ∧ v = undef
  | .ok (.enter f args) w' => Calls P f args w' (fun e w'' => e = .returned v ∧ R w w'') ∧ v ≠ tok
  | _ => False

/-- Operation o yields v in the walk's state a. -/
def Yields (o : Oper) (v : Value) (a : Act) : Prop :=
  ∀ b w, R w0 w → (∀ t, t ∈ o.looksAt ops → SimAt soft G a b w t) →
    (Region.wanted o (yielded ops b.tmps) = true ∧ Upon P R soft G o.dst v w ((execOp b.eval o).run P w)) ∨
    (Region.wanted o (yielded ops b.tmps) = false ∧ v = undef)

/-- The walk in the text's order. -/
def wpSoft (Q : Act → Prop) : List Oper → Act → Prop
  | [], a => Q a
  | o :: rest, a => ∃ v, Yields P ops R w0 soft G o v a ∧ wpSoft Q rest (a.put o.dst v)

/-- Whatever order. -/
def wpAnyA (Q : Act → Prop) : Nat → Array Bool → Act → Prop
  | 0, listed, a => Region.ready md ops listed = [] ∧ Q a
  | n + 1, listed, a => (Region.ready md ops listed = [] → Q a) ∧
    ∀ i ∈ Region.ready md ops listed, ∃ o, ops[i]? = some o ∧ ∃ v, Yields P ops R w0 soft G o v a ∧ wpAnyA Q n (listed.setIfInBounds i true) (a.put o.dst v)
end

section
variable {P : Program} {ops : Array Oper} {md : Region.Mode} {R : World → World → Prop} {w0 : World} {soft : List Tmp} {G : Tmp → Value → World → Prop}

theorem undef_ne_tok : undef ≠ tok := by unfold tok; intro h; cases h

theorem SimAt.congr {a a' b : Act} {w : World} {t : Tmp} (h : SimAt soft G a b w t) (e : get a' t = get a t) : SimAt soft G a' b w t := by
  unfold SimAt at *; rw [e]; exact h

theorem Yields.put {o : Oper} {v u : Value} {a : Act} {dst : Option Tmp} (hd : ∀ d, dst = some d → d ∉ o.looksAt ops) (h : Yields P ops R w0 soft G o v a) :
    Yields P ops R w0 soft G o v (a.put dst u) := fun b w hw hs =>
  h b w hw fun t ht => (hs t ht).congr (get_put_ne fun e => hd t e ht).symm

theorem Yields.unput {o : Oper} {v u : Value} {a : Act} {dst : Option Tmp} (hd : ∀ d, dst = some d → d ∉ o.looksAt ops) (h : Yields P ops R w0 soft G o v (a.put dst u)) :
    Yields P ops R w0 soft G o v a := fun b w hw hs =>
  h b w hw fun t ht => (hs t ht).congr (get_put_ne fun e => hd t e ht)

theorem wpAnyA_first {Q : Act → Prop} {i : Nat} {oi : Oper} {v : Value} (hi : ops[i]? = some oi) :
    ∀ (n : Nat) (listed : Array Bool) (a : Act),
      (∀ j oj, ops[j]? = some oj → j ≠ i → listed.getD j true = false → (∀ e ∈ oj.after, Region.binds md e = true → e.on ≠ i) → oi.apart ops oj = true) →
      i ∈ Region.ready md ops listed → Yields P ops R w0 soft G oi v a →
      wpAnyA P ops md R w0 soft G Q n (listed.setIfInBounds i true) (a.put oi.dst v) → wpAnyA P ops md R w0 soft G Q (n + 1) listed a := by
  intro n
  induction n with
  | zero =>
    intro listed a _ hr hy H
    refine ⟨fun h => (by rw [h] at hr; cases hr), fun j hj => ?_⟩
    by_cases hji : j = i
    · subst hji; exact ⟨oi, hi, v, hy, H⟩
    · have := ready_mono hj hji
      rw [H.1] at this; cases this
  | succ n ih =>
    intro listed a hfree hr hy H
    refine ⟨fun h => (by rw [h] at hr; cases hr), fun j hj => ?_⟩
    by_cases hji : j = i
    · subst hji; exact ⟨oi, hi, v, hy, H⟩
    · obtain ⟨oj, hoj, u, hyj, hK⟩ := H.2 j (ready_mono hj hji)
      obtain ⟨hun, oj', hoj', hall⟩ := mem_ready.1 hj
      obtain rfl : oj = oj' := by rw [hoj] at hoj'; exact Option.some.inj hoj'
      have hun_i := (mem_ready.1 hr).1
      have hno : ∀ e ∈ oj.after, Region.binds md e = true → e.on ≠ i := fun e he hb heq => by
        have h1 := hall e he hb
        rw [heq] at h1
        rcases Nat.lt_or_ge i listed.size with h' | h'
        · simp [h'] at hun_i h1; rw [hun_i] at h1; cases h1
        · simp [Array.getElem?_eq_none h'] at h1
      have hap := hfree j oj hoj hji hun hno
      obtain ⟨p1, p2, p3⟩ := Oper.apart_spec hap
      refine ⟨oj, hoj, u, hyj.unput p1, ih _ _ ?_ (ready_mono hr (Ne.symm hji)) (hy.put p3) ?_⟩
      · intro k ok hk hki hkun hkno
        refine hfree k ok hk hki ?_ hkno
        by_cases hjk : j = k
        · subst hjk; exact hun
        · rw [getD_set_ne true hjk] at hkun; exact hkun
      · rw [Array.setIfInBounds_comm _ _ hji, ← Act.put_comm a v u p2]
        exact hK

theorem wpAnyA_lex {Q : Act → Prop} : ∀ (l : List Oper) (k : Nat) (listed : Array Bool) (a : Act), (∀ j, l[j]? = ops[k + j]?) →
    Region.lexFrom md ops l.length k listed = true → wpSoft P ops R w0 soft G Q l a → wpAnyA P ops md R w0 soft G Q l.length listed a
  | [], _, _, _, _, hB, h => ⟨by simpa [Region.lexFrom] using hB, h⟩
  | o :: l, k, listed, a, hl, hB, ⟨v, hy, hK⟩ => by
    have h0 : ops[k]? = some o := by simpa using (hl 0).symm
    simp only [List.length_cons, Region.lexFrom, Bool.and_eq_true] at hB
    obtain ⟨⟨hr, hf⟩, hB'⟩ := hB
    exact wpAnyA_first h0 l.length listed a (Region.free_spec h0 hf) (by simpa using hr) hy
      (wpAnyA_lex l (k + 1) _ _ (fun j => by have := hl (j + 1); simpa [Nat.add_assoc, Nat.add_comm 1 j] using this) hB' hK)

theorem Sim.put (hG : ∀ t v w w', G t v w → R w w' → G t v w') {a b : Act} {w w' : World} {dst : Option Tmp} {v u : Value} (h : Sim soft G a b w) (hr : R w w')
    (hv : ValSim soft dst v u) (hv2 : ∀ d, dst = some d → d ∈ soft → v = tok → G d u w') : Sim soft G (a.put dst v) (b.put dst u) w' := by
  obtain ⟨h1, h2, h3⟩ := h
  refine ⟨by rw [defers_put, defers_put, h1], by rw [size_put, size_put, h2], fun t => ?_⟩
  by_cases ht : dst = some t
  · subst ht
    by_cases hlt : t < a.tmps.size
    · unfold SimAt
      rw [get_put_eq hlt, get_put_eq (a := b) (h2.symm ▸ hlt)]
      refine ⟨fun hm e => hv2 t rfl hm e, fun hn => ?_⟩
      rcases hv with e | ⟨d, hd, hm⟩
      · exact e
      · cases hd
        exact absurd hm hn
    · unfold SimAt
      rw [get_put_out hlt, get_put_out (a := b) (h2.symm ▸ hlt)]
      exact ⟨fun _ e => absurd e undef_ne_tok, fun _ => rfl⟩
  · unfold SimAt
    rw [get_put_ne ht, get_put_ne ht]
    exact ⟨fun hm e => hG _ _ _ _ ((h3 t).1 hm e) hr, (h3 t).2⟩

theorem wpAny_of_A {Q : Act → Prop} {Q' : Exit → Act → World → Prop} (hrefl : ∀ w, R w w) (htrans : ∀ w1 w2 w3, R w1 w2 → R w2 w3 → R w1 w3) (hG : ∀ t v w w', G t v w → R w w' → G t v w')
    (hQ : ∀ a b w, R w0 w → Sim soft G a b w → Q a → Q' .normal b w) :
    ∀ (n : Nat) (listed : Array Bool) (a b : Act) (w : World), R w0 w → Sim soft G a b w → wpAnyA P ops md R w0 soft G Q n listed a → wpAny P md ops Q' n listed b w
  | 0, _, a, b, w, hw, hs, h => ⟨h.1, hQ a b w hw hs h.2⟩
  | n + 1, listed, a, b, w, hw, hs, h => by
    refine ⟨fun h0 => hQ a b w hw hs (h.1 h0), fun i hi => ?_⟩
    obtain ⟨o, ho, v, hy, hK⟩ := h.2 i hi
    unfold wpOp
    simp only [ho]
    rcases hy b w hw (fun t _ => hs.2.2 t) with ⟨hw1, hu⟩ | ⟨hw1, rfl⟩
    · simp only [hw1, if_true]
      refine .inl ?_
      unfold Oper.wp
      generalize (execOp b.eval o).run P w = r at hu
      cases r with
      | ok n' w' =>
        cases n' <;> simp only [Upon] at hu <;> simp only [Oper.upon]
        case value u => exact wpAny_of_A hrefl htrans hG hQ n _ _ _ w' (htrans _ _ _ hw hu.1) (hs.put hG hu.1 hu.2.1 hu.2.2) hK
        case skip =>
          obtain ⟨hr, rfl⟩ := hu
          exact wpAny_of_A hrefl htrans hG hQ n _ _ _ w' (htrans _ _ _ hw hr) (hs.put hG hr (.inl rfl) (fun _ _ _ e => absurd e undef_ne_tok)) hK
        case enter f args =>
          obtain ⟨hc, hne⟩ := hu
          exact hc.mono fun e w'' ⟨he, hr⟩ => by
            subst he
            exact wpAny_of_A hrefl htrans hG hQ n _ _ _ w'' (htrans _ _ _ hw hr) (hs.put hG hr (.inl rfl) (fun _ _ _ e => absurd e hne)) hK
      | halt x w' => simp only [Upon] at hu
    · simp only [hw1, Bool.false_eq_true, if_false]
      exact wpAny_of_A hrefl htrans hG hQ n _ _ _ w hw (hs.put hG (hrefl w) (.inl rfl) (fun _ _ _ e => absurd e undef_ne_tok)) hK

/-- The walk's frame with the soft slots' true values. -/
def patch (us : Tmp → Value) : List Tmp → Act → Act
  | [], a => a
  | t :: r, a => patch us r (a.put (some t) (us t))

theorem patch_get (us : Tmp → Value) : ∀ (l : List Tmp) (a : Act) (t : Tmp), t < a.tmps.size → get (patch us l a) t = if t ∈ l then us t else get a t
  | [], a, t, _ => by simp [patch]
  | x :: r, a, t, h => by
    rw [patch, patch_get us r _ t (by rw [size_put]; exact h)]
    by_cases hr : t ∈ r
    · simp [hr]
    · rw [if_neg hr]
      by_cases hx : t = x
      · subst hx; rw [get_put_eq h]; simp
      · rw [get_put_ne (fun e => hx (Option.some.inj e).symm)]; simp [hr, hx]

theorem patch_size (us : Tmp → Value) : ∀ (l : List Tmp) (a : Act), (patch us l a).tmps.size = a.tmps.size
  | [], _ => rfl
  | x :: r, a => by rw [patch, patch_size us r, size_put]
theorem patch_defers (us : Tmp → Value) : ∀ (l : List Tmp) (a : Act), (patch us l a).defers = a.defers
  | [], _ => rfl
  | x :: r, a => by rw [patch, patch_defers us r, defers_put]

theorem Sim.eq_patch {a b : Act} {w : World} (h : Sim soft G a b w) : b = patch (get b) soft a := by
  obtain ⟨h1, h2, h3⟩ := h
  have hd := patch_defers (get b) soft a
  have hz := patch_size (get b) soft a
  have hg := patch_get (get b) soft a
  generalize Soft.patch (get b) soft a = c at hd hz hg ⊢
  obtain ⟨tb, db⟩ := b
  obtain ⟨tc, dc⟩ := c
  have e1 : db = dc := by rw [show dc = a.defers from hd]; exact h1
  have e2 : tb = tc := by
    apply Array.ext
    · rw [show tb.size = a.tmps.size from h2, show tc.size = a.tmps.size from hz]
    · intro t ht1 ht2
      have hlt : t < a.tmps.size := by rw [← show tb.size = a.tmps.size from h2]; exact ht1
      have e3 := hg t hlt
      have e4 : get ⟨tb, db⟩ t = tb[t] := by simp [get, ht1]
      have e5 : get ⟨tc, dc⟩ t = tc[t] := by simp [get, ht2]
      rw [e4, e5] at e3
      by_cases hm : t ∈ soft
      · rw [if_pos hm] at e3; exact e3.symm
      · rw [if_neg hm, ← (h3 t).2 hm, e4] at e3; exact e3.symm
  rw [e1, e2]

theorem sim_start (a : Act) (w : World) : Sim soft G (patch (fun _ => undef) soft a) a w := by
  refine ⟨(patch_defers _ _ _).symm, (patch_size _ _ _).symm, fun t => ?_⟩
  by_cases hlt : t < a.tmps.size
  · have h := patch_get (fun _ => undef) soft a t hlt
    unfold SimAt
    rw [h]
    by_cases hm : t ∈ soft
    · rw [if_pos hm]; exact ⟨fun _ e => absurd e undef_ne_tok, fun h => absurd hm h⟩
    · rw [if_neg hm]; exact ⟨fun h => absurd h hm, fun _ => rfl⟩
  · have e1 : get a t = undef := by
      unfold get; rw [Array.getD_eq_getD_getElem?, Array.getElem?_eq_none (Nat.not_lt.1 hlt)]; rfl
    have e2 : get (patch (fun _ => undef) soft a) t = undef := by
      unfold get; rw [Array.getD_eq_getD_getElem?, Array.getElem?_eq_none (by rw [patch_size]; exact Nat.not_lt.1 hlt)]; rfl
    unfold SimAt
    rw [e1, e2]
    exact ⟨fun _ e => absurd e undef_ne_tok, fun _ => rfl⟩

/-- ONE WALK OF THE TEXT'S ORDER, in the class 'what was there is as it was'. -/
theorem wp_region_soft {id : Nat} {Q : Exit → Act → World → Prop} {a : Act} {w : World} {l : List Oper} (soft : List Tmp) (G : Tmp → Value → World → Prop)
    (hG : ∀ t v w w', G t v w → Below w.heap.size w w' → G t v w')
    (hm : P.follows .mixedOrders = true) (hB : Region.lexB .any l.toArray = true)
    (h : wpSoft P l.toArray (fun w w' => Below w.heap.size w w') w soft G (fun a' => ∀ us w', Below w.heap.size w w' → Q .normal (patch us soft a') w') l (patch (fun _ => undef) soft a)) : (Code.region id l.toArray true).wp P Q a w := by
  simp only [Region.lexB, Bool.and_eq_true] at hB
  refine wp_region_any hm (wpAny_of_A (soft := soft) (G := G) (R := fun w w' => Below w.heap.size w w') (w0 := w) (fun w => Below.refl _ _) (fun w1 w2 w3 h1 h2 => h1.trans (h2.mono h1.size)) hG (Q := fun a' => ∀ us w', Below w.heap.size w w' → Q .normal (patch us soft a') w') ?_ _ _ (patch (fun _ => undef) soft a) a _ ?_ (sim_start a _) ?_)
  · intro a b w' hw' hs hq
    rw [hs.eq_patch]
    exact hq _ _ hw'
  · exact (Below.refl w.heap.size w).drew
  · have := wpAnyA_lex (P := P) (R := fun w w' => Below w.heap.size w w') (w0 := w) (soft := soft) (G := G) (md := .any) l 0 (Array.replicate l.toArray.size false) (patch (fun _ => undef) soft a) (by simp) (by simpa using hB.2) h
    simpa using this
end
end Go.Proofs.Ytgfhaldfjnepmaa.Soft
