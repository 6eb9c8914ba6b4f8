/- The steps of a soft walk. -/
import Derived.Test.YtgfhaldfjnepmaaSoft
import Derived.BigQuiet
namespace Go.Proofs.Ytgfhaldfjnepmaa.Soft
open Go Go.RowKit Go.Proofs Go.Sort

def boolOf : Value → Option Bool
  | .bool b => some b
  | _ => none

section
variable {P : Program} {ops : Array Oper} {md : Region.Mode} {w0 : World} {soft : List Tmp} {G : Tmp → Value → World → Prop}

theorem yielded_get (a : Act) (j : Nat) : yielded ops a.tmps j = ((ops[j]?).bind (·.dst)).bind (fun t => boolOf (get a t)) := by
  unfold yielded
  cases (ops[j]?).bind (·.dst) with
  | none => rfl
  | some t =>
    show (match a.tmps[t]? with | some (.bool b) => some b | _ => none) = boolOf (get a t)
    unfold get
    rw [Array.getD_eq_getD_getElem?]
    cases a.tmps[t]? with
    | none => rfl
    | some u => cases u <;> rfl

theorem wanted_congr {o : Oper} {a b : Act} (h : ∀ g want t, o.guard = some (g, want) → (ops[g]?).bind (·.dst) = some t → get b t = get a t) :
    Region.wanted o (yielded ops b.tmps) = Region.wanted o (yielded ops a.tmps) := by
  unfold Region.wanted
  cases hg : o.guard with
  | none => rfl
  | some gw =>
    obtain ⟨g, want⟩ := gw
    have hy : yielded ops b.tmps g = yielded ops a.tmps g := by
      rw [yielded_get, yielded_get]
      cases hd : (ops[g]?).bind (·.dst) with
      | none => rfl
      | some t => show boolOf (get b t) = boolOf (get a t); rw [h g want t hg hd]
    simp only [hy]

theorem eval_get (a : Act) (t : Tmp) : a.eval (.tmp t) = get a t := rfl

theorem looks_operand {o : Oper} {t : Tmp} (h : .tmp t ∈ o.op.operands) : t ∈ o.looksAt ops :=
  List.mem_append_left _ (List.mem_filterMap.2 ⟨.tmp t, by simpa using h, rfl⟩)
theorem looks_guard {o : Oper} {g : Nat} {want : Bool} {t : Tmp} (hg : o.guard = some (g, want)) (hd : (ops[g]?).bind (·.dst) = some t) : t ∈ o.looksAt ops :=
  List.mem_append_right _ (by simp [hg, hd])

theorem exec_congr {o : Oper} {a b : Act} (hs : ∀ cs b, o.op ≠ .select cs b) (h : ∀ t ∈ o.looksAt ops, get b t = get a t) : execOp b.eval o = execOp a.eval o :=
  execOp_congr o hs fun x hx => by
    cases x with
    | tmp t => exact h t (looks_operand hx)
    | _ => rfl

/-- An operation that never enters a function of the program. -/
def plainOp : Op → Bool
  | .move _ | .assign _ | .pick _ _ _ | .load _ _ | .binOp _ _ _ _ _ | .unOp _ _ _ | .convert _ _ _ | .makeInterface _ _ | .slice _ _ _ _ _ | .fieldAddr _ _ _ | .field _ _ _ | .indexAddr _ _ _ | .index _ _ _ | .extract _ _ => true
  | .call c => match c.callee with | .builtin .len => true | _ => false
  | _ => false

theorem andThen_value {s : Result Value} {f : FuncId} {args : Array Value} {w' : World} (h : (s.andThen fun v w' => .ok (Next.value v) w') = .ok (.enter f args) w') : False := by
  cases s <;> simp [Result.andThen] at h

theorem andThen_value' {α : Type} {s : Result α} {g : α → Value} {f : FuncId} {args : Array Value} {w' : World} (h : (s.andThen fun v w' => .ok (Next.value (g v)) w') = .ok (.enter f args) w') : False := by
  cases s <;> simp [Result.andThen] at h

theorem plain_no_enter {o : Oper} {ρ : Operand → Value} {w w' : World} {f : FuncId} {args : Array Value} (hp : plainOp o.op = true) (h : (execOp ρ o).run P w = .ok (.enter f args) w') : False := by
  obtain ⟨dst, op, type, pos, after, guard⟩ := o
  cases op <;> simp only [plainOp, Bool.false_eq_true] at hp
  case call c =>
    obtain ⟨callee, cargs, ats⟩ := c
    cases callee with
    | builtin bi =>
      cases bi <;> simp only [Bool.false_eq_true] at hp
      simp only [execOp, resolve, Sem.run_bind, Sem.run_pure, Result.andThen, invoke, builtin] at h
      exact andThen_value h
    | _ => simp at hp
  all_goals (simp only [execOp, Sem.run_bind, Sem.run_pure] at h; first | exact andThen_value h | exact andThen_value' h | cases h | (split at h <;> first | exact andThen_value h | cases h))

abbrev Cls (w0 : World) : World → Prop := fun w' => ∃ p : Regrown, w' = grow (redrawn w0 p.d) p.os

theorem cls_of_below {w : World} (h : Below w0.heap.size w0 w) : Cls w0 w := regrown_of_below h

abbrev Rb : World → World → Prop := fun w w' => Below w.heap.size w w'

def notSoft (soft : List Tmp) (dst : Option Tmp) : Bool := match dst with | none => true | some d => !soft.contains d

theorem notSoft_spec {dst : Option Tmp} (h : notSoft soft dst = true) (d : Tmp) (hd : dst = some d) (hm : d ∈ soft) : False := by
  subst hd
  simp [notSoft, hm] at h

/-- May be walked as an operation of a quiet region. -/
def plainB (soft : List Tmp) (ops : Array Oper) (o : Oper) : Bool := plainOp o.op && (o.looksAt ops).all (fun t => !soft.contains t) && notSoft soft o.dst

theorem plain_not_select {op : Op} (h : plainOp op = true) (cs : Array SelectCase) (b : Bool) : op ≠ .select cs b := by
  intro e; rw [e] at h; cases h

theorem sims_same {a b : Act} {w : World} {l : List Tmp} (hn : l.all (fun t => !soft.contains t) = true) (hs : ∀ t, t ∈ l → SimAt soft G a b w t) : ∀ t ∈ l, get b t = get a t := fun t ht =>
  (hs t ht).2 (by have := List.all_eq_true.1 hn t ht; simpa using this)

theorem soft_op {o : Oper} {rest : List Oper} {a : Act} {Q : Act → Prop} (hp : plainB soft ops o = true)
    (h : wpQuiet P ops (Cls w0) (fun a' => wpSoft P ops Rb w0 soft G Q rest a') [o] a) : wpSoft P ops Rb w0 soft G Q (o :: rest) a := by
  unfold plainB at hp
  simp only [Bool.and_eq_true] at hp
  obtain ⟨⟨hp1, hp2⟩, hp3⟩ := hp
  have hsel := plain_not_select hp1
  simp only [wpQuiet] at h
  by_cases hw : Region.wanted o (yielded ops a.tmps) = true
  · rw [if_pos hw] at h
    obtain ⟨v, hq, hK⟩ := h
    refine ⟨v, fun b w hR hs => ?_, hK⟩
    have hsame := sims_same hp2 hs
    have hw2 : Region.wanted o (yielded ops b.tmps) = true := by rw [wanted_congr fun g want t hg hd => hsame t (looks_guard hg hd)]; exact hw
    refine .inl ⟨hw2, ?_⟩
    rw [exec_congr hsel hsame]
    have h1 := hq w (cls_of_below hR)
    unfold Oper.quietAt at h1
    generalize hr : (execOp a.eval o).run P w = r at h1
    cases r with
    | ok n w' =>
      cases n <;> simp only [Oper.quietUpon] at h1 <;> simp only [Upon]
      case value u =>
        obtain ⟨rfl, rfl⟩ := h1
        exact ⟨Below.refl _ _, .inl rfl, fun d hd hm => absurd hm (fun hm => notSoft_spec hp3 d hd hm)⟩
      case skip =>
        obtain ⟨rfl, e⟩ := h1
        exact ⟨Below.refl _ _, e⟩
      case enter f args => exact (plain_no_enter hp1 hr).elim
    | halt x w' => simp only [Oper.quietUpon] at h1
  · rw [if_neg hw] at h
    refine ⟨undef, fun b w hR hs => ?_, h⟩
    have hsame := sims_same hp2 hs
    refine .inr ⟨?_, rfl⟩
    rw [wanted_congr fun g want t hg hd => hsame t (looks_guard hg hd)]
    simpa using hw

/-- What writes a value into a slot, for the quiet walk to lay. -/
def putOp (d : Tmp) (v : Value) : Oper := { dst := some d, op := .move (.const v), type := 0, pos := "", after := #[], guard := none }

theorem quiet_put {a : Act} {d : Tmp} {v : Value} {K : Act → Prop} (h : wpQuiet P ops (Cls w0) K [{ dst := some d, op := .move (.const v), type := 0, pos := "", after := #[], guard := none }] a) : K (a.put (some d) v) := by
  simp only [wpQuiet, Region.wanted, if_true] at h
  obtain ⟨v', hq, hK⟩ := h
  have h1 := hq w0 (cls_of_below (Below.refl _ _))
  simp [Oper.quietAt, execOp, Oper.quietUpon, Act.eval] at h1
  rw [h1]; exact hK

def guardOk (soft : List Tmp) (ops : Array Oper) (o : Oper) : Bool :=
  match o.guard with
  | none => true
  | some (g, _) => notSoft soft ((ops[g]?).bind (·.dst))

def entersB (P : Program) (f : FuncId) : Bool := match P.funcs[f]? with | some fn => !(fn.name == "runtime.NumGoroutine") && !fn.body.isNone | none => false

theorem exec_call {o : Oper} {a : Act} {w : World} {f : FuncId} {xs : List Operand} {ats : Array TypeId} (hop : o.op = .call { callee := .value (.func f), args := xs.toArray, argTypes := ats }) (hf : entersB P f = true) :
    (execOp a.eval o).run P w = .ok (.enter f (xs.map a.eval).toArray) w := by
  have ef : a.eval (.func f) = .func (.func f) #[] #[] := rfl
  have e1 : execOp a.eval o = callFunc f (xs.map a.eval).toArray := by
    unfold execOp
    simp [hop, resolve, Deferred.ofValue, invoke, ef]
  rw [e1]
  unfold entersB at hf
  cases hfn : P.funcs[f]? with
  | none => rw [hfn] at hf; cases hf
  | some fn =>
    rw [hfn] at hf
    simp only [Bool.and_eq_true, Bool.not_eq_true'] at hf
    have h1 : fn.name ≠ "runtime.NumGoroutine" := by simpa using hf.1
    cases hb : fn.body with
    | none => rw [hb] at hf; exact absurd hf.2 (by simp)
    | some c => simp [callFunc, hfn, h1, hb]

/-- A call of a function. -/
theorem soft_call {o : Oper} {rest : List Oper} {a : Act} {Q : Act → Prop} (d : Tmp) (v : Value) {f : FuncId} {xs : List Operand} {ats : Array TypeId}
    (hop : o.op = .call { callee := .value (.func f), args := xs.toArray, argTypes := ats }) (hd : o.dst = some d) (hf : entersB P f = true)
    (hg : guardOk soft ops o = true) (hw : Region.wanted o (yielded ops a.tmps) = true) (hv : v ≠ tok)
    (hc : ∀ b w, Below w0.heap.size w0 w → (∀ t, t ∈ o.looksAt ops → SimAt soft G a b w t) → Calls P f (xs.map b.eval).toArray w (fun e w'' => e = .returned v ∧ Below w.heap.size w w''))
    (h : wpQuiet P ops (Cls w0) (fun a' => wpSoft P ops Rb w0 soft G Q rest a') [{ dst := some d, op := .move (.const v), type := 0, pos := "", after := #[], guard := none }] a) : wpSoft P ops Rb w0 soft G Q (o :: rest) a := by
  refine ⟨v, fun b w hR hs => .inl ⟨?_, ?_⟩, ?_⟩
  · rw [wanted_congr fun g want t hg' hd => ?_]
    · exact hw
    · refine (hs t (looks_guard hg' hd)).2 (fun hm => ?_)
      unfold guardOk at hg
      rw [hg'] at hg
      exact notSoft_spec hg t hd hm
  · rw [exec_call hop hf]
    exact ⟨hc b w hR hs, hv⟩
  · rw [hd]; exact quiet_put h

/-- A call of a function whose arguments lie in no soft slot. -/
theorem soft_call_plain {o : Oper} {rest : List Oper} {a : Act} {Q : Act → Prop} (d : Tmp) (v : Value) {f : FuncId} {xs : List Operand} {ats : Array TypeId}
    (hop : o.op = .call { callee := .value (.func f), args := xs.toArray, argTypes := ats }) (hd : o.dst = some d) (hf : entersB P f = true)
    (hl : (o.looksAt ops).all (fun t => !soft.contains t) = true) (hw : Region.wanted o (yielded ops a.tmps) = true) (hv : v ≠ tok)
    (hc : ∀ w, Below w0.heap.size w0 w → Calls P f (xs.map a.eval).toArray w (fun e w'' => e = .returned v ∧ Below w.heap.size w w''))
    (h : wpQuiet P ops (Cls w0) (fun a' => wpSoft P ops Rb w0 soft G Q rest a') [{ dst := some d, op := .move (.const v), type := 0, pos := "", after := #[], guard := none }] a) : wpSoft P ops Rb w0 soft G Q (o :: rest) a := by
  refine ⟨v, fun b w hR hs => .inl ⟨?_, ?_⟩, ?_⟩
  · rw [wanted_congr fun g want t hg' hd => (sims_same hl hs) t (looks_guard hg' hd)]; exact hw
  · rw [exec_congr (fun cs b e => by rw [hop] at e; cases e) (sims_same hl hs), exec_call hop hf]
    exact ⟨hc w hR, hv⟩
  · rw [hd]; exact quiet_put h

/-- A slice of its own is laid. -/
theorem soft_build {o : Oper} {rest : List Oper} {a : Act} {Q : Act → Prop} (d : Tmp) {t : TypeId} {n : Nat} {ps : List (Nat × Operand)} (vs : List (Nat × Value)) (obj : Obj)
    (hop : o.op = .buildSlice t n ps.toArray) (hd : o.dst = some d)
    (hl : (o.looksAt ops).all (fun t => !soft.contains t) = true) (hw : Region.wanted o (yielded ops a.tmps) = true)
    (hvs : ps.map (fun p => (p.1, a.eval p.2)) = vs)
    (hrun : ∀ w : World, (Instr.buildSlice t n vs.toArray).run P w = .ok (.slice (some ⟨w.heap.size, 0, none⟩) n n) (w.alloc obj))
    (hG : ∀ w, Below w0.heap.size w0 w → G d (.slice (some ⟨w.heap.size, 0, none⟩) n n) (w.alloc obj)) (hm : d ∈ soft)
    (h : wpQuiet P ops (Cls w0) (fun a' => wpSoft P ops Rb w0 soft G Q rest a') [{ dst := some d, op := .move (.const tok), type := 0, pos := "", after := #[], guard := none }] a) : wpSoft P ops Rb w0 soft G Q (o :: rest) a := by
  refine ⟨tok, fun b w hR hs => .inl ⟨?_, ?_⟩, ?_⟩
  · rw [wanted_congr fun g want t hg' hd => (sims_same hl hs) t (looks_guard hg' hd)]; exact hw
  · rw [exec_congr (fun cs b e => by rw [hop] at e; cases e) (sims_same hl hs)]
    have e1 : (execOp a.eval o).run P w = .ok (.value (.slice (some ⟨w.heap.size, 0, none⟩) n n)) (w.alloc obj) := by
      unfold execOp
      simp only [hop]
      rw [show (ps.toArray.map fun (i, x) => (i, a.eval x)) = vs.toArray from by rw [← hvs]; simp]
      rw [Sem.run_bind, hrun]
      rfl
    rw [e1]
    have hg := hG w hR
    refine ⟨(Below.refl _ _).alloc (Nat.le_refl _) _, .inr ⟨d, hd, hm⟩, fun d' hd' _ _ => ?_⟩
    rw [hd] at hd'
    cases hd'
    exact hg
  · rw [hd]; exact quiet_put h

theorem soft_put {rest : List Oper} {a : Act} {Q : Act → Prop} {t : Tmp} {l : List Tmp}
    (h : wpQuiet P ops (Cls w0) (fun a' => wpSoft P ops Rb w0 soft G Q rest (patch (fun _ => undef) l a')) [{ dst := some t, op := .move (.const undef), type := 0, pos := "", after := #[], guard := none }] a) :
    wpSoft P ops Rb w0 soft G Q rest (patch (fun _ => undef) (t :: l) a) := quiet_put (K := fun a' => wpSoft P ops Rb w0 soft G Q rest (patch (fun _ => undef) l a')) h
theorem soft_begun {rest : List Oper} {a : Act} {Q : Act → Prop} (h : wpSoft P ops Rb w0 soft G Q rest a) : wpSoft P ops Rb w0 soft G Q rest (patch (fun _ => undef) [] a) := h

theorem soft_nil {a : Act} {Q : Act → Prop} (h : Q a) : wpSoft P ops Rb w0 soft G Q [] a := h

end
end Go.Proofs.Ytgfhaldfjnepmaa.Soft
