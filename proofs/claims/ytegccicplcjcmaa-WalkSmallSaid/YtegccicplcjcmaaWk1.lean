/- Walks: the tour's each, its pairs and their iterator, whatever the loop's body does. -/
import Derived.Test.YtegccicplcjcmaaArt9
import Derived.Test.YtegccicplcjcmaaWkP
import Derived.Test.YtegccicplcjcmaaWBound1
import Derived.Deep.LoopGhost
namespace Go.Proofs.Ytegccicplcjcmaa
open Go Go.RowKit Go.Shelf Go.Proofs Go.Sort
attribute [local go_sem] Oper.semAt_some

/-- What From answers: a pair or none. -/
def hitV : Option (ByteArray × ByteArray) → Value
  | none => .tuple #[.string ⟨#[]⟩, .string ⟨#[]⟩, .bool false]
  | some p => .tuple #[.string p.1, .string p.2, .bool true]

theorem afromV_hit (ps : PS) (s : ByteArray) : afromV ps s = hitV ps[posP ps s]? := by
  unfold afromV hitV
  cases ps[posP ps s]? <;> rfl

/-- One step of a tour: what From answers at this bound, and what the caller's body makes of it. -/
def StepAt (n l M : Nat) (av : Value) (J : Nat → ByteArray → World → Prop) (E : World → Prop) (k : Nat) (f : ByteArray) (W : World) : Prop :=
  ∃ r : Option (ByteArray × ByteArray), (∀ p, r = some p → p.1.size ≤ 1000) ∧
    Calls Try.prog 91 #[av, .string f] W (fun e W' => e = .returned (hitV r) ∧ Below W.heap.size W W') ∧
    (r = none → ∀ W', Below W.heap.size W W' → E W') ∧
    (∀ p, r = some p → ∀ W', Below W.heap.size W W' → YieldAt Fence.wide n Try.prog l #[.agg #[.string p.1, .string p.2]] W' fun e W3 => (e = .returned (.bool true) ∧ k < M ∧ J (k + 1) (p.1 ++ ⟨#[0]⟩) W3) ∨ (e = .returned (.bool false) ∧ E W3))

set_option maxRecDepth 100000 in
set_option maxHeartbeats 4000000 in
theorem each_in (n : Nat) (hn : 1 ≤ n) (l M T : Nat) (av : Value) (a0 : Option Addr) (hav : av = .pointer a0) (f0 : ByteArray) (W : World) (hWT : W.heap.size = T) (J : Nat → ByteArray → World → Prop) (E : World → Prop)
    (hJ0 : J 0 f0 (W.alloc (.cells #[av] 82)))
    (hT : ∀ k f W1, J k f W1 → k ≤ M ∧ W1.cell? ⟨T, 0, none⟩ = some av)
    (hA : ∀ k f W1, J k f W1 → StepAt (n - 1) l M av J E k f W1) :
    CallsIn Fence.wide n Try.prog 61 #[.agg #[av], .string f0, .func (.yield l) #[] #[]] W fun e W' => (∃ v, e = .returned v) ∧ E W' := by
  subst hav
  have HT := Lib.hid hT
  have HA := Lib.hid hA
  clear hT hA
  refine callsIn_of_wp Try.func61 rfl trivial ?_ rfl
  simp only [Try.ntmps61, List.size_toArray, List.length_cons, List.length_nil, Nat.reduceAdd, Nat.reduceSub, Array.replicate_succ, Array.replicate_zero, List.push_toArray, List.append_toArray, List.nil_append, List.cons_append]
  gi_wp2
  gi_loopw [1] (fun f wr => ∃ (k : Nat) (s : ByteArray), f = .string s ∧ J k s wr) (fun f wr => leastOf (fun n => ∃ k s, f = .string s ∧ J k s wr ∧ n + k = M))
  case atStart => exact ⟨0, f0, rfl, hJ0⟩
  case round =>
    clear hJ0
    obtain ⟨k, s, rfl, hj, hm⟩ : ∃ k s, u1 = .string s ∧ J k s wr ∧ ∀ m, (∃ k' s', u1 = .string s' ∧ J k' s' wr ∧ m + k' = M) → M - k ≤ m := by
      obtain ⟨k, s, e, hj⟩ := hrel
      have h1 := (HT.out _ _ _ hj).1
      obtain ⟨⟨k2, s2, e2, hj2, e3⟩, h2⟩ := leastOf_spec (p := fun n => ∃ k s, u1 = .string s ∧ J k s wr ∧ n + k = M) ⟨M - k, k, s, e, hj, by omega⟩
      exact ⟨k2, s2, e2, hj2, fun m hm => by have := h2 m hm; omega⟩
    clear hrel
    obtain ⟨hkM, ht⟩ := HT.out _ _ _ hj
    obtain ⟨r, hrs, hF, hE, hY⟩ := HA.out _ _ _ hj
    have HF := Lib.hid hF
    have HE := Lib.hid hE
    have HY := Lib.hid hY
    have HRS := Lib.hid hrs
    have HM := Lib.hid hm
    have HJ := Lib.hid hj
    clear hF hE hY hrs hm hj
    cases r with
    | none =>
      gi_wp2_with (refine ⟨trivial, ?_⟩; gi_at_call 91; refine (callsIn_wide.2 HF.out).mono ?_; rintro e w3 ⟨rfl, hn3⟩; unfold hitV)
      refine ⟨(fun _ h => by cases h), ?_⟩
      gi_wp2
      refine bodyPost_ret (results_none rfl _ _ _) rfl ?_
      exact ⟨⟨_, rfl⟩, HE.out trivial _ hn3⟩
    | some p =>
      have hz := HRS.out p rfl
      obtain ⟨p1, p2⟩ := p
      simp only at hz
      gi_wp2_with (first
        | (refine ⟨trivial, ?_⟩; gi_at_call 91; refine (callsIn_wide.2 HF.out).mono ?_; rintro e w3 ⟨rfl, hn3⟩; unfold hitV; obtain ⟨fn, tmps, assign, body, hy, hR⟩ := HY.out (p1, p2) rfl w3 hn3; have hy : (Instr.yield l #[.agg #[.string p1, .string p2]]).run Try.prog w3 = .ok (.round l fn tmps assign body) w3 := hy))
      refine hR.mono ?_
      rintro e W3 (⟨rfl, hkM2, hJ3⟩ | ⟨rfl, hE3⟩)
      · have HJ3 := Lib.hid hJ3
        clear hJ3
        gi_wp2_with (refine ⟨trivial, ?_⟩; gi_at_call 28; refine (callsIn_wide.2 (after_any p1 W3 (by omega))).mono ?_; rintro e w4 ⟨rfl, rfl⟩)
        go_roundw
        case rel => exact ⟨k + 1, _, rfl, HJ3.out⟩
        case measure =>
          have h1 := (leastOf_spec (p := fun n => ∃ k s, Value.string (p1 ++ ⟨#[0]⟩) = Value.string s ∧ J k s W3 ∧ n + k = M) ⟨M - (k + 1), k + 1, _, rfl, HJ3.out, by omega⟩).2 (M - (k + 1)) ⟨k + 1, _, rfl, HJ3.out, by omega⟩
          have h2 := HM.out _ (leastOf_spec (p := fun n => ∃ k s_1, Value.string s = Value.string s_1 ∧ J k s_1 wr ∧ n + k = M) ⟨M - k, k, s, rfl, HJ.out, by omega⟩).1
          omega
      · gi_wp2
        refine bodyPost_ret (results_none rfl _ _ _) rfl ?_
        exact ⟨⟨_, rfl⟩, hE3⟩

/-- The iterator of a tour: T is the block that each takes for the tour itself. -/
theorem pairs1_in (n : Nat) (hn : 1 ≤ n) (l M T C D : Nat) (av : Value) (a0 : Option Addr) (hav : av = .pointer a0) (f0 : ByteArray) (W : World) (hWT : W.heap.size = T) (J : Nat → ByteArray → World → Prop) (E : World → Prop)
    (hC : W.cell? ⟨C, 0, none⟩ = some av) (hD : W.cell? ⟨D, 0, none⟩ = some (.string f0))
    (hJ0 : J 0 f0 (W.alloc (.cells #[av] 82)))
    (hT : ∀ k f W1, J k f W1 → k ≤ M ∧ W1.cell? ⟨T, 0, none⟩ = some av)
    (hA : ∀ k f W1, J k f W1 → StepAt (n - 1 - 1) l M av J E k f W1) (hn2 : 1 ≤ n - 1) :
    CallsIn Fence.wide n Try.prog 60 #[.func (.yield l) #[] #[], .pointer (some ⟨C, 0, none⟩), .pointer (some ⟨D, 0, none⟩)] W fun e W' => (∃ v, e = .returned v) ∧ E W' := by
  have HX := Lib.hid (each_in (n - 1) hn2 l M T av a0 hav f0 W hWT J E hJ0 hT hA)
  clear hJ0 hT hA hWT
  refine callsIn_of_wp Try.func60 rfl trivial ?_ rfl
  simp only [Try.ntmps60, List.size_toArray, List.length_cons, List.length_nil, Nat.reduceAdd, Nat.reduceSub, Array.replicate_succ, Array.replicate_zero, List.push_toArray, List.append_toArray, List.nil_append, List.cons_append]
  subst hav
  gi_wp2_with (refine ⟨trivial, ?_⟩; gi_at_call 61; refine HX.out.mono ?_; rintro e w3 ⟨⟨v, rfl⟩, hE⟩)
  refine bodyPost_end (results_none rfl _ _ _) rfl ?_
  exact ⟨⟨_, rfl⟩, hE⟩

theorem tpairs_any (a0 : Option Addr) (f : ByteArray) (w : World) :
    Calls Try.prog 42 #[.agg #[.pointer a0], .string f] w fun e w' => e = .returned (.func (.func 60) #[] #[.pointer (some ⟨w.heap.size, 0, none⟩), .pointer (some ⟨w.heap.size + 1, 0, none⟩)]) ∧
      (w.alloc (.cells #[.pointer a0] 82)).alloc (.cells #[.string f] 9) = w' := by
  have hmf : ∀ (fn : Fn) (first cap : Array Value) (w : World), (Instr.makeFunc fn first cap).run Try.prog w = .ok (.func fn first cap) w := fun _ _ _ _ => rfl
  go_enter Try.func42, Try.ntmps42
  go_wp2
  go_ret
  exact ⟨rfl, rfl⟩

theorem goes_any (a0 : Option Addr) (f : ByteArray) (w : World) :
    Calls Try.prog 13 #[.pointer a0, .string f] w fun e w' => e = .returned (.func (.func 60) #[] #[.pointer (some ⟨w.heap.size, 0, none⟩), .pointer (some ⟨w.heap.size + 1, 0, none⟩)]) ∧
      (w.alloc (.cells #[.pointer a0] 82)).alloc (.cells #[.string f] 9) = w' := by
  go_enter Try.func13, Try.ntmps13
  go_wp2_with (go_at_call 42; refine (tpairs_any a0 f w).mono ?_; rintro e w3 ⟨rfl, rfl⟩)
  go_ret
  exact ⟨rfl, rfl⟩

end Go.Proofs.Ytegccicplcjcmaa
