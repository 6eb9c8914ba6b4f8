/- Walks: a book that is not there (nil) or holds no map (zero): each method's contract. -/
import Derived.Test.YtgfhaldfjnepmaaBk16
import Derived.Test.YtgfhaldfjnepmaaBk17
namespace Go.Proofs.Ytgfhaldfjnepmaa
open Go Go.RowKit Go.Shelf Go.Proofs Go.Sort
attribute [local go_sem] Oper.semAt_some

/-- A book that does not exist: none, or one without a map. -/
inductive NoBook (w : World) : Value → Prop
  | none : NoBook w (.pointer none)
  | zero (b : Nat) (h : w.heap[b]? = some (.cells #[.slice none 0 0, .map none, .int .u64 0, .int .u64 0, .int .u64 0] 95 (0, 0))) : NoBook w (.pointer (some ⟨b, 0, none⟩))

theorem NoBook.below {w w' : World} {av : Value} (h : NoBook w av) (hb : Below w.heap.size w w') : NoBook w' av := by
  cases h with
  | none => exact .none
  | zero b h => exact .zero b ((hb.block b (Array.getElem?_eq_some_iff.1 h).1).trans h)
theorem NoBook.ptr {w : World} {av : Value} (h : NoBook w av) : ∃ a0, av = .pointer a0 := by cases h <;> exact ⟨_, rfl⟩

theorem nb_cell {w w' : World} (hb : Below w.heap.size w w') {p : Addr} {v : Value} (h : w.cell? p = some v) : w'.cell? p = some v := (hb.cell (block_lt_of_cell h)).trans h

set_option maxRecDepth 100000 in
theorem nb_none {w : World} {av : Value} (h : NoBook w av) : Calls Try.prog 61 #[av] w fun e w' => e = .returned (.bool true) ∧ w' = w := by
  cases h with
  | none =>
    go_enter Try.func61, Try.ntmps61
    go_wp2
    go_ret
    exact ⟨rfl, rfl⟩
  | zero b h =>
    have c0 : w.cell? ⟨b, 1, none⟩ = some (.map none) := by simp [World.cell?, h]
    have hq := fun w => run_eql_map_nil_sl (P := Try.prog) w 91 _ _ none Try.underlying91
    go_enter Try.func61, Try.ntmps61
    go_wp2
    go_ret
    exact ⟨rfl, rfl⟩

set_option maxRecDepth 100000 in
theorem nb_may {w : World} {av : Value} (h : NoBook w av) (s : ByteArray) (a : Option Addr) (len cap : Nat) : Calls Try.prog 62 #[av, .string s, .slice a len cap] w fun e w' => e = .returned (.int .i64 1) ∧ Below w.heap.size w w' := by
  have HN := Lib.hid (nb_none h)
  obtain ⟨a0, rfl⟩ := h.ptr
  clear h
  go_enter Try.func62, Try.ntmps62
  go_wp2_with (go_at_call 61; refine HN.out.mono ?_; rintro e w' ⟨rfl, rfl⟩)
  go_ret
  exact ⟨rfl, Below.refl _ _⟩

set_option maxRecDepth 100000 in
theorem nb_there {w : World} {av : Value} (h : NoBook w av) (s : ByteArray) (a : Option Addr) (len cap : Nat) : Calls Try.prog 76 #[av, .string s, .slice a len cap] w fun e w' => e = .returned (.tuple #[.string ⟨#[]⟩, .int .i64 1]) ∧ Below w.heap.size w w' := by
  have HM := Lib.hid (nb_may h s a len cap)
  obtain ⟨a0, rfl⟩ := h.ptr
  clear h
  go_enter Try.func76, Try.ntmps76
  go_wp2_with (go_at_call 62; refine HM.out.mono ?_; rintro e w' ⟨rfl, hn⟩)
  go_ret2
  exact ⟨rfl, hn⟩

set_option maxRecDepth 100000 in
theorem nb_get {w : World} {av : Value} (h : NoBook w av) (s : ByteArray) : Calls Try.prog 45 #[av, .string s] w fun e w' => e = .returned (.tuple #[.string ⟨#[]⟩, .int .i64 1]) ∧ Below w.heap.size w w' := by
  have HM := Lib.hid (nb_there h s none 0 0)
  obtain ⟨a0, rfl⟩ := h.ptr
  clear h
  go_enter Try.func45, Try.ntmps45
  go_wp2_with (go_at_call 76; refine HM.out.mono ?_; rintro e w' ⟨rfl, hn⟩)
  go_ret2
  exact ⟨rfl, hn⟩

set_option maxRecDepth 100000 in
theorem nb_put {w : World} {av : Value} (h : NoBook w av) (s x : ByteArray) : Calls Try.prog 48 #[av, .string s, .string x] w fun e w' => e = .returned (.int .i64 1) ∧ Below w.heap.size w w' := by
  have hw1 := (Below.refl w.heap.size w).alloc (Nat.le_refl _) (Obj.cells #[.string x] 9)
  have HM := Lib.hid (nb_may (h.below hw1) s (some ⟨w.heap.size, 0, none⟩) 1 1)
  obtain ⟨a0, rfl⟩ := h.ptr
  clear h
  go_enter Try.func48, Try.ntmps48
  go_wp2_with (go_at_call 62; refine HM.out.mono ?_; rintro e w' ⟨rfl, hn1⟩; have hb := hw1.trans (hn1.mono (by simp)))
  go_ret
  exact ⟨rfl, hb⟩

set_option maxRecDepth 100000 in
theorem nb_del {w : World} {av : Value} (h : NoBook w av) (s : ByteArray) : Calls Try.prog 46 #[av, .string s] w fun e w' => e = .returned (.int .i64 1) ∧ Below w.heap.size w w' := by
  have HM := Lib.hid (nb_there h s none 0 0)
  obtain ⟨a0, rfl⟩ := h.ptr
  clear h
  go_enter Try.func46, Try.ntmps46
  go_wp2_with (go_at_call 76; refine HM.out.mono ?_; rintro e w' ⟨rfl, hn⟩)
  go_ret
  exact ⟨rfl, hn⟩

set_option maxRecDepth 100000 in
theorem nb_swap {w : World} {av : Value} (h : NoBook w av) (s o x : ByteArray) : Calls Try.prog 47 #[av, .string s, .string o, .string x] w fun e w' => e = .returned (.int .i64 1) ∧ Below w.heap.size w w' := by
  have hw1 := (Below.refl w.heap.size w).alloc (Nat.le_refl _) (Obj.cells #[.string o, .string x] 9)
  have HM := Lib.hid (nb_there (h.below hw1) s (some ⟨w.heap.size, 0, none⟩) 2 2)
  obtain ⟨a0, rfl⟩ := h.ptr
  clear h
  go_enter Try.func47, Try.ntmps47
  go_wp2_with (go_at_call 76; refine HM.out.mono ?_; rintro e w3 ⟨rfl, hn1⟩; have hb3 := hw1.trans (hn1.mono (by simp)))
  go_ret
  exact ⟨rfl, hb3⟩

set_option maxRecDepth 100000 in
theorem nb_scan {w : World} {av : Value} (h : NoBook w av) (s : ByteArray) (n : Int) : Calls Try.prog 37 #[av, .string s, .int .i64 n] w fun e w' => e = .returned (.tuple #[.slice none 0 0, .int .i64 1]) ∧ Below w.heap.size w w' := by
  have HM := Lib.hid (nb_may h s none 0 0)
  obtain ⟨a0, rfl⟩ := h.ptr
  clear h
  go_enter Try.func37, Try.ntmps37
  go_wp2_with (go_at_call 62; refine HM.out.mono ?_; rintro e w' ⟨rfl, hn⟩)
  go_ret2
  exact ⟨rfl, hn⟩

set_option maxRecDepth 100000 in
theorem nb_keys {w : World} {av : Value} (h : NoBook w av) : Calls Try.prog 34 #[av] w fun e w' => e = .returned (.int .u64 0) ∧ w' = w := by
  have HN := Lib.hid (nb_none h)
  obtain ⟨a0, rfl⟩ := h.ptr
  clear h
  go_enter Try.func34, Try.ntmps34
  go_wp2_with (go_at_call 61; refine HN.out.mono ?_; rintro e w' ⟨rfl, rfl⟩)
  go_ret
  exact ⟨rfl, rfl⟩

set_option maxRecDepth 100000 in
theorem nb_bytes {w : World} {av : Value} (h : NoBook w av) : Calls Try.prog 35 #[av] w fun e w' => e = .returned (.int .u64 0) ∧ w' = w := by
  have HN := Lib.hid (nb_none h)
  obtain ⟨a0, rfl⟩ := h.ptr
  clear h
  go_enter Try.func35, Try.ntmps35
  go_wp2_with (go_at_call 61; refine HN.out.mono ?_; rintro e w' ⟨rfl, rfl⟩)
  go_ret
  exact ⟨rfl, rfl⟩

set_option maxRecDepth 100000 in
theorem nb_copy {w : World} {av : Value} (h : NoBook w av) : Calls Try.prog 42 #[av] w fun e w' => e = .returned (.pointer none) ∧ w' = w := by
  have HN := Lib.hid (nb_none h)
  obtain ⟨a0, rfl⟩ := h.ptr
  clear h
  go_enter Try.func42, Try.ntmps42
  go_wp2_with (go_at_call 61; refine HN.out.mono ?_; rintro e w' ⟨rfl, rfl⟩)
  go_ret
  exact ⟨rfl, rfl⟩

theorem all_ptr (a0 : Option Addr) (w : World) :
    Calls Try.prog 43 #[.pointer a0] w fun e w' => e = .returned (.func (.func 75) #[] #[.pointer (some ⟨w.heap.size, 0, none⟩)]) ∧ w.alloc (.cells #[.pointer a0] 43) = w' := by
  go_enter Try.func43, Try.ntmps43
  go_wp2
  go_ret
  exact ⟨rfl, rfl⟩

set_option maxRecDepth 100000 in
theorem all1_none (n : Nat) (hn : 1 ≤ n) (l X : Nat) (a0 : Option Addr) (W : World) (h : NoBook W (.pointer a0)) (hX : W.cell? ⟨X, 0, none⟩ = some (.pointer a0)) :
    CallsIn Fence.wide n Try.prog 75 #[.func (.yield l) #[] #[], .pointer (some ⟨X, 0, none⟩)] W fun e W' => (∃ v, e = .returned v) ∧ W' = W := by
  have HN := Lib.hid (nb_none h)
  clear h
  refine callsIn_of_wp Try.func75 rfl trivial ?_ rfl
  simp only [Try.ntmps75, List.size_toArray, List.length_cons, List.length_nil, Nat.reduceAdd, Nat.reduceSub, Array.replicate_succ, Array.replicate_zero, List.push_toArray, List.append_toArray, List.nil_append, List.cons_append]
  gi_wp2_with (refine ⟨trivial, ?_⟩; gi_at_call 61; refine (callsIn_wide.2 HN.out).mono ?_; rintro e w3 ⟨rfl, rfl⟩)
  refine bodyPost_ret (results_none rfl _ _ _) rfl ?_
  exact ⟨⟨_, rfl⟩, rfl⟩

set_option maxRecDepth 100000 in
set_option maxHeartbeats 4000000 in
/-- A range over the pairs of a book that does not exist: no round. -/
theorem range_nobook {ps : Array Tmp} {assign body : Code} {Q : Exit → Act → World → Prop} {a : Act} {w : World} {g : Operand} (a0 : Option Addr) (X : Nat)
    (hg : a.eval g = .func (.func 75) #[] #[.pointer (some ⟨X, 0, none⟩)]) (hX : w.cell? ⟨X, 0, none⟩ = some (.pointer a0)) (hS : NoBook w (.pointer a0))
    (h : ∀ W, Below w.heap.size w W → W.heap[w.heap.size]? = some (.deferred (some [])) → Q .normal { a with defers := { target := .collected w.heap.size, args := #[] } :: a.defers } W) : (Code.rangeFunc g ps assign body).wpIn Fence.wide 9 Try.prog Q a w := by
  refine rangeFunc_open rfl (by omega) (gf := 75) (lb := #[.pointer (some ⟨X, 0, none⟩)]) hg trivial (enters_of Try.func75 (by kernel_rfl) rfl) ?_
  intro fn hfn
  generalize hrec : recOf fn _ _ _ _ _ = rec
  obtain ⟨S0, hS0⟩ : ∃ S0, (w.alloc (.deferred (some []))).alloc (.loop (rec .ready none)) = S0 := ⟨_, rfl⟩
  have hsz : S0.heap.size = w.heap.size + 1 + 1 := by rw [← hS0]; simp
  have hbS : Below w.heap.size w S0 := by rw [← hS0]; exact ((Below.refl _ _).alloc (Nat.le_refl _) _).alloc (by simp) _
  have sD : S0.heap[w.heap.size]? = some (.deferred (some [])) := by rw [← hS0]; exact key1 _ _ _ _ (World.alloc_heap_new _ _)
  have sL : S0.heap[w.heap.size + 1]? = some (.loop (rec .ready none)) := by
    rw [← hS0]
    have := World.alloc_heap_new (w.alloc (.deferred (some []))) (.loop (rec .ready none))
    rw [World.size_alloc] at this
    exact this
  rw [hS0]
  clear hS0
  refine (all1_none (9 - 1) (by omega) (w.heap.size + 1) X a0 S0 (hS.below hbS) (nb_cell hbS hX)).mono ?_
  rintro e W' ⟨⟨v0, rfl⟩, rfl⟩
  have hrun : (Instr.endLoop (w.heap.size + 1)).run Try.prog W' = .ok none (W'.putObj (w.heap.size + 1) (.loop (rec .exhausted none))) := by
    rw [← hrec] at sL ⊢
    exact run_endLoop sL (by simp [recOf])
  refine ⟨none, _, hrun, ?_⟩
  exact h _ (hbS.grown (grownBy_putObj' W' _ _) hbS.size (fun j e => by cases e; omega)) ((World.putObj_heap_other (by omega)).trans sD)

set_option maxRecDepth 100000 in
set_option maxHeartbeats 4000000 in
theorem nb_pairs {w : World} {av : Value} (hS : NoBook w av) : Calls Try.prog 30 #[av] w fun e w' => e = .returned (.slice none 0 0) ∧ Below w.heap.size w w' := by
  have hmf : ∀ (fn : Fn) (first cap : Array Value) (w : World), (Instr.makeFunc fn first cap).run Try.prog w = .ok (.func fn first cap) w := fun _ _ _ _ => rfl
  obtain ⟨a0, rfl⟩ := hS.ptr
  refine (callsIn_wide (n := 9)).1 ?_
  refine callsIn_of_wp_marks Try.func30 rfl trivial ?_ rfl
  simp only [Try.ntmps30, List.size_toArray, List.length_cons, List.length_nil, Nat.reduceAdd, Nat.reduceSub, Array.replicate_succ, Array.replicate_zero, List.push_toArray, List.append_toArray, List.nil_append, List.cons_append]
  gi_wp2_with (refine ⟨trivial, ?_⟩; gi_at_call 43; refine (callsIn_wide.2 (all_ptr a0 _)).mono ?_; rintro e w' ⟨rfl, rfl⟩)
  obtain ⟨W0, hW0⟩ : ∃ W0, (w.alloc (Obj.cells #[Value.slice none 0 0] 47)).alloc (Obj.cells #[Value.pointer a0] 43) = W0 := ⟨_, rfl⟩
  have hsz : W0.heap.size = w.heap.size + 1 + 1 := by rw [← hW0]; simp
  have hb0 : Below w.heap.size w W0 := by
    rw [← hW0]
    exact ((Below.refl _ w).alloc (Nat.le_refl _) _).alloc (by simp) _
  have m0 : W0.heap[w.heap.size]? = some (.cells #[Value.slice none 0 0] 47 (0, 0)) := by
    rw [← hW0]; exact key1 _ _ _ _ (World.alloc_heap_new w _)
  have m1 : W0.heap[w.heap.size + 1]? = some (.cells #[Value.pointer a0] 43 (0, 0)) := by
    rw [← hW0]
    have := World.alloc_heap_new (w.alloc (Obj.cells #[Value.slice none 0 0] 47)) (Obj.cells #[Value.pointer a0] 43)
    simpa using this
  try simp only [World.size_alloc]
  rw [hW0]
  clear hW0
  refine range_nobook a0 (w.heap.size + 1) rfl (by simp [World.cell?, m1]) (hS.below hb0) ?_
  intro W hb hD
  rw [hsz] at hD ⊢
  have hbW := hb0.trans (hb.mono hb0.size)
  have hv : Boxed W w.heap.size 47 (.slice none 0 0) := (hb.block _ (by omega)).trans m0
  have kv := hv.cell
  have HD := Lib.hid hD
  clear hD hb hb0 m0 m1
  gi_wp2
  have hg6 := grownBy_putObj' W (w.heap.size + 1 + 1) (.deferred none)
  refine ⟨by simp, .inl ⟨_, _, rfl, run_takeDeferred HD.out, ?_⟩⟩
  refine ⟨.slice none 0 0, ?_, rfl, hbW.grown hg6 hbW.size (fun j e => by cases e; omega)⟩
  simp [results, Try.f30, go_sem]

end Go.Proofs.Ytgfhaldfjnepmaa
