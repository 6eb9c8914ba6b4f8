/- A region that draws its order inside a round of a range over a function; what a run of steps changes. -/
import Derived.Test.YtgfhaldfjnepmaaBk29
import Derived.Deep.RegionHeld3
import Derived.OrdersIn
import Derived.OwnWalkIn
import Derived.RangeFuncNested
namespace Go.Proofs.Ytgfhaldfjnepmaa
open Go Go.RowKit Go.Shelf Go.Proofs
attribute [local go_sem] Oper.semAt_some

theorem no_defer {ops : Array Oper} (h : ops.all (fun o => match o.op with | .defer _ => false | _ => true) = true) : ∀ (i : Nat) (o : Oper), ops[i]? = some o → ∀ c, o.op ≠ .defer c := by
  intro i o ho c e
  rw [Array.all_eq_true] at h
  obtain ⟨hi, e2⟩ := Array.getElem?_eq_some_iff.1 ho
  have := h i hi
  rw [e2, e] at this
  cases this

theorem oper_round {P : Program} {l n : Nat} {o : Oper} {a : Act} {w : World} {next : Act → World → Prop} {Q : Exit → Act → World → Prop} (hnd : ∀ c, o.op ≠ .defer c) (h : o.wp P a w next Q) : o.wpIn (Fence.wide.inRound l) n P a w next Q := by
  unfold Oper.wp at h
  unfold Oper.wpIn
  rw [Oper.semAt_plain _ _ _ hnd]
  refine ⟨fun _ _ => trivial, ?_⟩
  generalize (execOp a.eval o).run P w = r at h ⊢
  cases r with
  | ok x w' =>
    cases x with
    | value v => exact h
    | skip => exact h
    | defer d => exact h
    | enter f args => exact ⟨(fun h => by cases h), (callsIn_wide (n := n - 1)).2 h⟩
    | row row args => exact ⟨(fun h => by cases h), (fun c cs _ => let ⟨v, w', r, s⟩ := h c cs; ⟨v, w', r, stepsIn_wide.2 s⟩)⟩
    | round _ _ _ _ _ => exact absurd h (by simp [Oper.upon])
    | _ => exact absurd h (by simp [Oper.upon])
  | halt x w' =>
    cases x <;> exact h

theorem wpAny_round {P : Program} {l n : Nat} {md : Region.Mode} {ops : Array Oper} {Q : Exit → Act → World → Prop} (hnd : ∀ (i : Nat) (o : Oper), ops[i]? = some o → ∀ c, o.op ≠ .defer c) (hq : ¬ LetsOut Q) :
    ∀ (fuel : Nat) (listed : Array Bool) (a : Act) (w : World), wpAny P md ops Q fuel listed a w → wpAnyIn (Fence.wide.inRound l) n P md ops Q fuel listed a w
  | 0, _, _, _, h => h
  | fuel + 1, listed, a, w, h => by
    refine ⟨h.1, fun i hi => ?_⟩
    have h2 := h.2 i hi
    unfold wpOp at h2
    unfold wpOpIn
    cases ho : ops[i]? with
    | none =>
      rw [ho] at h2
      exact wpAny_round hnd hq fuel _ _ _ h2
    | some o =>
      rw [ho] at h2
      simp only at h2 ⊢
      by_cases hw : Region.wanted o (yielded ops a.tmps) = true
      · rw [if_pos hw] at h2 ⊢
        rcases h2 with h2 | h2
        · exact Oper.wpIn_mono (fun a w h => wpAny_round hnd hq fuel _ _ _ h) (oper_round (hnd i o ho) h2)
        · exact absurd h2.2 hq
      · rw [if_neg hw] at h2 ⊢
        exact ⟨fun _ _ => trivial, wpAny_round hnd hq fuel _ _ _ h2⟩

/-- The region's beginning: S is shown of the world behind the draw. -/
theorem wpIn_round_held {P : Program} {l n id : Nat} {ops : Array Oper} {Q : Exit → Act → World → Prop} {S : World → Prop} {a : Act} {w : World} (hm : P.follows .mixedOrders = true) (hnd : ∀ (i : Nat) (o : Oper), ops[i]? = some o → ∀ c, o.op ≠ .defer c)
    (h : wpAnyH P .any ops (fun e a w => match e with | .normal => Q .normal a w | _ => False) S ops.size (Array.replicate ops.size false) a w.drew) : (Code.region id ops true).wpIn (Fence.wide.inRound l) n P Q a w := by
  refine wpIn_mono (Q := fun e a w => match e with | .normal => Q .normal a w | _ => False) (wpIn_region_any hm (wpAny_round hnd ?_ _ _ _ _ (wpAny_of_held _ _ _ _ h))) ?_
  · rintro ⟨_, _, h⟩
    exact h
  · intro e a w h
    cases e <;> first | exact h | exact h.elim


/-- append of pairs onto an own row inside a round. -/
theorem wpListIn_appF {F : Fence} {n : Nat} {ops : Array Oper} {rest : List Oper} {o : Oper} {a : Act} {Q : Exit → Act → World → Prop} (w : World) (hgd : o.guard = none) (s x : Operand)
    (ho : o.op = .call { callee := .builtin .append, args := #[s, x], argTypes := #[47, 47] }) (B : Nat) (v : Value) (xs : PS) (hs : a.eval s = v) (hown : PRow w B v xs)
    (ad : Addr) (m c : Nat) (news : PS) (hx : a.eval x = .slice (some ad) m c) (hl : news.length = m) (hnews : ∀ j u, (pcells news)[j]? = some u → w.cell? (ad.add j) = some u) (hnm : xs.length + m ≤ 200000) (hB : B ≤ w.heap.size)
    (h : ∀ v' w', PRow w' B v' (xs ++ news) → w.grownBy w' v.ownBlock → (v'.ownBlock = v.ownBlock ∨ v'.ownBlock = some w.heap.size) → PRow w' B v xs → wpListIn F n Try.prog ops Q rest (a.put o.dst v') w') : wpListIn F n Try.prog ops Q (o :: rest) a w := by
  refine wpListIn_plain hgd fun K hK => ?_
  obtain ⟨v', w', hr, h1, h2, h3, h4⟩ := run_app_pairs w B o.type hown ad m c news hl hnews hnm hB
  unfold Oper.wpIn
  refine ⟨?_, ?_⟩
  · simp [Oper.about, ho, resolve, Target.leads, Sem.run_pure]
  · rw [Oper.semAt_plain F _ _ (by rw [ho]; intro c hc'; cases hc')]
    simp [execOp, ho, resolve, invoke, builtin, hs, hx, hr, Result.andThen]
    exact hK _ _ (h v' w' h1 h2 h3 h4)

/-- What changed: only blocks of which P speaks, and new ones. -/
structure Chg (w w' : World) (P : Nat → Prop) : Prop where
  os : w'.os = w.os
  tape : w'.tape = w.tape
  output : w'.output = w.output
  size : w.heap.size ≤ w'.heap.size
  block : ∀ k, k < w.heap.size → ¬ P k → w'.heap[k]? = w.heap[k]?

theorem Chg.of_grown {w w' : World} {row : Option Nat} (h : w.grownBy w' row) : Chg w w' (fun k => row = some k) := ⟨h.os, h.tape, h.output, h.size, fun k hk hn => h.block k hk (fun e => hn e.symm)⟩
theorem Chg.of_below {w w' : World} (h : Below w.heap.size w w') (P : Nat → Prop) : Chg w w' P := ⟨h.os, h.tape, h.output, h.size, fun k hk _ => h.block k hk⟩
theorem Chg.of_turned {b m : Nat} {v v' : Value} {w w' : World} (h : Turned b m v w v' w') : Chg w w' (fun k => k = b ∨ k = m ∨ v.ownBlock = some k) :=
  ⟨h.1.os, h.1.tape, h.1.output, h.1.size, fun k hk hn => h.1.block k hk (fun e => hn (.inl e)) (fun e => hn (.inr (.inl e))) (fun e => hn (.inr (.inr e.symm)))⟩
theorem Chg.set3 (w : World) (k : Nat) (x y z : Value) : Chg w (set3 w k x y z) (fun j => j = k) := by
  obtain ⟨e1, e2, e3⟩ := set3_rest w k x y z
  exact ⟨e1, e2, e3, by rw [set3_size]; exact Nat.le_refl _, fun j _ hn => set3_other _ _ _ _ _ _ (fun e => hn e.symm)⟩
theorem Chg.trans {a b c : World} {P Q : Nat → Prop} (h : Chg a b P) (k : Chg b c Q) (R : Nat → Prop) (h1 : ∀ j, j < a.heap.size → P j → R j) (h2 : ∀ j, j < a.heap.size → Q j → R j) : Chg a c R :=
  ⟨k.os.trans h.os, k.tape.trans h.tape, k.output.trans h.output, Nat.le_trans h.size k.size, fun j hj hn => (k.block j (Nat.lt_of_lt_of_le hj h.size) (fun e => hn (h2 j hj e))).trans (h.block j hj (fun e => hn (h1 j hj e)))⟩
theorem Chg.refl (w : World) (P : Nat → Prop) : Chg w w P := ⟨rfl, rfl, rfl, Nat.le_refl _, fun _ _ _ => rfl⟩
theorem Chg.below {w w' : World} {P : Nat → Prop} (h : Chg w w' P) {B : Nat} (hB : B ≤ w.heap.size) (hP : ∀ k, k < B → ¬ P k) : Below B w w' := ⟨h.os, h.tape, h.output, h.size, fun k hk => h.block k (Nat.lt_of_lt_of_le hk hB) (hP k hk)⟩
theorem Chg.keep {w w' : World} {P : Nat → Prop} (h : Chg w w' P) {k : Nat} {ob : Obj} (hk : w.heap[k]? = some ob) (hn : ¬ P k) : w'.heap[k]? = some ob := (h.block k (Array.getElem?_eq_some_iff.1 hk).1 hn).trans hk
theorem Chg.prow {w w' : World} {P : Nat → Prop} (h : Chg w w' P) {B : Nat} {v : Value} {ps : PS} (hp : PRow w B v ps) (hn : ∀ g, v.ownBlock = some g → ¬ P g) : PRow w' B v ps := prow_still hp (fun g hg => h.block g (hp.lt g hg).2 (hn g hg))
theorem Chg.book {w w' : World} {P : Nat → Prop} (h : Chg w w' P) {B b m : Nat} {v : Value} {K M : Nat} {ps : PS} (hb : BookAt w B b m v K M ps) (h1 : ¬ P b) (h2 : ¬ P m) (h3 : ∀ g, v.ownBlock = some g → ¬ P g)
    (h4 : ∀ (g : Nat) (cur : Array Value) (fz : Nat × Nat), w.heap[g]? = some (.cells cur 5 fz) → ¬ P g) : BookAt w' B b m v K M ps :=
  hb.stay (h.block b hb.lt.1 h1) (h.block m hb.lt.2 h2) (fun g hg => h.block g (hb.row.lt g hg).2 (h3 g hg)) (fun g cur fz hg => h.keep hg (h4 g cur fz hg))

/-- A block of another kind is none of the book's. -/
theorem book_apart {B b m : Nat} {v : Value} {w : World} {K M : Nat} {ps : PS} (h : BookAt w B b m v K M ps) {g : Nat} {ob : Obj} (hg : w.heap[g]? = some ob) (h1 : ∀ c f, ob ≠ .cells c 95 f) (h2 : ∀ c f, ob ≠ .cells c 9 f) (h3 : ∀ es ck, ob ≠ .map es ck) : g ≠ b ∧ g ≠ m ∧ v.ownBlock ≠ some g := by
  refine ⟨?_, ?_, ?_⟩
  · rintro rfl
    rw [h.cells] at hg; cases hg; exact h1 _ _ rfl
  · rintro rfl
    obtain ⟨f, hf, _⟩ := h.map
    obtain ⟨es, clock, hm⟩ := hf.isMap
    rw [hm] at hg; cases hg; exact h3 _ _ rfl
  · intro e2
    rcases row_get h.row with ⟨rfl, _⟩ | ⟨g', cap, cur', rfl, _, hh, _⟩
    · simp [Value.ownBlock] at e2
    · simp [Value.ownBlock] at e2
      subst e2
      rw [hh] at hg; cases hg; exact h2 _ _ rfl

/-- A row of pairs is none of another kind of block. -/
theorem prow_apart {w : World} {B : Nat} {v : Value} {ps : PS} (h : PRow w B v ps) {g : Nat} {ob : Obj} (hg : w.heap[g]? = some ob) (h1 : ∀ c f, ob ≠ .cells c 57 f) : v.ownBlock ≠ some g := by
  intro e
  rcases prow_form h with ⟨e1, _⟩ | ⟨g', c, e1⟩
  · rw [e1] at e; cases e
  · rw [e1] at e h
    cases e
    obtain ⟨cur, _, _, hh, _⟩ := prow_blk h
    rw [hh] at hg
    cases hg
    exact h1 _ _ rfl

/-- What a round of the iteration leaves alone: the copy, the model that it began with, the caller's variables. -/
structure CopyFix (W : World) (C0 c mc : Nat) (vc : Value) (K M : Nat) (ps : PS) (tb b ob : Nat) (ra : Option Addr) (rc : Nat) : Prop where
  cbk : BookAt W C0 c mc vc K M ps
  tbk : W.heap[tb]? = some (.cells #[.pointer (some ⟨b, 0, none⟩)] 43 (0, 0))
  mbk : RefBlk W (tb + 1) (.slice ra ps.length rc) (.int .u64 K) (.int .u64 M)
  obk : RefBlk W ob (.slice ra ps.length rc) (.int .u64 K) (.int .u64 M)
  row : PRow W 0 (.slice ra ps.length rc) ps

/-- The numbers of the blocks. -/
structure CopyNum (W1 : Nat) (C0 c mc : Nat) (vc : Value) (tb b m nb ob N : Nat) (ra : Option Addr) : Prop where
  hb : b < C0
  hm : m < C0
  htb : tb + 1 < C0
  hra : ∀ ad, ra = some ad → ad.block < C0
  hc : C0 ≤ c ∧ c < N
  hmc : C0 ≤ mc ∧ mc < N
  hvc : ∀ g, vc.ownBlock = some g → C0 ≤ g ∧ g < N
  hnb : C0 ≤ nb ∧ nb < N
  hob : C0 ≤ ob ∧ ob < N
  hne : nb ≠ ob
  hW : W1 ≤ C0

/-- Between two rounds. -/
structure CopyJ (w1 : World) (C0 c mc : Nat) (vc : Value) (K M : Nat) (ps : PS) (tb b m nb ob N : Nat) (ra : Option Addr) (rc : Nat) (lp : Obj) (N1 k : Nat) (W : World) (vb : Value) (pn : PS) (an : Option Addr) (cn : Nat) (sv : Value) (kk : Nat) (it : Nat) : Prop where
  fix : CopyFix W C0 c mc vc K M ps tb b ob ra rc
  book : BookAt W w1.heap.size b m vb K M pn
  own : ∀ g, vb.ownBlock = some g → g < C0 ∨ N1 ≤ g
  len : pn.length ≤ ps.length + k
  nbk : RefBlk W nb (.slice an pn.length cn) (.int .u64 K) (.int .u64 M)
  nrow : PRow W 0 (.slice an pn.length cn) pn
  nloc : ∀ ad, an = some ad → (ad.block < C0 ∨ N1 ≤ ad.block) ∧ sv.ownBlock ≠ some ad.block
  seen : W.heap[N]? = some (.cells #[sv] 47 (0, 0))
  srow : PRow W N1 sv (ps.take kk)
  ibk : W.heap[N + 1]? = some (.cells #[.int .i64 it] 3 (0, 0))
  dfr : W.heap[N + 3]? = some (.deferred (some []))
  lop : W.heap[N + 4]? = some lp
  low : Below w1.heap.size w1 W
  sz : N1 ≤ W.heap.size

/-- The fixed part stays through steps that change none of its blocks. -/
theorem CopyFix.chg {W W' : World} {C0 c mc : Nat} {vc : Value} {K M : Nat} {ps : PS} {tb b ob : Nat} {ra : Option Addr} {rc : Nat} {P : Nat → Prop} (h : CopyFix W C0 c mc vc K M ps tb b ob ra rc) (hc : Chg W W' P)
    (h1 : ¬ P c) (h2 : ¬ P mc) (h3 : ∀ g, vc.ownBlock = some g → ¬ P g) (h4 : ∀ (g : Nat) (cur : Array Value) (fz : Nat × Nat), W.heap[g]? = some (.cells cur 5 fz) → ¬ P g) (h5 : ¬ P tb) (h6 : ¬ P (tb + 1)) (h7 : ¬ P ob) (h8 : ∀ ad, ra = some ad → ¬ P ad.block) : CopyFix W' C0 c mc vc K M ps tb b ob ra rc :=
  ⟨hc.book h.cbk h1 h2 h3 h4, hc.keep h.tbk h5, hc.keep h.mbk h6, hc.keep h.obk h7, hc.prow h.row (fun g hg => by
    cases ra with
    | none => cases hg
    | some ad => cases hg; exact h8 ad rfl)⟩

variable {w1 : World} {C0 c mc : Nat} {vc : Value} {K M : Nat} {ps : PS} {tb b m nb ob N : Nat} {ra : Option Addr} {rc : Nat} {lp : Obj} {N1 k : Nat} {W : World} {vb : Value} {pn : PS} {an : Option Addr} {cn : Nat} {sv : Value} {kk it : Nat}

theorem CopyJ.base (num : CopyNum w1.heap.size C0 c mc vc tb b m nb ob N ra) (hN : N + 5 ≤ N1) (hlp : ∃ l, lp = .loop l) (h : CopyJ w1 C0 c mc vc K M ps tb b m nb ob N ra rc lp N1 k W vb pn an cn sv kk it) {W' : World} {P : Nat → Prop} (hc : Chg W W' P)
    (hP : ∀ j, P j → j = N + 4 ∨ sv.ownBlock = some j ∨ j = N ∨ j = b ∨ j = m ∨ vb.ownBlock = some j ∨ j = nb ∨ j = N + 1) :
    CopyFix W' C0 c mc vc K M ps tb b ob ra rc ∧ W'.heap[N + 3]? = some (.deferred (some [])) ∧ Below w1.heap.size w1 W' ∧ N1 ≤ W'.heap.size ∧ Stay (N + 5) N1 W W' := by
  obtain ⟨l, rfl⟩ := hlp
  have hsl : ∀ g, sv.ownBlock = some g → N1 ≤ g := fun g hg => (h.srow.lt g hg).1
  have hb0 := h.book.hb
  have hm0 := h.book.hm
  have hvb0 : ∀ g, vb.ownBlock = some g → w1.heap.size ≤ g := fun g hg => (h.book.row.lt g hg).1
  have nW := num.hW
  have hu : ∀ (g : Nat) (cur : Array Value) (fz : Nat × Nat), W.heap[g]? = some (.cells cur 5 fz) → ¬ P g := fun g cur fz hg hp => by
    rcases hP g hp with rfl | e | rfl | rfl | rfl | e | rfl | rfl
    · rw [h.lop] at hg; cases hg
    · exact prow_apart h.srow hg (fun _ _ e => by cases e) e
    · rw [h.seen] at hg; cases hg
    · rw [h.book.cells] at hg; cases hg
    · exact (book_apart h.book hg (fun _ _ e => by cases e) (fun _ _ e => by cases e) (fun _ _ e => by cases e)).2.1 rfl
    · exact (book_apart h.book hg (fun _ _ e => by cases e) (fun _ _ e => by cases e) (fun _ _ e => by cases e)).2.2 e
    · have := h.nbk; unfold RefBlk at this; rw [this] at hg; cases hg
    · rw [h.ibk] at hg; cases hg
  have nc := num.hc
  have nmc := num.hmc
  have nnb := num.hnb
  have nob := num.hob
  have nne := num.hne
  have nb' := num.hb
  have nm := num.hm
  have ntb := num.htb
  have mid : ∀ j, C0 ≤ j → j < N → j ≠ nb → ¬ P j := fun j h1 h2 h3 hp => by
    rcases hP j hp with e | e | e | e | e | e | e | e
    · omega
    · have := hsl _ e; omega
    · omega
    · omega
    · omega
    · rcases h.own _ e with e2 | e2 <;> omega
    · omega
    · omega
  have hap : ∀ j, j < C0 → (j ≠ b ∧ j ≠ m ∧ vb.ownBlock ≠ some j) → ¬ P j := fun j h1 h2 hp => by
    rcases hP j hp with e | e | e | e | e | e | e | e
    · omega
    · have := hsl _ e; omega
    · omega
    · exact h2.1 e
    · exact h2.2.1 e
    · exact h2.2.2 e
    · omega
    · omega
  refine ⟨h.fix.chg hc ?_ ?_ ?_ hu ?_ ?_ ?_ ?_, hc.keep h.dfr ?_, h.low.trans (hc.below h.low.size ?_), Nat.le_trans h.sz hc.size, ⟨hc.size, fun g hg1 hg2 => hc.block g (Nat.lt_of_lt_of_le hg2 h.sz) ?_, fun g cur fz hg => hc.keep hg (hu g cur fz hg)⟩⟩
  · have := num.hc; have : c ≠ nb := fun e => by
      have h1 := h.fix.cbk.cells
      have h2 := h.nbk
      unfold RefBlk at h2
      rw [e, h2] at h1
      cases h1
    exact mid c (by omega) (by omega) this
  · have : mc ≠ nb := fun e => by
      obtain ⟨f, hf, _⟩ := h.fix.cbk.map
      obtain ⟨es, clock, hm⟩ := hf.isMap
      have h2 := h.nbk
      unfold RefBlk at h2
      rw [e, h2] at hm
      cases hm
    exact mid mc (by omega) (by omega) this
  · intro g hg
    have hr := num.hvc g hg
    refine mid g hr.1 hr.2 (fun e => ?_)
    have h2 := h.nbk
    exact (book_apart h.fix.cbk h2 (fun _ _ e => by cases e) (fun _ _ e => by cases e) (fun _ _ e => by cases e)).2.2 (by rw [← e]; exact hg)
  · exact hap tb (by omega) (book_apart h.book h.fix.tbk (fun _ _ e => by cases e) (fun _ _ e => by cases e) (fun _ _ e => by cases e))
  · exact hap (tb + 1) (by omega) (book_apart h.book h.fix.mbk (fun _ _ e => by cases e) (fun _ _ e => by cases e) (fun _ _ e => by cases e))
  · exact mid ob (by omega) (by omega) (by omega)
  · intro ad had
    have hr := num.hra ad had
    have hro := h.fix.row
    obtain ⟨a1, a2, a3⟩ := ad
    subst had
    rcases prow_form hro with ⟨e1, _⟩ | ⟨g, cc, e1⟩
    · cases e1
    · have hg := congrArg Value.ownBlock e1
      simp only [Value.ownBlock, Option.some.injEq] at hg
      rw [e1] at hro
      obtain ⟨cur, _, _, hh, _⟩ := prow_blk hro
      simp only at hr ⊢
      rw [hg] at hr ⊢
      exact hap g hr (book_apart h.book hh (fun _ _ e => by cases e) (fun _ _ e => by cases e) (fun _ _ e => by cases e))
  · intro hp
    rcases hP _ hp with e | e | e | e | e | e | e | e
    · omega
    · have := hsl _ e; omega
    · omega
    · omega
    · omega
    · rcases h.own _ e with e2 | e2 <;> omega
    · omega
    · omega
  · intro j hj hp
    rcases hP _ hp with e | e | e | e | e | e | e | e
    · omega
    · have := hsl _ e; omega
    · omega
    · omega
    · omega
    · have := hvb0 _ e; omega
    · omega
    · omega
  · intro hp
    rcases hP _ hp with e | e | e | e | e | e | e | e
    · omega
    · have := hsl _ e; omega
    · omega
    · omega
    · omega
    · rcases h.own _ e with e2 | e2 <;> omega
    · omega
    · omega

/-- The loop's object is set. -/
theorem CopyJ.loop (num : CopyNum w1.heap.size C0 c mc vc tb b m nb ob N ra) (hN : N + 5 ≤ N1) (hlp : ∃ l, lp = .loop l) (h : CopyJ w1 C0 c mc vc K M ps tb b m nb ob N ra rc lp N1 k W vb pn an cn sv kk it) {W' : World} (hg : W.grownBy W' (some (N + 4))) {lp' : Obj} (hl : W'.heap[N + 4]? = some lp') :
    CopyJ w1 C0 c mc vc K M ps tb b m nb ob N ra rc lp' N1 k W' vb pn an cn sv kk it ∧ Stay (N + 5) N1 W W' := by
  have hc := Chg.of_grown hg
  obtain ⟨b1, b2, b3, b4, b5⟩ := h.base num hN hlp hc (fun j hj => .inl (by cases hj; rfl))
  obtain ⟨l, rfl⟩ := hlp
  have nb' := num.hb
  have nm := num.hm
  have nnb := num.hnb
  have ntb := num.htb
  have hne : ∀ j, j ≠ N + 4 → ¬ (some (N + 4) = some j) := fun j hj e => by cases e; exact hj rfl
  refine ⟨⟨b1, hc.book h.book (hne _ (by omega)) (hne _ (by omega)) (fun g hg => hne _ (fun e => by rcases h.own g hg with e2 | e2 <;> omega)) (fun g cur fz hg => hne _ (fun e => by rw [e, h.lop] at hg; cases hg)), h.own, h.len, hc.keep h.nbk (hne _ (by omega)), hc.prow h.nrow (fun g hg => hne _ (fun e => ?_)), h.nloc, hc.keep h.seen (hne _ (by omega)), hc.prow h.srow (fun g hg => hne _ (fun e => by have := (h.srow.lt g hg).1; omega)), hc.keep h.ibk (hne _ (by omega)), b2, hl, b3, b4⟩, b5⟩
  cases an with
  | none => cases hg
  | some ad =>
    cases hg
    rcases (h.nloc ad rfl).1 with e2 | e2 <;> omega

/-- A step that lays new blocks alone. -/
theorem CopyJ.stay (num : CopyNum w1.heap.size C0 c mc vc tb b m nb ob N ra) (hN : N + 5 ≤ N1) (hlp : ∃ l, lp = .loop l) (h : CopyJ w1 C0 c mc vc K M ps tb b m nb ob N ra rc lp N1 k W vb pn an cn sv kk it) {W' : World} (hb : Below W.heap.size W W') :
    CopyJ w1 C0 c mc vc K M ps tb b m nb ob N ra rc lp N1 k W' vb pn an cn sv kk it ∧ Stay (N + 5) N1 W W' := by
  have hc := Chg.of_below hb (fun _ => False)
  obtain ⟨b1, b2, b3, b4, b5⟩ := h.base num hN hlp hc (fun j hj => hj.elim)
  exact ⟨⟨b1, h.book.below hb, h.own, h.len, hc.keep h.nbk id, prow_below hb h.nrow, h.nloc, hc.keep h.seen id, prow_below hb h.srow, hc.keep h.ibk id, b2, hc.keep h.lop id, b3, b4⟩, b5⟩

/-- The number is set. -/
theorem CopyJ.count (num : CopyNum w1.heap.size C0 c mc vc tb b m nb ob N ra) (hN : N + 5 ≤ N1) (hlp : ∃ l, lp = .loop l) (h : CopyJ w1 C0 c mc vc K M ps tb b m nb ob N ra rc lp N1 k W vb pn an cn sv kk it) (it' : Int) (jt : Nat) (hit : it' = (jt : Int)) :
    CopyJ w1 C0 c mc vc K M ps tb b m nb ob N ra rc lp N1 k (W.setCell ⟨N + 1, 0, none⟩ (.int .i64 it')) vb pn an cn sv kk jt ∧ Stay (N + 5) N1 W (W.setCell ⟨N + 1, 0, none⟩ (.int .i64 it')) := by
  subst hit
  have hc : Chg W (W.setCell ⟨N + 1, 0, none⟩ (.int .i64 (jt : Int))) (fun j => j = N + 1) := ⟨rfl, rfl, rfl, by simp [World.setCell], fun j _ hj => Below.heap_setCell _ _ _ _ (by simpa using hj)⟩
  obtain ⟨b1, b2, b3, b4, b5⟩ := h.base num hN hlp hc (fun j hj => by subst hj; simp)
  obtain ⟨l, rfl⟩ := hlp
  have nb' := num.hb
  have nm := num.hm
  have nnb := num.hnb
  have ntb := num.htb
  refine ⟨⟨b1, hc.book h.book (by omega) (by omega) (fun g hg e => by rcases h.own g hg with e2 | e2 <;> omega) (fun g cur fz hg e => by rw [e, h.ibk] at hg; cases hg), h.own, h.len, hc.keep h.nbk (by omega), hc.prow h.nrow (fun g hg e => ?_), h.nloc, hc.keep h.seen (by omega), hc.prow h.srow (fun g hg e => by have := (h.srow.lt g hg).1; omega), heap_setCell_same h.ibk 0 _, b2, hc.keep h.lop (by omega), b3, b4⟩, b5⟩
  cases an with
  | none => cases hg
  | some ad =>
    cases hg
    rcases (h.nloc ad rfl).1 with e2 | e2 <;> omega

/-- A pair is appended to what was seen. -/
theorem CopyJ.append (num : CopyNum w1.heap.size C0 c mc vc tb b m nb ob N ra) (hN : N + 5 ≤ N1) (hlp : ∃ l, lp = .loop l) (h : CopyJ w1 C0 c mc vc K M ps tb b m nb ob N ra rc lp N1 k W vb pn an cn sv kk it) {p : ByteArray × ByteArray} (hp : ps[kk]? = some p) {o : Obj} {v' : Value} {w' : World}
    (h1 : PRow w' N1 v' (ps.take kk ++ [p])) (h2 : (W.alloc o).grownBy w' sv.ownBlock) (h3 : v'.ownBlock = sv.ownBlock ∨ v'.ownBlock = some (W.alloc o).heap.size) :
    CopyJ w1 C0 c mc vc K M ps tb b m nb ob N ra rc lp N1 k (w'.setCell ⟨N, 0, none⟩ v') vb pn an cn v' (kk + 1) it ∧ Stay (N + 5) N1 W (w'.setCell ⟨N, 0, none⟩ v') := by
  have hal : Below W.heap.size W (W.alloc o) := (Below.refl _ _).alloc (Nat.le_refl _) _
  have hc1 : Chg W w' (fun j => sv.ownBlock = some j) := (Chg.of_below hal (fun j => sv.ownBlock = some j)).trans (Chg.of_grown h2) _ (fun _ _ h => h) (fun _ _ h => h)
  have hc2 : Chg w' (w'.setCell ⟨N, 0, none⟩ v') (fun j => j = N) := ⟨rfl, rfl, rfl, by simp [World.setCell], fun j _ hj => Below.heap_setCell _ _ _ _ (by simpa using hj)⟩
  have hc : Chg W (w'.setCell ⟨N, 0, none⟩ v') (fun j => sv.ownBlock = some j ∨ j = N) := hc1.trans hc2 _ (fun _ _ h => .inl h) (fun _ _ h => .inr h)
  obtain ⟨b1, b2, b3, b4, b5⟩ := h.base num hN hlp hc (fun j hj => by rcases hj with e | e <;> simp [e])
  obtain ⟨l, rfl⟩ := hlp
  have nb' := num.hb
  have nm := num.hm
  have nnb := num.hnb
  have ntb := num.htb
  have hsl : ∀ g, sv.ownBlock = some g → N1 ≤ g ∧ g < W.heap.size := fun g hg => h.srow.lt g hg
  have hsz : (W.alloc o).heap.size = W.heap.size + 1 := by simp
  have hnum : ∀ j, j < N1 → j ≠ N → ¬ (sv.ownBlock = some j ∨ j = N) := fun j h1 h2 hh => by
    rcases hh with e | e
    · have := (hsl _ e).1; omega
    · exact h2 e
  have hv1 : ∀ g, v'.ownBlock = some g → N1 ≤ g := fun g hg => (h1.lt g hg).1
  refine ⟨⟨b1, hc.book h.book (hnum _ (by omega) (by omega)) (hnum _ (by omega) (by omega)) (fun g hg hh => ?_) (fun g cur fz hg hh => ?_), h.own, h.len, hc.keep h.nbk (hnum _ (by omega) (by omega)), hc.prow h.nrow (fun g hg hh => ?_), fun ad had => ⟨(h.nloc ad had).1, fun e => ?_⟩, ?_, ?_, hc.keep h.ibk (hnum _ (by omega) (by omega)), b2, hc.keep h.lop (hnum _ (by omega) (by omega)), b3, b4⟩, b5⟩
  · rcases hh with e | e
    · rcases prow_form h.srow with ⟨e1, _⟩ | ⟨g', cc, e1⟩
      · rw [e1] at e; cases e
      · have hsr := h.srow
        rw [e1] at e hsr
        cases e
        obtain ⟨cur, _, _, hh, _⟩ := prow_blk hsr
        exact (book_apart h.book hh (fun _ _ e => by cases e) (fun _ _ e => by cases e) (fun _ _ e => by cases e)).2.2 hg
    · rcases h.own g hg with e2 | e2 <;> omega
  · rcases hh with e | e
    · exact prow_apart h.srow hg (fun _ _ e => by cases e) e
    · rw [e, h.seen] at hg; cases hg
  · cases an with
    | none => cases hg
    | some ad =>
      cases hg
      rcases hh with e | e
      · exact (h.nloc ad rfl).2 e
      · rcases (h.nloc ad rfl).1 with e2 | e2 <;> omega
  · subst had
    have hlt := (h.nrow.lt ad.block rfl).2
    rcases h3 with h3 | h3
    · exact (h.nloc ad rfl).2 (h3 ▸ e)
    · rw [h3] at e
      simp only [Option.some.injEq] at e
      omega
  · exact heap_setCell_same (hc1.keep h.seen (fun e => by have := (hsl _ e).1; omega)) 0 _
  · have ht : ps.take (kk + 1) = ps.take kk ++ [p] := by rw [List.take_add_one, hp]; rfl
    rw [ht]
    exact prow_still h1 (fun g hg => Below.heap_setCell _ _ _ _ (by have := hv1 g hg; simp; omega))

/-- An operation on the book and on its model. -/
theorem CopyJ.does (num : CopyNum w1.heap.size C0 c mc vc tb b m nb ob N ra) (hN : N + 5 ≤ N1) (hlp : ∃ l, lp = .loop l) (h : CopyJ w1 C0 c mc vc K M ps tb b m nb ob N ra rc lp N1 k W vb pn an cn sv kk it) {W6 : World} {vb' : Value} {Q : PS} {a6 : Option Addr} {c6 : Nat}
    (k6 : BookAt W6 w1.heap.size b m vb' K M Q) (p6 : PRow W6 0 (.slice a6 Q.length c6) Q) (t6 : Turned b m vb W vb' W6) (l6 : ∀ ad, a6 = some ad → an = some ad ∨ W.heap.size ≤ ad.block) (ql : Q.length ≤ pn.length + 1) :
    CopyJ w1 C0 c mc vc K M ps tb b m nb ob N ra rc lp N1 (k + 1) (set3 W6 nb (.slice a6 Q.length c6) (.int .u64 K) (.int .u64 M)) vb' Q a6 c6 sv kk it ∧ Stay (N + 5) N1 W (set3 W6 nb (.slice a6 Q.length c6) (.int .u64 K) (.int .u64 M)) := by
  have hc1 := Chg.of_turned t6
  have hn6 : RefBlk W6 nb (.slice an pn.length cn) (.int .u64 K) (.int .u64 M) := h.nbk.turned h.book t6
  have hc : Chg W (Go.Proofs.Ytgfhaldfjnepmaa.set3 W6 nb (.slice a6 Q.length c6) (.int .u64 K) (.int .u64 M)) (fun j => (j = b ∨ j = m ∨ vb.ownBlock = some j) ∨ j = nb) := hc1.trans (Chg.set3 W6 nb _ _ _) _ (fun _ _ h => .inl h) (fun _ _ h => .inr h)
  obtain ⟨b1, b2, b3, b4, b5⟩ := h.base num hN hlp hc (fun j hj => by rcases hj with (e | e | e) | e <;> simp [e])
  obtain ⟨l, rfl⟩ := hlp
  have nb' := num.hb
  have nm := num.hm
  have nnb := num.hnb
  have ntb := num.htb
  have hsl : ∀ g, sv.ownBlock = some g → N1 ≤ g ∧ g < W.heap.size := fun g hg => h.srow.lt g hg
  have hsz := h.sz
  have hnum : ∀ j, C0 ≤ j → j < N1 → j ≠ nb → ¬ ((j = b ∨ j = m ∨ vb.ownBlock = some j) ∨ j = nb) := fun j h1 h2 h3 hh => by
    rcases hh with (e | e | e) | e
    · omega
    · omega
    · rcases h.own _ e with e2 | e2 <;> omega
    · exact h3 e
  refine ⟨⟨b1, BookAt.set3 k6 hn6, fun g hg => ?_, by have := h.len; omega, set3_same hn6, prow_set3 p6 hn6, fun ad had => ?_, hc.keep h.seen (hnum _ (by omega) (by omega) (by omega)), hc.prow h.srow (fun g hg hh => ?_), hc.keep h.ibk (hnum _ (by omega) (by omega) (by omega)), b2, hc.keep h.lop (hnum _ (by omega) (by omega) (by omega)), b3, b4⟩, b5⟩
  · rcases t6.2 with e | e | ⟨k', e, hk⟩
    · rw [e] at hg; exact h.own g hg
    · rw [e] at hg; cases hg
    · rw [e] at hg; cases hg; exact .inr (by omega)
  · rcases l6 ad had with e | e
    · exact h.nloc ad e
    · exact ⟨.inr (by omega), fun e2 => by have := (hsl _ e2).2; omega⟩
  · have := hsl g hg
    rcases hh with (e | e | e) | e
    · omega
    · omega
    · rcases prow_form h.srow with ⟨e1, _⟩ | ⟨g', cc, e1⟩
      · rw [e1] at hg; cases hg
      · have hsr := h.srow
        rw [e1] at hg hsr
        cases hg
        obtain ⟨cur, _, _, hh, _⟩ := prow_blk hsr
        exact (book_apart h.book hh (fun _ _ e => by cases e) (fun _ _ e => by cases e) (fun _ _ e => by cases e)).2.2 e
    · omega

theorem CopyJ.later (h : CopyJ w1 C0 c mc vc K M ps tb b m nb ob N ra rc lp N1 k W vb pn an cn sv kk it) : CopyJ w1 C0 c mc vc K M ps tb b m nb ob N ra rc lp N1 (k + 1) W vb pn an cn sv kk it := { h with len := by have := h.len; omega }

theorem seen_app (h : CopyJ w1 C0 c mc vc K M ps tb b m nb ob N ra rc lp N1 k W vb pn an cn sv kk it) {o : Obj} {w' : World} (hN : N < N1) (h2 : (W.alloc o).grownBy w' sv.ownBlock) :
    w'.cell? ⟨N, 0, none⟩ = some sv ∧ ∀ j, w'.frozen? ⟨N, j, none⟩ = false := by
  have hs := key1 _ _ o _ h.seen
  have e := (h2.block N (Array.getElem?_eq_some_iff.1 hs).1 (fun e => by have := (h.srow.lt N e.symm).1; omega)).trans hs
  constructor
  · simp [World.cell?, e]
  · intro j; simp [World.frozen?, e]

/-- While the copy is worked on. -/
structure CopyK (w1 : World) (C0 c mc : Nat) (K M : Nat) (ps : PS) (tb b m nb ob N : Nat) (ra : Option Addr) (rc : Nat) (E : Nat) (vb : Value) (pn : PS) (an : Option Addr) (cn : Nat) (sv : Value) (W : World) (vd : Value) (po : PS) (ao : Option Addr) (co : Nat) (it : Int) : Prop where
  cbk : BookAt W C0 c mc vd K M po
  cown : ∀ g, vd.ownBlock = some g → (C0 ≤ g ∧ g < N) ∨ E ≤ g
  obk : RefBlk W ob (.slice ao po.length co) (.int .u64 K) (.int .u64 M)
  orow : PRow W 0 (.slice ao po.length co) po
  book : BookAt W w1.heap.size b m vb K M pn
  tbk : W.heap[tb]? = some (.cells #[.pointer (some ⟨b, 0, none⟩)] 43 (0, 0))
  mbk : RefBlk W (tb + 1) (.slice ra ps.length rc) (.int .u64 K) (.int .u64 M)
  row : PRow W 0 (.slice ra ps.length rc) ps
  nbk : RefBlk W nb (.slice an pn.length cn) (.int .u64 K) (.int .u64 M)
  nrow : PRow W 0 (.slice an pn.length cn) pn
  seen : W.heap[N]? = some (.cells #[sv] 47 (0, 0))
  srow : PRow W 0 sv ps
  ibk : W.heap[N + 1]? = some (.cells #[.int .i64 it] 3 (0, 0))
  dfr : W.heap[N + 3]? = some (.deferred (some []))
  low : Below w1.heap.size w1 W
  sz : E ≤ W.heap.size

variable {E : Nat} {vd : Value} {po : PS} {ao : Option Addr} {co : Nat} {iz : Int}

theorem CopyK.stay (h : CopyK w1 C0 c mc K M ps tb b m nb ob N ra rc E vb pn an cn sv W vd po ao co iz) {W' : World} (hb : Below W.heap.size W W') : CopyK w1 C0 c mc K M ps tb b m nb ob N ra rc E vb pn an cn sv W' vd po ao co iz := by
  have hc := Chg.of_below hb (fun _ => False)
  exact ⟨h.cbk.below hb, h.cown, hc.keep h.obk id, prow_below hb h.orow, h.book.below hb, hc.keep h.tbk id, hc.keep h.mbk id, prow_below hb h.row, hc.keep h.nbk id, prow_below hb h.nrow, hc.keep h.seen id, prow_below hb h.srow, hc.keep h.ibk id, hc.keep h.dfr id, h.low.trans (hb.mono h.low.size), Nat.le_trans h.sz hb.size⟩

/-- A row of pairs and a block of another kind. -/
theorem prow_other {W W' : World} {B : Nat} {v : Value} {qs : PS} {P : Nat → Prop} (h : PRow W B v qs) (hc : Chg W W' P) (hP : ∀ j, P j → ∀ cur f, W.heap[j]? ≠ some (.cells cur 57 f)) : PRow W' B v qs := by
  refine hc.prow h (fun g hg hp => ?_)
  rcases prow_form h with ⟨e1, _⟩ | ⟨g', cc, e1⟩
  · rw [e1] at hg; cases hg
  · rw [e1] at hg h
    cases hg
    obtain ⟨cur, _, _, hh, _⟩ := prow_blk h
    exact hP _ hp _ _ hh

theorem CopyK.count (num : CopyNum w1.heap.size C0 c mc vc tb b m nb ob N ra) (h : CopyK w1 C0 c mc K M ps tb b m nb ob N ra rc E vb pn an cn sv W vd po ao co iz) (jz : Int) : CopyK w1 C0 c mc K M ps tb b m nb ob N ra rc E vb pn an cn sv (W.setCell ⟨N + 1, 0, none⟩ (.int .i64 jz)) vd po ao co jz := by
  have hc : Chg W (W.setCell ⟨N + 1, 0, none⟩ (.int .i64 jz)) (fun j => j = N + 1) := ⟨rfl, rfl, rfl, by simp [World.setCell], fun j _ hj => Below.heap_setCell _ _ _ _ (by simpa using hj)⟩
  have nb' := num.hb
  have nm := num.hm
  have nc := num.hc
  have nmc := num.hmc
  have nnb := num.hnb
  have nob := num.hob
  have ntb := num.htb
  have nW := num.hW
  have hi := h.ibk
  have hp : ∀ j, (fun j => j = N + 1) j → ∀ cur f, W.heap[j]? ≠ some (.cells cur 57 f) := fun j hj cur f e => by
    simp only at hj; rw [hj, hi] at e; cases e
  have hu : ∀ (g : Nat) (cur : Array Value) (fz : Nat × Nat), W.heap[g]? = some (.cells cur 5 fz) → ¬ g = N + 1 := fun g cur fz hg e => by rw [e, hi] at hg; cases hg
  refine ⟨hc.book h.cbk (by omega) (by omega) (fun g hg e => ?_) hu, h.cown, hc.keep h.obk (by omega), prow_other h.orow hc hp, hc.book h.book (by omega) (by omega) (fun g hg e => ?_) hu, hc.keep h.tbk (by omega), hc.keep h.mbk (by omega), prow_other h.row hc hp, hc.keep h.nbk (by omega), prow_other h.nrow hc hp, hc.keep h.seen (by omega), prow_other h.srow hc hp, heap_setCell_same hi 0 _, hc.keep h.dfr (by omega), h.low.setCell (p := ⟨N + 1, 0, none⟩) (by show w1.heap.size ≤ N + 1; omega) _, Nat.le_trans h.sz hc.size⟩
  · exact (book_apart h.cbk hi (fun _ _ e => by cases e) (fun _ _ e => by cases e) (fun _ _ e => by cases e)).2.2 (by rw [← e]; exact hg)
  · exact (book_apart h.book hi (fun _ _ e => by cases e) (fun _ _ e => by cases e) (fun _ _ e => by cases e)).2.2 (by rw [← e]; exact hg)

theorem CopyK.does (num : CopyNum w1.heap.size C0 c mc vc tb b m nb ob N ra) (h : CopyK w1 C0 c mc K M ps tb b m nb ob N ra rc E vb pn an cn sv W vd po ao co iz) (hE : N + 5 ≤ E) (hvb : ∀ g, vb.ownBlock = some g → (g < C0 ∨ N ≤ g) ∧ g < E) {W6 : World} {vd' : Value} {Q : PS} {a6 : Option Addr} {c6 : Nat}
    (k6 : BookAt W6 C0 c mc vd' K M Q) (p6 : PRow W6 0 (.slice a6 Q.length c6) Q) (t6 : Turned c mc vd W vd' W6) :
    CopyK w1 C0 c mc K M ps tb b m nb ob N ra rc E vb pn an cn sv (set3 W6 ob (.slice a6 Q.length c6) (.int .u64 K) (.int .u64 M)) vd' Q a6 c6 iz := by
  have hc1 := Chg.of_turned t6
  have hn6 : RefBlk W6 ob (.slice ao po.length co) (.int .u64 K) (.int .u64 M) := h.obk.turned h.cbk t6
  have hc : Chg W (Go.Proofs.Ytgfhaldfjnepmaa.set3 W6 ob (.slice a6 Q.length c6) (.int .u64 K) (.int .u64 M)) (fun j => (j = c ∨ j = mc ∨ vd.ownBlock = some j) ∨ j = ob) := hc1.trans (Chg.set3 W6 ob _ _ _) _ (fun _ _ h => .inl h) (fun _ _ h => .inr h)
  have nb' := num.hb
  have nm := num.hm
  have nc := num.hc
  have nmc := num.hmc
  have nnb := num.hnb
  have nob := num.hob
  have ntb := num.htb
  have nW := num.hW
  have nne := num.hne
  have hsz := h.sz
  have hap : ∀ (g : Nat) (ob' : Obj), W.heap[g]? = some ob' → (∀ c f, ob' ≠ .cells c 95 f) → (∀ c f, ob' ≠ .cells c 9 f) → (∀ es ck, ob' ≠ .map es ck) → g ≠ ob → ¬ ((g = c ∨ g = mc ∨ vd.ownBlock = some g) ∨ g = ob) := fun g ob' hg h1 h2 h3 h4 hh => by
    have := book_apart h.cbk hg h1 h2 h3
    rcases hh with (e | e | e) | e
    · exact this.1 e
    · exact this.2.1 e
    · exact this.2.2 e
    · exact h4 e
  have hlo : ∀ g, g < C0 ∨ (N ≤ g ∧ g < E) → ¬ ((g = c ∨ g = mc ∨ vd.ownBlock = some g) ∨ g = ob) := fun g hg hh => by
    rcases hh with (e | e | e) | e
    · omega
    · omega
    · rcases h.cown g e with e2 | e2 <;> omega
    · omega
  have hp : ∀ j, ((j = c ∨ j = mc ∨ vd.ownBlock = some j) ∨ j = ob) → ∀ cur f, W.heap[j]? ≠ some (.cells cur 57 f) := fun j hj cur f e => by
    refine hap j _ e (fun _ _ e => by cases e) (fun _ _ e => by cases e) (fun _ _ e => by cases e) ?_ hj
    rintro rfl
    have := h.obk
    unfold RefBlk at this
    rw [this] at e
    cases e
  have hu : ∀ (g : Nat) (cur : Array Value) (fz : Nat × Nat), W.heap[g]? = some (.cells cur 5 fz) → ¬ ((g = c ∨ g = mc ∨ vd.ownBlock = some g) ∨ g = ob) := fun g cur fz hg => by
    refine hap g _ hg (fun _ _ e => by cases e) (fun _ _ e => by cases e) (fun _ _ e => by cases e) ?_
    rintro rfl
    have := h.obk
    unfold RefBlk at this
    rw [this] at hg
    cases hg
  refine ⟨BookAt.set3 k6 hn6, fun g hg => ?_, set3_same hn6, prow_set3 p6 hn6, hc.book h.book (hlo _ (.inl nb')) (hlo _ (.inl nm)) (fun g hg => hlo g ?_) hu, hc.keep h.tbk (hlo _ (by omega)), hc.keep h.mbk (hlo _ (by omega)), prow_other h.row hc hp,
    hc.keep h.nbk (hap _ _ h.nbk (fun _ _ e => by cases e) (fun _ _ e => by cases e) (fun _ _ e => by cases e) nne), prow_other h.nrow hc hp, hc.keep h.seen (hlo _ (by omega)), prow_other h.srow hc hp, hc.keep h.ibk (hlo _ (by omega)), hc.keep h.dfr (hlo _ (by omega)), h.low.trans (hc.below h.low.size (fun j hj => hlo j (by omega))), Nat.le_trans hsz hc.size⟩
  · rcases t6.2 with e | e | ⟨k', e, hk⟩
    · rw [e] at hg; exact h.cown g hg
    · rw [e] at hg; cases hg
    · rw [e] at hg; cases hg; exact .inr (by omega)
  · have := hvb g hg; omega

theorem CopyJ.done (h : CopyJ w1 C0 c mc vc K M ps tb b m nb ob N ra rc lp N1 k W vb pn an cn sv ps.length it) (num : CopyNum w1.heap.size C0 c mc vc tb b m nb ob N ra) : CopyK w1 C0 c mc K M ps tb b m nb ob N ra rc W.heap.size vb pn an cn sv W vc ps ra rc (it : Int) :=
  ⟨h.fix.cbk, fun g hg => .inl (num.hvc g hg), h.fix.obk, h.fix.row, h.book, h.fix.tbk, h.fix.mbk, h.fix.row, h.nbk, h.nrow, h.seen, by
    have := h.srow
    rw [List.take_of_length_le (Nat.le_refl _)] at this
    exact ownsRow_base this (Nat.zero_le _), h.ibk, h.dfr, h.low, Nat.le_refl _⟩

end Go.Proofs.Ytgfhaldfjnepmaa
