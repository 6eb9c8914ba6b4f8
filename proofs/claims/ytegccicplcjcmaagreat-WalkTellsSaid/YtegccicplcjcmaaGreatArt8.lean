/- Walks: the art's Copy and From. -/
import Derived.Test.YtegccicplcjcmaaGreatArt7
import Derived.Deep.RegionHeld3
namespace Go.Proofs.YtegccicplcjcmaaGreat
open Go Go.RowKit Go.Shelf Go.Proofs Go.ChangeMaps Go.MapKept
attribute [local go_sem] Oper.semAt_some

theorem nx_alloc {B0 W : World} (o : Obj) (h : Below B0.heap.size B0 W) : Below B0.heap.size B0 (W.alloc o) := h.alloc h.size o

/-- The copy is an art of its own. -/
theorem art_copy {B b m b' m' : Nat} {v v' : Value} {ps : PS} {w w2 : World} (h : ArtAt w B b m v ps) (hw : Below w.heap.size w w2) {f : ByteArray → Option Value}
    (hf : ∀ s, s.size ≤ 1000 → (getP ps s = none → f s = none) ∧ ∀ u, getP ps s = some u → f s = some (.agg #[.string u]))
    (hr : Row w2 w.heap.size v' ps.length (keysP ps)) (hm : MapAt w2 m' ps.length f) (hm2 : w.heap.size ≤ m') (hb : b' = w2.heap.size) :
    ArtAt (w2.alloc (.cells #[v', .map (some m')] 47)) w.heap.size b' m' v' ps where
  hb := by rw [hb]; exact hw.size
  hm := hm2
  cells := by rw [hb]; exact World.alloc_heap_new _ _
  row := Row.grown hr (World.grownBy_alloc _ _ none) (by cases v'.ownBlock <;> simp)
  map := ⟨f, hm.block (Below.heap_alloc _ _ _ hm.lt), hf⟩
  sorted := h.sorted
  small := h.small

theorem keep_cells {w : World} {P : World → Prop} (h : ∀ w', Below w.heap.size w w' → P w') {w' : World} (hb : Below w.heap.size w w') : P w' ∧ Below w.heap.size w w' := ⟨h w' hb, hb⟩

def afromV (ps : PS) (s : ByteArray) : Value := match ps[posP ps s]? with
  | none => .tuple #[.string ⟨#[]⟩, .string ⟨#[]⟩, .bool false]
  | some p => .tuple #[.string p.1, .string p.2, .bool true]

set_option maxRecDepth 100000 in
set_option maxHeartbeats 4000000 in
theorem afrom_any {B b m : Nat} {v : Value} {ps : PS} (w : World) (h : ArtAt w B b m v ps) (hn : ps.length < 90000) (s : ByteArray) :
    Calls Tryz.prog 99 #[.pointer (some ⟨b, 0, none⟩), .string s] w fun e w' => e = .returned (afromV ps s) ∧ Below w.heap.size w w' := by
  have HN := Lib.hid (none_any w h)
  have HF := Lib.hid (find_any w h (by omega) s)
  have HB := Lib.hid (fun w' (hb : Below w.heap.size w w') => h.below hb)
  have hpl := posP_le ps s
  unfold afromV
  generalize posP ps s = N at HF hpl ⊢
  generalize (getP ps s).isSome = q at HF
  by_cases hlt : N < ps.length
  · obtain ⟨p, hp⟩ : ∃ p, ps[N]? = some p := ⟨_, List.getElem?_eq_getElem hlt⟩
    have hkey : (keysP ps).getD N ByteArray.empty = p.1 := by simp [List.getD, keysP, hp]
    have hget : getP ps p.1 = some p.2 := getP_of_mem h.sorted (List.mem_of_getElem? hp)
    have hsm := (h.small p (List.mem_of_getElem? hp)).1
    obtain ⟨g, cap, rfl⟩ : ∃ g cap, v = .slice (some ⟨g, 0, none⟩) ps.length cap := by
      rcases row_get h.row with ⟨rfl, h0, _⟩ | ⟨g, cap, cur, rfl, _⟩
      · omega
      · exact ⟨_, _, rfl⟩
    have HC := Lib.hid (fun w' (hb : Below w.heap.size w w') => And.intro (h.below hb).cell.1 (And.intro (h.below hb).cell.2.1 (And.intro (row_cells (h.below hb).row N hlt) (art_look (h.below hb) hsm).2)))
    rw [hkey, hget] at HC
    rw [hp]
    obtain ⟨p1, p2⟩ := p
    simp only [Option.getD_some] at HC ⊢
    have hne : ¬ N = ps.length := by omega
    clear h hp hget hkey hsm HB
    go_enter Tryz.func99, Tryz.ntmps99
    go_wp2_with (first
      | (go_at_call 25; refine HN.out.mono ?_; rintro e w' ⟨rfl, rfl⟩)
      | (go_at_call 43; refine HF.out.mono ?_; rintro e w3 ⟨rfl, hb3⟩; obtain ⟨k1, k2, k3, k4⟩ := HC.out _ hb3))
    rw [Nat.zero_add] at k3
    have k6 := (HC.out _ hb3.drew).2.2.2
    have hfld : ∀ w : World, (Instr.field 66 (Value.agg #[Value.string p2]) 0).run Tryz.prog w = .ok (Value.string p2) w := fun _ => by kernel_rfl
    go_region_with (fail)
    all_goals
      go_wp2
      go_ret3
      exact ⟨rfl, hb3.drew⟩
  · obtain rfl : N = ps.length := by omega
    obtain ⟨a, cap, rfl⟩ := row_slice h.row
    have HC := Lib.hid (fun w' (hb : Below w.heap.size w w') => (h.below hb).cell.1)
    rw [List.getElem?_eq_none (by omega)]
    clear h HB
    go_enter Tryz.func99, Tryz.ntmps99
    go_wp2_with (first
      | (go_at_call 25; refine HN.out.mono ?_; rintro e w' ⟨rfl, rfl⟩)
      | (go_at_call 43; refine HF.out.mono ?_; rintro e w3 ⟨rfl, hb3⟩; have k1 := HC.out _ hb3))
    go_ret3
    exact ⟨rfl, hb3⟩

end Go.Proofs.YtegccicplcjcmaaGreat
