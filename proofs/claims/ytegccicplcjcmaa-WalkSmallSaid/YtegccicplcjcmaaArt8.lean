/- Walks: the art's Copy and From. -/
import Derived.Test.YtegccicplcjcmaaArt7
import Derived.Deep.RegionHeld3
namespace Go.Proofs.Ytegccicplcjcmaa
open Go Go.RowKit Go.Shelf Go.Proofs Go.ChangeMaps Go.MapKept
attribute [local go_sem] Oper.semAt_some

theorem nx_alloc {B0 W : World} (o : Obj) (h : Below B0.heap.size B0 W) : Below B0.heap.size B0 (W.alloc o) := h.alloc h.size o

/-- The copy is an art of its own. -/
theorem art_copy {B b m b' m' : Nat} {v v' : Value} {ps : PS} {w w2 : World} (h : ArtAt w B b m v ps) (hw : Below w.heap.size w w2) {f : ByteArray → Option Value}
    (hf : ∀ s, s.size ≤ 1000 → (getP ps s = none → f s = none) ∧ ∀ u, getP ps s = some u → f s = some (.agg #[.string u]))
    (hr : Row w2 w.heap.size v' ps.length (keysP ps)) (hm : MapAt w2 m' ps.length f) (hm2 : w.heap.size ≤ m') (hb : b' = w2.heap.size) :
    ArtAt (w2.alloc (.cells #[v', .map (some m')] 39)) w.heap.size b' m' v' ps where
  hb := by rw [hb]; exact hw.size
  hm := hm2
  cells := by rw [hb]; exact World.alloc_heap_new _ _
  row := Row.grown hr (World.grownBy_alloc _ _ none) (by cases v'.ownBlock <;> simp)
  map := ⟨f, hm.block (Below.heap_alloc _ _ _ hm.lt), hf⟩
  sorted := h.sorted
  small := h.small

theorem keep_cells {w : World} {P : World → Prop} (h : ∀ w', Below w.heap.size w w' → P w') {w' : World} (hb : Below w.heap.size w w') : P w' ∧ Below w.heap.size w w' := ⟨h w' hb, hb⟩

set_option maxRecDepth 100000 in
set_option maxHeartbeats 4000000 in
theorem copy_any {B b m : Nat} {v : Value} {ps : PS} (w : World) (h : ArtAt w B b m v ps) (hn : ps.length < 90000) :
    Calls Try.prog 65 #[.pointer (some ⟨b, 0, none⟩)] w fun e w' => ∃ b' m' v', e = .returned (.pointer (some ⟨b', 0, none⟩)) ∧ ArtAt w' w.heap.size b' m' v' ps ∧ Below w.heap.size w w' := by
  have HN := Lib.hid (none_any w h)
  obtain ⟨f, hf, hfx⟩ := h.map
  have HF := Lib.hid hfx
  have HBK := Lib.hid h
  have HK := Lib.hid (fun w' (hb : Below w.heap.size w w') => clone_any B v ps.length (keysP ps) w' (h.below hb).row (by omega))
  have HMC := Lib.hid (fun w' (hb : Below w.heap.size w w') => mclone_any m ps.length f w' (hf.block (hb.block m hf.lt)))
  obtain ⟨c1, c2, _⟩ := h.cell
  have HCS := Lib.hid (fun w' (hb : Below w.heap.size w w') => keep_cells (P := fun w' => w'.cell? ⟨b, 0, none⟩ = some v ∧ w'.cell? ⟨b, 1, none⟩ = some (.map (some m)))
    (fun w' hb => ⟨(h.below hb).cell.1, (h.below hb).cell.2.1⟩) hb)
  have hB0 := Below.refl w.heap.size w
  clear h hf hfx
  go_enter Try.func65, Try.ntmps65
  go_wp2_with (go_at_call 34; refine HN.out.mono ?_; rintro e w ⟨rfl, rfl⟩)
  have hcs := HCS.out w hB0
  go_region_held3 (fun w' => (w'.cell? ⟨b, 0, none⟩ = some v ∧ w'.cell? ⟨b, 1, none⟩ = some (.map (some m))) ∧ Below w.heap.size w w')
    ((refine HCS.out _ ?_; first | assumption | exact Below.refl _ _ | exact (Below.refl _ _).drew | (go_split_ands; assumption) | (refine nx_alloc _ ?_; first | assumption | (go_split_ands; assumption))))
    (first
      | (go_at_call 94
         go_split_ands
         refine (HK.out _ (by assumption)).mono ?_
         rintro e wa ⟨v', rfl, hr1, hn1⟩
         obtain ⟨a1, cap1, rfl⟩ := row_slice hr1
         have hb1 : Below w.heap.size w wa := below_chain (by assumption) hn1)
      | (go_at_call 95
         go_split_ands
         refine (HMC.out _ (by assumption)).mono ?_
         rintro e wb ⟨rfl, hm1, hn2⟩
         have hb2 : Below w.heap.size w wb := below_chain (by assumption) hn2))
  all_goals
    have hrow : Row wb w.heap.size (.slice a1 ps.length cap1) ps.length (keysP ps) := ownsRow_below (w := wa) hr1 hn2 (Nat.le_refl _)
    go_wp2
    go_ret
    exact ⟨_, _, _, rfl, art_copy HBK.out hb2 HF.out hrow hm1 hb1.size rfl, nx_alloc _ hb2⟩

def afromV (ps : PS) (s : ByteArray) : Value := match ps[posP ps s]? with
  | none => .tuple #[.string ⟨#[]⟩, .string ⟨#[]⟩, .bool false]
  | some p => .tuple #[.string p.1, .string p.2, .bool true]

set_option maxRecDepth 100000 in
set_option maxHeartbeats 4000000 in
theorem afrom_any {B b m : Nat} {v : Value} {ps : PS} (w : World) (h : ArtAt w B b m v ps) (hn : ps.length < 90000) (s : ByteArray) :
    Calls Try.prog 91 #[.pointer (some ⟨b, 0, none⟩), .string s] w fun e w' => e = .returned (afromV ps s) ∧ Below w.heap.size w w' := by
  have HN := Lib.hid (none_any w h)
  have HF := Lib.hid (find_any w h (by omega) s)
  have HB := Lib.hid (fun w' (hb : Below w.heap.size w w') => h.below hb)
  have hpl := posP_le ps s
  unfold afromV
  generalize posP ps s = N at HF hpl ⊢
  generalize (getP ps s).isSome = q at HF
  by_cases hlt : N < ps.length
  · obtain ⟨p, hp⟩ : ∃ p, ps[N]? = some p := ⟨_, List.getElem?_eq_getElem hlt⟩
    have hkey : (keysP ps).getD N ByteArray.empty = p.1 := by simp [List.getD, keysP, hp]
    have hget : getP ps p.1 = some p.2 := getP_of_mem h.sorted (List.mem_of_getElem? hp)
    have hsm := (h.small p (List.mem_of_getElem? hp)).1
    obtain ⟨g, cap, rfl⟩ : ∃ g cap, v = .slice (some ⟨g, 0, none⟩) ps.length cap := by
      rcases row_get h.row with ⟨rfl, h0, _⟩ | ⟨g, cap, cur, rfl, _⟩
      · omega
      · exact ⟨_, _, rfl⟩
    have HC := Lib.hid (fun w' (hb : Below w.heap.size w w') => And.intro (h.below hb).cell.1 (And.intro (h.below hb).cell.2.1 (And.intro (row_cells (h.below hb).row N hlt) (art_look (h.below hb) hsm).2)))
    rw [hkey, hget] at HC
    rw [hp]
    obtain ⟨p1, p2⟩ := p
    simp only [Option.getD_some] at HC ⊢
    have hne : ¬ N = ps.length := by omega
    clear h hp hget hkey hsm HB
    go_enter Try.func91, Try.ntmps91
    go_wp2_with (first
      | (go_at_call 34; refine HN.out.mono ?_; rintro e w' ⟨rfl, rfl⟩)
      | (go_at_call 54; refine HF.out.mono ?_; rintro e w3 ⟨rfl, hb3⟩; obtain ⟨k1, k2, k3, k4⟩ := HC.out _ hb3))
    rw [Nat.zero_add] at k3
    have k6 := (HC.out _ hb3.drew).2.2.2
    have hfld : ∀ w : World, (Instr.field 74 (Value.agg #[Value.string p2]) 0).run Try.prog w = .ok (Value.string p2) w := fun _ => by kernel_rfl
    go_region_with (fail)
    all_goals
      go_wp2
      go_ret3
      exact ⟨rfl, hb3.drew⟩
  · obtain rfl : N = ps.length := by omega
    obtain ⟨a, cap, rfl⟩ := row_slice h.row
    have HC := Lib.hid (fun w' (hb : Below w.heap.size w w') => (h.below hb).cell.1)
    rw [List.getElem?_eq_none (by omega)]
    clear h HB
    go_enter Try.func91, Try.ntmps91
    go_wp2_with (first
      | (go_at_call 34; refine HN.out.mono ?_; rintro e w' ⟨rfl, rfl⟩)
      | (go_at_call 54; refine HF.out.mono ?_; rintro e w3 ⟨rfl, hb3⟩; have k1 := HC.out _ hb3))
    go_ret3
    exact ⟨rfl, hb3⟩

end Go.Proofs.Ytegccicplcjcmaa
