/- Walk: Copy. -/
import Derived.Test.YtgfhaldfjnepmaaBk13
import Derived.Deep.RegionHeld3
namespace Go.Proofs.Ytgfhaldfjnepmaa
open Go Go.RowKit Go.Shelf Go.Proofs Go.ChangeMaps Go.MapKept
attribute [local go_sem] Oper.semAt_some

/-- The copy is a book of its own. -/
theorem book_copy {B b m b' m' : Nat} {v v' : Value} {K M : Nat} {ps : PS} {w w2 : World} (h : BookAt w B b m v K M ps) (hw : Below w.heap.size w w2) {f : ByteArray → Option Value}
    (hf : ∀ s, s.size ≤ 1000 → (getP ps s = none → f s = none) ∧ ∀ u, getP ps s = some u → ∃ x, f s = some x ∧ BytesAt w x u)
    (hr : Row w2 w.heap.size v' ps.length (keysP ps)) (hm : MapAt w2 m' ps.length f) (hm2 : w.heap.size ≤ m') (hb : b' = w2.heap.size) :
    BookAt (w2.alloc (.cells #[v', .map (some m'), .int .u64 K, .int .u64 M, .int .u64 (totP ps)] 95)) w.heap.size b' m' v' K M ps where
  hb := by rw [hb]; exact hw.size
  hm := hm2
  cells := by rw [hb]; exact World.alloc_heap_new _ _
  row := Row.grown hr (World.grownBy_alloc _ _ none) (by cases v'.ownBlock <;> simp)
  map := ⟨f, hm.block (Below.heap_alloc _ _ _ hm.lt), fun s hs => ⟨(hf s hs).1, fun u hu => by
    obtain ⟨x, e, hx⟩ := (hf s hs).2 u hu
    exact ⟨x, e, hx.stay (fun g cur fz hg => heap_alloc_at _ _ ((hw.block g (Array.getElem?_eq_some_iff.1 hg).1).trans hg))⟩⟩⟩
  sorted := h.sorted
  small := h.small
  keys := h.keys
  bytes := h.bytes
  hK := h.hK
  hM := h.hM

theorem keep_cells {w : World} {P : World → Prop} (h : ∀ w', Below w.heap.size w w' → P w') {w' : World} (hb : Below w.heap.size w w') : P w' ∧ Below w.heap.size w w' := ⟨h w' hb, hb⟩

set_option maxRecDepth 100000 in
set_option maxHeartbeats 4000000 in
theorem copy_any {B b m : Nat} {v : Value} {K M : Nat} {ps : PS} (w : World) (h : BookAt w B b m v K M ps) (hn : ps.length < 90000) :
    Calls Try.prog 42 #[.pointer (some ⟨b, 0, none⟩)] w fun e w' => ∃ b' m' v', e = .returned (.pointer (some ⟨b', 0, none⟩)) ∧ BookAt w' w.heap.size b' m' v' K M ps ∧ Below w.heap.size w w' := by
  have HN := Lib.hid (none_any w h)
  obtain ⟨f, hf, hfx⟩ := h.map
  have HF := Lib.hid hfx
  have HBK := Lib.hid h
  have HK := Lib.hid (fun w' (hb : Below w.heap.size w w') => clone_any B v ps.length (keysP ps) w' (h.below hb).row (by omega))
  have HMC := Lib.hid (fun w' (hb : Below w.heap.size w w') => mclone_any m ps.length f w' (hf.block (hb.block m hf.lt)))
  obtain ⟨c1, c2, c3, c4, c5, _⟩ := h.cell
  have HCS := Lib.hid (fun w' (hb : Below w.heap.size w w') => keep_cells (P := fun w' => w'.cell? ⟨b, 0, none⟩ = some v ∧ w'.cell? ⟨b, 1, none⟩ = some (.map (some m)) ∧ w'.cell? ⟨b, 2, none⟩ = some (.int .u64 K) ∧ w'.cell? ⟨b, 3, none⟩ = some (.int .u64 M) ∧ w'.cell? ⟨b, 4, none⟩ = some (.int .u64 (totP ps)))
    (fun w' hb => ⟨(h.below hb).cell.1, (h.below hb).cell.2.1, (h.below hb).cell.2.2.1, (h.below hb).cell.2.2.2.1, (h.below hb).cell.2.2.2.2.1⟩) hb)
  have hB0 := Below.refl w.heap.size w
  clear h hf hfx
  go_enter Try.func42, Try.ntmps42
  go_wp2_with (go_at_call 61; refine HN.out.mono ?_; rintro e w ⟨rfl, rfl⟩)
  have hcs := HCS.out w hB0
  go_region_held3 (fun w' => (w'.cell? ⟨b, 0, none⟩ = some v ∧ w'.cell? ⟨b, 1, none⟩ = some (.map (some m)) ∧ w'.cell? ⟨b, 2, none⟩ = some (.int .u64 K) ∧ w'.cell? ⟨b, 3, none⟩ = some (.int .u64 M) ∧ w'.cell? ⟨b, 4, none⟩ = some (.int .u64 (totP ps))) ∧ Below w.heap.size w w')
    ((refine HCS.out _ ?_; first | assumption | exact Below.refl _ _ | exact (Below.refl _ _).drew | (go_split_ands; assumption) | (refine nx_alloc _ ?_; first | assumption | (go_split_ands; assumption))))
    (first
      | (go_at_call 73
         go_split_ands
         refine (HK.out _ (by assumption)).mono ?_
         rintro e wa ⟨v', rfl, hr1, hn1⟩
         obtain ⟨a1, cap1, rfl⟩ := row_slice hr1
         have hb1 : Below w.heap.size w wa := below_chain (by assumption) hn1)
      | (go_at_call 74
         go_split_ands
         refine (HMC.out _ (by assumption)).mono ?_
         rintro e wb ⟨rfl, hm1, hn2⟩
         have hb2 : Below w.heap.size w wb := below_chain (by assumption) hn2))
  all_goals
    have hrow : Row wb w.heap.size (.slice a1 ps.length cap1) ps.length (keysP ps) := ownsRow_below (w := wa) hr1 hn2 (Nat.le_refl _)
    go_wp2
    go_ret
    exact ⟨_, _, _, rfl, book_copy HBK.out hb2 HF.out hrow hm1 hb1.size rfl, nx_alloc _ hb2⟩

end Go.Proofs.Ytgfhaldfjnepmaa
