/- The law BookQuota: the walk. -/
import Derived.Test.YtgfhaldfjnepmaaBk22
import Derived.Test.YtgfhaldfjnepmaaOpenDeeds
import Derived.Deep.RegionWith
namespace Go.Proofs.Ytgfhaldfjnepmaa
open Go Go.RowKit Go.Shelf Go.Proofs
attribute [local go_sem] Oper.semAt_some

theorem putQ_len {K M : Nat} {ps : PS} (hs : SortedP ps) (s x : ByteArray) : (putQ K M ps s x).length ≤ ps.length + 1 := by
  unfold putQ
  split
  · cases h : getP ps s with
    | none => rw [(len_put_absent hs x h).1]; omega
    | some u => rw [(len_put_present hs x h).1]; omega
  · omega

theorem actQ_len {K M : Nat} {ps : PS} (hs : SortedP ps) (d : Deed) : (actQ K M ps d).length ≤ ps.length + 1 := by
  unfold actQ delQ swapQ
  have h1 := delP_le ps d.key
  have h2 := putQ_len (K := K) (M := M) hs d.key d.value
  split
  · split <;> omega
  · split
    · split
      · split <;> omega
      · omega
    · split
      · omega
      · exact h2

theorem act_fails {K M : Nat} {ps : PS} {d : Deed} (h : actE K M ps d ≠ 0) : actQ K M ps d = ps := by
  unfold actE at h
  unfold actQ
  by_cases q3 : d.what % 6 = 3
  · rw [if_pos q3] at h ⊢
    unfold delQ; rw [if_neg h]
  · rw [if_neg q3] at h ⊢
    by_cases q4 : d.what % 6 = 4
    · rw [if_pos q4] at h ⊢
      unfold swapE at h
      unfold swapQ
      split
      · rename_i h1
        rw [if_pos h1] at h
        split
        · rename_i h2
          rw [if_pos h2] at h
          unfold putQ; rw [if_neg h]
        · rfl
      · rfl
    · rw [if_neg q4] at h ⊢
      by_cases q5 : d.what % 6 = 5
      · rw [if_pos q5]
      · rw [if_neg q5] at h ⊢
        unfold putQ; rw [if_neg h]

theorem put_del {ps : PS} (hs : SortedP ps) (s x : ByteArray) : (putP ps s x).length = (delP ps s).length + 1 ∧ totP (putP ps s x) = totP (delP ps s) + (s.size + x.size) := by
  rw [delP_split hs]
  unfold putP
  constructor
  · simp; omega
  · simp [totP_append, totP]; omega

theorem put_quota {K M : Nat} {ps : PS} (hs : SortedP ps) {s x : ByteArray} (h : putE K M ps s x = 10) : K < (delP ps s).length + 1 ∨ M < totP (delP ps s) + (s.size + x.size) := by
  unfold putE at h
  rw [(put_del hs s x).1, (put_del hs s x).2] at h
  split at h
  · split at h
    · assumption
    · cases h
  · cases h

theorem act_quota {K M : Nat} {ps : PS} (hs : SortedP ps) {d : Deed} (h : actE K M ps d = 10) : excB K M ps d = true := by
  have key : ∀ x, putE K M ps d.key d.value = x → x = 10 → excB K M ps d = true := fun x h1 h2 => by
    rw [h2] at h1
    unfold excB
    rcases put_quota hs h1 with h3 | h3
    · simp [h3]
    · simp [h3]
  unfold actE at h
  by_cases q3 : d.what % 6 = 3
  · rw [if_pos q3] at h
    rcases getE_cases ps d.key with e | e | e <;> rw [e] at h <;> cases h
  · rw [if_neg q3] at h
    by_cases q4 : d.what % 6 = 4
    · rw [if_pos q4] at h
      unfold swapE at h
      rcases thereE_cases ps d.key [d.old, d.value] with e | e | e
      · rw [if_pos e] at h
        split at h
        · exact key _ h rfl
        · cases h
      · rw [if_neg (by rw [e]; decide), e] at h; cases h
      · rw [if_neg (by rw [e]; decide), e] at h; cases h
    · rw [if_neg q4] at h
      by_cases q5 : d.what % 6 = 5
      · rw [if_pos q5] at h
        unfold scanE at h
        split at h
        · split at h <;> cases h
        · cases h
      · rw [if_neg q5] at h
        exact key _ h rfl

theorem prow_turned {B b m : Nat} {v v' : Value} {w w' : World} {K M : Nat} {ps : PS} (hB : BookAt w B b m v K M ps) (ht : Turned b m v w v' w') {B' : Nat} {pv : Value} {qs : PS} (h : PRow w B' pv qs) : PRow w' B' pv qs := by
  refine ⟨h.1, ?_⟩
  rcases h.2 with h1 | ⟨g, cap, cur, rfl, a, hh, r⟩
  · exact .inl h1
  · exact .inr ⟨g, cap, cur, rfl, a, ht.cells_stay hB hh (by decide) (by decide), r⟩

theorem prow_below {w w' : World} (hb : Below w.heap.size w w') {B' : Nat} {pv : Value} {qs : PS} (h : PRow w B' pv qs) : PRow w' B' pv qs := ownsRow_below h hb (Nat.le_refl _)

/-- The cells of an operation in the slice that came in. -/
theorem deed_cells_at {w : World} {a : Option Addr} {len : Nat} {ds : List Deed} (h : IsDeeds w a len ds) {k : Nat} (hk : k < len) :
    ∃ g off d, a = some ⟨g, off, none⟩ ∧ ds[k]? = some d ∧ w.cell? ⟨g, off + k * 5, none⟩ = some (.int .i64 d.what) ∧ w.cell? ⟨g, off + k * 5 + 1, none⟩ = some (.string d.key) ∧ w.cell? ⟨g, off + k * 5 + 2, none⟩ = some (.string d.value) ∧
      w.cell? ⟨g, off + k * 5 + 3, none⟩ = some (.string d.old) ∧ w.cell? ⟨g, off + k * 5 + 4, none⟩ = some (.int .i64 d.n) ∧
      d.key.size ≤ 140737488351232 ∧ d.value.size ≤ 140737488351232 ∧ d.old.size ≤ 140737488351232 ∧ -9223372036854775808 ≤ d.n ∧ d.n ≤ 9223372036854775807 := by
  obtain ⟨h1, _, h3, h4⟩ := h
  obtain ⟨g, off, rfl, _, hc⟩ := h4.resolve_left (by omega)
  obtain ⟨d, hd⟩ : ∃ d, ds[k]? = some d := ⟨_, List.getElem?_eq_getElem (by omega)⟩
  have hb := h3 d (List.mem_of_getElem? hd)
  exact ⟨g, off, d, rfl, hd, hc k d hd 0 _ rfl, hc k d hd 1 _ rfl, hc k d hd 2 _ rfl, hc k d hd 3 _ rfl, hc k d hd 4 _ rfl, hb.1, hb.2.1, hb.2.2.1, hb.2.2.2.2.1, hb.2.2.2.2.2⟩

end Go.Proofs.Ytgfhaldfjnepmaa
