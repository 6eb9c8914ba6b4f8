/- The law BookKeeps: what an operation keeps, plainly. -/
import Derived.Test.YtgfhaldfjnepmaaBk24
namespace Go.Proofs.Ytgfhaldfjnepmaa
open Go

theorem putQ_other {K M : Nat} {ps : PS} (hs : SortedP ps) {s k : ByteArray} (x : ByteArray) (h : k ≠ s) : getP (putQ K M ps s x) k = getP ps k := by
  unfold putQ
  split
  · exact getP_put_other hs x h
  · rfl

theorem act_other {K M : Nat} {ps : PS} (hs : SortedP ps) (d : Deed) {k : ByteArray} (h : k ≠ d.key) : getP (actQ K M ps d) k = getP ps k := by
  unfold actQ delQ swapQ
  split
  · split
    · exact getP_del_other hs h
    · rfl
  · split
    · split
      · split
        · exact putQ_other hs _ h
        · rfl
      · rfl
    · split
      · rfl
      · exact putQ_other hs _ h

/-- A key that is there, short, is found. -/
theorem get_there {ps : PS} {s v : ByteArray} (hk : s.size ≤ 16) (h : getP ps s = some v) : getE ps s = 0 ∧ getV ps s = v := by
  have e : getE ps s = 0 := getE_zero.2 ⟨hk, v, h⟩
  exact ⟨e, getV_of e h⟩

theorem get_gone {ps : PS} {s : ByteArray} (hk : s.size ≤ 16) (h : getP ps s = none) : getE ps s = 5 ∧ getV ps s = ⟨#[]⟩ := by
  have hm : mayE s [] = 0 := mayE_zero.2 ⟨hk, by simp⟩
  unfold getE getV thereE thereV
  rw [if_pos hm, if_pos hm, h]
  exact ⟨rfl, rfl⟩

theorem act_keeps {K M : Nat} {ps : PS} (hs : SortedP ps) (hm : ∀ p ∈ ps, p.1.size ≤ 16 ∧ p.2.size ≤ 32) (d : Deed) {p : ByteArray × ByteArray} (hp : p ∈ ps) (h : p.1 ≠ d.key) :
    getE (actQ K M ps d) p.1 = 0 ∧ getV (actQ K M ps d) p.1 = p.2 :=
  get_there (hm p hp).1 (by rw [act_other hs d h]; exact getP_of_mem hs hp)

/-- A successful Delete. -/
theorem act_deleted {K M : Nat} {ps : PS} {d : Deed} (h3 : d.what % 6 = 3) (he : actE K M ps d = 0) :
    d.key.size ≤ 16 ∧ (∃ u, getP ps d.key = some u) ∧ actQ K M ps d = delP ps d.key := by
  unfold actE at he
  rw [if_pos h3] at he
  obtain ⟨a, b⟩ := getE_zero.1 he
  refine ⟨a, b, ?_⟩
  unfold actQ delQ
  rw [if_pos h3, if_pos he]

/-- A successful Put or Swap. -/
theorem act_stored {K M : Nat} {ps : PS} {d : Deed} (h3 : d.what % 6 ≠ 3) (h5 : d.what % 6 ≠ 5) (he : actE K M ps d = 0) :
    d.key.size ≤ 16 ∧ d.value.size ≤ 32 ∧ actQ K M ps d = putP ps d.key d.value ∧ (putP ps d.key d.value).length ≤ K ∧ totP (putP ps d.key d.value) ≤ M := by
  have hput : putE K M ps d.key d.value = 0 → d.key.size ≤ 16 ∧ d.value.size ≤ 32 ∧ putQ K M ps d.key d.value = putP ps d.key d.value ∧ (putP ps d.key d.value).length ≤ K ∧ totP (putP ps d.key d.value) ≤ M := fun h => by
    have hq : putQ K M ps d.key d.value = putP ps d.key d.value := by unfold putQ; rw [if_pos h]
    unfold putE at h
    split at h
    · rename_i hm
      obtain ⟨a, b⟩ := mayE_zero.1 hm
      split at h
      · cases h
      · rename_i hn
        exact ⟨a, b _ (by simp), hq, by omega, by omega⟩
    · cases h
  unfold actE at he
  unfold actQ
  rw [if_neg h3] at he ⊢
  by_cases h4 : d.what % 6 = 4
  · rw [if_pos h4] at he ⊢
    unfold swapE at he
    unfold swapQ
    rcases thereE_cases ps d.key [d.old, d.value] with e | e | e
    · rw [if_pos e] at he ⊢
      split at he
      · rename_i h6
        rw [if_pos h6]
        exact hput he
      · cases he
    · rw [if_neg (by rw [e]; decide), e] at he; cases he
    · rw [if_neg (by rw [e]; decide), e] at he; cases he
  · rw [if_neg h4] at he ⊢
    rw [if_neg h5] at he ⊢
    exact hput he

/-- Storing once more what is there. -/
theorem put_again {K M : Nat} {ps : PS} (hs : SortedP ps) {s x : ByteArray} (hk : s.size ≤ 16) (hx : x.size ≤ 32) (h : getP ps s = some x) (h1 : ps.length ≤ K) (h2 : totP ps ≤ M) : putE K M ps s x = 0 ∧ putQ K M ps s x = putP ps s x := by
  obtain ⟨a, b⟩ := len_put_present hs x h
  have he : putE K M ps s x = 0 := by
    unfold putE
    rw [if_pos (mayE_zero.2 ⟨hk, by simpa using hx⟩), if_neg (by omega)]
  exact ⟨he, by unfold putQ; rw [if_pos he]⟩

theorem swap_again {K M : Nat} {ps : PS} (hs : SortedP ps) {s x : ByteArray} (hk : s.size ≤ 16) (hx : x.size ≤ 32) (h : getP ps s = some x) (h1 : ps.length ≤ K) (h2 : totP ps ≤ M) : swapE K M ps s x x = 0 := by
  have hm : mayE s [x, x] = 0 := mayE_zero.2 ⟨hk, by simp [hx]⟩
  have e1 : thereE ps s [x, x] = 0 := by unfold thereE; rw [if_pos hm, h]
  have e2 : thereV ps s [x, x] = x := by unfold thereV; rw [if_pos hm, h]; rfl
  unfold swapE
  rw [if_pos e1, if_pos e2]
  exact (put_again hs hk hx h h1 h2).1

theorem swap_gone {K M : Nat} {ps : PS} {s o x : ByteArray} (hk : s.size ≤ 16) (ho : o.size ≤ 32) (hx : x.size ≤ 32) (h : getP ps s = none) : swapE K M ps s o x = 5 ∧ swapQ K M ps s o x = ps := by
  have hm : mayE s [o, x] = 0 := mayE_zero.2 ⟨hk, by simp [ho, hx]⟩
  have e1 : thereE ps s [o, x] = 5 := by unfold thereE; rw [if_pos hm, h]
  unfold swapE swapQ
  rw [e1]
  simp

end Go.Proofs.Ytgfhaldfjnepmaa
