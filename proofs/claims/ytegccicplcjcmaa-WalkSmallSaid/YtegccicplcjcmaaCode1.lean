/- Plain laws of the codes of keys: no program in sight. -/
import Derived.Test.YtegccicplcjcmaaLex
namespace Go.Proofs.Ytegccicplcjcmaa
open Go

/-- The bytes of a key, a 1 behind each 0. -/
def encL : List UInt8 → List UInt8
  | [] => []
  | b :: r => if b = 0 then 0 :: 1 :: encL r else b :: encL r

theorem encL_cons (b : UInt8) (r : List UInt8) : encL (b :: r) = if b = 0 then 0 :: 1 :: encL r else b :: encL r := rfl

/-- The code of a key. -/
def encC (xs : List UInt8) : List UInt8 := encL xs ++ [0, 0]

/-- What a reader of a code reads: the bytes of the key until the end mark or a fault; what is left behind the end mark. -/
def scanL : List UInt8 → List UInt8 × Option (List UInt8)
  | [] => ([], none)
  | [b] => if b = 0 then ([], none) else ([b], none)
  | b :: c :: r => if b = 0 then (if c = 0 then ([], some r) else if c = 1 then (0 :: (scanL r).1, (scanL r).2) else ([], none))
    else (b :: (scanL (c :: r)).1, (scanL (c :: r)).2)

theorem scanL_byte {b : UInt8} (h : b ≠ 0) (r : List UInt8) : scanL (b :: r) = (b :: (scanL r).1, (scanL r).2) := by
  cases r with
  | nil => simp [scanL, h]
  | cons c r => rw [scanL, if_neg h]
theorem scanL_zero (r : List UInt8) : scanL (0 :: 1 :: r) = (0 :: (scanL r).1, (scanL r).2) := by simp [scanL]
theorem scanL_end (r : List UInt8) : scanL (0 :: 0 :: r) = ([], some r) := by simp [scanL]
theorem scanL_bad {c : UInt8} (h : c ≠ 0) (h2 : c ≠ 1) (r : List UInt8) : scanL (0 :: c :: r) = ([], none) := by simp [scanL, h, h2]
theorem scanL_one : scanL [0] = ([], none) := rfl
theorem scanL_nil : scanL [] = ([], none) := rfl

/-- The key of a code, if it is one. -/
def decL (s : List UInt8) : Option (List UInt8) :=
  match scanL s with
  | (xs, some []) => if xs.length ≤ 16 then some xs else none
  | _ => none

theorem scan_enc (xs r : List UInt8) : scanL (encL xs ++ 0 :: 0 :: r) = (xs, some r) := by
  induction xs with
  | nil => exact scanL_end r
  | cons b xs ih =>
    unfold encL
    by_cases h : b = 0
    · subst h
      rw [if_pos rfl, List.cons_append, List.cons_append, scanL_zero, ih]
    · rw [if_neg h, List.cons_append, scanL_byte h, ih]

theorem scan_inv (n : Nat) : ∀ (s xs r : List UInt8), s.length ≤ n → scanL s = (xs, some r) → s = encL xs ++ 0 :: 0 :: r := by
  induction n with
  | zero =>
    intro s xs r hs h
    cases s with
    | nil => simp [scanL] at h
    | cons b s => simp at hs
  | succ n ih =>
    intro s xs r hs h
    cases s with
    | nil => simp [scanL] at h
    | cons b s =>
      by_cases hb : b = 0
      · subst hb
        cases s with
        | nil => simp [scanL] at h
        | cons c s =>
          by_cases hc : c = 0
          · subst hc
            rw [scanL_end] at h
            cases h
            rfl
          · by_cases hc1 : c = 1
            · subst hc1
              rw [scanL_zero] at h
              cases hx : scanL s with
              | mk ys o =>
                rw [hx] at h
                cases h
                rw [ih s ys r (by simp at hs; omega) hx]
                simp [encL]
            · rw [scanL_bad hc hc1] at h
              cases h
      · rw [scanL_byte hb] at h
        cases hx : scanL s with
        | mk ys o =>
          rw [hx] at h
          cases h
          rw [ih s ys r (by simp at hs; omega) hx]
          simp [encL, hb]

theorem decL_iff (s xs : List UInt8) : decL s = some xs ↔ xs.length ≤ 16 ∧ s = encC xs := by
  unfold decL
  constructor
  · intro h
    cases hx : scanL s with
    | mk ys o =>
      rw [hx] at h
      cases o with
      | none => simp at h
      | some r =>
        cases r with
        | cons a r => simp at h
        | nil =>
          simp at h
          obtain ⟨h1, rfl⟩ := h
          exact ⟨h1, scan_inv s.length s ys [] (Nat.le_refl _) hx⟩
  · rintro ⟨h1, rfl⟩
    unfold encC
    rw [scan_enc]
    simp [h1]

theorem encL_length (xs : List UInt8) : xs.length ≤ (encL xs).length ∧ (encL xs).length ≤ 2 * xs.length := by
  induction xs with
  | nil => simp [encL]
  | cons b xs ih =>
    unfold encL
    split <;> simp <;> omega
theorem encC_length (xs : List UInt8) : xs.length + 2 ≤ (encC xs).length ∧ (encC xs).length ≤ 2 * xs.length + 2 := by
  have := encL_length xs
  unfold encC
  simp
  omega

theorem encL_append (xs ys : List UInt8) : encL (xs ++ ys) = encL xs ++ encL ys := by
  induction xs with
  | nil => rfl
  | cons b xs ih =>
    rw [List.cons_append, encL_cons, encL_cons]
    split <;> simp [ih]
theorem encL_one (b : UInt8) : encL [b] = if b = 0 then [0, 1] else [b] := by
  unfold encL
  split <;> rfl

theorem u8_pos {y : UInt8} (h : y ≠ 0) : 0 < y := by
  rw [UInt8.lt_iff_toNat_lt]
  have : y.toNat ≠ 0 := fun e => h (UInt8.toNat_inj.1 e)
  simp
  omega

theorem enc_order : ∀ (xs ys : List UInt8), encC xs < encC ys ↔ xs < ys
  | [], [] => by constructor <;> intro h <;> exact absurd h (lex_irrefl _)
  | [], y :: ys => by
    refine ⟨fun _ => nil_lt y ys, fun _ => ?_⟩
    unfold encC encL
    by_cases h : y = 0
    · rw [if_pos h]
      rw [List.nil_append, List.cons_append, lt_cons]
      right
      refine ⟨rfl, ?_⟩
      rw [List.cons_append, lt_cons]
      left
      decide
    · rw [if_neg h, List.nil_append, List.cons_append, lt_cons]
      exact .inl (u8_pos h)
  | x :: xs, [] => by
    refine ⟨fun h => ?_, fun h => absurd h (lt_nil _)⟩
    exfalso
    unfold encC encL at h
    by_cases hx : x = 0
    · rw [if_pos hx] at h
      rw [List.nil_append, List.cons_append, lt_cons] at h
      rcases h with h | ⟨_, h⟩
      · exact u8_irrefl _ h
      · rw [List.cons_append, lt_cons] at h
        rcases h with h | ⟨h, _⟩
        · exact absurd h (by decide)
        · exact absurd h (by decide)
    · rw [if_neg hx, List.nil_append, List.cons_append, lt_cons] at h
      rcases h with h | ⟨h, _⟩
      · have := u8_pos hx
        rw [UInt8.lt_iff_toNat_lt] at h this
        omega
      · exact hx h
  | x :: xs, y :: ys => by
    have ih := enc_order xs ys
    unfold encC at ih ⊢
    unfold encL
    rw [lt_cons]
    by_cases hx : x = 0
    · by_cases hy : y = 0
      · rw [if_pos hx, if_pos hy]
        simp only [List.cons_append, lt_cons]
        rw [ih]
        subst hx hy
        simp
      · rw [if_neg hy, if_pos hx]
        simp only [List.cons_append, lt_cons]
        subst hx
        have := u8_pos hy
        simp [this]
    · by_cases hy : y = 0
      · rw [if_neg hx, if_pos hy]
        simp only [List.cons_append, lt_cons]
        subst hy
        have h2 : ¬ x < 0 := by rw [UInt8.lt_iff_toNat_lt]; simp
        simp [h2, hx]
      · rw [if_neg hx, if_neg hy]
        simp only [List.cons_append, lt_cons]
        rw [ih]

theorem enc_begins (xs ys r : List UInt8) (h : encC ys = encC xs ++ r) : xs = ys ∧ r = [] := by
  have h1 : scanL (encC ys) = (ys, some []) := scan_enc ys []
  rw [h] at h1
  unfold encC at h1
  rw [List.append_assoc, List.cons_append, List.cons_append, List.nil_append, scan_enc] at h1
  cases h1
  exact ⟨rfl, rfl⟩

theorem enc_inj {xs ys : List UInt8} (h : encC xs = encC ys) : xs = ys := ((enc_begins xs ys [] (by simpa using h.symm)).1)

theorem dec_more (xs r : List UInt8) (h : r ≠ []) : decL (encC xs ++ r) = none := by
  cases hd : decL (encC xs ++ r) with
  | none => rfl
  | some ys => exact absurd (enc_begins xs ys r ((decL_iff _ _).1 hd).2.symm).2 h

/-! ### The reference's way: each 1 behind a 0 is left out -/

/-- What is left of the first k bytes. -/
def stripN (s : List UInt8) : Nat → List UInt8
  | 0 => []
  | k + 1 => if 0 < k ∧ s.getD k 0 = 1 ∧ s.getD (k - 1) 0 = 0 then stripN s k else stripN s k ++ [s.getD k 0]

theorem stripN_succ (s : List UInt8) (k : Nat) : stripN s (k + 1) = if 0 < k ∧ s.getD k 0 = 1 ∧ s.getD (k - 1) 0 = 0 then stripN s k else stripN s k ++ [s.getD k 0] := rfl

/-- The same, from the front; z: the byte ahead is a 0. -/
def stripF : Bool → List UInt8 → List UInt8
  | _, [] => []
  | z, b :: r => if z = true ∧ b = 1 then stripF false r else b :: stripF (b == 0) r

theorem stripF_cons (z : Bool) (b : UInt8) (r : List UInt8) : stripF z (b :: r) = if z = true ∧ b = 1 then stripF false r else b :: stripF (b == 0) r := by
  conv => lhs; unfold stripF

def lastZ : Bool → List UInt8 → Bool
  | z, [] => z
  | _, b :: r => lastZ (b == 0) r

theorem stripF_snoc (b : UInt8) : ∀ (l : List UInt8) (z : Bool), stripF z (l ++ [b]) = stripF z l ++ (if lastZ z l = true ∧ b = 1 then [] else [b])
  | [], z => by
    by_cases h : z = true ∧ b = 1
    · simp [stripF, lastZ, h]
    · simp [stripF, lastZ, h]
  | a :: l, z => by
    rw [List.cons_append]
    unfold stripF lastZ
    by_cases h : z = true ∧ a = 1
    · rw [if_pos h, if_pos h]
      have ha : (a == 0) = false := by rw [h.2]; rfl
      rw [ha, stripF_snoc b l false]
    · rw [if_neg h, if_neg h, stripF_snoc b l (a == 0), List.cons_append]

theorem lastZ_snoc (b : UInt8) : ∀ (l : List UInt8) (z : Bool), lastZ z (l ++ [b]) = (b == 0)
  | [], _ => rfl
  | a :: l, z => by rw [List.cons_append]; unfold lastZ; exact lastZ_snoc b l _

theorem take_snoc (s : List UInt8) (k : Nat) (h : k < s.length) : s.take (k + 1) = s.take k ++ [s.getD k 0] := by
  rw [List.take_succ_eq_append_getElem h, List.getD_eq_getElem?_getD, List.getElem?_eq_getElem h]
  rfl

theorem lastZ_take (s : List UInt8) (k : Nat) (h : k ≤ s.length) : lastZ false (s.take k) = decide (0 < k ∧ s.getD (k - 1) 0 = 0) := by
  cases k with
  | zero => simp [lastZ]
  | succ k =>
    rw [take_snoc s k h, lastZ_snoc]
    by_cases hz : s.getD k 0 = 0
    · rw [hz]; simpa using hz
    · rw [beq_eq_false_iff_ne.2 hz]; simpa using hz

theorem stripN_take (s : List UInt8) : ∀ (k : Nat), k ≤ s.length → stripN s k = stripF false (s.take k)
  | 0, _ => by simp [stripN, stripF]
  | k + 1, h => by
    rw [take_snoc s k h, stripF_snoc, ← stripN_take s k (by omega), lastZ_take s k (by omega), stripN_succ]
    by_cases h2 : 0 < k ∧ s.getD k 0 = 1 ∧ s.getD (k - 1) 0 = 0
    · rw [if_pos h2, if_pos ⟨by simp; exact ⟨h2.1, by simpa using h2.2.2⟩, h2.2.1⟩, List.append_nil]
    · rw [if_neg h2, if_neg]
      rintro ⟨h3, h4⟩
      have h5 := of_decide_eq_true h3
      exact h2 ⟨h5.1, h4, h5.2⟩

theorem stripF_enc (xs r : List UInt8) : stripF false (encL xs ++ r) = xs ++ stripF false r := by
  induction xs with
  | nil => rfl
  | cons b xs ih =>
    unfold encL
    by_cases h : b = 0
    · subst h
      rw [if_pos rfl, List.cons_append, List.cons_append]
      simp [stripF, ih]
    · rw [if_neg h, List.cons_append, stripF_cons]
      have hb : (b == 0) = false := by simpa using h
      rw [if_neg (by simp), hb, ih, List.cons_append]

/-- What the reference answers. -/
def refDecL (s : List UInt8) : Option (List UInt8) :=
  let key := stripN s (min s.length 100)
  if key.length < 2 then none
  else if (key.take (key.length - 2)).length ≤ 16 ∧ encC (key.take (key.length - 2)) = s then some (key.take (key.length - 2)) else none

theorem refDecL_eq (s : List UInt8) : refDecL s = decL s := by
  cases hd : decL s with
  | some xs =>
    obtain ⟨h1, h2⟩ := (decL_iff _ _).1 hd
    have hlen := (encC_length xs).2
    have hs : stripN s (min s.length 100) = xs ++ [0, 0] := by
      rw [Nat.min_eq_left (by rw [h2]; omega), stripN_take s _ (Nat.le_refl _), List.take_length, h2]
      unfold encC
      rw [stripF_enc]
      rfl
    unfold refDecL
    simp only [hs]
    simp [h1, h2]
  | none =>
    cases hr : refDecL s with
    | none => rfl
    | some xs =>
      exfalso
      unfold refDecL at hr
      simp only at hr
      split at hr
      · cases hr
      · split at hr
        · rename_i h
          cases hr
          rw [(decL_iff _ _).2 ⟨h.1, h.2.symm⟩] at hd
          cases hd
        · cases hr
end Go.Proofs.Ytegccicplcjcmaa
