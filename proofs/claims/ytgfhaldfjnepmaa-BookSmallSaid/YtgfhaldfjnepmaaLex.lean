/- Plain laws of the order on byte strings: no program in sight. -/
import Derived.Test.YtgfhaldfjnepmaaBase
namespace Go.Proofs.Ytgfhaldfjnepmaa
open Go

theorem lt_cons (a b : UInt8) (x y : List UInt8) : (a :: x < b :: y) ↔ (a < b ∨ a = b ∧ x < y) := List.cons_lt_cons_iff
theorem lt_nil (x : List UInt8) : ¬ x < [] := List.not_lt_nil x
theorem nil_lt (b : UInt8) (y : List UInt8) : ([] : List UInt8) < b :: y := List.nil_lt_cons b y
theorem u8_irrefl (a : UInt8) : ¬ a < a := by rw [UInt8.lt_iff_toNat_lt]; omega
theorem u8_tri {a b : UInt8} (h : ¬ a < b) (h2 : a ≠ b) : b < a := by
  rw [UInt8.lt_iff_toNat_lt] at *
  have : a.toNat ≠ b.toNat := fun e => h2 (UInt8.toNat_inj.1 e)
  omega

theorem lex_irrefl : ∀ (x : List UInt8), ¬ x < x
  | [], h => lt_nil _ h
  | a :: x, h => by
    rw [lt_cons] at h
    rcases h with h | ⟨_, h⟩
    · exact u8_irrefl a h
    · exact lex_irrefl x h

theorem lex_trans : ∀ {x y z : List UInt8}, x < y → y < z → x < z
  | x, y, [], _, h2 => absurd h2 (lt_nil y)
  | x, [], _ :: _, h1, _ => absurd h1 (lt_nil x)
  | [], _ :: _, c :: z, _, _ => nil_lt c z
  | a :: x, b :: y, c :: z, h1, h2 => by
    rw [lt_cons] at *
    rcases h1 with h1 | ⟨rfl, h1⟩
    · rcases h2 with h2 | ⟨rfl, _⟩
      · left; rw [UInt8.lt_iff_toNat_lt] at *; omega
      · left; exact h1
    · rcases h2 with h2 | ⟨rfl, h2⟩
      · left; exact h2
      · right; exact ⟨rfl, lex_trans h1 h2⟩

theorem lex_tri : ∀ {x y : List UInt8}, ¬ x < y → x ≠ y → y < x
  | [], [], _, h => absurd rfl h
  | [], b :: y, h, _ => absurd (nil_lt b y) h
  | a :: x, [], _, _ => nil_lt a x
  | a :: x, b :: y, h, h2 => by
    rw [lt_cons] at *
    by_cases e : a = b
    · subst e
      right
      exact ⟨rfl, lex_tri (fun hh => h (.inr ⟨rfl, hh⟩)) (fun hh => h2 (by rw [hh]))⟩
    · left; exact u8_tri (fun hh => h (.inl hh)) e

theorem lex_asymm {x y : List UInt8} (h : x < y) : ¬ y < x := fun h2 => lex_irrefl x (lex_trans h h2)

theorem lt_append_left (a : List UInt8) {x y : List UInt8} : (a ++ x < a ++ y) ↔ x < y := by
  induction a with
  | nil => rfl
  | cons c a ih =>
    simp only [List.cons_append, lt_cons]
    constructor
    · rintro (h | ⟨_, h⟩)
      · exact absurd h (u8_irrefl c)
      · exact ih.1 h
    · exact fun h => .inr ⟨trivial, ih.2 h⟩

theorem not_lt_append (x r : List UInt8) : ¬ x ++ r < x := by
  intro h
  have := (lt_append_left x (x := r) (y := [])).1 (by simpa using h)
  exact lt_nil _ this

theorem lt_append_cons (x : List UInt8) (c : UInt8) (r : List UInt8) : x < x ++ c :: r := by
  have := (lt_append_left x (x := []) (y := c :: r)).2 (nil_lt c r)
  simpa using this

/-- There is no text between a text and the same with a zero byte behind it. -/
theorem no_between : ∀ {x s : List UInt8}, x < s → ¬ s < x ++ [0]
  | _, [], h, _ => lt_nil _ h
  | [], b :: s, _, h => by
    rw [List.nil_append, lt_cons] at h
    rcases h with h | ⟨_, h⟩
    · rw [UInt8.lt_iff_toNat_lt] at h; simp at h
    · exact lt_nil _ h
  | a :: x, b :: s, h1, h2 => by
    rw [List.cons_append, lt_cons] at h2
    rw [lt_cons] at h1
    rcases h1 with h1 | ⟨rfl, h1⟩
    · rcases h2 with h2 | ⟨e, _⟩
      · rw [UInt8.lt_iff_toNat_lt] at *; omega
      · rw [e] at h1; exact u8_irrefl _ h1
    · rcases h2 with h2 | ⟨_, h2⟩
      · exact u8_irrefl _ h2
      · exact no_between h1 h2

/-- What is not below a text of bytes 255 begins with it. -/
theorem begins_top : ∀ {f s : List UInt8}, (∀ c ∈ f, c = 255) → ¬ s < f → f <+: s
  | [], s, _, _ => List.nil_prefix
  | c :: f, [], _, h => absurd (nil_lt c f) h
  | c :: f, b :: s, hf, h => by
    have hc : c = 255 := hf c (by simp)
    subst hc
    rw [lt_cons] at h
    have hb : b = 255 := by
      apply UInt8.toNat_inj.1
      have h1 : ¬ b < 255 := fun hh => h (.inl hh)
      rw [UInt8.lt_iff_toNat_lt] at h1
      have := UInt8.toNat_lt b
      simp at h1 ⊢
      omega
    subst hb
    have := begins_top (f := f) (s := s) (fun c hc => hf c (by simp [hc])) (fun hh => h (.inr ⟨rfl, hh⟩))
    exact List.cons_prefix_cons.2 ⟨rfl, this⟩

theorem u8_succ_lt {c : UInt8} (h : c ≠ 255) : c < c + 1 := by
  rw [UInt8.lt_iff_toNat_lt]
  have h1 : c.toNat ≠ 255 := fun e => h (UInt8.toNat_inj.1 e)
  have := UInt8.toNat_lt c
  simp
  omega

theorem u8_lt_succ {b c : UInt8} (h : c ≠ 255) (hb : b < c + 1) : b < c ∨ b = c := by
  have h1 : c.toNat ≠ 255 := fun e => h (UInt8.toNat_inj.1 e)
  have := UInt8.toNat_lt c
  rw [UInt8.lt_iff_toNat_lt] at hb
  simp at hb
  by_cases e : b.toNat = c.toNat
  · right; exact UInt8.toNat_inj.1 e
  · left; rw [UInt8.lt_iff_toNat_lt]; omega

/-- A text begins with 'a c f', f of bytes 255, c below 255, just where it is not below it, and below 'a (c + 1)'. -/
theorem begins_mid : ∀ {a f s : List UInt8} {c : UInt8}, (∀ x ∈ f, x = 255) → c ≠ 255 → ¬ s < a ++ c :: f → s < a ++ [c + 1] → (a ++ c :: f) <+: s
  | [], f, [], c, _, _, h, _ => absurd (nil_lt c f) h
  | [], f, b :: s, c, hf, hc, h1, h2 => by
    rw [List.nil_append, lt_cons] at h1 h2
    rcases h2 with h2 | ⟨_, h2⟩
    · rcases u8_lt_succ hc h2 with h3 | rfl
      · exact absurd (.inl h3) h1
      · exact List.cons_prefix_cons.2 ⟨rfl, begins_top hf (fun hh => h1 (.inr ⟨rfl, hh⟩))⟩
    · exact absurd h2 (lt_nil s)
  | d :: a, f, [], c, _, _, h, _ => absurd (nil_lt d _) h
  | d :: a, f, b :: s, c, hf, hc, h1, h2 => by
    rw [List.cons_append, lt_cons] at h1 h2
    have hbd : b = d := by
      apply Classical.byContradiction
      intro e
      have h3 : d < b := u8_tri (fun hh => h1 (.inl hh)) e
      rcases h2 with h2 | ⟨h2, _⟩
      · rw [UInt8.lt_iff_toNat_lt] at *; omega
      · exact e h2
    subst hbd
    refine List.cons_prefix_cons.2 ⟨rfl, begins_mid hf hc (fun hh => h1 (.inr ⟨rfl, hh⟩)) ?_⟩
    rcases h2 with h2 | ⟨_, h2⟩
    · exact absurd h2 (u8_irrefl b)
    · exact h2

/-- The least text above all texts with a prefix: the last byte that is below 255 raised by one, what follows it cut off. -/
def beyondL (l : List UInt8) : Option (List UInt8) :=
  match l.reverse.dropWhile (· == 255) with
  | [] => none
  | c :: r => some (r.reverse ++ [c + 1])

theorem dropWhile_all (p : UInt8 → Bool) : ∀ (a : List UInt8), (∀ x ∈ a, p x = true) → a.dropWhile p = []
  | [], _ => rfl
  | x :: a, h => by
    rw [List.dropWhile_cons, if_pos (h x (by simp)), dropWhile_all p a (fun y hy => h y (by simp [hy]))]

theorem dropWhile_hit (p : UInt8 → Bool) : ∀ (a : List UInt8) (c : UInt8) (r : List UInt8), (∀ x ∈ a, p x = true) → p c = false → (a ++ c :: r).dropWhile p = c :: r
  | [], c, r, _, hc => by simp [hc]
  | x :: a, c, r, h, hc => by
    rw [List.cons_append, List.dropWhile_cons, if_pos (h x (by simp)), dropWhile_hit p a c r (fun y hy => h y (by simp [hy])) hc]

theorem beyondL_none (l : List UInt8) (h : ∀ c ∈ l, c = 255) : beyondL l = none := by
  unfold beyondL
  rw [dropWhile_all _ l.reverse (fun x hx => by simpa using h x (by simpa using hx))]

theorem beyondL_some (a b : List UInt8) (c : UInt8) (hb : ∀ x ∈ b, x = 255) (hc : c ≠ 255) : beyondL (a ++ c :: b) = some (a ++ [c + 1]) := by
  unfold beyondL
  have : (a ++ c :: b).reverse.dropWhile (· == 255) = c :: a.reverse := by
    rw [show (a ++ c :: b).reverse = b.reverse ++ c :: a.reverse from by simp]
    exact dropWhile_hit _ _ _ _ (fun x hx => by simpa using hb x (by simpa using hx)) (by simpa using hc)
  rw [this]
  simp

/-- A text is of bytes 255 alone, or there is a last one that is not. -/
theorem tail_or (l : List UInt8) : (∀ c ∈ l, c = 255) ∨ ∃ a c f, l = a ++ c :: f ∧ (∀ x ∈ f, x = 255) ∧ c ≠ 255 := by
  induction l with
  | nil => left; simp
  | cons d l ih =>
    rcases ih with h | ⟨a, c, f, rfl, hf, hc⟩
    · by_cases hd : d = 255
      · left; intro c hc; simp at hc; rcases hc with rfl | hc
        · exact hd
        · exact h c hc
      · right; exact ⟨[], d, l, rfl, h, hd⟩
    · right; exact ⟨d :: a, c, f, rfl, hf, hc⟩

theorem beyondL_none_iff (l : List UInt8) : beyondL l = none ↔ ∀ c ∈ l, c = 255 := by
  constructor
  · intro h
    rcases tail_or l with h2 | ⟨a, c, f, rfl, hf, hc⟩
    · exact h2
    · rw [beyondL_some a f c hf hc] at h; cases h
  · exact beyondL_none l

/-- THE STAGE's THEOREM on prefixes: the texts with a prefix are those from it on that precede 'beyond'. -/
theorem begins_iff (l s : List UInt8) : l <+: s ↔ (¬ s < l ∧ ∀ t, beyondL l = some t → s < t) := by
  constructor
  · rintro ⟨r, rfl⟩
    refine ⟨not_lt_append l r, fun t ht => ?_⟩
    rcases tail_or l with h2 | ⟨a, c, f, rfl, hf, hc⟩
    · rw [beyondL_none l h2] at ht; cases ht
    · rw [beyondL_some a f c hf hc] at ht
      cases ht
      rw [List.append_assoc]
      refine (lt_append_left a).2 ?_
      rw [List.cons_append, lt_cons]
      exact .inl (u8_succ_lt hc)
  · rintro ⟨h1, h2⟩
    rcases tail_or l with h3 | ⟨a, c, f, rfl, hf, hc⟩
    · exact begins_top h3 h1
    · exact begins_mid hf hc h1 (h2 _ (beyondL_some a f c hf hc))

theorem beyondL_above {l t : List UInt8} (h : beyondL l = some t) : l < t ∧ t.length ≤ l.length := by
  rcases tail_or l with h3 | ⟨a, c, f, rfl, hf, hc⟩
  · rw [beyondL_none l h3] at h; cases h
  · rw [beyondL_some a f c hf hc] at h
    cases h
    refine ⟨(lt_append_left a).2 ?_, by simp⟩
    rw [lt_cons]; exact .inl (u8_succ_lt hc)

end Go.Proofs.Ytgfhaldfjnepmaa
