/- Small plain lemmas that all texts of this seat share: byte strings as lists; the ends of walks. -/
import Derived.RangeFuncNested
import Derived.RangeFuncBound
import Derived.RangeFuncCalls
import Derived.RangeFuncLeaves
import Derived.RangeFuncBox
import Derived.Shelf.Abstract
import Derived.Shelf.RegionOpen
import Derived.WalkKit
import Derived.OwnWalkIn
import Derived.TacticsInMore
import Derived.LoopNIn
import Derived.LoopIn
import Derived.WalkLawsBesides
import Derived.WalkSpells
import Derived.Lib.Hide
import Derived.Lib.Strings
import Derived.Lib.MinMaxS
import Derived.BigQuiet
import Derived.BigRegion
import Derived.Deep.QuietTactic
namespace Go.Proofs.Ytgfhaldfjnepmaa
open Go Go.RowKit

/-- A byte string out of its bytes. -/
def bs (l : List UInt8) : ByteArray := ⟨l.toArray⟩

/-- The bytes of a byte string. -/
def by_ (s : ByteArray) : List UInt8 := s.data.toList

theorem by_bs (l : List UInt8) : by_ (bs l) = l := by simp [by_, bs]
theorem bs_by (s : ByteArray) : bs (by_ s) = s := by cases s; simp [by_, bs]
theorem size_bs (l : List UInt8) : (bs l).size = l.length := List.size_toArray
theorem size_by (s : ByteArray) : (by_ s).length = s.size := Array.length_toList
theorem bs_inj {l m : List UInt8} (h : bs l = bs m) : l = m := by have := congrArg by_ h; simpa [by_bs] using this
theorem by_inj {s t : ByteArray} (h : by_ s = by_ t) : s = t := by have := congrArg bs h; simpa [bs_by] using this
theorem by_append (s t : ByteArray) : by_ (s ++ t) = by_ s ++ by_ t := by simp [by_]
theorem bs_append (l m : List UInt8) : bs l ++ bs m = bs (l ++ m) := by_inj (by simp [by_append, by_bs])
theorem by_empty : by_ ByteArray.empty = [] := rfl
theorem bs_nil : bs [] = ByteArray.empty := rfl
theorem toList_by (s : ByteArray) : s.toList = by_ s := Lib.toList_data s
theorem toList_bs (l : List UInt8) : (bs l).toList = l := by rw [toList_by, by_bs]
theorem by_extract (s : ByteArray) (a b : Nat) : by_ (s.extract a b) = ((by_ s).take b).drop a := by
  simp [by_, ByteArray.data_extract, List.drop_take]
theorem extract_bs (s : ByteArray) (a b : Nat) : s.extract a b = bs (((by_ s).take b).drop a) := by_inj (by rw [by_extract, by_bs])

/-! ### What a round keeps for an iterator: one block -/

/-- Block B lies as it lay. -/
def KeepB (B : Nat) (W W' : World) : Prop := W'.heap[B]? = W.heap[B]?
theorem KeepB.refl (B : Nat) (W : World) : KeepB B W W := rfl
theorem KeepB.trans {B : Nat} {X Y Z : World} (h : KeepB B X Y) (k : KeepB B Y Z) : KeepB B X Z := Eq.trans k h
theorem KeepB.putObj {B : Nat} {w : World} (hB : B < w.heap.size) (W : World) (l : Nat) (o o' : Obj) (hl : w.heap.size ≤ l) (_ : W.heap[l]? = some o) (_ : o.isCells = false) (_ : o.isWalk = false) : KeepB B W (W.putObj l o') :=
  World.putObj_heap_other (by omega)
theorem KeepB.below {B n : Nat} {W W' : World} (h : Below n W W') (hB : B < n) : KeepB B W W' := h.block B hB
theorem KeepB.setCell {B : Nat} {X W : World} (h : KeepB B X W) (a : Addr) (v : Value) (hne : B ≠ a.block) : KeepB B X (W.setCell a v) := (Below.heap_setCell W a v B hne).trans h
theorem KeepB.alloc {B : Nat} {X W : World} (h : KeepB B X W) (o : Obj) (hB : B < W.heap.size) : KeepB B X (W.alloc o) := (Below.heap_alloc W o B hB).trans h
theorem KeepB.drew {B : Nat} {X W : World} (h : KeepB B X W) : KeepB B X W.drew := h
theorem KeepB.boxed {B : Nat} {W W' : World} {t : TypeId} {v : Value} (h : KeepB B W W') (hb : Boxed W B t v) : Boxed W' B t v := Eq.trans h hb

/-- A box lies on through the turn of a block that is no cells. -/
theorem boxed_putNon {W : World} {B : Nat} {t : TypeId} {v : Value} (h : Boxed W B t v) {D : Nat} {o : Obj} (o' : Obj) (hD : W.heap[D]? = some o) (ho : o.isCells = false) : Boxed (W.putObj D o') B t v :=
  h.kept (grownBy_putObj' W D o') (by
    intro e
    have e' : B = D := by simpa using e
    subst e'
    have := (show W.heap[B]? = _ from h).symm.trans hD
    cases this
    cases ho)

theorem below_chain {w a b : World} (h : Below w.heap.size w a) (k : Below a.heap.size a b) : Below w.heap.size w b := h.trans (k.mono h.size)

/-- What is owned stays owned where whatever lay lies as it lay. -/
theorem ownsRow_below {w w' : World} {base : Nat} {e : TypeId} {size : Nat} {v : Value} {n : Nat} {xs : List Value} (h : w.ownsRow base e size v n xs) {B : Nat} (hb : Below B w w') (hB : w.heap.size ≤ B) : w'.ownsRow base e size v n xs := by
  obtain ⟨h1, h2⟩ := h
  refine ⟨h1, ?_⟩
  rcases h2 with h2 | ⟨g, cap, cur, hv, hg, hh, r⟩
  · exact Or.inl h2
  · exact Or.inr ⟨g, cap, cur, hv, hg, (hb.block g (Nat.lt_of_lt_of_le (Array.getElem?_eq_some_iff.1 hh).1 hB)).trans hh, r⟩

theorem cell_one_new' (w : World) (v : Value) (t : TypeId) : ∀ j u, ([v] : List Value)[j]? = some u → (w.alloc (.cells #[v] t)).cell? ((⟨w.heap.size, 0, none⟩ : Addr).add j) = some u := by
  intro j u hu
  rcases j with _ | j
  · simp at hu; subst hu; simp [Addr.add]
  · simp at hu

theorem cell_new_l (W : World) (v : Value) (t : TypeId) : (W.alloc (.cells #[v] t)).cell? ⟨W.heap.size, 0, none⟩ = some v ∧ (W.alloc (.cells #[v] t)).frozen? ⟨W.heap.size, 0, none⟩ = false :=
  ⟨(Boxed.new W t v).cell, (Boxed.new W t v).frozen⟩

/-- 'string([]byte{n})', in the block that the literal has just laid. -/
theorem conv1 {P : Program} (src dst e : TypeId) (hs : P.underlying src = some (.slice e)) (he : P.underlying e = some (.int .u8)) (hd : P.underlying dst = some .string) (n : Int) (W : World) (c : Nat) :
    (convert src dst (.slice (some ⟨W.heap.size, 0, none⟩) 1 c)).run P (W.alloc (.cells #[.int .u8 n] e)) = .ok (.string ⟨#[UInt8.ofNat n.toNat]⟩) (W.alloc (.cells #[.int .u8 n] e)) := by
  rw [run_convert_bytes_string _ src dst e _ 1 c hs he hd]
  have hl := run_loadCells_list (P := P) (W.alloc (.cells #[.int .u8 n] e)) ⟨W.heap.size, 0, none⟩ [.int .u8 n] (fun j v hj => by
    rcases j with _ | j
    · simp at hj; subst hj; simp [Addr.add]
    · simp at hj)
  rw [run_bytesToString _ _ 1 c [n] hl]
  rfl

/-- 'string(b)' of the bytes that a literal has just laid. -/
theorem convN {P : Program} (src dst e : TypeId) (hs : P.underlying src = some (.slice e)) (he : P.underlying e = some (.int .u8)) (hd : P.underlying dst = some .string) (ns : List Int) (W : World) (c : Nat) :
    (convert src dst (.slice (some ⟨W.heap.size, 0, none⟩) ns.length c)).run P (W.alloc (.cells (ns.map (Value.int .u8)).toArray e)) = .ok (.string ⟨(ns.map (fun n => UInt8.ofNat n.toNat)).toArray⟩) (W.alloc (.cells (ns.map (Value.int .u8)).toArray e)) := by
  rw [run_convert_bytes_string _ src dst e _ ns.length c hs he hd]
  have hl := run_loadCells_list (P := P) (W.alloc (.cells (ns.map (Value.int .u8)).toArray e)) ⟨W.heap.size, 0, none⟩ (ns.map (Value.int .u8)) (fun j v hj => by
    rcases j with _ | j
    · simp [Addr.add]; simpa using hj
    · simp [Addr.add]; simpa using hj)
  rw [List.length_map] at hl
  rw [run_bytesToString _ _ ns.length c ns hl]
  congr 2
  have key : ∀ (l : List Int) (r : ByteArray), l.foldl (fun r n => r.push (UInt8.ofNat n.toNat)) r = ⟨r.data ++ (l.map (fun n => UInt8.ofNat n.toNat)).toArray⟩ := by
    intro l
    induction l with
    | nil => intro r; simp
    | cons a l ih => intro r; rw [List.foldl_cons, ih]; simp [ByteArray.push]
  rw [key]
  simp [ByteArray.empty, ByteArray.emptyWithCapacity]
  rfl

theorem conv8 {P : Program} (src dst e : TypeId) (hs : P.underlying src = some (.slice e)) (he : P.underlying e = some (.int .u8)) (hd : P.underlying dst = some .string) (a b c d f g h i : Int) (W : World) (cc : Nat) :
    (convert src dst (.slice (some ⟨W.heap.size, 0, none⟩) 8 cc)).run P (W.alloc (.cells #[.int .u8 a, .int .u8 b, .int .u8 c, .int .u8 d, .int .u8 f, .int .u8 g, .int .u8 h, .int .u8 i] e)) =
      .ok (.string ⟨#[UInt8.ofNat a.toNat, UInt8.ofNat b.toNat, UInt8.ofNat c.toNat, UInt8.ofNat d.toNat, UInt8.ofNat f.toNat, UInt8.ofNat g.toNat, UInt8.ofNat h.toNat, UInt8.ofNat i.toNat]⟩)
        (W.alloc (.cells #[.int .u8 a, .int .u8 b, .int .u8 c, .int .u8 d, .int .u8 f, .int .u8 g, .int .u8 h, .int .u8 i] e)) :=
  convN src dst e hs he hd [a, b, c, d, f, g, h, i] W cc

theorem conv1d {P : Program} (src dst e : TypeId) (hs : P.underlying src = some (.slice e)) (he : P.underlying e = some (.int .u8)) (hd : P.underlying dst = some .string) (n : Int) (W : World) (c : Nat) :
    (convert src dst (.slice (some ⟨W.heap.size, 0, none⟩) 1 c)).run P (W.alloc (.cells #[.int .u8 n] e)).drew = .ok (.string ⟨#[UInt8.ofNat n.toNat]⟩) (W.alloc (.cells #[.int .u8 n] e)).drew :=
  conv1 src dst e hs he hd n W.drew c

theorem u8_succ (b : UInt8) : UInt8.ofNat (IntKind.u8.wrap ((b.toNat : Int) + 1)).toNat = b + 1 := by
  apply UInt8.toNat_inj.1
  have h : IntKind.u8.wrap ((b.toNat : Int) + 1) = ((b.toNat : Int) + 1) % 256 := by
    unfold IntKind.wrap
    simp [IntKind.bits, IntKind.signed]
  rw [h]
  simp
  omega

theorem ret_str {a b : ByteArray} (h : a = b) : Ending.returned (.string a) = .returned (.string b) := by rw [h]
theorem ret_bool {a b : Bool} (h : a = b) : Ending.returned (.bool a) = .returned (.bool b) := by rw [h]
theorem ret_int {k : IntKind} {a b : Int} (h : a = b) : Ending.returned (.int k a) = .returned (.int k b) := by rw [h]

end Go.Proofs.Ytgfhaldfjnepmaa
