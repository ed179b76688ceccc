/-
How data lie in memory: what a value reads as in a world, and what keeps it so. No program in sight.
-/
import Derived.WalkKit
import Derived.Below
import Derived.Lib.Hide
import Derived.ProofKit
import Derived.SizedLaws
import Derived.Deep.Slices
import Derived.ChangeSame
import Derived.Maps.AppendAt
import Derived.Laws.OwnMore
import Derived.OwnWalk
import Derived.RegionTactic
import Derived.Laws.IdiomCopy
import Derived.Lib.SliceRun
import Derived.Deep.RegionLaw
import Derived.Shelf.Strings.Builder1
import Derived.Shelf.Strings.Builder2
import Derived.Shelf.Strings.OnBuilder
import Derived.Shelf.Strings.Trim
import Derived.Shelf.Small.Utf8
import Derived.Shelf.Small.Strs
import Derived.Shelf.Strings.BuilderF
import Derived.Shelf.Strings.BuilderK
import Derived.Shelf.Utf8.AppendRunePlain
import Derived.Shelf.Strings.Builder2Cap
import Derived.Shelf.Strings.Search1
import Derived.Shelf.Strings.Search2
import Derived.Shelf.Strings.Search3
import Derived.Shelf.Strings.Cut
import Derived.Shelf.Strings.Count
import Derived.Shelf.LaysM
import Derived.Shelf.Strings.Shaped
import Derived.Shelf.Strings.Prefix
import Derived.Shelf.Strings.Split
import Derived.Shelf.Strings.Replace
import Derived.Shelf.Strings.Fold
import Derived.Shelf.Strings.SplitShaped
import Derived.Shelf.Unicode.Decode
import Derived.Shelf.Strings.Runes
import Derived.Shelf.Strings.RuneCount
import Derived.Shelf.Strings.IndexAny
import Derived.Shelf.Strings.AsciiSet
import Derived.Shelf.Strings.IndexAnyAll
import Derived.Shelf.Bits.Mul64
import Derived.Shelf.Strings.Repeat
import Derived.Shelf.Unicode.DecodeSlow
import Derived.Shelf.Unicode.CaseLookup
import Derived.Shelf.Unicode.CaseConvert
import Derived.Shelf.Slices.Turned
import Derived.Shelf.Slices.Reverse
import Derived.Ground.Names2Prog
import Derived.Shelf.Slices.Clone
import Derived.Shelf.Slices.Delete
import Derived.Shelf.Slices.Cells
import Derived.Shelf.Slices.Empties
import Derived.Shelf.Strings.SlTrimAscii
import Derived.Shelf.Spec.SlicesInsertGrow
import Derived.Test.YtegcedboeemedaaGreatDoorProg
import Derived.WalkSpells
import Derived.Outline
import Derived.StillTailTactics
import Derived.WalkSmall
import Derived.Laws.StructEq
import Derived.Deep.QuietTactic
import Derived.BigQuiet
import Derived.Deep.RegionHeld3
import Derived.Deep.DeepMust
import Derived.Lib.SlTrimSet
import Derived.Lib.Bytealg
import Derived.Deep.DrawnRows
import Derived.Deep.DeepCutAuto
import Derived.Laws.MakeOwn
import Derived.Lib.Slices
namespace Go.Cl
open Go.RowKit

/-- How data of a type lie in cells: 'rep w D x cs': the cells cs read as x in the world w; what they lead to lies in blocks of D. -/
structure Ty (α : Type) where
  size : Nat
  bytes : Nat
  pos : 1 ≤ bytes
  rep : World → (Nat → Prop) → α → List Value → Prop
  len : ∀ {w : World} {D : Nat → Prop} {x : α} {cs : List Value}, rep w D x cs → cs.length = size
  keep : ∀ {w w' : World} {D : Nat → Prop} {x : α} {cs : List Value}, rep w D x cs → (∀ p : Addr, D p.block → w'.cell? p = w.cell? p) → rep w' D x cs
  more : ∀ {w : World} {D D' : Nat → Prop} {x : α} {cs : List Value}, rep w D x cs → (∀ b, D b → D' b) → rep w D' x cs
  one : ∀ {w : World} {D : Nat → Prop} {x : α} {cs : List Value}, rep w D x cs → ∀ u ∈ cs, u.oneCell' = true

/-- A row of cells that reads as a list. -/
def Row {α : Type} (T : Ty α) (w : World) (D : Nat → Prop) : List α → List Value → Prop
  | [], cs => cs = []
  | x :: xs, cs => ∃ c1 c2, cs = c1 ++ c2 ∧ T.rep w D x c1 ∧ Row T w D xs c2

section
variable {α : Type} {T : Ty α} {w w' : World} {D D' : Nat → Prop}
theorem Row.len {xs : List α} {cs : List Value} (h : Row T w D xs cs) : cs.length = xs.length * T.size := by
  induction xs generalizing cs with
  | nil => have : cs = [] := h
           subst this; simp
  | cons x xs ih =>
    obtain ⟨c1, c2, rfl, h1, h2⟩ := h
    rw [List.length_append, T.len h1, ih h2, List.length_cons, Nat.succ_mul, Nat.add_comm]
theorem Row.keep {xs : List α} {cs : List Value} (h : Row T w D xs cs) (hk : ∀ p : Addr, D p.block → w'.cell? p = w.cell? p) : Row T w' D xs cs := by
  induction xs generalizing cs with
  | nil => exact h
  | cons x xs ih =>
    obtain ⟨c1, c2, rfl, h1, h2⟩ := h
    exact ⟨c1, c2, rfl, T.keep h1 hk, ih h2⟩
theorem Row.more {xs : List α} {cs : List Value} (h : Row T w D xs cs) (hk : ∀ b, D b → D' b) : Row T w D' xs cs := by
  induction xs generalizing cs with
  | nil => exact h
  | cons x xs ih =>
    obtain ⟨c1, c2, rfl, h1, h2⟩ := h
    exact ⟨c1, c2, rfl, T.more h1 hk, ih h2⟩
theorem Row.nil : Row T w D ([] : List α) [] := rfl
theorem Row.append {xs ys : List α} {cs ds : List Value} (h : Row T w D xs cs) (k : Row T w D ys ds) : Row T w D (xs ++ ys) (cs ++ ds) := by
  induction xs generalizing cs with
  | nil => have : cs = [] := h
           subst this; simpa using k
  | cons x xs ih =>
    obtain ⟨c1, c2, rfl, h1, h2⟩ := h
    exact ⟨c1, c2 ++ ds, by simp, h1, ih h2⟩
theorem Row.one {x : α} {cs : List Value} (h : T.rep w D x cs) : Row T w D [x] cs := ⟨cs, [], by simp, h, rfl⟩
theorem Row.one_ {xs : List α} {cs : List Value} (h : Row T w D xs cs) : ∀ u ∈ cs, u.oneCell' = true := by
  induction xs generalizing cs with
  | nil => have : cs = [] := h
           subst this; simp
  | cons x xs ih =>
    obtain ⟨c1, c2, rfl, h1, h2⟩ := h
    intro u hu
    rcases List.mem_append.1 hu with hu | hu
    · exact T.one h1 u hu
    · exact ih h2 u hu
theorem Row.at_ {xs : List α} {cs : List Value} (h : Row T w D xs cs) {i : Nat} {x : α} (hx : xs[i]? = some x) :
    ∃ c, T.rep w D x c ∧ (∀ j u, c[j]? = some u → cs[i * T.size + j]? = some u) := by
  induction xs generalizing cs i with
  | nil => simp at hx
  | cons y xs ih =>
    obtain ⟨c1, c2, rfl, h1, h2⟩ := h
    have hl := T.len h1
    match i with
    | 0 =>
      have hy : y = x := by simpa using hx
      subst hy
      refine ⟨c1, h1, fun j u hj => ?_⟩
      have := (List.getElem?_eq_some_iff.1 hj).1
      rw [List.getElem?_append_left (by omega)]
      simpa using hj
    | i + 1 =>
      have hx' : xs[i]? = some x := by simpa using hx
      obtain ⟨c, hc, hcell⟩ := ih h2 hx'
      refine ⟨c, hc, fun j u hj => ?_⟩
      rw [Nat.succ_mul, List.getElem?_append_right (by omega)]
      rw [show i * T.size + T.size + j - c1.length = i * T.size + j from by omega]
      exact hcell j u hj
theorem Row.take {xs : List α} {cs : List Value} (h : Row T w D xs cs) (k : Nat) : Row T w D (xs.take k) (cs.take (k * T.size)) := by
  induction xs generalizing cs k with
  | nil => have : cs = [] := h
           subst this; simp; exact Row.nil
  | cons x xs ih =>
    obtain ⟨c1, c2, rfl, h1, h2⟩ := h
    have hl := T.len h1
    match k with
    | 0 => simp; exact Row.nil
    | k + 1 =>
      have e : (c1 ++ c2).take ((k + 1) * T.size) = c1 ++ c2.take (k * T.size) := by
        rw [Nat.succ_mul, List.take_append, List.take_of_length_le (by omega), show k * T.size + T.size - c1.length = k * T.size from by omega]
      rw [e]
      exact ⟨c1, _, rfl, h1, ih h2 k⟩
theorem Row.drop {xs : List α} {cs : List Value} (h : Row T w D xs cs) (k : Nat) : Row T w D (xs.drop k) (cs.drop (k * T.size)) := by
  induction xs generalizing cs k with
  | nil => have : cs = [] := h
           subst this; simp; exact Row.nil
  | cons x xs ih =>
    match k with
    | 0 => simpa using h
    | k + 1 =>
      obtain ⟨c1, c2, rfl, h1, h2⟩ := h
      have hl := T.len h1
      have e : (c1 ++ c2).drop ((k + 1) * T.size) = c2.drop (k * T.size) := by
        rw [Nat.succ_mul, List.drop_append, List.drop_of_length_le (by omega), show k * T.size + T.size - c1.length = k * T.size from by omega, List.nil_append]
      rw [e]
      exact ih h2 k
end

/-- A slice's value (address, length, capacity) that reads as a list; what it leads to lies in blocks of D. -/
structure Sl {α : Type} (T : Ty α) (w : World) (D : Nat → Prop) (A : Option Addr) (n c : Nat) (xs : List α) : Prop where
  hn : n = xs.length
  hc : n ≤ c
  hb : n * T.bytes ≤ 140737488355328
  hm : c ≤ maxLen
  nil_ : A = none → c = 0
  at_ : 0 < n → ∃ b o cells, A = some ⟨b, o, none⟩ ∧ D b ∧ Row T w D xs cells ∧ ∀ j u, cells[j]? = some u → w.cell? ⟨b, o + j, none⟩ = some u

section
variable {α : Type} {T : Ty α} {w w' : World} {D D' : Nat → Prop} {A : Option Addr} {n c : Nat} {xs : List α}
theorem Sl.keep (h : Sl T w D A n c xs) (hk : ∀ p : Addr, D p.block → w'.cell? p = w.cell? p) : Sl T w' D A n c xs :=
  ⟨h.hn, h.hc, h.hb, h.hm, h.nil_, fun h0 => by
    obtain ⟨b, o, cells, e, hb, hr, hcell⟩ := h.at_ h0
    exact ⟨b, o, cells, e, hb, hr.keep hk, fun j u hj => (hk ⟨b, o + j, none⟩ hb).trans (hcell j u hj)⟩⟩
theorem Sl.more (h : Sl T w D A n c xs) (hk : ∀ b, D b → D' b) : Sl T w D' A n c xs :=
  ⟨h.hn, h.hc, h.hb, h.hm, h.nil_, fun h0 => by
    obtain ⟨b, o, cells, e, hb, hr, hcell⟩ := h.at_ h0
    exact ⟨b, o, cells, e, hk _ hb, hr.more hk, hcell⟩⟩
theorem Sl.nil : Sl T w D none 0 0 ([] : List α) := ⟨rfl, Nat.le_refl _, by simp, by simp, fun _ => rfl, fun h => absurd h (by omega)⟩
theorem Sl.cut_to (h : Sl T w D A n c xs) {k : Nat} (hk : k ≤ n) : Sl T w D A k c (xs.take k) := by
  refine ⟨?_, Nat.le_trans hk h.hc, Nat.le_trans (Nat.mul_le_mul_right _ hk) h.hb, h.hm, h.nil_, fun h0 => ?_⟩
  · have := h.hn
    rw [List.length_take]; omega
  · obtain ⟨b, o, cells, e, hb, hr, hcell⟩ := h.at_ (by omega)
    refine ⟨b, o, cells.take (k * T.size), e, hb, hr.take k, fun j u hu => hcell j u ?_⟩
    rw [List.getElem?_take] at hu
    split at hu
    · exact hu
    · cases hu
theorem Sl.small (h : Sl T w D A n c xs) : n ≤ 140737488355328 := Nat.le_trans (by have := Nat.mul_le_mul_left n T.pos; omega) h.hb
theorem Sl.drew (h : Sl T w D A n c xs) : Sl T w.drew D A n c xs := h.keep fun _ _ => rfl
/-- One element: where it lies, and its cells. -/
theorem Sl.get (h : Sl T w D A n c xs) {i : Nat} {x : α} (hx : xs[i]? = some x) :
    ∃ b o cs, A = some ⟨b, o, none⟩ ∧ D b ∧ T.rep w D x cs ∧ ∀ j u, cs[j]? = some u → w.cell? ⟨b, o + (i * T.size + j), none⟩ = some u := by
  have hi := (List.getElem?_eq_some_iff.1 hx).1
  obtain ⟨b, o, cells, e, hb, hr, hcell⟩ := h.at_ (by have := h.hn; omega)
  obtain ⟨cs, hcs, hj⟩ := hr.at_ hx
  exact ⟨b, o, cs, e, hb, hcs, fun j u hu => hcell _ u (hj j u hu)⟩
end

/-- Below a block's number. -/
def lt (B : Nat) : Nat → Prop := fun b => b < B

theorem keep_of_below {B B' : Nat} {w w' : World} (h : Below B' w w') (hB : B ≤ B') : ∀ p : Addr, lt B p.block → w'.cell? p = w.cell? p :=
  fun p hp => h.cell (p := p) (Nat.lt_of_lt_of_le hp hB)

section
variable {α : Type} {T : Ty α} {w w' : World} {A : Option Addr} {n c : Nat} {xs : List α} {B B' : Nat}
theorem Sl.below (h : Sl T w (lt B) A n c xs) (hb : Below B' w w') (hB : B ≤ B') : Sl T w' (lt B) A n c xs := h.keep (keep_of_below hb hB)
theorem Sl.al (h : Sl T w (lt B) A n c xs) (hB : B ≤ w.heap.size) (o : Obj) : Sl T (w.alloc o) (lt B) A n c xs := h.keep fun p hp => World.cell?_alloc_lt w o p (Nat.lt_of_lt_of_le hp hB)
theorem Sl.up (h : Sl T w (lt B) A n c xs) (hB : B ≤ B') : Sl T w (lt B') A n c xs := h.more fun _ hb => Nat.lt_of_lt_of_le hb hB
end

/-- The bytes of an integer kind. -/
def kindBytes : IntKind → Nat
  | .i8 | .u8 => 1
  | .i16 | .u16 => 2
  | .i32 | .u32 => 4
  | .i64 | .u64 => 8
/-- Integers. -/
def tInt (k : IntKind) : Ty Int where
  size := 1
  bytes := kindBytes k
  pos := by cases k <;> decide
  rep _ _ x cs := cs = [.int k x] ∧ (Lit.int k x).wf = true
  len := by rintro w D x cs ⟨rfl, _⟩; rfl
  one := by rintro w D x cs ⟨rfl, _⟩ u hu; simp at hu; subst hu; rfl
  keep := by rintro w w' D x cs h _; exact h
  more := by rintro w D D' x cs h _; exact h
/-- Bools. -/
def tBool : Ty Bool where
  size := 1
  bytes := 1
  pos := Nat.le_refl _
  rep _ _ x cs := cs = [.bool x]
  len := by rintro w D x cs rfl; rfl
  one := by rintro w D x cs rfl u hu; simp at hu; subst hu; rfl
  keep := by rintro w w' D x cs h _; exact h
  more := by rintro w D D' x cs h _; exact h
/-- Strings. -/
def tStr : Ty ByteArray where
  size := 1
  bytes := 16
  pos := by decide
  rep _ _ x cs := cs = [.string x] ∧ x.size ≤ 1152921504606846976
  len := by rintro w D x cs ⟨rfl, _⟩; rfl
  one := by rintro w D x cs ⟨rfl, _⟩ u hu; simp at hu; subst hu; rfl
  keep := by rintro w w' D x cs h _; exact h
  more := by rintro w D D' x cs h _; exact h
/-- Two things, one behind the other. -/
def tPair {α β : Type} (S : Ty α) (T : Ty β) : Ty (α × β) where
  size := S.size + T.size
  bytes := S.bytes + T.bytes
  pos := Nat.le_trans S.pos (Nat.le_add_right _ _)
  rep w D x cs := ∃ c1 c2, cs = c1 ++ c2 ∧ S.rep w D x.1 c1 ∧ T.rep w D x.2 c2
  len := by rintro w D x cs ⟨c1, c2, rfl, h1, h2⟩; rw [List.length_append, S.len h1, T.len h2]
  one := by
    rintro w D x cs ⟨c1, c2, rfl, h1, h2⟩ u hu
    rcases List.mem_append.1 hu with hu | hu
    · exact S.one h1 u hu
    · exact T.one h2 u hu
  keep := by rintro w w' D x cs ⟨c1, c2, rfl, h1, h2⟩ hk; exact ⟨c1, c2, rfl, S.keep h1 hk, T.keep h2 hk⟩
  more := by rintro w D D' x cs ⟨c1, c2, rfl, h1, h2⟩ hk; exact ⟨c1, c2, rfl, S.more h1 hk, T.more h2 hk⟩
/-- The same cells, read as another type of data. -/
def tMap {α β : Type} (S : Ty α) (f : β → α) (b : Nat) (hb : 1 ≤ b := by decide) : Ty β where
  size := S.size
  bytes := b
  pos := hb
  rep w D x cs := S.rep w D (f x) cs
  len h := S.len h
  one h := S.one h
  keep h hk := S.keep h hk
  more h hk := S.more h hk
/-- Slices. -/
def tSlice {α : Type} (T : Ty α) : Ty (List α) where
  size := 1
  bytes := 24
  pos := by decide
  rep w D xs cs := ∃ A n c, cs = [.slice A n c] ∧ Sl T w D A n c xs
  len := by rintro w D x cs ⟨A, n, c, rfl, _⟩; rfl
  one := by rintro w D x cs ⟨A, n, c, rfl, _⟩ u hu; simp at hu; subst hu; rfl
  keep := by rintro w w' D x cs ⟨A, n, c, rfl, h⟩ hk; exact ⟨A, n, c, rfl, h.keep hk⟩
  more := by rintro w D D' x cs ⟨A, n, c, rfl, h⟩ hk; exact ⟨A, n, c, rfl, h.more hk⟩

/-- Strings lie alike in whatever world. -/
theorem row_str {w w' : World} {D D' : Nat → Prop} {xs : List ByteArray} {cs : List Value} (h : Row tStr w D xs cs) : Row tStr w' D' xs cs := by
  induction xs generalizing cs with
  | nil => exact h
  | cons x xs ih =>
    obtain ⟨c1, c2, rfl, h1, h2⟩ := h
    exact ⟨c1, c2, rfl, h1, ih h2⟩
theorem row_strs {w : World} {D : Nat → Prop} (l : List ByteArray) (h : ∀ x ∈ l, x.size ≤ 1152921504606846976) : Row tStr w D l (l.map Value.string) := by
  induction l with
  | nil => exact Row.nil
  | cons x l ih => exact ⟨[.string x], _, rfl, ⟨rfl, h x (by simp)⟩, ih fun y hy => h y (by simp [hy])⟩
/-- One string of a slice of strings. -/
theorem Sl.str {w : World} {D : Nat → Prop} {A : Option Addr} {n c : Nat} {xs : List ByteArray} (h : Sl tStr w D A n c xs) {i : Nat} {x : ByteArray} (hx : xs[i]? = some x) :
    ∃ b o, A = some ⟨b, o, none⟩ ∧ D b ∧ w.cell? ⟨b, o + i, none⟩ = some (.string x) ∧ x.size ≤ 1152921504606846976 := by
  obtain ⟨b, o, cs, e, hb, ⟨rfl, hs⟩, hj⟩ := h.get hx
  exact ⟨b, o, e, hb, by simpa [tStr] using hj 0 _ rfl, hs⟩
/-- One integer of a slice of integers. -/
theorem Sl.int {k : IntKind} {w : World} {D : Nat → Prop} {A : Option Addr} {n c : Nat} {xs : List Int} (h : Sl (tInt k) w D A n c xs) {i : Nat} {x : Int} (hx : xs[i]? = some x) :
    ∃ b o, A = some ⟨b, o, none⟩ ∧ D b ∧ w.cell? ⟨b, o + i, none⟩ = some (.int k x) ∧ (Lit.int k x).wf = true := by
  obtain ⟨b, o, cs, e, hb, ⟨rfl, hs⟩, hj⟩ := h.get hx
  exact ⟨b, o, e, hb, by simpa [tInt] using hj 0 _ rfl, hs⟩

theorem cell_al {w : World} {p : Addr} {v : Value} (h : w.cell? p = some v) (o : Obj) : (w.alloc o).cell? p = some v := (World.cell?_alloc_lt w o p (World.block_lt_of_cell? w p h)).trans h
theorem cell_be {w w' : World} {p : Addr} {v : Value} (h : w.cell? p = some v) (hb : Below w.heap.size w w') : w'.cell? p = some v := (hb.cell (World.block_lt_of_cell? w p h)).trans h
theorem cell_blk {w : World} {g i : Nat} {cs : Array Value} {e : TypeId} {v : Value} (h : w.heap[g]? = some (.cells cs e (0, 0))) (hv : cs[i]? = some v) : w.cell? ⟨g, i, none⟩ = some v := (cell_of_row w g i cs e (0, 0) h).trans hv
theorem cell_new (w : World) (cs : List Value) (e : TypeId) : ∀ j u, cs[j]? = some u → (w.alloc (.cells cs.toArray e)).cell? ⟨w.heap.size, 0 + j, none⟩ = some u := fun j u hu => by
  rw [Nat.zero_add]
  exact cell_blk (heap_alloc_new w _) (by simpa using hu)
theorem free_blk {w : World} {g i : Nat} {cs : Array Value} {e : TypeId} (h : w.heap[g]? = some (.cells cs e (0, 0))) : w.frozen? ⟨g, i, none⟩ = false := by simp [World.frozen?, h]
theorem set_blk {w : World} {g i : Nat} {cs : Array Value} {e : TypeId} (h : w.heap[g]? = some (.cells cs e (0, 0))) (v : Value) : (w.setCell ⟨g, i, none⟩ v).heap[g]? = some (.cells (cs.setIfInBounds i v) e (0, 0)) := by
  simp [World.setCell, Array.getElem?_modify, h]
theorem min_nat (n : Nat) (b : Int) (hb : 0 ≤ b) : ∃ k : Nat, min (n : Int) b = (k : Int) ∧ k ≤ n ∧ (k : Int) ≤ b ∧ (k = n ∨ (k : Int) = b) := ⟨(min (n : Int) b).toNat, by omega, by omega, by omega, by omega⟩
theorem retB {a b : Bool} (h : a = b) : Ending.returned (.bool a) = .returned (.bool b) := by rw [h]
theorem retI {k : IntKind} {a b : Int} (h : a = b) : Ending.returned (.int k a) = .returned (.int k b) := by rw [h]
theorem take_pred {α : Type} {l : List α} {k : Nat} {x : α} (h0 : 0 < k) (hx : l[k - 1]? = some x) : l.take k = l.take (k - 1) ++ [x] := by
  have h2 : k = (k - 1) + 1 := by omega
  conv => lhs; rw [h2]
  rw [List.take_add_one, hx]; rfl
theorem take_rev {α : Type} {l : List α} {k : Nat} {x : α} (h0 : 0 < k) (hx : l[k - 1]? = some x) : (l.take k).reverse = x :: (l.take (k - 1)).reverse := by
  rw [take_pred h0 hx, List.reverse_append]; rfl
theorem take_snoc {α : Type} {l : List α} {k : Nat} {x : α} (hx : l[k]? = some x) : l.take (k + 1) = l.take k ++ [x] := by
  rw [List.take_add_one, hx]; rfl
theorem set_same {α : Type} {l : List α} {k : Nat} {x : α} (h : l[k]? = some x) : l.set k x = l := by
  apply List.ext_getElem?
  intro i
  rw [List.getElem?_set]
  split
  · rename_i e
    subst e
    split
    · exact h.symm
    · rename_i h2
      exact absurd (List.getElem?_eq_some_iff.1 h).1 h2
  · rfl
theorem get_some {α : Type} {l : List α} {k : Nat} (h : k < l.length) : ∃ x, l[k]? = some x := ⟨l[k], List.getElem?_eq_getElem h⟩

end Go.Cl

/-
What an argument reads as, for the claim's form, is what it reads as for the walks: by the type's shape. No program in sight.
-/
namespace Go.Cl
open Go.RowKit Go.ChangeShapes Go.WideShapes Go.Deep

/-- The type t of the program P lies in memory as T says. -/
structure Lifts {α : Type} (P : Program) (t : TypeId) (T : Ty α) : Prop where
  size : P.cellsOf t = T.size
  bytes : P.bytesOf t = T.bytes
  read : ∀ {H : Type} (enc : TypeId × Value → H) (w : World) (base : Nat) (held : Bool) (fuel : Nat) (cs : List Value) (x : DataW H × List MemPlace),
    DataW.trod enc P w base (fun _ => true) held fuel t cs = some x → (∀ n ∈ x.1.weights P t, n ≤ reachBytes) → ∃ d, T.rep w (lt w.heap.size) d cs

theorem reach_le : reachBytes ≤ 140737488355328 := by decide

theorem lifts_str {P : Program} {t : TypeId} (ht : P.underlying t = some .string) (hc : P.cellsOf t = 1) (hb : P.bytesOf t = 16) : Lifts P t tStr where
  size := hc
  bytes := hb
  read enc w base held fuel cs x h hw := by
    obtain ⟨s, rfl, rfl, _⟩ := DataW.trod_string ht h
    refine ⟨s, rfl, ?_⟩
    have h1 := hw s.data.toList.length (by rw [DataW.weights]; exact List.mem_singleton.2 rfl)
    have e : s.data.toList.length = s.size := by rw [ByteArray.size, Array.length_toList]
    have h2 := reach_le
    omega

/-- An argument of a law. -/
theorem Lifts.arg {α : Type} {T : Ty α} {P : Program} {ts : List TypeId} {t : TypeId} (hT : Lifts P t T) {H : Type} {enc : TypeId × Value → H} {w : World} {base : Nat} {held : Bool} {v : Value} {ds : List (DataW H)} {d : DataW H} {p : List MemPlace}
    (h : DataW.Trod enc P w base (fun _ => true) held t v d p) (hw : (DataW.weightsEach P ts ds).all (· ≤ reachBytes) = true) {j : Nat} (htj : ts[j]? = some t) (hdj : ds[j]? = some d) :
    ∃ x, T.rep w (lt w.heap.size) x v.cells.toList := by
  obtain ⟨fuel, hf⟩ := h
  exact hT.read enc w base held fuel _ _ hf fun n hn => by
    have := List.all_eq_true.1 hw _ (DataW.weights_mem_each htj hdj n hn)
    simpa using this

end Go.Cl

/-
Slices that the call made itself: what they own; append as a law over what the source reads as. No program in sight.
-/
namespace Go.Cl
open Go.RowKit

/-- A fresh block as a slice. -/
theorem Sl.fresh {α : Type} {T : Ty α} {w : World} {B n : Nat} {xs : List α} {cells : List Value} (e : TypeId) (hr : Row T w (lt B) xs cells) (hB : B ≤ w.heap.size) (hn : n = xs.length) (hb : n * T.bytes ≤ 140737488355328) :
    Sl T (w.alloc (.cells cells.toArray e)) (lt (w.heap.size + 1)) (some ⟨w.heap.size, 0, none⟩) n n xs :=
  ⟨hn, Nat.le_refl _, hb, by have := Nat.mul_le_mul_left n T.pos; unfold maxLen; omega, by simp, fun h0 => ⟨w.heap.size, 0, cells, rfl, Nat.lt_succ_self _,
    (hr.keep fun p hp => World.cell?_alloc_lt w _ p (Nat.lt_of_lt_of_le hp hB)).more fun b hb => by have h1 : b < B := hb; show b < w.heap.size + 1; omega,
    fun j u hu => by
      rw [cell_of_row _ w.heap.size _ cells.toArray e (0, 0) (heap_alloc_new w _)]
      simpa using hu⟩⟩

/-- A row that the call owns, and what it reads as. -/
def Own {α : Type} (T : Ty α) (w : World) (base : Nat) (e : TypeId) (D : Nat → Prop) (v : Value) (n : Nat) (xs : List α) : Prop :=
  ∃ cells, w.ownsRow base e T.size v n cells ∧ Row T w D xs cells

section
variable {α : Type} {T : Ty α} {w w' : World} {base : Nat} {e : TypeId} {D D' : Nat → Prop} {v : Value} {n : Nat} {xs : List α}
theorem Own.nil (w : World) (base : Nat) (e : TypeId) (D : Nat → Prop) : Own T w base e D (.slice none 0 0) 0 ([] : List α) := ⟨[], World.ownsRow_nil w base e T.size, Row.nil⟩
theorem Own.more (h : Own T w base e D v n xs) (hk : ∀ b, D b → D' b) : Own T w base e D' v n xs := by
  obtain ⟨cells, h1, h2⟩ := h
  exact ⟨cells, h1, h2.more hk⟩
theorem Own.form (h : Own T w base e D v n xs) : ∃ A c, v = .slice A n c := by
  obtain ⟨cells, h1, h2⟩ := h
  rcases h1.2 with ⟨rfl, rfl⟩ | ⟨g, cap, cur, rfl, _⟩
  · exact ⟨none, 0, rfl⟩
  · exact ⟨_, _, rfl⟩
theorem Own.len (h : Own T w base e D v n xs) (hpos : 0 < T.size) : n = xs.length := by
  obtain ⟨cells, h1, h2⟩ := h
  have e1 := h1.1
  rw [h2.len] at e1
  exact (Nat.eq_of_mul_eq_mul_right hpos e1).symm
theorem Own.lt (h : Own T w base e D v n xs) : ∀ k, v.ownBlock = some k → base ≤ k ∧ k < w.heap.size := by
  obtain ⟨cells, h1, _⟩ := h
  exact h1.lt
/-- Read as a slice: what it leads to lies in D or in the row itself. -/
theorem Own.sl {A : Option Addr} {c : Nat} (h : Own T w base e D (.slice A n c) n xs) (hpos : 0 < T.size) (hn : n * T.bytes ≤ 140737488355328) :
    Sl T w (fun b => D b ∨ (base ≤ b ∧ b < w.heap.size)) A n c xs := by
  have hl := h.len hpos
  obtain ⟨cells, h1, h2⟩ := h
  rcases h1.2 with ⟨hv, h0⟩ | ⟨g, cap, cur, hv, hb, hh, hnc, hcm, hsz, htk⟩
  · injection hv with hA hn0 hc0
    subst hA hc0
    subst h0
    exact ⟨hl, Nat.le_refl _, by simp, by simp, fun _ => rfl, fun h => absurd h (by omega)⟩
  · injection hv with hA hn0 hc0
    subst hA hc0
    have hlt := (Array.getElem?_eq_some_iff.1 hh).1
    refine ⟨hl, hnc, hn, hcm, by simp, fun _ => ⟨g, 0, cells, rfl, .inr ⟨hb, hlt⟩, h2.more fun b hb => .inl hb, fun j u hu => ?_⟩⟩
    rw [cell_of_row w g _ cur e (0, 0) hh, ← htk] at *
    have hj := (List.getElem?_eq_some_iff.1 hu).1
    rw [List.length_take] at hj
    rw [List.getElem?_take_of_lt (by omega)] at hu
    simpa using hu
/-- Kept where the row's own block and the blocks of D are as they were. -/
theorem Own.kept {row : Option Nat} (h : Own T w base e D v n xs) (hg : w.grownBy w' row) (hne : v.ownBlock = none ∨ v.ownBlock ≠ row) (hD : ∀ b, D b → b < w.heap.size ∧ some b ≠ row) : Own T w' base e D v n xs := by
  obtain ⟨cells, h1, h2⟩ := h
  exact ⟨cells, h1.kept hg hne, h2.keep fun p hp => World.cell?_of_block (hg.block p.block (hD _ hp).1 (hD _ hp).2)⟩
theorem Own.below {B : Nat} (h : Own T w base e D v n xs) (hb : Below B w w') (hv : ∀ k, v.ownBlock = some k → k < B) (hD : ∀ b, D b → b < B) : Own T w' base e D v n xs := by
  obtain ⟨cells, h1, h2⟩ := h
  refine ⟨cells, ⟨h1.1, ?_⟩, h2.keep fun p hp => hb.cell (hD _ hp)⟩
  rcases h1.2 with h3 | ⟨g, cap, cur, rfl, hb', hh, rest⟩
  · exact .inl h3
  · exact .inr ⟨g, cap, cur, rfl, hb', by rw [hb.block g (hv g rfl)]; exact hh, rest⟩
theorem Own.alloc (h : Own T w base e D v n xs) (o : Obj) (hD : ∀ b, D b → b < w.heap.size) : Own T (w.alloc o) base e D v n xs :=
  h.below ((Below.refl w.heap.size w).alloc (Nat.le_refl _) o) (fun k hk => (h.lt k hk).2) hD
theorem Own.drew (h : Own T w base e D v n xs) : Own T w.drew base e D v n xs := by
  obtain ⟨cells, h1, h2⟩ := h
  exact ⟨cells, h1.drew, h2.keep fun _ _ => rfl⟩
end

theorem set_app_left {α : Type} (l r : List α) (i : Nat) (u : α) (h : i < l.length) : (l ++ r).set i u = l.set i u ++ r := by
  rw [List.set_append, if_pos h]
theorem set_app_right {α : Type} (l r : List α) (i : Nat) (u : α) : (l ++ r).set (l.length + i) u = l ++ r.set i u := by
  rw [List.set_append, if_neg (by omega), Nat.add_sub_cancel_left]
/-- One cell of a row is set: the element that it belongs to reads as another. -/
theorem Row.set_ {α : Type} {T : Ty α} {w : World} {D : Nat → Prop} {xs : List α} {cs : List Value} (h : Row T w D xs cs) {i j : Nat} {x y : α} {u : Value} (hx : xs[i]? = some x) (hj : j < T.size)
    (hr : ∀ c, T.rep w D x c → (∀ k v, c[k]? = some v → cs[i * T.size + k]? = some v) → T.rep w D y (c.set j u)) : Row T w D (xs.set i y) (cs.set (i * T.size + j) u) := by
  induction xs generalizing cs i with
  | nil => simp at hx
  | cons z xs ih =>
    obtain ⟨c1, c2, rfl, h1, h2⟩ := h
    have hl := T.len h1
    match i with
    | 0 =>
      have hz : z = x := by simpa using hx
      subst hz
      rw [Nat.zero_mul, Nat.zero_add, set_app_left _ _ _ _ (by omega)]
      exact ⟨_, _, rfl, hr c1 h1 (fun k v hk => by
        have := (List.getElem?_eq_some_iff.1 hk).1
        rw [Nat.zero_mul, Nat.zero_add, List.getElem?_append_left (by omega)]
        exact hk), h2⟩
    | i + 1 =>
      have hx' : xs[i]? = some x := by simpa using hx
      rw [show (i + 1) * T.size + j = c1.length + (i * T.size + j) from by rw [Nat.succ_mul, hl]; omega, set_app_right]
      refine ⟨c1, _, rfl, h1, ih h2 hx' fun c hc hk => hr c hc fun k v hv => ?_⟩
      rw [show (i + 1) * T.size + k = c1.length + (i * T.size + k) from by rw [Nat.succ_mul, hl]; omega, List.getElem?_append_right (by omega), Nat.add_sub_cancel_left]
      exact hk k v hv
/-- A store into a row that the call owns. -/
theorem Own.stored {α : Type} {T : Ty α} {w : World} {base g n c : Nat} {e : TypeId} {D : Nat → Prop} {xs : List α} (h : Own T w base e D (.slice (some ⟨g, 0, none⟩) n c) n xs) (hD : ∀ b, D b → b ≠ g)
    {i j : Nat} {x y : α} {u : Value} (hx : xs[i]? = some x) (hj : j < T.size) (hr : ∀ cs, T.rep w D x cs → T.rep w D y (cs.set j u)) :
    Own T (w.setCell ⟨g, i * T.size + j, none⟩ u) base e D (.slice (some ⟨g, 0, none⟩) n c) n (xs.set i y) := by
  obtain ⟨cells, h1, h2⟩ := h
  exact ⟨_, (h1.stored (i * T.size + j) u).1, (h2.set_ hx hj fun c hc _ => hr c hc).keep fun p hp => World.cell?_setCell_other w _ p u (fun e => hD _ hp (by rw [← e]))⟩
/-- Where a row lies that is not empty. -/
theorem Own.block {α : Type} {T : Ty α} {w : World} {base n c : Nat} {e : TypeId} {D : Nat → Prop} {xs : List α} {A : Option Addr} (h : Own T w base e D (.slice A n c) n xs) (hn : 0 < n) :
    ∃ g cells, A = some ⟨g, 0, none⟩ ∧ base ≤ g ∧ g < w.heap.size ∧ Row T w D xs cells ∧ (∀ k u, cells[k]? = some u → w.cell? ⟨g, k, none⟩ = some u) ∧ ∀ k, w.frozen? ⟨g, k, none⟩ = false := by
  obtain ⟨cells, h1, h2⟩ := h
  rcases h1.2 with ⟨hv, h0⟩ | ⟨g, cap, cur, hv, hb, hh, hnc, hcm, hsz, htk⟩
  · omega
  · injection hv with hA hn0 hc0
    subst hA hc0
    refine ⟨g, cells, rfl, hb, (Array.getElem?_eq_some_iff.1 hh).1, h2, fun k u hu => ?_, fun k => free_blk hh⟩
    rw [← htk, List.getElem?_take] at hu
    split at hu
    · exact cell_blk hh (by simpa using hu)
    · cases hu

/-- What the program's tables say of a slice type and its element. -/
structure ElemOf (P : Program) (t e : TypeId) (size bytes : Nat) : Prop where
  under : P.underlying t = some (.slice e)
  info : ∃ i z, P.info? e = some i ∧ i.zero = some z ∧ i.size = size ∧ i.bytes = bytes ∧ z.cells.size = size
  pos : 0 < size

theorem mkElem {P : Program} {t e : TypeId} {size bytes : Nat} {z : Value} (h1 : P.underlying t = some (.slice e)) (h2 : (P.info? e).map (fun i => (i.zero, i.size, i.bytes)) = some (some z, size, bytes)) (h3 : z.cells.size = size) (h4 : 0 < size) : ElemOf P t e size bytes :=
  ⟨h1, by
    cases hi : P.info? e with
    | none => rw [hi] at h2; cases h2
    | some i =>
      rw [hi] at h2
      simp only [Option.map_some, Option.some.injEq, Prod.mk.injEq] at h2
      exact ⟨i, z, rfl, h2.1, h2.2.1, h2.2.2, h3⟩, h4⟩

section
variable {P : Program} (w : World)

theorem run_append_of_nil (base : Nat) (t ty e : TypeId) (i : TypeInfo) (size : Nat) (ht : P.underlying t = some (.slice e)) (hi : P.info? e = some i)
    (v : Value) (n : Nat) (xs : List Value) (hown : w.ownsRow base e size v n xs) (c : Nat) : (Builtin.append_ #[t, t] ty #[v, .slice none 0 c]).run P w = .ok v w := by
  rcases hown.2 with ⟨rfl, rfl⟩ | ⟨g, cap, cur, rfl, _, _, hnc, _⟩
  · simp [Builtin.append_, run_underlying ht, sizeOf, typeInfo, hi, Builtin.lenOf, Builtin.firstCells]
  · simp [Builtin.append_, run_underlying ht, sizeOf, typeInfo, hi, Builtin.lenOf, Builtin.firstCells, hnc, storeCells]

/-- append(own, source...), whatever the source: nil, empty or not. -/
theorem run_apd {α : Type} {T : Ty α} {t ty e : TypeId} {bytes base : Nat} (hE : ElemOf P t e T.size bytes) {v : Value} {n : Nat} {cs : List Value} (hown : w.ownsRow base e T.size v n cs)
    {D : Nat → Prop} {A : Option Addr} {m c : Nat} {ys : List α} (hs : Sl T w D A m c ys) (h63 : n + m ≤ 140737488355328) (hbytes : (n + m) * bytes ≤ 140737488355328) (hbase : base ≤ w.heap.size) :
    ∃ v' w' news, (Builtin.append_ #[t, t] ty #[v, .slice A m c]).run P w = .ok v' w' ∧ Row T w D ys news ∧ w'.ownsRow base e T.size v' (n + m) (cs ++ news) ∧ w.grownBy w' v.ownBlock ∧
      (v'.ownBlock = v.ownBlock ∨ v'.ownBlock = some w.heap.size) := by
  obtain ⟨i, z, hi, hz, hsize, hby, hzs⟩ := hE.info
  rcases Nat.eq_zero_or_pos m with h0 | h0
  · subst h0
    obtain rfl : ys = [] := List.eq_nil_of_length_eq_zero hs.hn.symm
    rcases A with _ | ad
    · obtain rfl : c = 0 := hs.nil_ rfl
      exact ⟨v, w, [], run_append_of_nil w base t ty e i T.size hE.under hi v n cs hown 0, Row.nil, by simpa using hown, World.grownBy.refl w _, .inl rfl⟩
    · obtain ⟨v', w', hrun, h2, h3, _, h5⟩ := run_append_own_at (P := P) w base t ty e i z T.size bytes hE.under hi hz hsize hby hzs hE.pos v n cs hown ad 0 c [] (by simp) (by simp) (by simp) (by unfold maxLen; omega) hbytes hbase
      exact ⟨v', w', [], hrun, Row.nil, h2, h3, h5⟩
  · obtain ⟨b, o, cells, rfl, hb, hr, hcell⟩ := hs.at_ h0
    obtain ⟨v', w', hrun, h2, h3, _, h5⟩ := run_append_own_at (P := P) w base t ty e i z T.size bytes hE.under hi hz hsize hby hzs hE.pos v n cs hown ⟨b, o, none⟩ m c cells (by rw [hr.len, hs.hn])
      (fun j u hu => by
        rw [← hcell j u hu]
        congr 1
        unfold Addr.add
        split
        · rename_i h; subst h; rfl
        · rfl) hr.one_ (by unfold maxLen; omega) hbytes hbase
    exact ⟨v', w', cells, hrun, hr, h2, h3, h5⟩

theorem wp_apd {o : Oper} {a : Act} {K : Act → World → Prop} {Q : Exit → Act → World → Prop} (s x : Operand) (t : TypeId)
    (ho : o.op = .call { callee := .builtin .append, args := #[s, x], argTypes := #[t, t] })
    {α : Type} {T : Ty α} {e : TypeId} {bytes base : Nat} (hE : ElemOf P t e T.size bytes) {v : Value} {n : Nat} {cs : List Value} (hv : a.eval s = v) (hown : w.ownsRow base e T.size v n cs)
    {D : Nat → Prop} {A : Option Addr} {m c : Nat} {ys : List α} (hx : a.eval x = .slice A m c) (hs : Sl T w D A m c ys) (h63 : n + m ≤ 140737488355328) (hbytes : (n + m) * bytes ≤ 140737488355328) (hbase : base ≤ w.heap.size)
    (h : ∀ v' w' news, Row T w D ys news → w'.ownsRow base e T.size v' (n + m) (cs ++ news) → w.grownBy w' v.ownBlock → (v'.ownBlock = v.ownBlock ∨ v'.ownBlock = some w.heap.size) → K (a.put o.dst v') w') : o.wp P a w K Q := by
  obtain ⟨v', w', news, hrun, h1, h2, h3, h4⟩ := run_apd (P := P) (ty := o.type) w hE hown hs h63 hbytes hbase
  unfold Oper.wp execOp
  simp only [ho, resolve, invoke, builtin, Sem.run_bind, Sem.run_pure, Result.andThen_ok, List.map_toArray, List.map_cons, List.map_nil, hv, hx, hrun]
  exact h v' w' news h1 h2 h3 h4

theorem wpList_apd {ops : Array Oper} {rest : List Oper} {o : Oper} {a : Act} {Q : Exit → Act → World → Prop} (hgd : o.guard = none) (s x : Operand) (t : TypeId)
    (ho : o.op = .call { callee := .builtin .append, args := #[s, x], argTypes := #[t, t] })
    {α : Type} {T : Ty α} {e : TypeId} {bytes base : Nat} (hE : ElemOf P t e T.size bytes) {v : Value} {n : Nat} {cs : List Value} (hv : a.eval s = v) (hown : w.ownsRow base e T.size v n cs)
    {D : Nat → Prop} {A : Option Addr} {m c : Nat} {ys : List α} (hx : a.eval x = .slice A m c) (hs : Sl T w D A m c ys) (h63 : n + m ≤ 140737488355328) (hbytes : (n + m) * bytes ≤ 140737488355328) (hbase : base ≤ w.heap.size)
    (h : ∀ v' w' news, Row T w D ys news → w'.ownsRow base e T.size v' (n + m) (cs ++ news) → w.grownBy w' v.ownBlock → (v'.ownBlock = v.ownBlock ∨ v'.ownBlock = some w.heap.size) → wpList P ops Q rest (a.put o.dst v') w') : wpList P ops Q (o :: rest) a w :=
  wpList_plain hgd fun _ hK => wp_apd w s x t ho hE hv hown hx hs h63 hbytes hbase fun v' w' news h1 h2 h3 h4 => hK _ _ (h v' w' news h1 h2 h3 h4)
end

section
variable {P : Program} (w : World)
/-- append(own, source...): what is owned behind it reads as both lists. -/
theorem wpList_apo {ops : Array Oper} {rest : List Oper} {o : Oper} {a : Act} {Q : Exit → Act → World → Prop} (hgd : o.guard = none) (s x : Operand) (t : TypeId)
    (ho : o.op = .call { callee := .builtin .append, args := #[s, x], argTypes := #[t, t] })
    {α : Type} {T : Ty α} {e : TypeId} {bytes base : Nat} (hE : ElemOf P t e T.size bytes) {v : Value} {n : Nat} {xs : List α} {D : Nat → Prop} (hv : a.eval s = v) (hown : Own T w base e D v n xs) (hD : ∀ b, D b → b < w.heap.size ∧ some b ≠ v.ownBlock)
    {D' : Nat → Prop} {A : Option Addr} {m c : Nat} {ys : List α} (hx : a.eval x = .slice A m c) (hs : Sl T w D' A m c ys) (hD' : ∀ b, D' b → b < w.heap.size ∧ some b ≠ v.ownBlock) (h63 : n + m ≤ 140737488355328) (hbytes : (n + m) * bytes ≤ 140737488355328) (hbase : base ≤ w.heap.size)
    (h : ∀ v' w', Own T w' base e (fun b => D b ∨ D' b) v' (n + m) (xs ++ ys) → w.grownBy w' v.ownBlock → Below base w w' → (v'.ownBlock = v.ownBlock ∨ v'.ownBlock = some w.heap.size) → wpList P ops Q rest (a.put o.dst v') w') : wpList P ops Q (o :: rest) a w := by
  obtain ⟨cs, h1, h2⟩ := hown
  refine wpList_apd w hgd s x t ho hE hv h1 hx hs h63 hbytes hbase fun v' w' news hn ho' hg hb => ?_
  have hk : ∀ {D : Nat → Prop}, (∀ b, D b → b < w.heap.size ∧ some b ≠ v.ownBlock) → ∀ p : Addr, D p.block → w'.cell? p = w.cell? p := fun hD p hp => World.cell?_of_block (hg.block p.block (hD _ hp).1 (hD _ hp).2)
  exact h v' w' ⟨_, ho', ((h2.keep (hk hD)).more fun _ h => .inl h).append ((hn.keep (hk hD')).more fun _ h => .inr h)⟩ hg ((Below.refl base w).grown hg hbase fun k hk => (h1.lt k hk).1) hb
end

/-- A row of strings that the call owns. -/
def OwnS (w : World) (base : Nat) (e : TypeId) (v : Value) (n : Nat) (xs : List ByteArray) : Prop := Own tStr w base e (fun _ => False) v n xs

/-- One string more, or a slice of strings more. -/
theorem wpList_aps {P : Program} (w : World) {ops : Array Oper} {rest : List Oper} {o : Oper} {a : Act} {Q : Exit → Act → World → Prop} (hgd : o.guard = none) (s x : Operand) (t : TypeId)
    (ho : o.op = .call { callee := .builtin .append, args := #[s, x], argTypes := #[t, t] })
    {e : TypeId} {bytes base : Nat} (hE : ElemOf P t e 1 bytes) {v : Value} {n : Nat} {xs : List ByteArray} (hv : a.eval s = v) (hown : OwnS w base e v n xs)
    {D' : Nat → Prop} {A : Option Addr} {m c : Nat} {ys : List ByteArray} (hx : a.eval x = .slice A m c) (hs : Sl tStr w D' A m c ys) (h63 : n + m ≤ 140737488355328) (hbytes : (n + m) * bytes ≤ 140737488355328) (hbase : base ≤ w.heap.size)
    (h : ∀ v' w', OwnS w' base e v' (n + m) (xs ++ ys) → w.grownBy w' v.ownBlock → Below base w w' → (v'.ownBlock = v.ownBlock ∨ v'.ownBlock = some w.heap.size) → wpList P ops Q rest (a.put o.dst v') w') : wpList P ops Q (o :: rest) a w := by
  obtain ⟨cs, h1, h2⟩ := hown
  refine wpList_apd (T := tStr) w hgd s x t ho hE hv h1 hx hs h63 hbytes hbase fun v' w' news hn ho' hg hb => ?_
  exact h v' w' ⟨_, ho', (row_str h2).append (row_str hn)⟩ hg ((Below.refl base w).grown hg hbase fun k hk => (h1.lt k hk).1) hb

theorem OwnS.al {w : World} {base : Nat} {e : TypeId} {v : Value} {n : Nat} {xs : List ByteArray} (h : OwnS w base e v n xs) (o : Obj) : OwnS (w.alloc o) base e v n xs := Own.alloc h o fun _ h => h.elim
theorem OwnS.sl {w : World} {base : Nat} {e : TypeId} {v : Value} {n : Nat} {xs : List ByteArray} (h : OwnS w base e v n xs) (hn : n * 16 ≤ 140737488355328) : ∃ A c, v = .slice A n c ∧ Sl tStr w (lt w.heap.size) A n c xs := by
  obtain ⟨A, c, rfl⟩ := Own.form h
  exact ⟨A, c, rfl, (Own.sl h (by decide) hn).more fun b hb => hb.elim False.elim fun hb => hb.2⟩

/-- Data that lie alike in whatever world: nothing is led to. -/
def Flat {α : Type} (T : Ty α) : Prop := ∀ {w w' : World} {D D' : Nat → Prop} {x : α} {cs : List Value}, T.rep w D x cs → T.rep w' D' x cs
theorem flatInt (k : IntKind) : Flat (tInt k) := fun h => h
theorem flatStr : Flat tStr := fun h => h
theorem flatPair {α β : Type} {S : Ty α} {T : Ty β} (hS : Flat S) (hT : Flat T) : Flat (tPair S T) := fun h => by
  obtain ⟨c1, c2, rfl, h1, h2⟩ := h
  exact ⟨c1, c2, rfl, hS h1, hT h2⟩
theorem Row.flat {α : Type} {T : Ty α} (hT : Flat T) {w w' : World} {D D' : Nat → Prop} {xs : List α} {cs : List Value} (h : Row T w D xs cs) : Row T w' D' xs cs := by
  induction xs generalizing cs with
  | nil => exact h
  | cons x xs ih =>
    obtain ⟨c1, c2, rfl, h1, h2⟩ := h
    exact ⟨c1, c2, rfl, hT h1, ih h2⟩
theorem Own.flat {α : Type} {T : Ty α} (hT : Flat T) {w : World} {base : Nat} {e : TypeId} {D D' : Nat → Prop} {v : Value} {n : Nat} {xs : List α} (h : Own T w base e D v n xs) : Own T w base e D' v n xs := by
  obtain ⟨cells, h1, h2⟩ := h
  exact ⟨cells, h1, h2.flat hT⟩
/-- A row of such data that the call owns. -/
def OwnF {α : Type} (T : Ty α) (w : World) (base : Nat) (e : TypeId) (v : Value) (n : Nat) (xs : List α) : Prop := Own T w base e (fun _ => False) v n xs
section
variable {α : Type} {T : Ty α} {w w' : World} {base : Nat} {e : TypeId} {v : Value} {n : Nat} {xs : List α}
theorem OwnF.nil (w : World) (base : Nat) (e : TypeId) : OwnF T w base e (.slice none 0 0) 0 ([] : List α) := Own.nil _ _ _ _
theorem OwnF.al (h : OwnF T w base e v n xs) (o : Obj) : OwnF T (w.alloc o) base e v n xs := Own.alloc h o fun _ h => h.elim
theorem OwnF.below {B : Nat} (h : OwnF T w base e v n xs) (hb : Below B w w') (hv : w.heap.size ≤ B) : OwnF T w' base e v n xs := Own.below h hb (fun k hk => Nat.lt_of_lt_of_le (Own.lt h k hk).2 hv) fun _ h => h.elim
theorem OwnF.drew (h : OwnF T w base e v n xs) : OwnF T w.drew base e v n xs := Own.drew h
theorem OwnF.sl (h : OwnF T w base e v n xs) (hpos : 0 < T.size) (hn : n * T.bytes ≤ 140737488355328) : ∃ A c, v = .slice A n c ∧ Sl T w (lt w.heap.size) A n c xs := by
  obtain ⟨A, c, rfl⟩ := Own.form h
  exact ⟨A, c, rfl, (Own.sl h hpos hn).more fun b hb => hb.elim False.elim fun hb => hb.2⟩
end
/-- append to such a row: one more, or a slice of them. -/
theorem wpList_apf {P : Program} (w : World) {ops : Array Oper} {rest : List Oper} {o : Oper} {a : Act} {Q : Exit → Act → World → Prop} {α : Type} {T : Ty α} (hT : Flat T) (hgd : o.guard = none) (s x : Operand) (t : TypeId)
    (ho : o.op = .call { callee := .builtin .append, args := #[s, x], argTypes := #[t, t] })
    {e : TypeId} {bytes base : Nat} (hE : ElemOf P t e T.size bytes) {v : Value} {n : Nat} {xs : List α} (hv : a.eval s = v) (hown : OwnF T w base e v n xs)
    {D' : Nat → Prop} {A : Option Addr} {m c : Nat} {ys : List α} (hx : a.eval x = .slice A m c) (hs : Sl T w D' A m c ys) (h63 : n + m ≤ 140737488355328) (hbytes : (n + m) * bytes ≤ 140737488355328) (hbase : base ≤ w.heap.size)
    (h : ∀ v' w', OwnF T w' base e v' (n + m) (xs ++ ys) → w.grownBy w' v.ownBlock → Below base w w' → (v'.ownBlock = v.ownBlock ∨ v'.ownBlock = some w.heap.size) → wpList P ops Q rest (a.put o.dst v') w') : wpList P ops Q (o :: rest) a w := by
  obtain ⟨cs, h1, h2⟩ := hown
  refine wpList_apd (T := T) w hgd s x t ho hE hv h1 hx hs h63 hbytes hbase fun v' w' news hn ho' hg hb => ?_
  exact h v' w' ⟨_, ho', (h2.flat hT).append (hn.flat hT)⟩ hg ((Below.refl base w).grown hg hbase fun k hk => (h1.lt k hk).1) hb
/-- One new element in a block of its own. -/
theorem Sl.one_new {α : Type} {T : Ty α} (hT : Flat T) (w : World) (e : TypeId) {x : α} {cs : List Value} (hr : T.rep w (fun _ => False) x cs) (hb : T.bytes ≤ 140737488355328) : Sl T (w.alloc (.cells cs.toArray e)) (lt (w.heap.size + 1)) (some ⟨w.heap.size, 0, none⟩) 1 1 [x] :=
  Sl.fresh (B := w.heap.size) e (Row.one (hT hr)) (Nat.le_refl _) rfl (by omega)

/-- append of one element that lies in a block of its own: the run. -/
theorem run_ap1 {P : Program} (w : World) {t ty : TypeId} {α : Type} {T : Ty α} {e : TypeId} {bytes base : Nat} (hE : ElemOf P t e T.size bytes) {v : Value} {n : Nat} {xs : List α} {D : Nat → Prop} (hown : Own T w base e D v n xs) (hD : ∀ b, D b → b < w.heap.size ∧ some b ≠ v.ownBlock)
    {b off c : Nat} {y : α} {cs : List Value} (hr : T.rep w D y cs) (hcell : ∀ j u, cs[j]? = some u → w.cell? ⟨b, off + j, none⟩ = some u) (h63 : n + 1 ≤ 140737488355328) (hbytes : (n + 1) * bytes ≤ 140737488355328) (hbase : base ≤ w.heap.size) :
    ∃ v' w', (Builtin.append_ #[t, t] ty #[v, .slice (some ⟨b, off, none⟩) 1 c]).run P w = .ok v' w' ∧ Own T w' base e D v' (n + 1) (xs ++ [y]) ∧ w.grownBy w' v.ownBlock ∧ Below base w w' ∧ (v'.ownBlock = v.ownBlock ∨ v'.ownBlock = some w.heap.size) := by
  obtain ⟨cells, h1, h2⟩ := hown
  obtain ⟨i, z, hi, hz, hsize, hby, hzs⟩ := hE.info
  obtain ⟨v', w', hrun, ho', hg, _, hb⟩ := run_append_own_at (P := P) w base t ty e i z T.size bytes hE.under hi hz hsize hby hzs hE.pos v n cells h1 ⟨b, off, none⟩ 1 c cs (by rw [T.len hr, Nat.one_mul])
    (fun j u hu => by
      rw [← hcell j u hu]
      congr 1
      unfold Addr.add
      split
      · rename_i h; subst h; rfl
      · rfl) (T.one hr) (by unfold maxLen; omega) hbytes hbase
  have hk : ∀ p : Addr, D p.block → w'.cell? p = w.cell? p := fun p hp => World.cell?_of_block (hg.block p.block (hD _ hp).1 (hD _ hp).2)
  exact ⟨v', w', hrun, ⟨_, ho', (h2.keep hk).append (Row.one (T.keep hr hk))⟩, hg, (Below.refl base w).grown hg hbase fun k hk => (h1.lt k hk).1, hb⟩

/-- .. at the walk. -/
theorem wpList_ap1 {P : Program} (w : World) {ops : Array Oper} {rest : List Oper} {o : Oper} {a : Act} {Q : Exit → Act → World → Prop} (hgd : o.guard = none) (s x : Operand) (t : TypeId)
    (ho : o.op = .call { callee := .builtin .append, args := #[s, x], argTypes := #[t, t] })
    {α : Type} {T : Ty α} {e : TypeId} {bytes base : Nat} (hE : ElemOf P t e T.size bytes) {v : Value} {n : Nat} {xs : List α} {D : Nat → Prop} (hv : a.eval s = v) (hown : Own T w base e D v n xs) (hD : ∀ b, D b → b < w.heap.size ∧ some b ≠ v.ownBlock)
    {b off c : Nat} {y : α} {cs : List Value} (hx : a.eval x = .slice (some ⟨b, off, none⟩) 1 c) (hr : T.rep w D y cs) (hcell : ∀ j u, cs[j]? = some u → w.cell? ⟨b, off + j, none⟩ = some u) (h63 : n + 1 ≤ 140737488355328) (hbytes : (n + 1) * bytes ≤ 140737488355328) (hbase : base ≤ w.heap.size)
    (h : ∀ v' w', Own T w' base e D v' (n + 1) (xs ++ [y]) → w.grownBy w' v.ownBlock → Below base w w' → (v'.ownBlock = v.ownBlock ∨ v'.ownBlock = some w.heap.size) → wpList P ops Q rest (a.put o.dst v') w') : wpList P ops Q (o :: rest) a w := by
  obtain ⟨v', w', hrun, h1, h2, h3, h4⟩ := run_ap1 (P := P) (t := t) (ty := o.type) (c := c) w hE hown hD hr hcell h63 hbytes hbase
  refine wpList_plain hgd fun K hK => ?_
  unfold Oper.wp execOp
  simp only [ho, resolve, invoke, builtin, Sem.run_bind, Sem.run_pure, Result.andThen_ok, List.map_toArray, List.map_cons, List.map_nil, hv, hx, hrun]
  exact hK _ _ (h v' w' h1 h2 h3 h4)

theorem Own.down {α : Type} {T : Ty α} {w : World} {base base' : Nat} {e : TypeId} {D : Nat → Prop} {v : Value} {n : Nat} {xs : List α} (h : Own T w base e D v n xs) (hb : base' ≤ base) : Own T w base' e D v n xs := by
  obtain ⟨cells, h1, h2⟩ := h
  refine ⟨cells, ⟨h1.1, ?_⟩, h2⟩
  rcases h1.2 with h3 | ⟨g, cap, cur, hv, hb', rest⟩
  · exact .inl h3
  · exact .inr ⟨g, cap, cur, hv, Nat.le_trans hb hb', rest⟩

end Go.Cl

/-
A row of cells written in place: the block behind it; slices.Delete's and clear's ways with it. No program in sight.
-/
namespace Go.Cl
open Go.RowKit

theorem heap_setCells {b : Nat} {e : TypeId} {fr : Nat × Nat} : ∀ (vs : List Value) (o : Nat) (w : World) (cur : Array Value), w.heap[b]? = some (.cells cur e fr) → o + vs.length ≤ cur.size →
    ∃ cur', (w.setCells b o vs).heap[b]? = some (.cells cur' e fr) ∧ cur'.size = cur.size ∧ cur'.toList = cur.toList.take o ++ vs ++ cur.toList.drop (o + vs.length)
  | [], o, w, cur, h, _ => ⟨cur, h, rfl, by simp⟩
  | v :: r, o, w, cur, h, hl => by
    have h1 : (w.setCell ⟨b, o, none⟩ v).heap[b]? = some (.cells (cur.setIfInBounds o v) e fr) := by simp [World.setCell, Array.getElem?_modify, h]
    obtain ⟨cur', h2, h3, h4⟩ := heap_setCells r (o + 1) _ _ h1 (by simp at hl ⊢; omega)
    refine ⟨cur', h2, by simpa using h3, ?_⟩
    have hlt : o < cur.toList.length := by simp at hl ⊢; omega
    rw [h4, Array.toList_setIfInBounds]
    have e1 : (cur.toList.set o v).take (o + 1) = cur.toList.take o ++ [v] := by
      rw [List.take_add_one, List.take_set_of_le (by omega), List.getElem?_set_self hlt]
      rfl
    have e2 : (cur.toList.set o v).drop (o + 1 + r.length) = cur.toList.drop (o + 1 + r.length) := List.drop_set_of_lt (by omega)
    rw [e1, e2]
    simp [Nat.add_comm 1, Nat.add_assoc]
theorem heap_setCells_other {b k : Nat} (hk : k ≠ b) : ∀ (vs : List Value) (o : Nat) (w : World), (w.setCells b o vs).heap[k]? = w.heap[k]?
  | [], _, _ => rfl
  | v :: r, o, w => by
    rw [World.setCells, heap_setCells_other hk r]
    exact Below.heap_setCell _ _ _ _ hk
theorem grown_setCells (b : Nat) : ∀ (vs : List Value) (o : Nat) (w : World), w.grownBy (w.setCells b o vs) (some b)
  | [], _, w => World.grownBy.refl w _
  | v :: r, o, w => by
    have h1 : w.grownBy (w.setCell ⟨b, o, none⟩ v) (some b) := ⟨rfl, rfl, rfl, by simp, fun k _ hk => Below.heap_setCell _ _ _ _ (fun e => hk (by rw [e]))⟩
    have h2 := grown_setCells b r (o + 1) (w.setCell ⟨b, o, none⟩ v)
    exact ⟨h2.os.trans h1.os, h2.tape.trans h1.tape, h2.output.trans h1.output, Nat.le_trans h1.size h2.size, fun k hk hn => (h2.block k (Nat.lt_of_lt_of_le hk h1.size) hn).trans (h1.block k hk hn)⟩
theorem grownBy.trans' {a b c : World} {row : Option Nat} (h1 : a.grownBy b row) (h2 : b.grownBy c row) : a.grownBy c row :=
  ⟨h2.os.trans h1.os, h2.tape.trans h1.tape, h2.output.trans h1.output, Nat.le_trans h1.size h2.size, fun k hk hn => (h2.block k (Nat.lt_of_lt_of_le hk h1.size) hn).trans (h1.block k hk hn)⟩

/-- clear on one element. -/
theorem run_clear_one {P : Program} (w : World) (t e ty : TypeId) (z : Value) (zs : List Value) (ht : P.underlying t = some (.slice e)) (hv : ∀ w, (zeroValue e).run P w = .ok z w) (hz : (Builtin.zeroCells z.cells 1).toList = zs) (h1 : ∀ v ∈ zs, v.oneCell' = true) (b o c : Nat)
    (hc : ∀ j, j < zs.length → (w.cell? ⟨b, o + j, none⟩).isSome = true) (hf : ∀ j, j < zs.length → w.frozen? ⟨b, o + j, none⟩ = false) :
    (Builtin.clear_ #[t] ty #[.slice (some ⟨b, o, none⟩) 1 c]).run P w = .ok (.tuple #[]) (w.setCells b o zs) := by
  have hst := run_storeCells_cells (P := P) b o zs 0 w (by simpa using hc) (by simpa using hf) h1
  simp only [Nat.add_zero] at hst
  simp [Builtin.clear_, run_underlying ht, hv, hz, hst]

/-- Behind 'append(s[:i], s[i+1:]...)' and 'clear' of the last one: the row without that element. -/
theorem ownsRow_cut {w : World} {base g n c size i : Nat} {e : TypeId} {cells zs : List Value} (h : w.ownsRow base e size (.slice (some ⟨g, 0, none⟩) n c) n cells) (hi : i < n) (hz : zs.length = size) :
    ((w.drew.setCells g (0 + i * size) (cells.drop ((i + 1) * size))).setCells g ((n - 1) * size) zs).ownsRow base e size (.slice (some ⟨g, 0, none⟩) (n - 1) c) (n - 1) (cells.take (i * size) ++ cells.drop ((i + 1) * size)) := by
  have hlen := h.1
  rcases h.2 with ⟨hv, _⟩ | ⟨g', cap, cur, hv, hb, hh, hnc, hcm, hsz, htk⟩
  · cases hv
  · simp only [Value.slice.injEq, Option.some.injEq, Addr.mk.injEq, and_true, true_and] at hv
    obtain ⟨rfl, rfl⟩ := hv
    have m1 : (i + 1) * size ≤ n * size := Nat.mul_le_mul_right _ (by omega)
    have m2 : n * size ≤ c * size := Nat.mul_le_mul_right _ hnc
    have m3 : (n - 1) * size + size = n * size := by rw [← Nat.succ_mul]; congr 1; omega
    have m4 : i * size + size = (i + 1) * size := by rw [Nat.succ_mul]
    have hcl : cur.toList.length = c * size := by simpa using hsz
    have hn1 : (cells.drop ((i + 1) * size)).length = n * size - (i + 1) * size := by rw [List.length_drop, hlen]
    obtain ⟨cur1, h1, h2, h3⟩ := heap_setCells (cells.drop ((i + 1) * size)) (0 + i * size) w.drew cur hh (by omega)
    obtain ⟨cur2, h4, h5, h6⟩ := heap_setCells zs ((n - 1) * size) _ cur1 h1 (by omega)
    refine ⟨by rw [List.length_append, List.length_take, hn1]; omega, .inr ⟨g, c, cur2, rfl, hb, h4, by omega, hcm, by omega, ?_⟩⟩
    rw [h6, List.append_assoc, List.take_append_of_le_length (by rw [List.length_take]; simp; omega), List.take_take, Nat.min_self, h3, ← htk, List.take_append_of_le_length (by simp; omega)]
    rw [List.take_of_length_le (by simp; omega), Nat.zero_add, List.take_take, Nat.min_eq_left (by omega)]
theorem List.take_drop_erase {α : Type} (l : List α) (i : Nat) : l.take i ++ l.drop (i + 1) = l.eraseIdx i := (List.eraseIdx_eq_take_drop_succ l i).symm

end Go.Cl

/-
Contracts of the library at this translation, laid by the kit.
-/
namespace Go.Proofs
open Go.Shelf
def Tryz.lays169_ren : Go.Shelf.Ren := ⟨fun | 169 => 36 | n => n, fun | 70 => 61 | 9 => 9 | 0 => 0 | 72 => 64 | 37 => 62 | 127 => 133 | 3 => 3 | 5 => 5 | n => n, fun | n => n⟩
theorem Tryz.lays169 : Go.Proofs.Lays.n169 Tryz.prog Tryz.lays169_ren := {
  mixed := by kernel_rfl
  f169 := Tryz.func36.trans (congrArg some (by kernel_rfl))
  t0 := Tryz.underlying0
  a0 := Tryz.isAgg0
  z0 := Tryz.sizeOf0
  v0 := Tryz.zeroValue0
  t3 := Tryz.underlying3
  a3 := Tryz.isAgg3
  z3 := Tryz.sizeOf3
  v3 := Tryz.zeroValue3
  t9 := Tryz.underlying9
  a9 := Tryz.isAgg9
  z9 := Tryz.sizeOf9
  v9 := Tryz.zeroValue9
  t37 := Tryz.underlying62
  a37 := Tryz.isAgg62
  z37 := Tryz.sizeOf62
  v37 := Tryz.zeroValue62
  t70 := Tryz.underlying61
  a70 := Tryz.isAgg61
  z70 := Tryz.sizeOf61
  v70 := Tryz.zeroValue61
  t72 := Tryz.underlying64
  a72 := Tryz.isAgg64
  z72 := Tryz.sizeOf64
  v72 := Tryz.zeroValue64
  t127 := Tryz.underlying133
  a127 := Tryz.isAgg133
  z127 := Tryz.sizeOf133
  v127 := Tryz.zeroValue133 }
theorem Tryz.Builder_Extra_169 : Builder.Extra Tryz.prog Tryz.lays169_ren := {
  sizeBuilder := by kernel_rfl
  liesBuilder := by kernel_rfl
  t5 := Tryz.underlying5
  a5 := Tryz.isAgg5
  z5 := Tryz.sizeOf5
  v5 := Tryz.zeroValue5
  infoByte := by kernel_rfl
  cellsByte := by kernel_rfl
  sizeByte := by kernel_rfl
  neB5 := by decide }
open Go.RowKit in
theorem Tryz.Builder_String_any (B b : Nat) (l : List UInt8) (w : World) (h : Lib.IsBuilder 64 5 B b (Lib.byteCells l) w) (hBw : B ≤ w.heap.size) :
    Calls Tryz.prog 36 #[.pointer (some ⟨b, 0, none⟩)] w fun e w' => e = .returned (.string ⟨l.toArray⟩) ∧ Below B w w' := Any.Builder_String_any Tryz.lays169 Tryz.Builder_Extra_169 B b l w h hBw
def Tryz.lays119_ren : Go.Shelf.Ren := ⟨fun | 119 => 169 | n => n, fun | 21 => 21 | 4 => 4 | n => n, fun | n => n⟩
theorem Tryz.lays119 : Go.Proofs.Lays.n119 Tryz.prog Tryz.lays119_ren := {
  mixed := by kernel_rfl
  f119 := Tryz.func169.trans (congrArg some (by kernel_rfl))
  t4 := Tryz.underlying4
  a4 := Tryz.isAgg4
  z4 := Tryz.sizeOf4
  v4 := Tryz.zeroValue4
  t21 := Tryz.underlying21
  a21 := Tryz.isAgg21
  z21 := Tryz.sizeOf21
  v21 := Tryz.zeroValue21 }
theorem Tryz.utf8_ValidRune (r : Int) (w : World) :
    Calls Tryz.prog 169 #[.int .i32 r] w fun e w' => e = .returned (.bool (Lib.validRune r)) ∧ w' = w := Any.utf8_ValidRune Tryz.lays119 r w
def Tryz.lays137_ren : Go.Shelf.Ren := ⟨fun | 137 => 157 | 217 => 172 | 266 => 215 | n => n, fun | 9 => 9 | 5 => 5 | 3 => 3 | n => n, fun | n => n⟩
theorem Tryz.lays137 : Go.Proofs.Lays.n137 Tryz.prog Tryz.lays137_ren := {
  mixed := by kernel_rfl
  f137 := Tryz.func157.trans (congrArg some (by kernel_rfl))
  f217 := Tryz.func172.trans (congrArg some (by kernel_rfl))
  f266 := Tryz.func215.trans (congrArg some (by kernel_rfl))
  t3 := Tryz.underlying3
  a3 := Tryz.isAgg3
  z3 := Tryz.sizeOf3
  v3 := Tryz.zeroValue3
  t5 := Tryz.underlying5
  a5 := Tryz.isAgg5
  z5 := Tryz.sizeOf5
  v5 := Tryz.zeroValue5
  t9 := Tryz.underlying9
  a9 := Tryz.isAgg9
  z9 := Tryz.sizeOf9
  v9 := Tryz.zeroValue9 }
open Go.RowKit in
theorem Tryz.strings_IndexByte (s : ByteArray) (c : Int) (w : World) :
    Calls Tryz.prog 157 #[.string s, .int .u8 c] w fun e w' => e = .returned (.int .i64 (Lib.indexByte s.data.toList c.toNat.toUInt8)) ∧ w' = w := Any.strings_IndexByte Tryz.lays137 s c w
open Go.RowKit in
theorem Tryz.Builder_String_any_k (B b : Nat) (l : List UInt8) (w : World) (h : Lib.IsBuilderF 64 5 B b (Lib.byteCells l) w) (hBw : B ≤ w.heap.size) :
    Calls Tryz.prog 36 #[.pointer (some ⟨b, 0, none⟩)] w fun e w' => e = .returned (.string ⟨l.toArray⟩) ∧ (Lib.IsBuilderF 64 5 B b (Lib.byteCells l) w' ∧ Below B w w' ∧ Lib.OthersKept 5 (some b) w w') := Any.Builder_String_any_k Tryz.lays169 Tryz.Builder_Extra_169 B b l w h hBw
def Tryz.lays242_ren : Go.Shelf.Ren := ⟨fun | 242 => 73 | 278 => 110 | n => n, fun | 37 => 62 | 21 => 21 | 51 => 98 | 4 => 4 | 5 => 5 | 46 => 162 | n => n, fun | n => n⟩
theorem Tryz.lays242 : Go.Proofs.Lays.n242 Tryz.prog Tryz.lays242_ren := {
  mixed := by kernel_rfl
  f242 := Tryz.func73.trans (congrArg some (by kernel_rfl))
  f278 := Tryz.func110.trans (congrArg some (by kernel_rfl))
  t4 := Tryz.underlying4
  a4 := Tryz.isAgg4
  z4 := Tryz.sizeOf4
  v4 := Tryz.zeroValue4
  t5 := Tryz.underlying5
  a5 := Tryz.isAgg5
  z5 := Tryz.sizeOf5
  v5 := Tryz.zeroValue5
  t21 := Tryz.underlying21
  a21 := Tryz.isAgg21
  z21 := Tryz.sizeOf21
  v21 := Tryz.zeroValue21
  t37 := Tryz.underlying62
  a37 := Tryz.isAgg62
  z37 := Tryz.sizeOf62
  v37 := Tryz.zeroValue62
  t46 := Tryz.underlying162
  a46 := Tryz.isAgg162
  z46 := Tryz.sizeOf162
  v46 := Tryz.zeroValue162
  t51 := Tryz.underlying98
  a51 := Tryz.isAgg98
  z51 := Tryz.sizeOf98
  v51 := Tryz.zeroValue98 }
open Go.RowKit in
theorem Tryz.utf8_AppendRune_plain (B : Nat) (v : Value) (n : Nat) (xs : List Value) (r : Int) (hr0 : -2147483648 ≤ r) (hr1 : r ≤ 2147483647) (w : World) (hown : w.ownsRow B 5 1 v n xs) (hlen : n + 4 ≤ 140737488355328) (hBw : B ≤ w.heap.size) :
    Calls Tryz.prog 73 #[v, .int .i32 r] w fun e w' => ∃ v', e = .returned v' ∧ w'.ownsRow B 5 1 v' (n + (Lib.runeCells r).length) (xs ++ Lib.runeCells r) ∧ ∃ o, (w.alloc o).grownBy w' v.ownBlock := Any.utf8_AppendRune_plain Tryz.lays242 (by kernel_rfl) B v n xs r hr0 hr1 w hown hlen hBw
def Tryz.lays144_ren : Go.Shelf.Ren := ⟨fun | 144 => 61 | 143 => 96 | 219 => 136 | 217 => 172 | 225 => 171 | 224 => 170 | 267 => 173 | 266 => 215 | 314 => 216 | n => n, fun | 9 => 9 | 4 => 4 | 3 => 3 | 5 => 5 | 46 => 162 | 146 => 257 | 51 => 98 | n => n, fun | 1 => 0 | n => n⟩
theorem Tryz.lays144 : Go.Proofs.Lays.n144 Tryz.prog Tryz.lays144_ren := {
  mixed := by kernel_rfl
  f143 := Tryz.func96.trans (congrArg some (by kernel_rfl))
  f144 := Tryz.func61.trans (congrArg some (by kernel_rfl))
  f217 := Tryz.func172.trans (congrArg some (by kernel_rfl))
  f219 := Tryz.func136.trans (congrArg some (by kernel_rfl))
  f224 := Tryz.func170.trans (congrArg some (by kernel_rfl))
  f225 := Tryz.func171.trans (congrArg some (by kernel_rfl))
  f266 := Tryz.func215.trans (congrArg some (by kernel_rfl))
  f267 := Tryz.func173.trans (congrArg some (by kernel_rfl))
  f314 := Tryz.func216.trans (congrArg some (by kernel_rfl))
  t3 := Tryz.underlying3
  a3 := Tryz.isAgg3
  z3 := Tryz.sizeOf3
  v3 := Tryz.zeroValue3
  t4 := Tryz.underlying4
  a4 := Tryz.isAgg4
  z4 := Tryz.sizeOf4
  v4 := Tryz.zeroValue4
  t5 := Tryz.underlying5
  a5 := Tryz.isAgg5
  z5 := Tryz.sizeOf5
  v5 := Tryz.zeroValue5
  t9 := Tryz.underlying9
  a9 := Tryz.isAgg9
  z9 := Tryz.sizeOf9
  v9 := Tryz.zeroValue9
  t46 := Tryz.underlying162
  a46 := Tryz.isAgg162
  z46 := Tryz.sizeOf162
  v46 := Tryz.zeroValue162
  t51 := Tryz.underlying98
  a51 := Tryz.isAgg98
  z51 := Tryz.sizeOf98
  v51 := Tryz.zeroValue98
  t146 := Tryz.underlying257
  a146 := Tryz.isAgg257
  z146 := Tryz.sizeOf257
  v146 := Tryz.zeroValue257
  g1 := by kernel_rfl }
open Go.RowKit Go.Lib in
theorem Tryz.strings_Contains_one (s : ByteArray) (c : UInt8) (w : World) :
    Calls Tryz.prog 61 #[.string s, .string ⟨#[c]⟩] w fun e w' => e = .returned (.bool (decide (0 ≤ Lib.indexByte s.data.toList c))) ∧ w' = w := Any.strings_Contains_one Tryz.lays144 s c w
open Go.RowKit Go.Lib in
theorem Tryz.strings_Contains (s sub : ByteArray) (m : Int) (w : World) (hs : s.size < 4294967281) (hm : w.cell? ⟨0, 0, none⟩ = some (.int .i64 m)) :
    Calls Tryz.prog 61 #[.string s, .string sub] w fun e w' => e = .returned (.bool (Lib.contains s.data.toList sub.data.toList)) ∧ w' = w := Any.strings_Contains Tryz.lays144 s sub m w hs hm
def Tryz.lays145_ren : Go.Shelf.Ren := ⟨fun | 145 => 97 | 220 => 137 | 219 => 136 | 217 => 172 | 225 => 171 | 224 => 170 | 267 => 173 | 266 => 215 | 314 => 216 | n => n, fun | 9 => 9 | 4 => 4 | 59 => 152 | 3 => 3 | 5 => 5 | 46 => 162 | 146 => 257 | 51 => 98 | n => n, fun | 1 => 0 | n => n⟩
theorem Tryz.lays145 : Go.Proofs.Lays.n145 Tryz.prog Tryz.lays145_ren := {
  mixed := by kernel_rfl
  f145 := Tryz.func97.trans (congrArg some (by kernel_rfl))
  f217 := Tryz.func172.trans (congrArg some (by kernel_rfl))
  f219 := Tryz.func136.trans (congrArg some (by kernel_rfl))
  f220 := Tryz.func137.trans (congrArg some (by kernel_rfl))
  f224 := Tryz.func170.trans (congrArg some (by kernel_rfl))
  f225 := Tryz.func171.trans (congrArg some (by kernel_rfl))
  f266 := Tryz.func215.trans (congrArg some (by kernel_rfl))
  f267 := Tryz.func173.trans (congrArg some (by kernel_rfl))
  f314 := Tryz.func216.trans (congrArg some (by kernel_rfl))
  t3 := Tryz.underlying3
  a3 := Tryz.isAgg3
  z3 := Tryz.sizeOf3
  v3 := Tryz.zeroValue3
  t4 := Tryz.underlying4
  a4 := Tryz.isAgg4
  z4 := Tryz.sizeOf4
  v4 := Tryz.zeroValue4
  t5 := Tryz.underlying5
  a5 := Tryz.isAgg5
  z5 := Tryz.sizeOf5
  v5 := Tryz.zeroValue5
  t9 := Tryz.underlying9
  a9 := Tryz.isAgg9
  z9 := Tryz.sizeOf9
  v9 := Tryz.zeroValue9
  t46 := Tryz.underlying162
  a46 := Tryz.isAgg162
  z46 := Tryz.sizeOf162
  v46 := Tryz.zeroValue162
  t51 := Tryz.underlying98
  a51 := Tryz.isAgg98
  z51 := Tryz.sizeOf98
  v51 := Tryz.zeroValue98
  t59 := Tryz.underlying152
  a59 := Tryz.isAgg152
  z59 := Tryz.sizeOf152
  v59 := Tryz.zeroValue152
  t146 := Tryz.underlying257
  a146 := Tryz.isAgg257
  z146 := Tryz.sizeOf257
  v146 := Tryz.zeroValue257
  g1 := by kernel_rfl }
open Go.RowKit Go.Lib in
theorem Tryz.strings_Cut (s sep : ByteArray) (m : Int) (w : World) (hs : s.size < 4294967281) (hm : w.cell? ⟨0, 0, none⟩ = some (.int .i64 m)) :
    Calls Tryz.prog 97 #[.string s, .string sep] w fun e w' => e = .returned (.tuple #[.string ⟨(Lib.cut s.data.toList sep.data.toList).1.toArray⟩, .string ⟨(Lib.cut s.data.toList sep.data.toList).2.1.toArray⟩, .bool (Lib.cut s.data.toList sep.data.toList).2.2]) ∧ ∃ n, w' = w.drewN n := Any.strings_Cut Tryz.lays145 s sep m w hs hm
def Tryz.lays138_ren : Go.Shelf.Ren := ⟨fun | 138 => 185 | 195 => 223 | 218 => 224 | 143 => 96 | 219 => 136 | 217 => 172 | 225 => 171 | 224 => 170 | 267 => 173 | 266 => 215 | 314 => 216 | n => n, fun | 9 => 9 | 3 => 3 | 4 => 4 | 5 => 5 | 0 => 0 | 46 => 162 | 146 => 257 | 51 => 98 | n => n, fun | 1 => 0 | n => n⟩
theorem Tryz.lays138 : Go.Proofs.Lays.n138 Tryz.prog Tryz.lays138_ren := {
  mixed := by kernel_rfl
  f138 := Tryz.func185.trans (congrArg some (by kernel_rfl))
  f143 := Tryz.func96.trans (congrArg some (by kernel_rfl))
  f195 := Tryz.func223.trans (congrArg some (by kernel_rfl))
  f217 := Tryz.func172.trans (congrArg some (by kernel_rfl))
  f218 := Tryz.func224.trans (congrArg some (by kernel_rfl))
  f219 := Tryz.func136.trans (congrArg some (by kernel_rfl))
  f224 := Tryz.func170.trans (congrArg some (by kernel_rfl))
  f225 := Tryz.func171.trans (congrArg some (by kernel_rfl))
  f266 := Tryz.func215.trans (congrArg some (by kernel_rfl))
  f267 := Tryz.func173.trans (congrArg some (by kernel_rfl))
  f314 := Tryz.func216.trans (congrArg some (by kernel_rfl))
  t0 := Tryz.underlying0
  a0 := Tryz.isAgg0
  z0 := Tryz.sizeOf0
  v0 := Tryz.zeroValue0
  t3 := Tryz.underlying3
  a3 := Tryz.isAgg3
  z3 := Tryz.sizeOf3
  v3 := Tryz.zeroValue3
  t4 := Tryz.underlying4
  a4 := Tryz.isAgg4
  z4 := Tryz.sizeOf4
  v4 := Tryz.zeroValue4
  t5 := Tryz.underlying5
  a5 := Tryz.isAgg5
  z5 := Tryz.sizeOf5
  v5 := Tryz.zeroValue5
  t9 := Tryz.underlying9
  a9 := Tryz.isAgg9
  z9 := Tryz.sizeOf9
  v9 := Tryz.zeroValue9
  t46 := Tryz.underlying162
  a46 := Tryz.isAgg162
  z46 := Tryz.sizeOf162
  v46 := Tryz.zeroValue162
  t51 := Tryz.underlying98
  a51 := Tryz.isAgg98
  z51 := Tryz.sizeOf98
  v51 := Tryz.zeroValue98
  t146 := Tryz.underlying257
  a146 := Tryz.isAgg257
  z146 := Tryz.sizeOf257
  v146 := Tryz.zeroValue257
  g1 := by kernel_rfl }
open Go.RowKit Go.Lib in
theorem Tryz.strings_Count_one (s : ByteArray) (c : UInt8) (w : World) :
    Calls Tryz.prog 185 #[.string s, .string ⟨#[c]⟩] w fun e w' => e = .returned (.int .i64 (Lib.countByte s.data.toList c)) ∧ w' = w := Any.strings_Count_one Tryz.lays138 s c w
def Tryz.laysM144_ren : Go.Shelf.Ren := ⟨fun | 144 => 61 | 143 => 96 | 219 => 136 | 217 => 172 | 225 => 171 | 224 => 170 | 267 => 173 | 266 => 215 | 314 => 216 | n => n, fun | 9 => 9 | 4 => 4 | 3 => 3 | 5 => 5 | 46 => 162 | 146 => 257 | 51 => 98 | n => n, fun | 1 => 0 | n => n⟩
theorem Tryz.laysM144 : Go.Proofs.LaysM.n144 Tryz.prog Tryz.laysM144_ren := {
  mixed := by kernel_rfl
  f143 := Tryz.func96.trans (congrArg some (by kernel_rfl))
  f144 := Tryz.func61.trans (congrArg some (by kernel_rfl))
  f217 := Tryz.func172.trans (congrArg some (by kernel_rfl))
  f219 := Tryz.func136.trans (congrArg some (by kernel_rfl))
  f224 := Tryz.func170.trans (congrArg some (by kernel_rfl))
  f225 := Tryz.func171.trans (congrArg some (by kernel_rfl))
  f266 := Tryz.func215.trans (congrArg some (by kernel_rfl))
  f267 := Tryz.func173.trans (congrArg some (by kernel_rfl))
  f314 := Tryz.func216.trans (congrArg some (by kernel_rfl))
  t3 := Tryz.underlying3
  a3 := Tryz.isAgg3
  z3 := Tryz.sizeOf3
  v3 := Tryz.zeroValue3
  t4 := Tryz.underlying4
  a4 := Tryz.isAgg4
  z4 := Tryz.sizeOf4
  v4 := Tryz.zeroValue4
  t5 := Tryz.underlying5
  a5 := Tryz.isAgg5
  z5 := Tryz.sizeOf5
  v5 := Tryz.zeroValue5
  t9 := Tryz.underlying9
  a9 := Tryz.isAgg9
  z9 := Tryz.sizeOf9
  v9 := Tryz.zeroValue9
  t46 := Tryz.underlying162
  a46 := Tryz.isAgg162
  z46 := Tryz.sizeOf162
  v46 := Tryz.zeroValue162
  t51 := Tryz.underlying98
  a51 := Tryz.isAgg98
  z51 := Tryz.sizeOf98
  v51 := Tryz.zeroValue98
  t146 := Tryz.underlying257
  a146 := Tryz.isAgg257
  z146 := Tryz.sizeOf257
  v146 := Tryz.zeroValue257
  g1 := by kernel_rfl
  i3 := by kernel_rfl
  i4 := by kernel_rfl
  i5 := by kernel_rfl
  i9 := by kernel_rfl
  i46 := by kernel_rfl
  i51 := by kernel_rfl
  i146 := by kernel_rfl
  m1 := by kernel_rfl
  s1_3 := fun w h => Go.Proofs.cell_of_shapedOpen_int (zero := #[.int .i64 0]) (t := 3) h (of_decide_eq_true (by kernel_rfl)) (by kernel_rfl) rfl (by kernel_rfl) (by kernel_rfl) Tryz.underlying3 }
def Tryz.lays99_ren : Go.Shelf.Ren := ⟨fun | 99 => 76 | 206 => 112 | n => n, fun | 9 => 9 | 4 => 4 | 3 => 3 | n => n, fun | n => n⟩
theorem Tryz.lays99 : Go.Proofs.Lays.n99 Tryz.prog Tryz.lays99_ren := {
  mixed := by kernel_rfl
  f99 := Tryz.func76.trans (congrArg some (by kernel_rfl))
  f206 := Tryz.func112.trans (congrArg some (by kernel_rfl))
  t3 := Tryz.underlying3
  a3 := Tryz.isAgg3
  z3 := Tryz.sizeOf3
  v3 := Tryz.zeroValue3
  t4 := Tryz.underlying4
  a4 := Tryz.isAgg4
  z4 := Tryz.sizeOf4
  v4 := Tryz.zeroValue4
  t9 := Tryz.underlying9
  a9 := Tryz.isAgg9
  z9 := Tryz.sizeOf9
  v9 := Tryz.zeroValue9 }
open Go.RowKit Go.Lib in
theorem Tryz.strings_HasPrefix (s p : ByteArray) (w : World) :
    Calls Tryz.prog 76 #[.string s, .string p] w fun e w' => e = .returned (.bool (Lib.hasPrefix s.data.toList p.data.toList)) ∧ w' = w := Any.strings_HasPrefix Tryz.lays99 s p w
def Tryz.lays100_ren : Go.Shelf.Ren := ⟨fun | 100 => 147 | 207 => 178 | n => n, fun | 9 => 9 | 4 => 4 | 3 => 3 | n => n, fun | n => n⟩
theorem Tryz.lays100 : Go.Proofs.Lays.n100 Tryz.prog Tryz.lays100_ren := {
  mixed := by kernel_rfl
  f100 := Tryz.func147.trans (congrArg some (by kernel_rfl))
  f207 := Tryz.func178.trans (congrArg some (by kernel_rfl))
  t3 := Tryz.underlying3
  a3 := Tryz.isAgg3
  z3 := Tryz.sizeOf3
  v3 := Tryz.zeroValue3
  t4 := Tryz.underlying4
  a4 := Tryz.isAgg4
  z4 := Tryz.sizeOf4
  v4 := Tryz.zeroValue4
  t9 := Tryz.underlying9
  a9 := Tryz.isAgg9
  z9 := Tryz.sizeOf9
  v9 := Tryz.zeroValue9 }
open Go.RowKit Go.Lib in
theorem Tryz.strings_HasSuffix (s p : ByteArray) (w : World) (hs : s.size ≤ 9223372036854775807) :
    Calls Tryz.prog 147 #[.string s, .string p] w fun e w' => e = .returned (.bool (Lib.hasSuffix s.data.toList p.data.toList)) ∧ w' = w := Any.strings_HasSuffix Tryz.lays100 s p w hs
def Tryz.lays164_ren : Go.Shelf.Ren := ⟨fun | 164 => 113 | 197 => 93 | 239 => 151 | 260 => 133 | 274 => 183 | 275 => 184 | n => n, fun | 9 => 9 | 4 => 4 | 3 => 3 | 5 => 5 | 0 => 0 | 21 => 21 | 105 => 130 | 156 => 237 | 49 => 236 | 157 => 238 | 46 => 162 | 159 => 240 | 162 => 243 | 160 => 241 | 119 => 188 | 139 => 230 | 138 => 229 | 208 => 265 | 51 => 98 | 206 => 263 | n => n, fun | 11 => 3 | 12 => 4 | 13 => 5 | 3 => 1 | 4 => 2 | n => n⟩
theorem Tryz.lays164 : Go.Proofs.Lays.n164 Tryz.prog Tryz.lays164_ren := {
  mixed := by kernel_rfl
  f164 := Tryz.func113.trans (congrArg some (by kernel_rfl))
  f197 := Tryz.func93.trans (congrArg some (by kernel_rfl))
  f239 := Tryz.func151.trans (congrArg some (by kernel_rfl))
  f260 := Tryz.func133.trans (congrArg some (by kernel_rfl))
  f274 := Tryz.func183.trans (congrArg some (by kernel_rfl))
  f275 := Tryz.func184.trans (congrArg some (by kernel_rfl))
  t0 := Tryz.underlying0
  a0 := Tryz.isAgg0
  z0 := Tryz.sizeOf0
  v0 := Tryz.zeroValue0
  t3 := Tryz.underlying3
  a3 := Tryz.isAgg3
  z3 := Tryz.sizeOf3
  v3 := Tryz.zeroValue3
  t4 := Tryz.underlying4
  a4 := Tryz.isAgg4
  z4 := Tryz.sizeOf4
  v4 := Tryz.zeroValue4
  t5 := Tryz.underlying5
  a5 := Tryz.isAgg5
  z5 := Tryz.sizeOf5
  v5 := Tryz.zeroValue5
  t9 := Tryz.underlying9
  a9 := Tryz.isAgg9
  z9 := Tryz.sizeOf9
  v9 := Tryz.zeroValue9
  t21 := Tryz.underlying21
  a21 := Tryz.isAgg21
  z21 := Tryz.sizeOf21
  v21 := Tryz.zeroValue21
  t46 := Tryz.underlying162
  a46 := Tryz.isAgg162
  z46 := Tryz.sizeOf162
  v46 := Tryz.zeroValue162
  t49 := Tryz.underlying236
  a49 := Tryz.isAgg236
  z49 := Tryz.sizeOf236
  v49 := Tryz.zeroValue236
  t51 := Tryz.underlying98
  a51 := Tryz.isAgg98
  z51 := Tryz.sizeOf98
  v51 := Tryz.zeroValue98
  t105 := Tryz.underlying130
  a105 := Tryz.isAgg130
  z105 := Tryz.sizeOf130
  v105 := Tryz.zeroValue130
  t119 := Tryz.underlying188
  a119 := Tryz.isAgg188
  z119 := Tryz.sizeOf188
  t138 := Tryz.underlying229
  a138 := Tryz.isAgg229
  z138 := Tryz.sizeOf229
  v138 := Tryz.zeroValue229
  t139 := Tryz.underlying230
  a139 := Tryz.isAgg230
  z139 := Tryz.sizeOf230
  v139 := Tryz.zeroValue230
  t156 := Tryz.underlying237
  a156 := Tryz.isAgg237
  z156 := Tryz.sizeOf237
  t157 := Tryz.underlying238
  a157 := Tryz.isAgg238
  z157 := Tryz.sizeOf238
  v157 := Tryz.zeroValue238
  t159 := Tryz.underlying240
  a159 := Tryz.isAgg240
  z159 := Tryz.sizeOf240
  v159 := Tryz.zeroValue240
  t160 := Tryz.underlying241
  a160 := Tryz.isAgg241
  z160 := Tryz.sizeOf241
  v160 := Tryz.zeroValue241
  t162 := Tryz.underlying243
  a162 := Tryz.isAgg243
  z162 := Tryz.sizeOf243
  v162 := Tryz.zeroValue243
  t206 := Tryz.underlying263
  a206 := Tryz.isAgg263
  z206 := Tryz.sizeOf263
  v206 := Tryz.zeroValue263
  t208 := Tryz.underlying265
  a208 := Tryz.isAgg265
  z208 := Tryz.sizeOf265
  v208 := Tryz.zeroValue265
  g3 := by kernel_rfl
  g4 := by kernel_rfl
  g11 := by kernel_rfl
  g12 := by kernel_rfl
  g13 := by kernel_rfl }
open Go.RowKit Go.Lib in
theorem Tryz.strings_EqualFold (s t : ByteArray) (w : World) (hs : s.size < 4294967281) (has : ∀ (j : Nat) b, s.data.toList[j]? = some b → b.toNat < 128) (hat : ∀ (j : Nat) b, t.data.toList[j]? = some b → b.toNat < 128) :
    Calls Tryz.prog 113 #[.string s, .string t] w fun e w' => e = .returned (.bool (Lib.equalFold s.data.toList t.data.toList)) ∧ w' = w := Any.strings_EqualFold Tryz.lays164 s t w hs has hat
def Tryz.lays197_ren : Go.Shelf.Ren := ⟨fun | 197 => 93 | 260 => 133 | n => n, fun | 9 => 9 | 21 => 21 | 3 => 3 | 4 => 4 | 5 => 5 | 105 => 130 | 119 => 188 | 0 => 0 | 46 => 162 | 139 => 230 | 138 => 229 | n => n, fun | 3 => 1 | 4 => 2 | n => n⟩
theorem Tryz.lays197 : Go.Proofs.Lays.n197 Tryz.prog Tryz.lays197_ren := {
  mixed := by kernel_rfl
  f197 := Tryz.func93.trans (congrArg some (by kernel_rfl))
  f260 := Tryz.func133.trans (congrArg some (by kernel_rfl))
  t0 := Tryz.underlying0
  a0 := Tryz.isAgg0
  z0 := Tryz.sizeOf0
  v0 := Tryz.zeroValue0
  t3 := Tryz.underlying3
  a3 := Tryz.isAgg3
  z3 := Tryz.sizeOf3
  v3 := Tryz.zeroValue3
  t4 := Tryz.underlying4
  a4 := Tryz.isAgg4
  z4 := Tryz.sizeOf4
  v4 := Tryz.zeroValue4
  t5 := Tryz.underlying5
  a5 := Tryz.isAgg5
  z5 := Tryz.sizeOf5
  v5 := Tryz.zeroValue5
  t9 := Tryz.underlying9
  a9 := Tryz.isAgg9
  z9 := Tryz.sizeOf9
  v9 := Tryz.zeroValue9
  t21 := Tryz.underlying21
  a21 := Tryz.isAgg21
  z21 := Tryz.sizeOf21
  v21 := Tryz.zeroValue21
  t46 := Tryz.underlying162
  a46 := Tryz.isAgg162
  z46 := Tryz.sizeOf162
  v46 := Tryz.zeroValue162
  t105 := Tryz.underlying130
  a105 := Tryz.isAgg130
  z105 := Tryz.sizeOf130
  v105 := Tryz.zeroValue130
  t119 := Tryz.underlying188
  a119 := Tryz.isAgg188
  z119 := Tryz.sizeOf188
  t138 := Tryz.underlying229
  a138 := Tryz.isAgg229
  z138 := Tryz.sizeOf229
  v138 := Tryz.zeroValue229
  t139 := Tryz.underlying230
  a139 := Tryz.isAgg230
  z139 := Tryz.sizeOf230
  v139 := Tryz.zeroValue230
  g3 := by kernel_rfl
  g4 := by kernel_rfl }
open Go.RowKit Go.Lib in
theorem Tryz.utf8_DecodeRuneInString_ascii (s : ByteArray) (x : UInt8) (w : World) (h0 : s.data.toList[0]? = some x) (hx : x.toNat < 128) :
    Calls Tryz.prog 93 #[.string s] w fun e w' => e = .returned (.tuple #[.int .i32 x.toNat, .int .i64 1]) ∧ w' = w := Any.utf8_DecodeRuneInString_ascii Tryz.lays197 s x w h0 hx
def Tryz.lays152_ren : Go.Shelf.Ren := ⟨fun | 152 => 134 | 137 => 157 | 119 => 169 | 224 => 170 | 225 => 171 | 217 => 172 | 266 => 215 | n => n, fun | 9 => 9 | 21 => 21 | 3 => 3 | 4 => 4 | 5 => 5 | 0 => 0 | 46 => 162 | n => n, fun | n => n⟩
theorem Tryz.lays152 : Go.Proofs.Lays.n152 Tryz.prog Tryz.lays152_ren := {
  mixed := by kernel_rfl
  f119 := Tryz.func169.trans (congrArg some (by kernel_rfl))
  f137 := Tryz.func157.trans (congrArg some (by kernel_rfl))
  f152 := Tryz.func134.trans (congrArg some (by kernel_rfl))
  f217 := Tryz.func172.trans (congrArg some (by kernel_rfl))
  f224 := Tryz.func170.trans (congrArg some (by kernel_rfl))
  f225 := Tryz.func171.trans (congrArg some (by kernel_rfl))
  f266 := Tryz.func215.trans (congrArg some (by kernel_rfl))
  t0 := Tryz.underlying0
  a0 := Tryz.isAgg0
  z0 := Tryz.sizeOf0
  v0 := Tryz.zeroValue0
  t3 := Tryz.underlying3
  a3 := Tryz.isAgg3
  z3 := Tryz.sizeOf3
  v3 := Tryz.zeroValue3
  t4 := Tryz.underlying4
  a4 := Tryz.isAgg4
  z4 := Tryz.sizeOf4
  v4 := Tryz.zeroValue4
  t5 := Tryz.underlying5
  a5 := Tryz.isAgg5
  z5 := Tryz.sizeOf5
  v5 := Tryz.zeroValue5
  t9 := Tryz.underlying9
  a9 := Tryz.isAgg9
  z9 := Tryz.sizeOf9
  v9 := Tryz.zeroValue9
  t21 := Tryz.underlying21
  a21 := Tryz.isAgg21
  z21 := Tryz.sizeOf21
  v21 := Tryz.zeroValue21
  t46 := Tryz.underlying162
  a46 := Tryz.isAgg162
  z46 := Tryz.sizeOf162
  v46 := Tryz.zeroValue162 }
open Go.RowKit Go.Lib in
theorem Tryz.strings_IndexRune_ascii (s : ByteArray) (r : Int) (w : World) (h0 : 0 ≤ r) (h1 : r < 128) :
    Calls Tryz.prog 134 #[.string s, .int .i32 r] w fun e w' => e = .returned (.int .i64 (Lib.indexByte s.data.toList r.toNat.toUInt8)) ∧ w' = w := Any.strings_IndexRune_ascii Tryz.lays152 s r w h0 h1
def Tryz.lays226_ren : Go.Shelf.Ren := ⟨fun | 226 => 177 | n => n, fun | 3 => 3 | 4 => 4 | n => n, fun | n => n⟩
theorem Tryz.lays226 : Go.Proofs.Lays.n226 Tryz.prog Tryz.lays226_ren := {
  mixed := by kernel_rfl
  f226 := Tryz.func177.trans (congrArg some (by kernel_rfl))
  t3 := Tryz.underlying3
  a3 := Tryz.isAgg3
  z3 := Tryz.sizeOf3
  v3 := Tryz.zeroValue3
  t4 := Tryz.underlying4
  a4 := Tryz.isAgg4
  z4 := Tryz.sizeOf4
  v4 := Tryz.zeroValue4 }
open Go.RowKit Go.Lib in
theorem Tryz.strings_shouldUseASCIISet (n : Int) (w : World) :
    Calls Tryz.prog 177 #[.int .i64 n] w fun e w' => e = .returned (.bool (decide (8 < n))) ∧ w' = w := Any.strings_shouldUseASCIISet Tryz.lays226 n w
def Tryz.lays153_ren : Go.Shelf.Ren := ⟨fun | 153 => 143 | 152 => 134 | 226 => 177 | 227 => 55 | 228 => 92 | 137 => 157 | 119 => 169 | 224 => 170 | 225 => 171 | 217 => 172 | 266 => 215 | n => n, fun | 9 => 9 | 3 => 3 | 4 => 4 | 5 => 5 | 21 => 21 | 117 => 116 | 116 => 115 | 0 => 0 | 46 => 162 | 124 => 119 | n => n, fun | n => n⟩
theorem Tryz.lays153 : Go.Proofs.Lays.n153 Tryz.prog Tryz.lays153_ren := {
  mixed := by kernel_rfl
  f119 := Tryz.func169.trans (congrArg some (by kernel_rfl))
  f137 := Tryz.func157.trans (congrArg some (by kernel_rfl))
  f152 := Tryz.func134.trans (congrArg some (by kernel_rfl))
  f153 := Tryz.func143.trans (congrArg some (by kernel_rfl))
  f217 := Tryz.func172.trans (congrArg some (by kernel_rfl))
  f224 := Tryz.func170.trans (congrArg some (by kernel_rfl))
  f225 := Tryz.func171.trans (congrArg some (by kernel_rfl))
  f226 := Tryz.func177.trans (congrArg some (by kernel_rfl))
  f227 := Tryz.func55.trans (congrArg some (by kernel_rfl))
  f228 := Tryz.func92.trans (congrArg some (by kernel_rfl))
  f266 := Tryz.func215.trans (congrArg some (by kernel_rfl))
  t0 := Tryz.underlying0
  a0 := Tryz.isAgg0
  z0 := Tryz.sizeOf0
  v0 := Tryz.zeroValue0
  t3 := Tryz.underlying3
  a3 := Tryz.isAgg3
  z3 := Tryz.sizeOf3
  v3 := Tryz.zeroValue3
  t4 := Tryz.underlying4
  a4 := Tryz.isAgg4
  z4 := Tryz.sizeOf4
  v4 := Tryz.zeroValue4
  t5 := Tryz.underlying5
  a5 := Tryz.isAgg5
  z5 := Tryz.sizeOf5
  v5 := Tryz.zeroValue5
  t9 := Tryz.underlying9
  a9 := Tryz.isAgg9
  z9 := Tryz.sizeOf9
  v9 := Tryz.zeroValue9
  t21 := Tryz.underlying21
  a21 := Tryz.isAgg21
  z21 := Tryz.sizeOf21
  v21 := Tryz.zeroValue21
  t46 := Tryz.underlying162
  a46 := Tryz.isAgg162
  z46 := Tryz.sizeOf162
  v46 := Tryz.zeroValue162
  t116 := Tryz.underlying115
  a116 := Tryz.isAgg115
  z116 := Tryz.sizeOf115
  t117 := Tryz.underlying116
  a117 := Tryz.isAgg116
  z117 := Tryz.sizeOf116
  v117 := Tryz.zeroValue116
  t124 := Tryz.underlying119
  a124 := Tryz.isAgg119
  z124 := Tryz.sizeOf119
  v124 := Tryz.zeroValue119 }
open Go.RowKit Go.Lib in
theorem Tryz.strings_IndexAny_long (hv116 : ∀ w, (zeroValue 115).run Tryz.prog w = .ok (.agg (Array.replicate 256 (.bool false))) w) (s chars : ByteArray) (w : World) (h2 : 2 ≤ chars.size) (h8 : 8 < s.size) (hs : s.size < 4294967281) (hcs : chars.size < 4294967281) (hascii : ∀ (j : Nat) b, chars.data.toList[j]? = some b → b.toNat < 128) :
    Calls Tryz.prog 143 #[.string s, .string chars] w fun e w' => e = .returned (.int .i64 (Lib.indexAny s.data.toList chars.data.toList)) ∧ w' = ((w.alloc (.cells (Lib.setCells chars.data.toList) 115)).alloc (.cells (Lib.setCells chars.data.toList) 115)) := Any.strings_IndexAny_long Tryz.lays153 hv116 (by kernel_rfl) s chars w h2 h8 hs hcs hascii
def Tryz.lays108_ren : Go.Shelf.Ren := ⟨fun | 108 => 275 | n => n, fun | 28 => 38 | 3 => 3 | 0 => 0 | 4 => 4 | n => n, fun | n => n⟩
theorem Tryz.lays108 : Go.Proofs.Lays.n108 Tryz.prog Tryz.lays108_ren := {
  mixed := by kernel_rfl
  f108 := Tryz.func275.trans (congrArg some (by kernel_rfl))
  t0 := Tryz.underlying0
  a0 := Tryz.isAgg0
  z0 := Tryz.sizeOf0
  v0 := Tryz.zeroValue0
  t3 := Tryz.underlying3
  a3 := Tryz.isAgg3
  z3 := Tryz.sizeOf3
  v3 := Tryz.zeroValue3
  t4 := Tryz.underlying4
  a4 := Tryz.isAgg4
  z4 := Tryz.sizeOf4
  v4 := Tryz.zeroValue4
  t28 := Tryz.underlying38
  a28 := Tryz.isAgg38
  z28 := Tryz.sizeOf38
  v28 := Tryz.zeroValue38 }
open Go.Lib in
theorem Tryz.slices_Index_int (b off n c : Nat) (zs : List Int) (x : Int) (w : World) (hz : n ≤ zs.length) (hbig : n ≤ 9223372036854775807) (hc : ∀ j, j < zs.length → w.cell? ⟨b, off + j, none⟩ = some (.int .i64 (zs.getD j 0))) :
    Calls Tryz.prog 275 #[.slice (some ⟨b, off, none⟩) n c, .int .i64 x] w fun e w' => e = .returned (.int .i64 (Lib.idxOf (zs.take n) x)) ∧ w' = w := Any.slices_Index_int Tryz.lays108 b off n c zs x w hz hbig hc
open Go.Lib in
theorem Tryz.slices_Index_int_empty (a : Option Addr) (c : Nat) (x : Int) (w : World) :
    Calls Tryz.prog 275 #[.slice a 0 c, .int .i64 x] w fun e w' => e = .returned (.int .i64 (Lib.idxOf [] x)) ∧ w' = w := Any.slices_Index_int_empty Tryz.lays108 a c x w
def Tryz.lays107_ren : Go.Shelf.Ren := ⟨fun | 107 => 300 | 108 => 275 | n => n, fun | 28 => 38 | 3 => 3 | 4 => 4 | 0 => 0 | n => n, fun | n => n⟩
theorem Tryz.lays107 : Go.Proofs.Lays.n107 Tryz.prog Tryz.lays107_ren := {
  mixed := by kernel_rfl
  f107 := Tryz.func300.trans (congrArg some (by kernel_rfl))
  f108 := Tryz.func275.trans (congrArg some (by kernel_rfl))
  t0 := Tryz.underlying0
  a0 := Tryz.isAgg0
  z0 := Tryz.sizeOf0
  v0 := Tryz.zeroValue0
  t3 := Tryz.underlying3
  a3 := Tryz.isAgg3
  z3 := Tryz.sizeOf3
  v3 := Tryz.zeroValue3
  t4 := Tryz.underlying4
  a4 := Tryz.isAgg4
  z4 := Tryz.sizeOf4
  v4 := Tryz.zeroValue4
  t28 := Tryz.underlying38
  a28 := Tryz.isAgg38
  z28 := Tryz.sizeOf38
  v28 := Tryz.zeroValue38 }
open Go.Lib in
theorem Tryz.slices_Contains_int (b off n c : Nat) (zs : List Int) (x : Int) (w : World) (hz : n ≤ zs.length) (hbig : n ≤ 9223372036854775807) (hc : ∀ j, j < zs.length → w.cell? ⟨b, off + j, none⟩ = some (.int .i64 (zs.getD j 0))) :
    Calls Tryz.prog 300 #[.slice (some ⟨b, off, none⟩) n c, .int .i64 x] w fun e w' => e = .returned (.bool ((zs.take n).contains x)) ∧ w' = w := Any.slices_Contains_int Tryz.lays107 b off n c zs x w hz hbig hc
open Go.Lib in
theorem Tryz.slices_Contains_int_empty (a : Option Addr) (c : Nat) (x : Int) (w : World) :
    Calls Tryz.prog 300 #[.slice a 0 c, .int .i64 x] w fun e w' => e = .returned (.bool false) ∧ w' = w := Any.slices_Contains_int_empty Tryz.lays107 a c x w
def Tryz.laysTrim_ren : Go.Shelf.Ren := ⟨fun | 160 => 28 | 232 => 58 | 231 => 54 | 227 => 55 | 234 => 59 | 233 => 56 | 236 => 60 | 235 => 57 | 228 => 92 | 271 => 95 | 151 => 94 | 197 => 93 | 120 => 135 | 152 => 134 | 260 => 133 | 137 => 157 | 119 => 169 | 224 => 170 | 225 => 171 | 217 => 172 | 266 => 215 | n => n, fun | 9 => 9 | 4 => 4 | 3 => 3 | 5 => 5 | 117 => 116 | 116 => 115 | 0 => 0 | 124 => 119 | 21 => 21 | 105 => 130 | 46 => 162 | 119 => 188 | 139 => 230 | 138 => 229 | n => n, fun | 3 => 1 | 4 => 2 | n => n⟩
theorem Tryz.laysTrim : Go.Proofs.Lays.n160 Tryz.prog Tryz.laysTrim_ren := {
  mixed := by kernel_rfl
  f119 := Tryz.func169.trans (congrArg some (by kernel_rfl))
  f120 := Tryz.func135.trans (congrArg some (by kernel_rfl))
  f137 := Tryz.func157.trans (congrArg some (by kernel_rfl))
  f151 := Tryz.func94.trans (congrArg some (by kernel_rfl))
  f152 := Tryz.func134.trans (congrArg some (by kernel_rfl))
  f160 := Tryz.func28.trans (congrArg some (by kernel_rfl))
  f197 := Tryz.func93.trans (congrArg some (by kernel_rfl))
  f217 := Tryz.func172.trans (congrArg some (by kernel_rfl))
  f224 := Tryz.func170.trans (congrArg some (by kernel_rfl))
  f225 := Tryz.func171.trans (congrArg some (by kernel_rfl))
  f227 := Tryz.func55.trans (congrArg some (by kernel_rfl))
  f228 := Tryz.func92.trans (congrArg some (by kernel_rfl))
  f231 := Tryz.func54.trans (congrArg some (by kernel_rfl))
  f232 := Tryz.func58.trans (congrArg some (by kernel_rfl))
  f233 := Tryz.func56.trans (congrArg some (by kernel_rfl))
  f234 := Tryz.func59.trans (congrArg some (by kernel_rfl))
  f235 := Tryz.func57.trans (congrArg some (by kernel_rfl))
  f236 := Tryz.func60.trans (congrArg some (by kernel_rfl))
  f260 := Tryz.func133.trans (congrArg some (by kernel_rfl))
  f266 := Tryz.func215.trans (congrArg some (by kernel_rfl))
  f271 := Tryz.func95.trans (congrArg some (by kernel_rfl))
  t0 := Tryz.underlying0
  a0 := Tryz.isAgg0
  z0 := Tryz.sizeOf0
  v0 := Tryz.zeroValue0
  t3 := Tryz.underlying3
  a3 := Tryz.isAgg3
  z3 := Tryz.sizeOf3
  v3 := Tryz.zeroValue3
  t4 := Tryz.underlying4
  a4 := Tryz.isAgg4
  z4 := Tryz.sizeOf4
  v4 := Tryz.zeroValue4
  t5 := Tryz.underlying5
  a5 := Tryz.isAgg5
  z5 := Tryz.sizeOf5
  v5 := Tryz.zeroValue5
  t9 := Tryz.underlying9
  a9 := Tryz.isAgg9
  z9 := Tryz.sizeOf9
  v9 := Tryz.zeroValue9
  t21 := Tryz.underlying21
  a21 := Tryz.isAgg21
  z21 := Tryz.sizeOf21
  v21 := Tryz.zeroValue21
  t46 := Tryz.underlying162
  a46 := Tryz.isAgg162
  z46 := Tryz.sizeOf162
  v46 := Tryz.zeroValue162
  t105 := Tryz.underlying130
  a105 := Tryz.isAgg130
  z105 := Tryz.sizeOf130
  v105 := Tryz.zeroValue130
  t116 := Tryz.underlying115
  a116 := Tryz.isAgg115
  z116 := Tryz.sizeOf115
  t117 := Tryz.underlying116
  a117 := Tryz.isAgg116
  z117 := Tryz.sizeOf116
  v117 := Tryz.zeroValue116
  t119 := Tryz.underlying188
  a119 := Tryz.isAgg188
  z119 := Tryz.sizeOf188
  t124 := Tryz.underlying119
  a124 := Tryz.isAgg119
  z124 := Tryz.sizeOf119
  v124 := Tryz.zeroValue119
  t138 := Tryz.underlying229
  a138 := Tryz.isAgg229
  z138 := Tryz.sizeOf229
  v138 := Tryz.zeroValue229
  t139 := Tryz.underlying230
  a139 := Tryz.isAgg230
  z139 := Tryz.sizeOf230
  v139 := Tryz.zeroValue230
  g3 := by kernel_rfl
  g4 := by kernel_rfl }
def Tryz.laysTrimL_ren : Go.Shelf.Ren := ⟨fun | 161 => 26 | 231 => 54 | 227 => 55 | 233 => 56 | 235 => 57 | 228 => 92 | 197 => 93 | 151 => 94 | 260 => 133 | 152 => 134 | 137 => 157 | 119 => 169 | 224 => 170 | 225 => 171 | 217 => 172 | 266 => 215 | n => n, fun | 9 => 9 | 4 => 4 | 3 => 3 | 5 => 5 | 117 => 116 | 116 => 115 | 0 => 0 | 124 => 119 | 105 => 130 | 21 => 21 | 119 => 188 | 46 => 162 | 139 => 230 | 138 => 229 | n => n, fun | 3 => 1 | 4 => 2 | n => n⟩
theorem Tryz.laysTrimL : Go.Proofs.Lays.n161 Tryz.prog Tryz.laysTrimL_ren := {
  mixed := by kernel_rfl
  f119 := Tryz.func169.trans (congrArg some (by kernel_rfl))
  f137 := Tryz.func157.trans (congrArg some (by kernel_rfl))
  f151 := Tryz.func94.trans (congrArg some (by kernel_rfl))
  f152 := Tryz.func134.trans (congrArg some (by kernel_rfl))
  f161 := Tryz.func26.trans (congrArg some (by kernel_rfl))
  f197 := Tryz.func93.trans (congrArg some (by kernel_rfl))
  f217 := Tryz.func172.trans (congrArg some (by kernel_rfl))
  f224 := Tryz.func170.trans (congrArg some (by kernel_rfl))
  f225 := Tryz.func171.trans (congrArg some (by kernel_rfl))
  f227 := Tryz.func55.trans (congrArg some (by kernel_rfl))
  f228 := Tryz.func92.trans (congrArg some (by kernel_rfl))
  f231 := Tryz.func54.trans (congrArg some (by kernel_rfl))
  f233 := Tryz.func56.trans (congrArg some (by kernel_rfl))
  f235 := Tryz.func57.trans (congrArg some (by kernel_rfl))
  f260 := Tryz.func133.trans (congrArg some (by kernel_rfl))
  f266 := Tryz.func215.trans (congrArg some (by kernel_rfl))
  t0 := Tryz.underlying0
  a0 := Tryz.isAgg0
  z0 := Tryz.sizeOf0
  v0 := Tryz.zeroValue0
  t3 := Tryz.underlying3
  a3 := Tryz.isAgg3
  z3 := Tryz.sizeOf3
  v3 := Tryz.zeroValue3
  t4 := Tryz.underlying4
  a4 := Tryz.isAgg4
  z4 := Tryz.sizeOf4
  v4 := Tryz.zeroValue4
  t5 := Tryz.underlying5
  a5 := Tryz.isAgg5
  z5 := Tryz.sizeOf5
  v5 := Tryz.zeroValue5
  t9 := Tryz.underlying9
  a9 := Tryz.isAgg9
  z9 := Tryz.sizeOf9
  v9 := Tryz.zeroValue9
  t21 := Tryz.underlying21
  a21 := Tryz.isAgg21
  z21 := Tryz.sizeOf21
  v21 := Tryz.zeroValue21
  t46 := Tryz.underlying162
  a46 := Tryz.isAgg162
  z46 := Tryz.sizeOf162
  v46 := Tryz.zeroValue162
  t105 := Tryz.underlying130
  a105 := Tryz.isAgg130
  z105 := Tryz.sizeOf130
  v105 := Tryz.zeroValue130
  t116 := Tryz.underlying115
  a116 := Tryz.isAgg115
  z116 := Tryz.sizeOf115
  t117 := Tryz.underlying116
  a117 := Tryz.isAgg116
  z117 := Tryz.sizeOf116
  v117 := Tryz.zeroValue116
  t119 := Tryz.underlying188
  a119 := Tryz.isAgg188
  z119 := Tryz.sizeOf188
  t124 := Tryz.underlying119
  a124 := Tryz.isAgg119
  z124 := Tryz.sizeOf119
  v124 := Tryz.zeroValue119
  t138 := Tryz.underlying229
  a138 := Tryz.isAgg229
  z138 := Tryz.sizeOf229
  v138 := Tryz.zeroValue229
  t139 := Tryz.underlying230
  a139 := Tryz.isAgg230
  z139 := Tryz.sizeOf230
  v139 := Tryz.zeroValue230
  g3 := by kernel_rfl
  g4 := by kernel_rfl }
def Tryz.laysInsert_ren : Go.Shelf.Ren := ⟨fun | 21 => 158 | 27 => 204 | 28 => 205 | 35 => 257 | 39 => 296 | n => n, fun | 22 => 38 | 3 => 3 | 4 => 4 | 0 => 0 | n => n, fun | n => n⟩
theorem Tryz.laysInsert : Go.Proofs.Lays2.n21 Tryz.prog Tryz.laysInsert_ren := {
  mixed := by kernel_rfl
  f21 := Tryz.func158.trans (congrArg some (by kernel_rfl))
  f27 := Tryz.func204.trans (congrArg some (by kernel_rfl))
  f28 := Tryz.func205.trans (congrArg some (by kernel_rfl))
  f35 := Tryz.func257.trans (congrArg some (by kernel_rfl))
  f39 := Tryz.func296.trans (congrArg some (by kernel_rfl))
  t0 := Tryz.underlying0
  a0 := Tryz.isAgg0
  z0 := Tryz.sizeOf0
  v0 := Tryz.zeroValue0
  t3 := Tryz.underlying3
  a3 := Tryz.isAgg3
  z3 := Tryz.sizeOf3
  v3 := Tryz.zeroValue3
  t4 := Tryz.underlying4
  a4 := Tryz.isAgg4
  z4 := Tryz.sizeOf4
  v4 := Tryz.zeroValue4
  t22 := Tryz.underlying38
  a22 := Tryz.isAgg38
  z22 := Tryz.sizeOf38
  v22 := Tryz.zeroValue38
  i3 := by kernel_rfl }
end Go.Proofs

/-
The types of package active, and the library's generic functions at them.
-/
namespace Go.Proofs.YtegcedboeemedaaGreatDoor
open Go.RowKit Go.Cl

abbrev Attr := ByteArray × ByteArray
structure Item where
  node : Int
  name : ByteArray
  attrs : List Attr
def tAttr : Ty Attr := tPair tStr tStr
def tItem : Ty Item := tMap (tPair (tInt .i64) (tPair tStr (tSlice tAttr))) (fun x => (x.node, x.name, x.attrs)) 48

theorem elemItem : ElemOf Tryz.prog 84 289 3 48 := mkElem Tryz.underlying84 (by kernel_rfl) (z := .agg #[.int .i64 0, .string ⟨#[]⟩, .slice none 0 0]) rfl (by decide)
theorem elemInt : ElemOf Tryz.prog 38 3 1 8 := mkElem Tryz.underlying38 (by kernel_rfl) (z := .int .i64 0) rfl (by decide)

/-- '==' of two attributes. -/
theorem eqlAttr (w : World) (a b c d : ByteArray) : (binOp .eql 141 (.agg #[.string a, .string b]) (.agg #[.string c, .string d])).run Tryz.prog w = .ok (.bool (a.toList == c.toList && b.toList == d.toList)) w := by
  have hS : Tryz.prog.underlying 141 = some (.struct (Tryz.prog.fieldsOf 141)) := by kernel_rfl
  have hp : Tryz.prog.stoodInHeld 141 = false := by kernel_rfl
  rw [run_eql_struct, run_equalIn_struct w 9999 _ _ _ hS hp]
  simp only [Program.fieldsOf, Tryz.underlying141]
  cases h1 : (a.toList == c.toList) <;> cases h2 : (b.toList == d.toList) <;> simp [go_sem, Op.eqFields, h1, h2]

theorem containsInt_any (A : Option Addr) (n c : Nat) (l : List Int) (x : Int) (w : World) (D : Nat → Prop) (hl : Sl (tInt .i64) w D A n c l) :
    Calls Tryz.prog 300 #[.slice A n c, .int .i64 x] w fun e w' => e = .returned (.bool (l.contains x)) ∧ w' = w := by
  rcases Nat.eq_zero_or_pos n with h0 | h0
  · subst h0
    obtain rfl : l = [] := List.eq_nil_of_length_eq_zero hl.hn.symm
    exact (Tryz.slices_Contains_int_empty A c x w).mono fun e w' h => ⟨by rw [h.1]; rfl, h.2⟩
  · obtain ⟨b, o, cells, rfl, hb, hr, hc⟩ := hl.at_ h0
    have hn := hl.hn
    refine (Tryz.slices_Contains_int b o n c l x w (by omega) (by have := hl.small; omega) (fun j hj => ?_)).mono fun e w' h => ⟨by rw [h.1, hn, List.take_length], h.2⟩
    obtain ⟨b', o', e, _, hcell, _⟩ := hl.int (List.getElem?_eq_getElem hj)
    simp only [Option.some.injEq, Addr.mk.injEq] at e
    obtain ⟨rfl, rfl, _⟩ := e
    rw [hcell, List.getD_eq_getElem?_getD, List.getElem?_eq_getElem hj]; rfl

end Go.Proofs.YtegcedboeemedaaGreatDoor

/-
The walks of package active.
-/
namespace Go.Proofs.YtegcedboeemedaaGreatDoor
open Go.RowKit Go.Cl

theorem marker_any (k : Int) (nm : ByteArray) (A : Option Addr) (n c : Nat) (w : World) :
    Calls Tryz.prog 312 #[.agg #[.int .i64 k, .string nm, .slice A n c]] w fun e w' => e = .returned (.bool (k == -1)) ∧ Below w.heap.size w w' := by
  go_enter Tryz.func312, Tryz.ntmps312
  go_wp2
  go_ret
  exact ⟨rfl, (Below.refl _ _).alloc (Nat.le_refl _) _⟩

/-- An item's cells. -/
theorem item_cells {w : World} {D : Nat → Prop} {x : Item} {cells : List Value} (h : tItem.rep w D x cells) :
    ∃ A n c, cells = [.int .i64 x.node, .string x.name, .slice A n c] ∧ Sl tAttr w D A n c x.attrs ∧ (Lit.int .i64 x.node).wf = true ∧ x.name.size ≤ 1152921504606846976 := by
  obtain ⟨c1, c2, rfl, ⟨rfl, hw⟩, c3, c4, rfl, ⟨rfl, hs⟩, A, n, c, rfl, hl⟩ := h
  exact ⟨A, n, c, rfl, hl, hw, hs⟩
theorem attr_cells {w : World} {D : Nat → Prop} {x : Attr} {cells : List Value} (h : tAttr.rep w D x cells) :
    cells = [.string x.1, .string x.2] ∧ x.1.size ≤ 1152921504606846976 ∧ x.2.size ≤ 1152921504606846976 := by
  obtain ⟨c1, c2, rfl, ⟨rfl, hw⟩, rfl, hs⟩ := h
  exact ⟨rfl, hw, hs⟩

def eqAB (v x : Attr) : Bool := v.1.toList == x.1.toList && v.2.toList == x.2.toList

theorem indexAttr_any (A : Option Addr) (n c : Nat) (l : List Attr) (v : Attr) (w : World) (B : Nat) (hl : Sl tAttr w (lt B) A n c l) (hB : B ≤ w.heap.size) :
    Calls Tryz.prog 332 #[.slice A n c, .agg #[.string v.1, .string v.2]] w fun e w' => ∃ r : Int, e = .returned (.int .i64 r) ∧ Below w.heap.size w w' ∧ decide (0 ≤ r) = l.any (eqAB v) := by
  have hn1 := hl.small
  have HL := Lib.hid hl.hn
  go_enter Tryz.func332, Tryz.ntmps332
  go_wp2_with fail
  go_loopw [8] (fun i wr => ∃ k : Nat, k ≤ n ∧ i = .int .i64 (k : Int) ∧ Below (w.heap.size + 1) (w.alloc (.cells #[.string v.1, .string v.2] 141)) wr ∧ (l.take k).any (eqAB v) = false) (fun i _ => n - (intOf i).toNat)
  case atStart => exact ⟨0, Nat.zero_le _, rfl, Below.refl _ _, by simp⟩
  case round =>
    obtain ⟨k, hk, rfl, hb, hany⟩ := hrel
    have HA := Lib.hid hany
    clear hany
    have hg := (hb.block w.heap.size (by omega)).trans (heap_alloc_new w _)
    have b0 : wr.cell? ⟨w.heap.size, 0, none⟩ = some (.string v.1) := cell_blk hg rfl
    have b1 : wr.cell? ⟨w.heap.size, 1, none⟩ = some (.string v.2) := cell_blk hg rfl
    have hbw : Below w.heap.size w wr := ((Below.refl _ _).alloc (Nat.le_refl _) _).trans (hb.mono (by omega))
    clear hg
    by_cases hlt : k < n
    · obtain ⟨x, hx⟩ : ∃ x, l[k]? = some x := get_some (by have := HL.out; omega)
      have HX := Lib.hid hx
      obtain ⟨bq, oq, cells, rfl, hD, hrep, hcells⟩ := (hl.below hbw hB).get hx
      clear hx
      obtain ⟨rfl, _, _⟩ := attr_cells hrep
      have hc0 := hcells 0 _ rfl
      have hc1 := hcells 1 _ rfl
      clear hcells hrep
      simp only [tAttr, tPair, tStr, Nat.reduceAdd, Nat.add_zero, ← Nat.add_assoc] at hc0 hc1
      have hlt' : (k : Int) < (n : Int) := by omega
      have heq := eqlAttr
      have hgd : ∀ (w : World) (x y : Operand) (xs ys : Array Value), (eqGuard .eql 141 x y (.agg xs) (.agg ys)).run Tryz.prog w = .ok () w := fun w x y xs ys => run_eqGuard_agg w .eql _ x y xs ys (by kernel_rfl)
      have HTS := Lib.hid (take_snoc HX.out)
      have hmem : x ∈ l := List.mem_of_getElem? HX.out
      have HM := Lib.hid hmem
      clear hmem
      have HB := Lib.hid hb
      clear hb
      cases h1 : eqAB v x with
      | true =>
        have H1 := Lib.hid h1
        have H1' : Hid ((v.1.toList == x.1.toList && v.2.toList == x.2.toList) = true) := H1
        clear h1
        go_wp2_with fail
        go_quiet (fail)
        rw [H1'.out]
        go_wp2_with fail
        go_ret
        exact ⟨k, rfl, below_drewN hbw _, by
          have h2 : l.any (eqAB v) = true := List.any_eq_true.2 ⟨x, HM.out, H1.out⟩
          rw [h2]; simp⟩
      | false =>
        have H1 := Lib.hid h1
        have H1' : Hid ((v.1.toList == x.1.toList && v.2.toList == x.2.toList) = false) := H1
        clear h1
        go_wp2_with fail
        go_quiet (fail)
        rw [H1'.out]
        go_wp2_with fail
        go_roundw
        case rel => exact ⟨k + 1, by omega, by go_num, below_drewN HB.out _, by rw [HTS.out, List.any_append, HA.out]; simp [H1.out]⟩
        case measure => simp [intOf]; omega
    · go_wp2_with fail
      go_ret
      exact ⟨-1, rfl, hbw, by
        have h1 : l.take k = l := List.take_of_length_le (by have := HL.out; omega)
        have h2 := HA.out
        rw [h1] at h2
        rw [h2]; rfl⟩

theorem containsAttr_any (A : Option Addr) (n c : Nat) (l : List Attr) (v : Attr) (w : World) (B : Nat) (hl : Sl tAttr w (lt B) A n c l) (hB : B ≤ w.heap.size) :
    Calls Tryz.prog 329 #[.slice A n c, .agg #[.string v.1, .string v.2]] w fun e w' => e = .returned (.bool (l.any (eqAB v))) ∧ Below w.heap.size w w' := by
  have HC := Lib.hid (indexAttr_any A n c l v (w.alloc (.cells #[.string v.1, .string v.2] 141)) B (hl.al hB _) (by simp; omega))
  have hz : ∀ o, (w.alloc o).heap.size = w.heap.size + 1 := World.size_alloc w
  go_enter Tryz.func329, Tryz.ntmps329
  go_wp2_with fail
  refine HC.out.mono ?_
  rintro e w1 ⟨r, rfl, hb, hr⟩
  have HR := Lib.hid hr
  have HB := Lib.hid (((Below.refl w.heap.size w).alloc (Nat.le_refl _) _).trans (hb.mono (by rw [hz]; omega)))
  clear hr hb hz
  go_wp2_with fail
  go_ret
  exact ⟨retB HR.out, HB.out⟩

theorem withinOne_any (x : Attr) (b : List Attr) (g : Nat) (A : Option Addr) (n c : Nat) (w : World) (B : Nat) (hl : Sl tAttr w (lt B) A n c b) (hB : B ≤ w.heap.size) (hg : w.cell? ⟨g, 0, none⟩ = some (.slice A n c)) :
    Calls Tryz.prog 328 #[.agg #[.string x.1, .string x.2], .pointer (some ⟨g, 0, none⟩)] w fun e w' => e = .returned (.bool (!b.any (eqAB x))) ∧ Below w.heap.size w w' := by
  have HC := Lib.hid (containsAttr_any A n c b x (w.alloc (.cells #[.string x.1, .string x.2] 141)) B (hl.al hB _) (by simp; omega))
  have hg2 := cell_al hg
  have hz : ∀ o, (w.alloc o).heap.size = w.heap.size + 1 := World.size_alloc w
  go_enter Tryz.func328, Tryz.ntmps328
  go_wp2_with fail
  refine HC.out.mono ?_
  rintro e w1 ⟨rfl, hb⟩
  have HB := Lib.hid (((Below.refl w.heap.size w).alloc (Nat.le_refl _) _).trans (hb.mono (by rw [hz]; omega)))
  clear hb hz
  have HQ : ∃ q, Hid (b.any (eqAB x) = q) := ⟨_, rfl⟩
  obtain ⟨q, HQ⟩ := HQ
  rw [HQ.out]
  go_wp2_with fail
  go_ret
  exact ⟨retB (by rw [HQ.out]), HB.out⟩

/-- slices.IndexFunc, as far as slices.ContainsFunc looks. -/
theorem anyNotIn_idx (g : Nat) (A : Option Addr) (n c : Nat) (xs : List Attr) (p : Attr → Bool) (w : World) (B : Nat) (hl : Sl tAttr w (lt B) A n c xs) (hB : B ≤ w.heap.size)
    (hp : ∀ W : World, Below w.heap.size w W → ∀ x ∈ xs, ∀ cells, tAttr.rep W (lt B) x cells → Calls Tryz.prog 328 #[.agg cells.toArray, .pointer (some ⟨g, 0, none⟩)] W fun e W' => e = .returned (.bool (p x)) ∧ Below W.heap.size W W') :
    Calls Tryz.prog 161 #[.slice A n c, .func (.func 328) #[] #[.pointer (some ⟨g, 0, none⟩)]] w fun e w' => ∃ r : Int, e = .returned (.int .i64 r) ∧ Below w.heap.size w w' ∧ decide (0 ≤ r) = xs.any p := by
  have hn1 := hl.small
  have HL := Lib.hid hl.hn
  go_enter Tryz.func161, Tryz.ntmps161
  go_wp2_with fail
  go_loopw [8] (fun i wr => ∃ k : Nat, k ≤ n ∧ i = .int .i64 (k : Int) ∧ Below w.heap.size w wr ∧ (xs.take k).any p = false) (fun i _ => n - (intOf i).toNat)
  case atStart => exact ⟨0, Nat.zero_le _, rfl, Below.refl _ _, by simp⟩
  case round =>
    obtain ⟨k, hk, rfl, hb, hany⟩ := hrel
    have HA := Lib.hid hany
    clear hany
    by_cases hlt : k < n
    · obtain ⟨x, hx⟩ : ∃ x, xs[k]? = some x := get_some (by have := HL.out; omega)
      have HX := Lib.hid hx
      have hmem : x ∈ xs := List.mem_of_getElem? hx
      obtain ⟨bq, oq, cells, rfl, hD, hrep, hcells⟩ := (hl.below hb hB).get hx
      have hcall := hp wr hb x hmem cells hrep
      obtain ⟨rfl, _, _⟩ := attr_cells hrep
      have hc0 := hcells 0 _ rfl
      have hc1 := hcells 1 _ rfl
      clear hcells hrep
      simp only [tAttr, tPair, tStr, Nat.reduceAdd, Nat.add_zero, ← Nat.add_assoc] at hc0 hc1
      clear hx
      have HCALL := Lib.hid hcall
      clear hcall
      have HTS := Lib.hid (take_snoc HX.out)
      cases hpx : p x with
      | true =>
        have HP := Lib.hid hpx
        clear hpx
        go_wp2_with (go_at_call 328; refine HCALL.out.mono ?_; rintro e w1 ⟨rfl, hb1⟩; rw [HP.out])
        have hb2 := Lib.hid (hb.trans (hb1.mono hb.size))
        clear hb hb1
        go_wp2_with fail
        go_ret
        exact ⟨k, rfl, hb2.out, by
          have h1 : xs.any p = true := List.any_eq_true.2 ⟨x, hmem, HP.out⟩
          rw [h1]; simp⟩
      | false =>
        have HP := Lib.hid hpx
        clear hpx
        go_wp2_with (go_at_call 328; refine HCALL.out.mono ?_; rintro e w1 ⟨rfl, hb1⟩; rw [HP.out])
        have hb2 := Lib.hid (hb.trans (hb1.mono hb.size))
        clear hb hb1
        go_wp2_with fail
        go_roundw
        case rel => exact ⟨k + 1, by omega, by go_num, hb2.out, by rw [HTS.out, List.any_append, HA.out]; simp [HP.out]⟩
        case measure => simp [intOf]; omega
    · go_wp2_with fail
      go_ret
      exact ⟨-1, rfl, hb, by
        have h1 : xs.take k = xs := List.take_of_length_le (by have := HL.out; omega)
        have h2 := HA.out
        rw [h1] at h2
        rw [h2]; rfl⟩
theorem anyNotIn (g : Nat) (A : Option Addr) (n c : Nat) (xs : List Attr) (p : Attr → Bool) (w : World) (B : Nat) (hl : Sl tAttr w (lt B) A n c xs) (hB : B ≤ w.heap.size)
    (hp : ∀ W : World, Below w.heap.size w W → ∀ x ∈ xs, ∀ cells, tAttr.rep W (lt B) x cells → Calls Tryz.prog 328 #[.agg cells.toArray, .pointer (some ⟨g, 0, none⟩)] W fun e W' => e = .returned (.bool (p x)) ∧ Below W.heap.size W W') :
    Calls Tryz.prog 149 #[.slice A n c, .func (.func 328) #[] #[.pointer (some ⟨g, 0, none⟩)]] w fun e w' => e = .returned (.bool (xs.any p)) ∧ Below w.heap.size w w' := by
  have HC := Lib.hid (anyNotIn_idx g A n c xs p w B hl hB hp)
  clear hp
  go_enter Tryz.func149, Tryz.ntmps149
  go_wp2_with fail
  refine HC.out.mono ?_
  rintro e w1 ⟨r, rfl, hb, hr⟩
  have HR := Lib.hid hr
  clear hr
  go_wp2_with fail
  go_ret
  exact ⟨retB HR.out, hb⟩

def withinB (a b : List Attr) : Bool := !a.any fun x => !b.any (eqAB x)

theorem within_any (A : Option Addr) (n c : Nat) (a : List Attr) (A' : Option Addr) (n' c' : Nat) (b : List Attr) (w : World) (B : Nat) (hB : B ≤ w.heap.size) (ha : Sl tAttr w (lt B) A n c a) (hb : Sl tAttr w (lt B) A' n' c' b) :
    Calls Tryz.prog 323 #[.slice A n c, .slice A' n' c'] w fun e w' => e = .returned (.bool (withinB a b)) ∧ Below w.heap.size w w' := by
  have hz : ∀ o, (w.alloc o).heap.size = w.heap.size + 1 := World.size_alloc w
  have HC := Lib.hid (anyNotIn w.heap.size A n c a (fun x => !b.any (eqAB x)) (w.alloc (.cells #[.slice A' n' c'] 44)) B (ha.al hB _) (by rw [hz]; omega) (fun W hW x hx cells hr => by
    obtain ⟨rfl, _, _⟩ := attr_cells hr
    have hg := (hW.block w.heap.size (by rw [hz]; omega)).trans (heap_alloc_new w _)
    exact withinOne_any x b w.heap.size A' n' c' W B (((hb.al hB _).below hW (by rw [hz]; omega))) (Nat.le_trans (by rw [hz]; omega) hW.size) (cell_blk hg rfl)))
  go_enter Tryz.func323, Tryz.ntmps323
  go_wp2_with fail
  refine HC.out.mono ?_
  rintro e w1 ⟨rfl, hb⟩
  have HB := Lib.hid (((Below.refl w.heap.size w).alloc (Nat.le_refl _) _).trans (hb.mono (by rw [hz]; omega)))
  clear hb hz
  have HW : Hid ((!a.any fun x => !b.any (eqAB x)) = withinB a b) := rfl
  generalize (a.any fun x => !b.any (eqAB x)) = q at HW ⊢
  go_wp2_with fail
  go_ret
  exact ⟨retB HW.out, HB.out⟩

def alikeB (a b : Item) : Bool := a.name.toList == b.name.toList && a.attrs.length == b.attrs.length && withinB a.attrs b.attrs && withinB b.attrs a.attrs

theorem alike_any (x y : Item) (A : Option Addr) (n c : Nat) (A' : Option Addr) (n' c' : Nat) (w : World) (B : Nat) (hB : B ≤ w.heap.size) (ha : Sl tAttr w (lt B) A n c x.attrs) (hb : Sl tAttr w (lt B) A' n' c' y.attrs) :
    Calls Tryz.prog 311 #[.agg #[.int .i64 x.node, .string x.name, .slice A n c], .agg #[.int .i64 y.node, .string y.name, .slice A' n' c']] w fun e w' => e = .returned (.bool (alikeB x y)) ∧ Below w.heap.size w w' := by
  have HN := Lib.hid ha.hn
  have HN' := Lib.hid hb.hn
  have hn1 := ha.small
  have hn2 := hb.small
  have hz : ∀ o, (w.alloc o).heap.size = w.heap.size + 1 := World.size_alloc w
  have hzz : ∀ o o', ((w.alloc o).alloc o').heap.size = w.heap.size + 1 + 1 := fun o o' => by rw [World.size_alloc, World.size_alloc]
  have ha2 := fun o o' => (ha.al hB o).al (by rw [hz]; omega) o'
  have hb2 := fun o o' => (hb.al hB o).al (by rw [hz]; omega) o'
  have hbase := fun o o' => ((Below.refl w.heap.size w).alloc (Nat.le_refl _) o).alloc (by rw [hz]; omega) o'
  have hblk0 : ∀ o o', ((w.alloc o).alloc o').heap[w.heap.size]? = some o := fun o o' => (Below.heap_alloc _ o' w.heap.size (by rw [hz]; omega)).trans (heap_alloc_new w o)
  have hblk1 : ∀ o o', ((w.alloc o).alloc o').heap[w.heap.size + 1]? = some o' := fun o o' => by have := heap_alloc_new (w.alloc o) o'; rw [hz] at this; exact this
  cases h1 : (x.name.toList == y.name.toList) with
  | false =>
    have HB := Lib.hid hbase
    clear ha2 hb2 hbase hblk0 hblk1 hz hzz
    go_enter Tryz.func311, Tryz.ntmps311
    go_wp2_with fail
    go_ret
    exact ⟨retB (by simp [alikeB, h1]), HB.out _ _⟩
  | true =>
    cases h2 : ((n : Int) == (n' : Int)) with
    | false =>
      have HB := Lib.hid hbase
      clear ha2 hb2 hbase hblk0 hblk1 hz hzz
      go_enter Tryz.func311, Tryz.ntmps311
      go_wp2_with fail
      go_ret
      exact ⟨retB (by
        have : (x.attrs.length == y.attrs.length) = false := by rw [← HN.out, ← HN'.out, beq_eq_false_iff_ne]; rw [beq_eq_false_iff_ne] at h2; omega
        simp [alikeB, this]), HB.out _ _⟩
    | true =>
      have H2 : Hid ((x.attrs.length == y.attrs.length) = true) := by show _ = true; rw [← HN.out, ← HN'.out, beq_iff_eq]; rw [beq_iff_eq] at h2; omega
      obtain rfl : n = n' := by rw [beq_iff_eq] at h2; omega
      clear h2
      have HA2 := Lib.hid ha2
      have HB2 := Lib.hid hb2
      have HK0 := Lib.hid hblk0
      have HK1 := Lib.hid hblk1
      have HZZ := Lib.hid hzz
      have HB := Lib.hid hbase
      clear ha2 hb2 hbase hblk0 hblk1 hz hzz
      go_enter Tryz.func311, Tryz.ntmps311
      go_wp2_with fail
      refine (within_any A n c x.attrs A' n c' y.attrs _ B (by rw [HZZ.out]; omega) (HA2.out _ _) (HB2.out _ _)).mono ?_
      rintro e w1 ⟨rfl, hb1⟩
      rw [HZZ.out] at hb1
      cases h3 : withinB x.attrs y.attrs with
      | false =>
        have H3 := Lib.hid h3
        have HB' := Lib.hid ((HB.out _ _).trans (hb1.mono (by omega)))
        clear h3 hb1
        go_wp2_with fail
        go_ret
        exact ⟨retB (by simp [alikeB, H3.out]), HB'.out⟩
      | true =>
        have H3 := Lib.hid h3
        have HB' := Lib.hid ((HB.out _ _).trans (hb1.mono (by omega)))
        have ha3 := (HA2.out _ _).below hb1 (by omega)
        have hb3 := (HB2.out _ _).below hb1 (by omega)
        have k0 := cell_blk (i := 2) ((hb1.block w.heap.size (by omega)).trans (HK0.out _ _)) rfl
        have k1 := cell_blk (i := 2) ((hb1.block (w.heap.size + 1) (by omega)).trans (HK1.out _ _)) rfl
        have hz1 := hb1.size
        rw [HZZ.out] at hz1
        clear h3 hb1
        go_wp2_with fail
        refine (within_any A' n c' y.attrs A n c x.attrs _ B (by omega) hb3 ha3).mono ?_
        rintro e w2 ⟨rfl, hb2⟩
        have HB2' := Lib.hid (HB'.out.trans (hb2.mono (by omega)))
        clear hb2 ha3 hb3 k0 k1
        have HR : Hid (withinB y.attrs x.attrs = alikeB x y) := by show _ = _; simp [alikeB, h1, H2.out, H3.out]
        generalize withinB y.attrs x.attrs = q at HR ⊢
        go_wp2_with fail
        go_ret
        exact ⟨retB HR.out, HB2'.out⟩

/-- Where the last marker is: so many items are up to it. -/
def lastN (l : List Item) : Nat := l.length - (l.reverse.takeWhile fun x => !(x.node == -1)).length

theorem last_any (A : Option Addr) (n c : Nat) (l : List Item) (w : World) (B : Nat) (hl : Sl tItem w (lt B) A n c l) (hB : B ≤ w.heap.size) :
    Calls Tryz.prog 299 #[.slice A n c] w fun e w' => e = .returned (.int .i64 (lastN l)) ∧ Below w.heap.size w w' := by
  have hn1 := hl.small
  have HL := Lib.hid hl.hn
  go_enter Tryz.func299, Tryz.ntmps299
  go_wp2_with fail
  go_loopw [3] (fun i wr => ∃ k : Nat, k ≤ n ∧ i = .int .i64 (k : Int) ∧ Below w.heap.size w wr ∧ lastN l = lastN (l.take k)) (fun i _ => (intOf i).toNat)
  case atStart => exact ⟨n, Nat.le_refl _, rfl, Below.refl _ _, by rw [HL.out, List.take_length]⟩
  case round =>
    obtain ⟨k, hk, rfl, hb, hany⟩ := hrel
    have HA := Lib.hid hany
    clear hany
    by_cases hlt : 0 < k
    · obtain ⟨x, hx⟩ : ∃ x, l[k - 1]? = some x := get_some (by have := HL.out; omega)
      have HX := Lib.hid (take_rev hlt hx)
      have HT := Lib.hid (take_pred hlt hx)
      have HLK : Hid ((l.take k).length = k) := by have := HL.out; show _ = _; rw [List.length_take]; omega
      obtain ⟨bq, oq, cells, rfl, hD, hrep, hcells⟩ := (hl.below hb hB).get hx
      obtain ⟨A1, n1, c1, rfl, _, _, _⟩ := item_cells hrep
      have hc0 := hcells 0 _ rfl
      have hc1 := hcells 1 _ rfl
      have hc2 := hcells 2 _ rfl
      clear hcells hrep hx
      simp only [tItem, tMap, tPair, tInt, tStr, tSlice, Nat.reduceAdd, Nat.add_zero, ← Nat.add_assoc] at hc0 hc1 hc2
      go_wp2_with fail
      refine (marker_any x.node x.name A1 n1 c1 _).mono ?_
      rintro e w1 ⟨rfl, hb1⟩
      have HB := Lib.hid (hb.trans (hb1.mono hb.size))
      clear hb hb1
      cases h1 : (x.node == -1) with
      | true =>
        have H1 := Lib.hid h1
        clear h1
        go_wp2_with fail
        go_ret
        exact ⟨retI (by rw [HA.out, lastN, HX.out, List.takeWhile_cons, H1.out, HLK.out]; simp), HB.out⟩
      | false =>
        have H1 := Lib.hid h1
        clear h1
        go_wp2_with fail
        go_roundw
        case rel => exact ⟨k - 1, by omega, by go_num, HB.out, by
          have h2 : (l.take (k - 1)).length = k - 1 := by have := HL.out; rw [List.length_take]; omega
          rw [HA.out, lastN, HX.out, List.takeWhile_cons, H1.out, HLK.out, lastN, h2]; simp; omega⟩
        case measure => simp [intOf]; omega
    · go_wp2_with fail
      go_ret
      obtain rfl : k = 0 := by omega
      exact ⟨retI (by rw [HA.out]; simp [lastN]), hb⟩

theorem lastN_le (l : List Item) : lastN l ≤ l.length := Nat.sub_le _ _
theorem lastN_cons {l : List Item} {x : Item} {r : List Item} (h : l.reverse = x :: r) : lastN l = if x.node == -1 then l.length else lastN r.reverse := by
  have hl : l.length = r.length + 1 := by rw [← List.length_reverse, h, List.length_cons]
  rw [lastN, h, List.takeWhile_cons]
  cases hx : (x.node == -1)
  · simp [lastN]; omega
  · simp

/-- From the end: the first of a name, ahead of which no marker stands; -1: there is none. -/
def foundRev (name : ByteArray) : List Item → Int
  | [] => -1
  | x :: r => if x.node == -1 then -1 else if x.name.toList == name.toList then r.length else foundRev name r

/-- From the end: so many items are up to the last one that need not be made again. -/
def missRev (op : List Int) : List Item → Nat
  | [] => 0
  | x :: r => if x.node == -1 then r.length + 1 else if op.contains x.node then r.length + 1 else missRev op r

theorem missing_any (A : Option Addr) (n c : Nat) (l : List Item) (A' : Option Addr) (n' c' : Nat) (op : List Int) (w : World) (B : Nat) (hl : Sl tItem w (lt B) A n c l) (ho : Sl (tInt .i64) w (lt B) A' n' c' op) (hB : B ≤ w.heap.size) :
    Calls Tryz.prog 277 #[.slice A n c, .slice A' n' c'] w fun e w' => e = .returned (.int .i64 (missRev op l.reverse)) ∧ Below w.heap.size w w' := by
  have hn1 := hl.small
  have HL := Lib.hid hl.hn
  go_enter Tryz.func277, Tryz.ntmps277
  go_wp2_with fail
  go_loopw [5] (fun i wr => ∃ k : Nat, k ≤ n ∧ i = .int .i64 (k : Int) ∧ Below w.heap.size w wr ∧ lastN l = lastN (l.take k) ∧ missRev op l.reverse = missRev op (l.take k).reverse) (fun i _ => (intOf i).toNat)
  case atStart => exact ⟨n, Nat.le_refl _, rfl, Below.refl _ _, by rw [HL.out, List.take_length], by rw [HL.out, List.take_length]⟩
  case round =>
    obtain ⟨k, hk, rfl, hb, hlast, hfound⟩ := hrel
    have HA := Lib.hid hlast
    have HF := Lib.hid hfound
    clear hlast hfound
    have hlen : (l.take k).length = k := by have := HL.out; rw [List.length_take]; omega
    have HLK := Lib.hid hlen
    have hle := lastN_le (l.take k)
    rw [hlen, ← HA.out] at hle
    clear hlen
    by_cases hlt : 0 < k
    · obtain ⟨x, hx⟩ : ∃ x, l[k - 1]? = some x := get_some (by have := HL.out; omega)
      have HX := Lib.hid (take_rev hlt hx)
      have HC := Lib.hid (lastN_cons (take_rev hlt hx))
      have hlr := hl.below hb hB
      obtain ⟨bq, oq, cells, rfl, hD, hrep, hcells⟩ := hlr.get hx
      obtain ⟨A1, n1, c1, rfl, _, _, _⟩ := item_cells hrep
      have hcall := Lib.hid (last_any _ n c l wr B hlr (Nat.le_trans hB hb.size))
      have HCE := Lib.hid hcells
      clear hcells hrep hx
      generalize hq : lastN l = q at *
      have HQ := Lib.hid hq
      clear hq
      have hD' : bq < wr.heap.size := Nat.lt_of_lt_of_le hD (Nat.le_trans hB hb.size)
      cases h1 : (x.node == -1) with
      | true =>
        obtain rfl : q = k := by have := HC.out; rw [h1, if_pos rfl, HLK.out] at this; rw [HA.out, this]
        go_wp2_with fail
        refine hcall.out.mono ?_
        rintro e w1 ⟨rfl, hb1⟩
        have HB := Lib.hid (hb.trans (hb1.mono hb.size))
        clear hb hb1 hlr
        go_wp2_with fail
        go_ret
        exact ⟨retI (by
            have h3 : (l.take (q - 1)).reverse.length = q - 1 := by have := HL.out; rw [List.length_reverse, List.length_take]; omega
            rw [HF.out, HX.out, missRev, h1, h3]; simp; omega), HB.out⟩
      | false =>
        have hqk : q ≤ k - 1 := by
          have h2 := HC.out
          rw [h1, if_neg (by simp), List.reverse_reverse] at h2
          have h3 := lastN_le (l.take (k - 1))
          have h4 := HA.out
          rw [List.length_take] at h3
          omega
        have hqk' : q < k := by omega
        have H1 := Lib.hid h1
        clear h1
        go_wp2_with fail
        refine hcall.out.mono ?_
        rintro e w1 ⟨rfl, hb1⟩
        have hc0 := (hb1.cell (p := ⟨bq, _, none⟩) hD').trans (HCE.out 0 _ rfl)
        simp only [tItem, tMap, tPair, tInt, tStr, tSlice, Nat.reduceAdd, Nat.add_zero] at hc0
        have HB := Lib.hid (hb.trans (hb1.mono hb.size))
        have ho' := (ho.below hb hB).below hb1 (Nat.le_trans hB hb.size)
        clear hb hb1 hlr
        go_wp2_with fail
        refine (containsInt_any A' n' c' op x.node w1 _ ho').mono ?_
        rintro e w2 ⟨rfl, rfl⟩
        cases h2 : op.contains x.node with
        | true =>
          have H2 := Lib.hid h2
          clear h2
          go_wp2_with fail
          go_ret
          exact ⟨retI (by
            have h3 : (l.take (k - 1)).reverse.length = k - 1 := by have := HL.out; rw [List.length_reverse, List.length_take]; omega
            rw [HF.out, HX.out, missRev, H1.out, H2.out, h3]; simp; omega), HB.out⟩
        | false =>
          have H2 := Lib.hid h2
          clear h2
          go_wp2_with fail
          go_roundw
          case rel => exact ⟨k - 1, by omega, by go_num, HB.out, by
            have h3 := HC.out
            rw [H1.out, if_neg (by simp), List.reverse_reverse] at h3
            rw [HA.out, h3], by rw [HF.out, HX.out, missRev, H1.out, H2.out]; rfl⟩
          case measure => simp [intOf]; omega
    · obtain rfl : k = 0 := by omega
      have hcall := Lib.hid (last_any _ n c l wr B (hl.below hb hB) (Nat.le_trans hB hb.size))
      generalize hq : lastN l = q at *
      go_wp2_with fail
      refine hcall.out.mono ?_
      rintro e w1 ⟨rfl, hb1⟩
      have HB := Lib.hid (hb.trans (hb1.mono hb.size))
      clear hb hb1
      go_wp2_with fail
      go_ret
      exact ⟨retI (by rw [HF.out]; simp [missRev]), HB.out⟩

end Go.Proofs.YtegcedboeemedaaGreatDoor

/-
The walks of package active that make and change lists.
-/
namespace Go.Proofs.YtegcedboeemedaaGreatDoor
open Go.RowKit Go.Cl

/-- One item of a slice. -/
theorem sl_item {w : World} {D : Nat → Prop} {A : Option Addr} {n c : Nat} {l : List Item} (h : Sl tItem w D A n c l) {i : Nat} {x : Item} (hx : l[i]? = some x) :
    ∃ b o A1 n1 c1, A = some ⟨b, o, none⟩ ∧ D b ∧ w.cell? ⟨b, o + i * 3, none⟩ = some (.int .i64 x.node) ∧ w.cell? ⟨b, o + i * 3 + 1, none⟩ = some (.string x.name) ∧ w.cell? ⟨b, o + i * 3 + 2, none⟩ = some (.slice A1 n1 c1) ∧ Sl tAttr w D A1 n1 c1 x.attrs := by
  obtain ⟨b, o, cells, e, hD, hrep, hcells⟩ := h.get hx
  obtain ⟨A1, n1, c1, rfl, hs, _, _⟩ := item_cells hrep
  exact ⟨b, o, A1, n1, c1, e, hD, hcells 0 _ rfl, hcells 1 _ rfl, hcells 2 _ rfl, hs⟩

set_option maxRecDepth 100000 in
/-- slices.Delete of one element, in a row of the call's own. -/
theorem deleteItem (g n c i : Nat) (xs : List Item) (w : World) (base : Nat) (D : Nat → Prop) (hown : Own tItem w base 289 D (.slice (some ⟨g, 0, none⟩) n c) n xs) (hD : ∀ b, D b → b ≠ g) (hi : i < n) (hn : n ≤ 140737488355328) :
    Calls Tryz.prog 313 #[.slice (some ⟨g, 0, none⟩) n c, .int .i64 (i : Int), .int .i64 ((i : Int) + 1)] w fun e w' => e = .returned (.slice (some ⟨g, 0, none⟩) (n - 1) c) ∧ Own tItem w' base 289 D (.slice (some ⟨g, 0, none⟩) (n - 1) c) (n - 1) (xs.eraseIdx i) ∧ w.grownBy w' (some g) := by
  obtain ⟨cells, h1, h2⟩ := hown
  have hlen := h1.1
  have hT : (tItem).size = 3 := rfl
  rw [hT] at hlen
  rcases h1.2 with ⟨hv, _⟩ | ⟨g', cap, cur, hv, hb, hh, hnc, hcm, hsz, htk⟩
  · cases hv
  simp only [Value.slice.injEq, Option.some.injEq, Addr.mk.injEq, and_true, true_and] at hv
  obtain ⟨rfl, rfl⟩ := hv
  rw [hT] at hsz htk
  have hcl : cur.toList.length = c * 3 := by simpa using hsz
  have HNEW : Hid ((cells.drop ((i + 1) * 3)).length = (n - (i + 1)) * 3) := by show _ = _; rw [List.length_drop, hlen]; omega
  obtain ⟨A', HA'⟩ : ∃ A', Hid ((if c = i + 1 then some (⟨g, 0, none⟩ : Addr) else some ⟨g, (i + 1) * 3, none⟩) = some A') := by
    by_cases hci : c = i + 1
    · exact ⟨_, if_pos hci⟩
    · exact ⟨_, if_neg hci⟩
  have HC : Hid (∀ j u, (cells.drop ((i + 1) * 3))[j]? = some u → w.drew.cell? (A'.add j) = some u) := by
    intro j u hu
    have hA := HA'.out
    have hj := (List.getElem?_eq_some_iff.1 hu).1
    rw [HNEW.out] at hj
    rw [if_neg (by omega)] at hA
    simp only [Option.some.injEq] at hA
    subst hA
    rw [List.getElem?_drop, ← htk, List.getElem?_take] at hu
    split at hu
    · show w.cell? _ = _
      have : (⟨g, (i + 1) * 3, none⟩ : Addr).add j = ⟨g, (i + 1) * 3 + j, none⟩ := by unfold Addr.add; split <;> simp_all
      rw [this]
      exact cell_blk hh (by simpa using hu)
    · cases hu
  have HONE : Hid (∀ u ∈ cells.drop ((i + 1) * 3), u.oneCell' = true) := fun u hu => h2.one_ u (List.mem_of_mem_drop hu)
  have HSP : Hid (∀ j, j < (cells.drop ((i + 1) * 3)).length → (w.drew.cell? ⟨g, 0 + i * 3 + j, none⟩).isSome = true ∧ w.drew.frozen? ⟨g, 0 + i * 3 + j, none⟩ = false) := by
    intro j hj
    rw [HNEW.out] at hj
    refine ⟨?_, free_blk (w := w) hh⟩
    have hlt : 0 + i * 3 + j < cur.size := by omega
    rw [show w.drew.cell? ⟨g, 0 + i * 3 + j, none⟩ = w.cell? ⟨g, 0 + i * 3 + j, none⟩ from rfl, cell_blk hh (Array.getElem?_eq_getElem hlt)]
    rfl
  obtain ⟨W1, hW1⟩ : ∃ W1, W1 = w.drew.setCells g (0 + i * 3) (cells.drop ((i + 1) * 3)) := ⟨_, rfl⟩
  have HW1 := Lib.hid hW1
  obtain ⟨cur1, hh1, hs1, _⟩ := heap_setCells (cells.drop ((i + 1) * 3)) (0 + i * 3) w.drew cur hh (by rw [HNEW.out]; omega)
  rw [← hW1] at hh1
  have hcl2 : ∀ ty k, (Builtin.clear_ #[84] ty #[.slice (some ⟨g, (n - 1) * 3, none⟩) (n - (n - 1)) k]).run Tryz.prog W1 = .ok (.tuple #[]) (W1.setCells g ((n - 1) * 3) [.int .i64 0, .string ⟨#[]⟩, .slice none 0 0]) := fun ty k => by
    rw [show n - (n - 1) = 1 from by omega]
    exact run_clear_one W1 _ _ ty _ [.int .i64 0, .string ⟨#[]⟩, .slice none 0 0] Tryz.underlying84 Tryz.zeroValue289 (by kernel_rfl) (by simp [Value.oneCell']) g _ k (fun j hj => by
      have hlt : (n - 1) * 3 + j < cur1.size := by have hj2 : j < 3 := hj; omega
      rw [cell_blk hh1 (Array.getElem?_eq_getElem hlt)]; rfl) (fun j _ => free_blk hh1)
  have hic : i + 1 ≤ c := by omega
  have hic2 : i ≤ c := by omega
  have hn1c : ¬ c = n - 1 := by omega
  have hne : ((i : Int) == (i : Int) + 1) = false := beq_eq_false_iff_ne.2 (by omega)
  have hb1 : (0 : Int) ≤ (i : Int) + 1 := by omega
  have hb2 : (i : Int) + 1 ≤ (n : Int) := by omega
  have HOWN := Lib.hid (show Own tItem (W1.setCells g ((n - 1) * 3) [.int .i64 0, .string ⟨#[]⟩, .slice none 0 0]) base 289 D (.slice (some ⟨g, 0, none⟩) (n - 1) c) (n - 1) (xs.eraseIdx i) from by
    subst hW1
    refine ⟨_, ownsRow_cut (zs := [.int .i64 0, .string ⟨#[]⟩, .slice none 0 0]) h1 hi rfl, ?_⟩
    rw [← List.take_drop_erase]
    refine ((h2.take i).append (h2.drop (i + 1))).keep fun p hp => ?_
    have hpg : p.block ≠ g := hD _ hp
    exact World.cell?_of_block (w := w) ((heap_setCells_other hpg _ _ _).trans (heap_setCells_other hpg _ _ _)))
  have HG := Lib.hid (show w.grownBy (W1.setCells g ((n - 1) * 3) [.int .i64 0, .string ⟨#[]⟩, .slice none 0 0]) (some g) from by
    subst hW1
    exact grownBy.trans' (b := w.drew) ⟨rfl, rfl, rfl, Nat.le_refl _, fun _ _ _ => rfl⟩ (grownBy.trans' (grown_setCells g _ _ _) (grown_setCells g _ _ _)))
  obtain ⟨i0, z0, hi0, hz0, hs0, hy0, hzz0⟩ := (elemItem).info
  have HI0 := Lib.hid hi0
  have HS0 := Lib.hid hs0
  clear hi0 hs0 hy0 hz0 hzz0 h1 h2 hh hh1 hW1 hsz htk hcl hlen hT hs1 hD
  go_enter Tryz.func313, Tryz.ntmps313
  go_wp2_with fail
  go_region_law (refine step_append_room rfl (.tmp 22) (.tmp 25) 84 rfl 289 i0 3 Tryz.underlying84 HI0.out HS0.out g 0 i c (by simp [Act.eval, Act.put]) A' (n - (i + 1)) (c - (i + 1)) (cells.drop ((i + 1) * 3)) (by simp [Act.eval, Act.put]; exact HA'.out) HNEW.out HC.out HONE.out (by omega) HSP.out ?_; rw [← HW1.out, show i + (n - (i + 1)) = n - 1 from by omega])
  go_wp2_with fail
  all_goals
    go_ret
    first | exact ⟨rfl, HOWN.out, HG.out⟩ | (obtain rfl : c = i + 1 := (by assumption); exact ⟨rfl, HOWN.out, HG.out⟩)

end Go.Proofs.YtegcedboeemedaaGreatDoor

/-
The walks of package active: pushing.
-/
namespace Go.Proofs.YtegcedboeemedaaGreatDoor
open Go.RowKit Go.Cl

/-- The current items up to k that are alike to x. -/
def sameTo (l : List Item) (x : Item) (k : Nat) : List Nat := (List.range k).filter fun i => decide (lastN l ≤ i) && (match l[i]? with | some y => alikeB y x | none => false)
/-- A list with one item more. -/
def pushedL (l : List Item) (x : Item) : List Item :=
  (if !(x.node == -1) && decide (3 ≤ (sameTo l x l.length).length) then l.eraseIdx ((sameTo l x l.length).headD 0) else l) ++ [x]

theorem sameTo_succ (l : List Item) (x y : Item) (k : Nat) (hy : l[k]? = some y) (hk : lastN l ≤ k) : sameTo l x (k + 1) = sameTo l x k ++ if alikeB y x then [k] else [] := by
  unfold sameTo
  rw [List.range_succ, List.filter_append]
  congr 1
  cases h : alikeB y x <;> simp [hy, hk, h]
theorem sameTo_first (l : List Item) (x : Item) : sameTo l x (lastN l) = [] := by
  unfold sameTo
  rw [List.filter_eq_nil_iff]
  intro i hi
  have := List.mem_range.1 hi
  simp; omega
theorem sameTo_le (l : List Item) (x : Item) (k : Nat) : (sameTo l x k).length ≤ k := by
  have := List.length_filter_le (fun i => decide (lastN l ≤ i) && (match l[i]? with | some y => alikeB y x | none => false)) (List.range k)
  rw [List.length_range] at this
  exact this

end Go.Proofs.YtegcedboeemedaaGreatDoor

/-
The walks of package open.
-/
namespace Go.Proofs.YtegcedboeemedaaGreatDoor
open Go.RowKit Go.Cl

def oneB (name list : ByteArray) : Bool := !name.toList.isEmpty && !(decide (0 ≤ Lib.indexByte name.data.toList 32)) && Lib.contains list.data.toList (⟨#[32]⟩ ++ name ++ ⟨#[32]⟩ : ByteArray).data.toList

theorem one_any (name list : ByteArray) (m : Int) (w : World) (hn : name.size ≤ 1152921504606846976) (hs : list.size < 4294967281) (hm : w.cell? ⟨0, 0, none⟩ = some (.int .i64 m)) :
    Calls Tryz.prog 160 #[.string name, .string list] w fun e w' => e = .returned (.bool (oneB name list)) ∧ w = w' := by
  by_cases h1 : name.toList.isEmpty = true
  · go_enter Tryz.func160, Tryz.ntmps160
    go_wp2_with fail
    go_ret
    exact ⟨by simp [oneB, h1], rfl⟩
  · have h1' : name.toList.isEmpty = false := by simpa using h1
    clear h1
    by_cases h2 : decide (0 ≤ Lib.indexByte name.data.toList 32) = true
    · go_enter Tryz.func160, Tryz.ntmps160
      go_wp2_with fail
      refine (Tryz.strings_Contains_one name 32 _).mono ?_
      rintro e w' ⟨rfl, rfl⟩
      rw [h2]
      go_wp2_with fail
      go_ret
      exact ⟨by simp only [oneB, h2]; simp, rfl⟩
    · have h2' : decide (0 ≤ Lib.indexByte name.data.toList 32) = false := by simpa using h2
      clear h2
      go_enter Tryz.func160, Tryz.ntmps160
      go_wp2_with fail
      refine (Tryz.strings_Contains_one name 32 _).mono ?_
      rintro e w' ⟨rfl, rfl⟩
      rw [h2']
      go_wp2_with fail
      refine (Tryz.strings_Contains list _ m _ hs hm).mono ?_
      rintro e w' ⟨rfl, rfl⟩
      generalize hq : Lib.contains list.data.toList (⟨#[32]⟩ ++ name ++ ⟨#[32]⟩ : ByteArray).data.toList = q
      have HQ := Lib.hid hq
      clear hq
      go_wp2_with fail
      go_ret
      exact ⟨by simp only [oneB, h1', h2', HQ.out]; simp, rfl⟩


def barB (name : ByteArray) (scope : Int) : Bool :=
  if scope = 2 then oneB name (⟨#[32, 99, 97, 112, 116, 105, 111, 110, 32, 104, 116, 109, 108, 32, 111, 98, 106, 101, 99, 116, 32, 116, 97, 98, 108, 101, 32, 116, 100, 32, 116, 101, 109, 112, 108, 97, 116, 101, 32, 116, 104, 32, 111, 108, 32, 117, 108, 32]⟩ : ByteArray)
  else if scope = 3 then oneB name (⟨#[32, 99, 97, 112, 116, 105, 111, 110, 32, 104, 116, 109, 108, 32, 111, 98, 106, 101, 99, 116, 32, 116, 97, 98, 108, 101, 32, 116, 100, 32, 116, 101, 109, 112, 108, 97, 116, 101, 32, 116, 104, 32, 98, 117, 116, 116, 111, 110, 32]⟩ : ByteArray)
  else if scope = 4 then oneB name (⟨#[32, 104, 116, 109, 108, 32, 116, 97, 98, 108, 101, 32, 116, 101, 109, 112, 108, 97, 116, 101, 32]⟩ : ByteArray)
  else if scope = 5 then !(name.toList == (⟨#[111, 112, 116, 103, 114, 111, 117, 112]⟩ : ByteArray).data.toList) && !(name.toList == (⟨#[111, 112, 116, 105, 111, 110]⟩ : ByteArray).data.toList)
  else oneB name (⟨#[32, 99, 97, 112, 116, 105, 111, 110, 32, 104, 116, 109, 108, 32, 111, 98, 106, 101, 99, 116, 32, 116, 97, 98, 108, 101, 32, 116, 100, 32, 116, 101, 109, 112, 108, 97, 116, 101, 32, 116, 104, 32]⟩ : ByteArray)

/-- Has: from the end, the first that is the name, or a bar. -/
def hasB (name : ByteArray) (scope : Int) : List ByteArray → Bool
  | [] => false
  | x :: r => if x.toList == name.toList then true else if barB x scope then false else hasB name scope r

/-- Ends: from the end, how many are of the implied ones. -/
def endsN (but : ByteArray) : List ByteArray → Nat
  | [] => 0
  | x :: r => if x.toList == but.toList then 0 else if oneB x (⟨#[32, 100, 100, 32, 100, 116, 32, 108, 105, 32, 111, 112, 116, 103, 114, 111, 117, 112, 32, 111, 112, 116, 105, 111, 110, 32, 112, 32]⟩ : ByteArray) then endsN but r + 1 else 0

def specialB (name : ByteArray) : Bool := oneB name (⟨#[32, 97, 100, 100, 114, 101, 115, 115, 32, 97, 114, 116, 105, 99, 108, 101, 32, 97, 115, 105, 100, 101, 32, 98, 108, 111, 99, 107, 113, 117, 111, 116, 101, 32, 98, 111, 100, 121, 32, 98, 114, 32, 98, 117, 116, 116, 111, 110, 32, 99, 97, 112, 116, 105, 111, 110, 32, 99, 111, 108, 32, 99, 111, 108, 103, 114, 111, 117, 112, 32, 100, 100, 32, 100, 101, 116, 97, 105, 108, 115, 32, 100, 105, 114, 32, 100, 105, 118, 32, 100, 108, 32, 100, 116, 32, 102, 105, 101, 108, 100, 115, 101, 116, 32, 102, 105, 103, 99, 97, 112, 116, 105, 111, 110, 32, 102, 105, 103, 117, 114, 101, 32, 102, 111, 111, 116, 101, 114, 32, 102, 111, 114, 109, 32, 104, 49, 32, 104, 50, 32, 104, 51, 32, 104, 52, 32, 104, 53, 32, 104, 54, 32, 104, 101, 97, 100, 32, 104, 101, 97, 100, 101, 114, 32, 104, 114, 32, 104, 116, 109, 108, 32, 105, 109, 103, 32, 105, 110, 112, 117, 116, 32, 108, 105, 32, 108, 105, 110, 107, 32, 109, 97, 105, 110, 32, 109, 101, 110, 117, 32, 109, 101, 116, 97, 32, 110, 97, 118, 32, 111, 98, 106, 101, 99, 116, 32, 111, 108, 32, 112, 32, 112, 114, 101, 32, 115, 99, 114, 105, 112, 116, 32, 115, 101, 97, 114, 99, 104, 32, 115, 101, 99, 116, 105, 111, 110, 32, 115, 101, 108, 101, 99, 116, 32, 115, 116, 121, 108, 101, 32, 115, 117, 109, 109, 97, 114, 121, 32, 116, 97, 98, 108, 101, 32, 116, 98, 111, 100, 121, 32, 116, 100, 32, 116, 101, 109, 112, 108, 97, 116, 101, 32, 116, 101, 120, 116, 97, 114, 101, 97, 32, 116, 102, 111, 111, 116, 32, 116, 104, 32, 116, 104, 101, 97, 100, 32, 116, 105, 116, 108, 101, 32, 116, 114, 32, 117, 108, 32]⟩ : ByteArray)
def formattingB (name : ByteArray) : Bool := oneB name (⟨#[32, 97, 32, 98, 32, 98, 105, 103, 32, 99, 111, 100, 101, 32, 101, 109, 32, 102, 111, 110, 116, 32, 105, 32, 110, 111, 98, 114, 32, 115, 32, 115, 109, 97, 108, 108, 32, 115, 116, 114, 105, 107, 101, 32, 115, 116, 114, 111, 110, 103, 32, 116, 116, 32, 117, 32]⟩ : ByteArray)
def headingB (name : ByteArray) : Bool := match name.data.toList with
  | [a, b] => decide ((a.toNat : Int) = 104) && decide (49 ≤ (b.toNat : Int)) && decide ((b.toNat : Int) ≤ 54)
  | _ => false
end Go.Proofs.YtegcedboeemedaaGreatDoor

/-
Documents: the data, how they lie in memory, and what dom.Check says of them, in plain words.
-/
namespace Go.Proofs.YtegcedboeemedaaGreatDoor
open Go.RowKit Go.Cl

/-- An attribute: its name, its value. -/
abbrev DAttr := ByteArray × ByteArray
def tDA : Ty DAttr := tPair tStr tStr
/-- A node. -/
structure Nd where
  kind : Int
  name : ByteArray
  attrs : List DAttr
  text : ByteArray
  parent : Int
  kids : List Int
def tNd : Ty Nd := tMap (tPair (tInt .i64) (tPair tStr (tPair (tSlice tDA) (tPair tStr (tPair (tInt .i64) (tSlice (tInt .i64))))))) (fun x => (x.kind, x.name, x.attrs, x.text, x.parent, x.kids)) 96

theorem elemDA : ElemOf Tryz.prog 44 141 2 32 := mkElem Tryz.underlying44 (by kernel_rfl) (z := .agg #[.string ⟨#[]⟩, .string ⟨#[]⟩]) rfl (by decide)
theorem elemNd : ElemOf Tryz.prog 31 46 6 96 := mkElem Tryz.underlying31 (by kernel_rfl) (z := .agg #[.int .i64 0, .string ⟨#[]⟩, .slice none 0 0, .string ⟨#[]⟩, .int .i64 0, .slice none 0 0]) rfl (by decide)
theorem elemI : ElemOf Tryz.prog 38 3 1 8 := mkElem Tryz.underlying38 (by kernel_rfl) (z := .int .i64 0) rfl (by decide)

/-- The cells of a node. -/
def ndCells (x : Nd) (Aa : Option Addr) (na ca : Nat) (Ak : Option Addr) (nk ck : Nat) : List Value := [.int .i64 x.kind, .string x.name, .slice Aa na ca, .string x.text, .int .i64 x.parent, .slice Ak nk ck]
/-- What is known of them. -/
structure NdAt (w : World) (D : Nat → Prop) (x : Nd) (Aa : Option Addr) (na ca : Nat) (Ak : Option Addr) (nk ck : Nat) : Prop where
  attrs : Sl tDA w D Aa na ca x.attrs
  kids : Sl (tInt .i64) w D Ak nk ck x.kids
  kind : (Lit.int .i64 x.kind).wf = true
  name : x.name.size ≤ 1152921504606846976
  text : x.text.size ≤ 1152921504606846976
  parent : (Lit.int .i64 x.parent).wf = true
theorem nd_cells {w : World} {D : Nat → Prop} {x : Nd} {cs : List Value} (h : tNd.rep w D x cs) : ∃ Aa na ca Ak nk ck, cs = ndCells x Aa na ca Ak nk ck ∧ NdAt w D x Aa na ca Ak nk ck := by
  obtain ⟨c1, c2, rfl, ⟨rfl, h1⟩, c3, c4, rfl, ⟨rfl, h2⟩, c5, c6, rfl, ⟨Aa, na, ca, rfl, h3⟩, c7, c8, rfl, ⟨rfl, h4⟩, c9, c10, rfl, ⟨rfl, h5⟩, Ak, nk, ck, rfl, h6⟩ := h
  exact ⟨Aa, na, ca, Ak, nk, ck, rfl, h3, h6, h1, h2, h4, h5⟩
theorem nd_rep {w : World} {D : Nat → Prop} {x : Nd} {Aa : Option Addr} {na ca : Nat} {Ak : Option Addr} {nk ck : Nat} (h : NdAt w D x Aa na ca Ak nk ck) : tNd.rep w D x (ndCells x Aa na ca Ak nk ck) :=
  ⟨[_], _, rfl, ⟨rfl, h.kind⟩, [_], _, rfl, ⟨rfl, h.name⟩, [_], _, rfl, ⟨Aa, na, ca, rfl, h.attrs⟩, [_], _, rfl, ⟨rfl, h.text⟩, [_], _, rfl, ⟨rfl, h.parent⟩, Ak, nk, ck, rfl, h.kids⟩
theorem NdAt.below {w w' : World} {B B' : Nat} {x : Nd} {Aa : Option Addr} {na ca : Nat} {Ak : Option Addr} {nk ck : Nat} (h : NdAt w (lt B) x Aa na ca Ak nk ck) (hb : Below B' w w') (hB : B ≤ B') : NdAt w' (lt B) x Aa na ca Ak nk ck :=
  ⟨h.attrs.below hb hB, h.kids.below hb hB, h.kind, h.name, h.text, h.parent⟩
/-- One node of a slice of nodes: its six cells. -/
theorem Sl.nd {w : World} {D : Nat → Prop} {A : Option Addr} {n c : Nat} {l : List Nd} (h : Sl tNd w D A n c l) {i : Nat} {x : Nd} (hx : l[i]? = some x) :
    ∃ b o Aa na ca Ak nk ck, A = some ⟨b, o, none⟩ ∧ D b ∧ NdAt w D x Aa na ca Ak nk ck ∧ ∀ j u, (ndCells x Aa na ca Ak nk ck)[j]? = some u → w.cell? ⟨b, o + (i * 6 + j), none⟩ = some u := by
  obtain ⟨b, o, cs, e, hD, hr, hc⟩ := h.get hx
  obtain ⟨Aa, na, ca, Ak, nk, ck, rfl, hn⟩ := nd_cells hr
  exact ⟨b, o, Aa, na, ca, Ak, nk, ck, e, hD, hn, hc⟩

/-! ### names and attributes -/
def signsB : List UInt8 := (⟨#[97, 98, 99, 100, 101, 102, 103, 104, 105, 106, 107, 108, 109, 110, 111, 112, 113, 114, 115, 116, 117, 118, 119, 120, 121, 122, 48, 49, 50, 51, 52, 53, 54, 55, 56, 57, 45, 95, 58]⟩ : ByteArray).data.toList
def lettersB : ByteArray := (⟨#[97, 98, 99, 100, 101, 102, 103, 104, 105, 106, 107, 108, 109, 110, 111, 112, 113, 114, 115, 116, 117, 118, 119, 120, 121, 122]⟩ : ByteArray)
def attrB : ByteArray := (⟨#[97, 98, 99, 100, 101, 102, 103, 104, 105, 106, 107, 108, 109, 110, 111, 112, 113, 114, 115, 116, 117, 118, 119, 120, 121, 122, 45, 95]⟩ : ByteArray)
/-- A name that begins with one of some signs. -/
def namedR (s first : ByteArray) : Bool := decide (0 < s.size) && decide (s.size ≤ 40) && decide (0 ≤ Lib.indexByte first.data.toList (s.data.toList.headD 0)) && (Lib.trimS s.data.toList signsB).isEmpty
/-- An attribute's place. -/
def findA (l : List DAttr) (nm : ByteArray) : Int := match l.findIdx? (fun a => a.1.toList == nm.toList) with
  | some i => i
  | none => -1
/-- Attributes, one by one. -/
def attrsF : List DAttr → List DAttr → Int
  | _, [] => 0
  | pre, a :: r => if namedR a.1 attrB = false then 3 else if 400 < a.2.size then 2 else if 0 ≤ findA pre a.1 then 3 else attrsF (pre ++ [a]) r
def attrsE (l : List DAttr) : Int := if 12 < l.length then 2 else attrsF [] l
def parentB (k : Int) : Bool := k == 1 || k == 2
def bareB (x : Nd) : Bool :=
  (x.kind == 2 || x.kind == 5 || x.name.toList.isEmpty) && (x.kind == 2 || x.attrs.isEmpty) && ((x.kind == 3 || x.kind == 4) || x.text.toList.isEmpty) && (parentB x.kind || x.kids.isEmpty)
/-- One node by itself. -/
def nodeE (x : Nd) : Int :=
  if x.kind < 1 ∨ 5 < x.kind ∨ bareB x = false then 7
  else if x.kind = 2 ∧ namedR x.name lettersB = false then 3
  else if attrsE x.attrs ≠ 0 then attrsE x.attrs
  else if 400 < x.text.size ∨ 400 < x.name.size then 2 else 0

/-! ### kids -/
/-- One kid: an error, or all that have been seen. -/
def kidE (l : List Nd) (i : Nat) (seen : List Bool) (k : Int) : Int :=
  if k < 0 ∨ (l.length : Int) ≤ k then 3
  else if ((l.map Nd.parent)[k.toNat]?.getD 0 ≠ (i : Int)) ∨ seen[k.toNat]?.getD true = true then 3
  else if i = 0 ∧ (l.map Nd.kind)[k.toNat]?.getD 0 = 3 then 7 else 0
def kidsF (l : List Nd) (i : Nat) : List Bool → List Int → Int × List Bool
  | seen, [] => (0, seen)
  | seen, k :: r => if kidE l i seen k ≠ 0 then (kidE l i seen k, seen) else kidsF l i (seen.set k.toNat true) r
def allKids (l : List Nd) : Nat → List Bool → List Nd → Int × List Bool
  | _, seen, [] => (0, seen)
  | i, seen, x :: r => if (kidsF l i seen x.kids).1 ≠ 0 then kidsF l i seen x.kids else allKids l (i + 1) (kidsF l i seen x.kids).2 r
/-- Has a node a parent that does not know it? -/
def lostB : List Bool → List Nd → Bool
  | s :: t, x :: r => (x.parent != -1 && !s) || lostB t r
  | _, _ => false
def kidsE (l : List Nd) : Int :=
  let r := allKids l 0 (List.replicate l.length false) l
  if r.1 ≠ 0 then r.1 else if lostB r.2 l = true then 3 else if (l.map Nd.parent).headD 0 ≠ -1 then 3 else 0

/-! ### up -/
/-- How many parents a node has above it, up to so many. -/
def upF (l : List Nd) : Nat → Int → Nat
  | 0, _ => 0
  | f + 1, n => let p := (l.map Nd.parent)[n.toNat]?.getD (-1)
    if 0 ≤ p then upF l f p + 1 else 0
def upN (l : List Nd) (n : Int) : Nat := upF l (l.length + 1) n
/-- The first loop of Check. -/
def firstE : Nat → List Nd → Int
  | _, [] => 0
  | i, x :: r => if (x.kind == 1) != (i == 0) then 3 else if nodeE x ≠ 0 then nodeE x else firstE (i + 1) r
/-- The last one. -/
def lastE (l : List Nd) : List Nat → Int
  | [] => 0
  | i :: r => if l.length < upN l i then 8 else if 40 < upN l i then 2 else lastE l r
/-- What Check says. -/
def checkD (l : List Nd) : Int :=
  if 200 < l.length then 2 else if l.length = 0 then 3
  else if firstE 0 l ≠ 0 then firstE 0 l
  else if kidsE l ≠ 0 then kidsE l
  else lastE l (List.range l.length)
end Go.Proofs.YtegcedboeemedaaGreatDoor

/-
The walks of package dom: named, Name, attrName, find, attrs.
-/
namespace Go.Proofs.YtegcedboeemedaaGreatDoor
open Go.RowKit Go.Cl
attribute [local go_sem ↓] Go.wp_at_zero Go.wp_at_succ

theorem isE_of {s : ByteArray} (h : s.size = 0) : s.toList.isEmpty = true := by
  rw [ByteArray.toList_eq]
  have : s.data.toList.length = 0 := by simpa using h
  rw [List.eq_nil_of_length_eq_zero this]; rfl
theorem isE_not {s : ByteArray} (h : 0 < s.size) : s.toList.isEmpty = false := by
  rw [ByteArray.toList_eq]
  cases hl : s.data.toList with
  | nil => have : s.data.toList.length = s.size := by simp
           rw [hl] at this; simp at this; omega
  | cons => rfl
theorem headD_at {s : ByteArray} (h : 0 < s.size) : s.data.toList.headD 0 = s[0] := by
  have h0 : s.data.toList[0]? = some s[0] := by rw [List.getElem?_eq_getElem (by simpa using h)]; rfl
  cases hl : s.data.toList with
  | nil => rw [hl] at h0; cases h0
  | cons b l => rw [hl] at h0; simpa using h0
set_option maxRecDepth 100000 in
theorem named_any' (s first : ByteArray) (w : World) (hs : s.size ≤ 1152921504606846976) :
    Calls Tryz.prog 117 #[.string s, .string first] w fun e w' => e = .returned (.bool (namedR s first)) ∧ Below w.heap.size w w' := by
  by_cases h0 : 0 < s.size
  · have he := isE_not h0
    by_cases h40 : s.size ≤ 40
    · have HI := Lib.hid (fun W => Tryz.strings_IndexByte first (s[0].toNat : Int) W)
      rw [show ((s[0].toNat : Int)).toNat.toUInt8 = s[0] from by simp] at HI
      have HR := Lib.hid (show namedR s first = (decide ((0 : Int) ≤ Lib.indexByte first.data.toList s[0]) && (Lib.trimS s.data.toList signsB).isEmpty) from by
        unfold namedR
        rw [headD_at h0, decide_eq_true h0, decide_eq_true h40]
        rfl)
      generalize hx : Lib.indexByte first.data.toList s[0] = x at *
      by_cases hx0 : 0 ≤ x
      · have HT : Hid (∀ W, Calls Tryz.prog 28 #[.string s, .string (⟨#[97, 98, 99, 100, 101, 102, 103, 104, 105, 106, 107, 108, 109, 110, 111, 112, 113, 114, 115, 116, 117, 118, 119, 120, 121, 122, 48, 49, 50, 51, 52, 53, 54, 55, 56, 57, 45, 95, 58]⟩ : ByteArray)] W fun e w' => e = .returned (.string ⟨(Lib.trimS s.data.toList signsB).toArray⟩) ∧ Below W.heap.size W w') := fun W =>
          Any.strings_Trim_laid Tryz.laysTrim (by kernel_rfl) s (⟨#[97, 98, 99, 100, 101, 102, 103, 104, 105, 106, 107, 108, 109, 110, 111, 112, 113, 114, 115, 116, 117, 118, 119, 120, 121, 122, 48, 49, 50, 51, 52, 53, 54, 55, 56, 57, 45, 95, 58]⟩ : ByteArray) W (by omega) (by decide) (ascii_of_all (by decide))
        have HR2 : Hid (namedR s first = (ByteArray.mk (Lib.trimS s.data.toList signsB).toArray).toList.isEmpty) := by
          show namedR s first = _
          rw [HR.out, decide_eq_true hx0, ByteArray.toList_eq]
          rfl
        clear hx HR
        generalize ByteArray.mk (Lib.trimS s.data.toList signsB).toArray = t at *
        go_enter Tryz.func117, Tryz.ntmps117
        go_wp2_with fail
        refine (HI.out _).mono ?_
        rintro e w1 ⟨rfl, rfl⟩
        go_wp2_with fail
        refine (HT.out _).mono ?_
        rintro e w2 ⟨rfl, hb⟩
        go_wp2_with fail
        go_ret
        exact ⟨retB HR2.out.symm, hb⟩
      · have HR2 : Hid (namedR s first = false) := by
          show namedR s first = _
          rw [HR.out, decide_eq_false hx0]
          rfl
        clear hx HR
        go_enter Tryz.func117, Tryz.ntmps117
        go_wp2_with fail
        refine (HI.out _).mono ?_
        rintro e w1 ⟨rfl, rfl⟩
        go_wp2_with fail
        go_ret
        exact ⟨retB HR2.out.symm, Below.refl _ _⟩
    · have HR : Hid (namedR s first = false) := by
        show namedR s first = false
        unfold namedR
        rw [decide_eq_false h40]
        simp
      go_enter Tryz.func117, Tryz.ntmps117
      go_wp2_with fail
      go_ret
      exact ⟨retB HR.out.symm, Below.refl _ _⟩
  · have he := isE_of (s := s) (by omega)
    have HR : Hid (namedR s first = false) := by
      show namedR s first = false
      unfold namedR
      rw [decide_eq_false h0]
      simp
    go_enter Tryz.func117, Tryz.ntmps117
    go_wp2_with fail
    go_ret
    exact ⟨retB HR.out.symm, Below.refl _ _⟩
theorem name_any (s : ByteArray) (w : World) (hs : s.size ≤ 1152921504606846976) :
    Calls Tryz.prog 83 #[.string s] w fun e w' => e = .returned (.bool (namedR s lettersB)) ∧ Below w.heap.size w w' := by
  have HN := Lib.hid (fun W => named_any' s lettersB W hs)
  go_enter Tryz.func83, Tryz.ntmps83
  go_wp2_with fail
  refine (HN.out _).mono ?_
  rintro e w2 ⟨rfl, hb⟩
  go_wp2_with fail
  go_ret
  exact ⟨rfl, hb⟩
theorem attrName_any (s : ByteArray) (w : World) (hs : s.size ≤ 1152921504606846976) :
    Calls Tryz.prog 124 #[.string s] w fun e w' => e = .returned (.bool (namedR s attrB)) ∧ Below w.heap.size w w' := by
  have HN := Lib.hid (fun W => named_any' s attrB W hs)
  go_enter Tryz.func124, Tryz.ntmps124
  go_wp2_with fail
  refine (HN.out _).mono ?_
  rintro e w2 ⟨rfl, hb⟩
  go_wp2_with fail
  go_ret
  exact ⟨rfl, hb⟩
end Go.Proofs.YtegcedboeemedaaGreatDoor

/-
The walks of package dom: find, attrs.
-/
namespace Go.Proofs.YtegcedboeemedaaGreatDoor
open Go.RowKit Go.Cl
attribute [local go_sem ↓] Go.wp_at_zero Go.wp_at_succ

theorem findLam_any (a b nm : ByteArray) (g : Nat) (w : World) (hc : w.cell? ⟨g, 0, none⟩ = some (.string nm)) :
    Calls Tryz.prog 162 #[.agg #[.string a, .string b], .pointer (some ⟨g, 0, none⟩)] w fun e w' => e = .returned (.bool (a.toList == nm.toList)) ∧ Below w.heap.size w w' := by
  have hc2 : ∀ o, (w.alloc o).cell? ⟨g, 0, none⟩ = some (.string nm) := fun o => cell_al hc o
  go_enter Tryz.func162, Tryz.ntmps162
  go_wp2_with fail
  go_ret
  exact ⟨rfl, (Below.refl _ _).alloc (Nat.le_refl _) _⟩

theorem findA_skip {l : List DAttr} {nm : ByteArray} {k : Nat} {x : DAttr} (h : ∀ j y, j < k → l[j]? = some y → (y.1.toList == nm.toList) = false) (hx : l[k]? = some x) (hp : (x.1.toList == nm.toList) = false) : ∀ j y, j < k + 1 → l[j]? = some y → (y.1.toList == nm.toList) = false := by
  intro j y hj hy
  by_cases e : j = k
  · subst e
    rw [hx] at hy
    obtain rfl := Option.some.inj hy
    exact hp
  · exact h j y (by omega) hy
theorem findA_hit {l : List DAttr} {nm : ByteArray} {k : Nat} {x : DAttr} (h : ∀ j y, j < k → l[j]? = some y → (y.1.toList == nm.toList) = false) (hx : l[k]? = some x) (hp : (x.1.toList == nm.toList) = true) : findA l nm = (k : Int) := by
  have hf : l.findIdx? (fun a => a.1.toList == nm.toList) = some k := by
    rw [List.findIdx?_eq_some_iff_getElem]
    have hk := (List.getElem?_eq_some_iff.1 hx).1
    refine ⟨hk, by rw [(List.getElem?_eq_some_iff.1 hx).2]; exact hp, fun j hj => ?_⟩
    have := h j l[j] hj (List.getElem?_eq_getElem (by omega))
    simp [this]
  unfold findA
  rw [hf]
theorem findA_none {l : List DAttr} {nm : ByteArray} {k : Nat} (h : ∀ j y, j < k → l[j]? = some y → (y.1.toList == nm.toList) = false) (hk : l.length ≤ k) : findA l nm = -1 := by
  have hf : l.findIdx? (fun a => a.1.toList == nm.toList) = none := by
    rw [List.findIdx?_eq_none_iff]
    intro x hx
    obtain ⟨j, hj⟩ := List.mem_iff_getElem?.1 hx
    exact h j x (by have := (List.getElem?_eq_some_iff.1 hj).1; omega) hj
  unfold findA
  rw [hf]
theorem da_cells {w : World} {D : Nat → Prop} {A : Option Addr} {n c : Nat} {l : List DAttr} (h : Sl tDA w D A n c l) {i : Nat} {x : DAttr} (hx : l[i]? = some x) :
    ∃ b o, A = some ⟨b, o, none⟩ ∧ D b ∧ w.cell? ⟨b, o + i * 2, none⟩ = some (.string x.1) ∧ w.cell? ⟨b, o + i * 2 + 1, none⟩ = some (.string x.2) ∧ x.1.size ≤ 1152921504606846976 ∧ x.2.size ≤ 1152921504606846976 := by
  obtain ⟨b, o, cs, e, hD, ⟨c1, c2, rfl, ⟨rfl, h1⟩, rfl, h2⟩, hc⟩ := h.get hx
  exact ⟨b, o, e, hD, hc 0 _ rfl, hc 1 _ rfl, h1, h2⟩

set_option maxRecDepth 100000 in
theorem idxA_any (A : Option Addr) (n c : Nat) (l : List DAttr) (nm : ByteArray) (g : Nat) (w : World) (B : Nat) (hl : Sl tDA w (lt B) A n c l) (hB : B ≤ w.heap.size) (hc : w.cell? ⟨g, 0, none⟩ = some (.string nm)) :
    Calls Tryz.prog 161 #[.slice A n c, .func (.func 162) #[] #[.pointer (some ⟨g, 0, none⟩)]] w fun e w' => e = .returned (.int .i64 (findA l nm)) ∧ Below w.heap.size w w' := by
  have hn1 := hl.small
  have HL := Lib.hid hl.hn
  go_enter Tryz.func161, Tryz.ntmps161
  go_wp2_with fail
  go_loopw [8] (fun i wr => ∃ k : Nat, k ≤ n ∧ i = .int .i64 (k : Int) ∧ Below w.heap.size w wr ∧ Hid (∀ j y, j < k → l[j]? = some y → (y.1.toList == nm.toList) = false)) (fun i _ => n - (intOf i).toNat)
  case atStart => exact ⟨0, Nat.zero_le _, rfl, Below.refl _ _, Lib.hid (fun j y hj => by omega)⟩
  case round =>
    obtain ⟨k, hk, rfl, hb, HA⟩ := hrel
    by_cases hlt : k < n
    · obtain ⟨x, hx⟩ : ∃ x, l[k]? = some x := get_some (by have := HL.out; omega)
      obtain ⟨b, o, rfl, hD, c1, c2, z1, z2⟩ := da_cells (hl.below hb hB) hx
      have HX := Lib.hid hx
      have HCALL := Lib.hid (findLam_any x.1 x.2 nm g wr (cell_be hc hb))
      clear hx
      cases hpx : (x.1.toList == nm.toList) with
      | true =>
        have HR := Lib.hid (findA_hit HA.out HX.out hpx)
        rw [hpx] at HCALL
        clear hpx
        go_wp2_with fail
        refine HCALL.out.mono ?_
        rintro e w1 ⟨rfl, hb1⟩
        go_wp2_with fail
        go_ret
        exact ⟨retI HR.out.symm, hb.trans (hb1.mono hb.size)⟩
      | false =>
        have HA2 := Lib.hid (findA_skip HA.out HX.out hpx)
        rw [hpx] at HCALL
        clear hpx
        go_wp2_with fail
        refine HCALL.out.mono ?_
        rintro e w1 ⟨rfl, hb1⟩
        go_wp2_with fail
        go_roundw
        case rel => exact ⟨k + 1, by omega, by go_num, hb.trans (hb1.mono hb.size), HA2⟩
        case measure => simp [intOf]; omega
    · have HR := Lib.hid (findA_none (k := k) HA.out (by have := HL.out; omega))
      go_wp2_with fail
      go_ret
      exact ⟨retI HR.out.symm, hb⟩
theorem find_dom (A : Option Addr) (n c : Nat) (l : List DAttr) (nm : ByteArray) (w : World) (B : Nat) (hl : Sl tDA w (lt B) A n c l) (hB : B ≤ w.heap.size) :
    Calls Tryz.prog 125 #[.slice A n c, .string nm] w fun e w' => e = .returned (.int .i64 (findA l nm)) ∧ Below w.heap.size w w' := by
  have HI := Lib.hid (idxA_any A n c l nm w.heap.size (w.alloc (.cells #[.string nm] 9)) B (hl.al hB _) (by rw [World.size_alloc]; omega) (cell_blk (heap_alloc_new w _) rfl))
  go_enter Tryz.func125, Tryz.ntmps125
  go_wp2_with fail
  refine HI.out.mono ?_
  rintro e w1 ⟨rfl, hb1⟩
  go_wp2_with fail
  go_ret
  exact ⟨rfl, ((Below.refl _ _).alloc (Nat.le_refl _) _).trans (hb1.mono (by rw [World.size_alloc]; omega))⟩

theorem attrsF_step {l : List DAttr} {k : Nat} {x : DAttr} (hx : l[k]? = some x) (h1 : namedR x.1 attrB = true) (h2 : x.2.size ≤ 400) (h3 : findA (l.take k) x.1 < 0) : attrsF (l.take k) (l.drop k) = attrsF (l.take (k + 1)) (l.drop (k + 1)) := by
  rw [List.drop_eq_getElem_cons (List.getElem?_eq_some_iff.1 hx).1, (List.getElem?_eq_some_iff.1 hx).2, attrsF, if_neg (by rw [h1]; decide), if_neg (by omega), if_neg (by omega), take_snoc hx]
theorem attrsF_one {l : List DAttr} {k : Nat} {x : DAttr} (hx : l[k]? = some x) (h1 : namedR x.1 attrB = false) : attrsF (l.take k) (l.drop k) = 3 := by
  rw [List.drop_eq_getElem_cons (List.getElem?_eq_some_iff.1 hx).1, (List.getElem?_eq_some_iff.1 hx).2, attrsF, if_pos h1]
theorem attrsF_two {l : List DAttr} {k : Nat} {x : DAttr} (hx : l[k]? = some x) (h1 : namedR x.1 attrB = true) (h2 : 400 < x.2.size) : attrsF (l.take k) (l.drop k) = 2 := by
  rw [List.drop_eq_getElem_cons (List.getElem?_eq_some_iff.1 hx).1, (List.getElem?_eq_some_iff.1 hx).2, attrsF, if_neg (by rw [h1]; decide), if_pos h2]
theorem attrsF_three {l : List DAttr} {k : Nat} {x : DAttr} (hx : l[k]? = some x) (h1 : namedR x.1 attrB = true) (h2 : x.2.size ≤ 400) (h3 : 0 ≤ findA (l.take k) x.1) : attrsF (l.take k) (l.drop k) = 3 := by
  rw [List.drop_eq_getElem_cons (List.getElem?_eq_some_iff.1 hx).1, (List.getElem?_eq_some_iff.1 hx).2, attrsF, if_neg (by rw [h1]; decide), if_neg (by omega), if_pos h3]

set_option maxRecDepth 100000 in
set_option maxHeartbeats 1000000 in
theorem attrs_any (A : Option Addr) (n c : Nat) (l : List DAttr) (w : World) (B : Nat) (hl : Sl tDA w (lt B) A n c l) (hB : B ≤ w.heap.size) :
    Calls Tryz.prog 87 #[.slice A n c] w fun e w' => e = .returned (.int .i64 (attrsE l)) ∧ Below w.heap.size w w' := by
  have hn1 := hl.small
  have HL := Lib.hid hl.hn
  by_cases h12 : 12 < n
  · have HR := Lib.hid (show attrsE l = 2 from by unfold attrsE; rw [if_pos (by have := HL.out; omega)])
    go_enter Tryz.func87, Tryz.ntmps87
    go_wp2_with fail
    go_ret
    exact ⟨retI HR.out.symm, Below.refl _ _⟩
  · have HR := Lib.hid (show attrsE l = attrsF (l.take 0) (l.drop 0) from by unfold attrsE; rw [if_neg (by have := HL.out; omega)]; rfl)
    go_enter Tryz.func87, Tryz.ntmps87
    go_wp2_with fail
    go_loopw [10] (fun i wr => ∃ k : Nat, k ≤ n ∧ i = .int .i64 (k : Int) ∧ Below w.heap.size w wr ∧ Hid (attrsE l = attrsF (l.take k) (l.drop k))) (fun i _ => n - (intOf i).toNat)
    case atStart => exact ⟨0, Nat.zero_le _, rfl, Below.refl _ _, HR⟩
    case round =>
      obtain ⟨k, hk, rfl, hb, HE⟩ := hrel
      have hz := hb.size
      by_cases hlt : k < n
      · obtain ⟨x, hx⟩ : ∃ x, l[k]? = some x := get_some (by have := HL.out; omega)
        have hkr := hl.below hb hB
        have hcap : n ≤ c := hl.hc
        obtain ⟨b, o, rfl, hD, c1, c2, z1, z2⟩ := da_cells hkr hx
        have HX := Lib.hid hx
        have HN := Lib.hid (fun W => attrName_any x.1 W z1)
        clear hx
        go_upto_region 6 with fail
        obtain ⟨w1, hw1⟩ : ∃ w1, w1 = wr.alloc (.cells #[.string x.1, .string x.2] 141) := ⟨_, rfl⟩
        have e1 : w1.heap[wr.heap.size]? = some (.cells #[.string x.1, .string x.2] 141 (0, 0)) := by rw [hw1]; exact heap_alloc_new wr _
        have hz1 : w1.heap.size = wr.heap.size + 1 := by rw [hw1]; exact World.size_alloc wr _
        have hb1 : Below w.heap.size w w1 := by rw [hw1]; exact hb.alloc hz _
        rw [← hw1]
        have k1 : w1.cell? ⟨wr.heap.size, 0, none⟩ = some (.string x.1) := cell_blk e1 rfl
        have HB1 := Lib.hid hb1
        clear hw1 hb1 c1 c2
        cases hnm : namedR x.1 attrB with
        | false =>
          have HR3 := Lib.hid (HE.out.trans (attrsF_one HX.out hnm))
          rw [hnm] at HN
          clear hnm
          go_wp2_with fail
          refine (HN.out _).mono ?_
          rintro e w2 ⟨rfl, hb2⟩
          go_wp2_with fail
          go_ret
          exact ⟨retI HR3.out.symm, HB1.out.trans (hb2.mono HB1.out.size)⟩
        | true =>
          rw [hnm] at HN
          have HNM := Lib.hid hnm
          clear hnm
          go_upto_region 8 with (refine (HN.out _).mono ?_; rintro e w2 ⟨rfl, hb2⟩)
          have HB2 := Lib.hid (HB1.out.trans (hb2.mono HB1.out.size))
          have e2 : w2.heap[wr.heap.size]? = some (.cells #[.string x.1, .string x.2] 141 (0, 0)) := (hb2.block _ (by omega)).trans e1
          have k2 : w2.cell? ⟨wr.heap.size, 0, none⟩ = some (.string x.1) := cell_blk e2 rfl
          have v2 : w2.cell? ⟨wr.heap.size, 1, none⟩ = some (.string x.2) := cell_blk e2 rfl
          have hz2 := hb2.size
          clear e1 k1 hb2
          by_cases h400 : 400 < x.2.size
          · have HR2 := Lib.hid (HE.out.trans (attrsF_two HX.out HNM.out h400))
            go_wp2_with fail
            go_ret
            exact ⟨retI HR2.out.symm, HB2.out⟩
          · have hcut := (hl.below HB2.out hB).cut_to (k := k) (by omega)
            have i1 : (0 : Int) ≤ (k : Int) := by omega
            have i2 : (k : Int) ≤ (c : Int) := by omega
            have i3 : (k : Int) ≤ (n : Int) := by omega
            have HF := Lib.hid (find_dom (some ⟨b, o, none⟩) k c (l.take k) x.1 w2.drew B (hcut.drew) (by show B ≤ w2.heap.size; omega))
            generalize hf : findA (l.take k) x.1 = f at *
            clear hcut
            go_wp2_with fail
            go_region_held3 (fun w' => w'.cell? ⟨wr.heap.size, 0, none⟩ = some (.string x.1)) (first | go_keep | assumption)
              ((go_at_call 125; refine HF.out.mono ?_; rintro e w3 ⟨rfl, hb3⟩; have k3 : w3.cell? ⟨wr.heap.size, 0, none⟩ = some (.string x.1) := (hb3.cell (p := ⟨wr.heap.size, 0, none⟩) (by show wr.heap.size < w2.heap.size; omega)).trans k2))
            all_goals
              have HB3 := Lib.hid (HB2.out.trans ((((Below.refl w.heap.size w2).drew)).trans (hb3.mono (by show _ ≤ w2.heap.size; omega))))
              clear hb3 k3 k2 v2
            by_cases hf0 : 0 ≤ f
            · have HR3 := Lib.hid (HE.out.trans (attrsF_three HX.out HNM.out (by omega) (by rw [hf]; exact hf0)))
              clear hf
              go_wp2_with fail
              go_ret
              exact ⟨retI HR3.out.symm, HB3.out⟩
            · have HE2 := Lib.hid (HE.out.trans (attrsF_step HX.out HNM.out (by omega) (by rw [hf]; omega)))
              clear hf
              go_wp2_with fail
              go_roundw
              case rel => exact ⟨k + 1, by omega, by go_num, HB3.out, HE2⟩
              case measure => simp [intOf]; omega
      · have HR0 := Lib.hid (show attrsE l = 0 from by rw [HE.out, List.drop_of_length_le (by have := HL.out; omega), attrsF])
        go_wp2_with fail
        go_ret
        exact ⟨retI HR0.out.symm, hb⟩
end Go.Proofs.YtegcedboeemedaaGreatDoor

/-
The walks of package dom: parent, bare, one.
-/
namespace Go.Proofs.YtegcedboeemedaaGreatDoor
open Go.RowKit Go.Cl
attribute [local go_sem ↓] Go.wp_at_zero Go.wp_at_succ

theorem parentB_any (k : Int) (w : World) : Calls Tryz.prog 123 #[.int .i64 k] w fun e w' => e = .returned (.bool (parentB k)) ∧ w = w' := by
  go_enter Tryz.func123, Tryz.ntmps123
  go_wp2_with fail
  all_goals
    go_ret
    refine ⟨retB ?_, rfl⟩
    unfold parentB
    simp_all
theorem below_dN {B : Nat} {a w : World} (h : Below B a w) (n : Nat) : Below B a (w.drewN n) := h.trans ⟨rfl, rfl, rfl, Nat.le_refl _, fun _ _ => rfl⟩
theorem len0 {α : Type} {l : List α} {n : Nat} (h : n = l.length) : ((n : Int) == 0) = l.isEmpty := by
  subst h
  cases l with
  | nil => rfl
  | cons a l =>
    rw [List.isEmpty_cons, beq_eq_false_iff_ne, List.length_cons]
    omega

set_option maxRecDepth 100000 in
set_option maxHeartbeats 1000000 in
theorem bare_any (x : Nd) (Aa : Option Addr) (na ca : Nat) (Ak : Option Addr) (nk ck : Nat) (w : World) (hna : na = x.attrs.length) (hnk : nk = x.kids.length) :
    Calls Tryz.prog 86 #[.agg #[.int .i64 x.kind, .string x.name, .slice Aa na ca, .string x.text, .int .i64 x.parent, .slice Ak nk ck]] w fun e w' => e = .returned (.bool (bareB x)) ∧ Below w.heap.size w w' := by
  have ha := len0 hna
  have hk := len0 hnk
  obtain ⟨kd, nm, ats, tx, pr, ks⟩ := x
  dsimp only at *
  have HP := Lib.hid (fun W => parentB_any kd W)
  have HR : Hid (bareB ⟨kd, nm, ats, tx, pr, ks⟩ = ((kd == 2 || kd == 5 || nm.toList.isEmpty) && (kd == 2 || ((na : Int) == 0)) && ((kd == 3 || kd == 4) || tx.toList.isEmpty) && (parentB kd || ((nk : Int) == 0)))) := by
    show _ = _
    rw [ha, hk]
    rfl
  have hb : Below w.heap.size w (w.alloc (.cells #[.int .i64 kd, .string nm, .slice Aa na ca, .string tx, .int .i64 pr, .slice Ak nk ck] 46)) := (Below.refl _ _).alloc (Nat.le_refl _) _
  have HB := Lib.hid hb
  clear ha hk hb hna hnk
  generalize parentB kd = pk at *
  generalize hq1 : nm.toList.isEmpty = q1 at *
  generalize hq2 : (((na : Int) == 0) : Bool) = q2 at *
  generalize hq3 : tx.toList.isEmpty = q3 at *
  generalize hq4 : (((nk : Int) == 0) : Bool) = q4 at *
  go_enter Tryz.func86, Tryz.ntmps86
  go_wp2_with fail
  by_cases k2 : kd = 2
  · subst k2
    go_quiet (fail)
    go_wp2_with (go_at_call 123; refine (HP.out _).mono ?_; rintro e w2 ⟨rfl, rfl⟩)
    all_goals
      go_ret
      exact ⟨retB (by rw [HR.out]; simp_all), below_dN HB.out _⟩
  by_cases k3 : kd = 3
  · subst k3
    go_quiet (fail)
    go_wp2_with (go_at_call 123; refine (HP.out _).mono ?_; rintro e w2 ⟨rfl, rfl⟩)
    all_goals
      go_ret
      exact ⟨retB (by rw [HR.out]; simp_all), below_dN HB.out _⟩
  by_cases k4 : kd = 4
  · subst k4
    go_quiet (fail)
    go_wp2_with (go_at_call 123; refine (HP.out _).mono ?_; rintro e w2 ⟨rfl, rfl⟩)
    all_goals
      go_ret
      exact ⟨retB (by rw [HR.out]; simp_all), below_dN HB.out _⟩
  by_cases k5 : kd = 5
  · subst k5
    go_quiet (fail)
    go_wp2_with (go_at_call 123; refine (HP.out _).mono ?_; rintro e w2 ⟨rfl, rfl⟩)
    all_goals
      go_ret
      exact ⟨retB (by rw [HR.out]; simp_all), below_dN HB.out _⟩
  · have b2 : (kd == 2) = false := by simpa using k2
    have b3 : (kd == 3) = false := by simpa using k3
    have b4 : (kd == 4) = false := by simpa using k4
    have b5 : (kd == 5) = false := by simpa using k5
    clear k2 k3 k4 k5
    go_quiet (fail)
    go_wp2_with (go_at_call 123; refine (HP.out _).mono ?_; rintro e w2 ⟨rfl, rfl⟩)
    all_goals
      go_ret
      exact ⟨retB (by rw [HR.out]; simp_all), below_dN HB.out _⟩

set_option maxRecDepth 100000 in
set_option maxHeartbeats 1000000 in
theorem one_any' (x : Nd) (Aa : Option Addr) (na ca : Nat) (Ak : Option Addr) (nk ck : Nat) (w : World) (B : Nat) (hx : NdAt w (lt B) x Aa na ca Ak nk ck) (hB : B ≤ w.heap.size) :
    Calls Tryz.prog 47 #[.agg #[.int .i64 x.kind, .string x.name, .slice Aa na ca, .string x.text, .int .i64 x.parent, .slice Ak nk ck]] w fun e w' => e = .returned (.int .i64 (nodeE x)) ∧ Below w.heap.size w w' := by
  obtain ⟨w1, hw1⟩ : ∃ w1, w1 = w.alloc (.cells #[.int .i64 x.kind, .string x.name, .slice Aa na ca, .string x.text, .int .i64 x.parent, .slice Ak nk ck] 46) := ⟨_, rfl⟩
  have e1 : w1.heap[w.heap.size]? = some (.cells #[.int .i64 x.kind, .string x.name, .slice Aa na ca, .string x.text, .int .i64 x.parent, .slice Ak nk ck] 46 (0, 0)) := by rw [hw1]; exact heap_alloc_new w _
  have hz1 : w1.heap.size = w.heap.size + 1 := by rw [hw1]; exact World.size_alloc w _
  have hb1 : Below w.heap.size w w1 := by rw [hw1]; exact (Below.refl _ _).alloc (Nat.le_refl _) _
  have HB1 := Lib.hid hb1
  have HX := Lib.hid hx
  have HBA := Lib.hid (fun W => bare_any x Aa na ca Ak nk ck W hx.attrs.hn hx.kids.hn)
  have HNA := Lib.hid (fun W => name_any x.name W hx.name)
  have HAT := Lib.hid (fun W (hW : Below w.heap.size w W) => attrs_any Aa na ca x.attrs W B (hx.attrs.below hW hB) (Nat.le_trans hB hW.size))
  have z1 := hx.name
  have z2 := hx.text
  have c0 : w1.cell? ⟨w.heap.size, 0, none⟩ = some (.int .i64 x.kind) := cell_blk e1 rfl
  have c1 : w1.cell? ⟨w.heap.size, 1, none⟩ = some (.string x.name) := cell_blk e1 rfl
  have c2 : w1.cell? ⟨w.heap.size, 2, none⟩ = some (.slice Aa na ca) := cell_blk e1 rfl
  have c3 : w1.cell? ⟨w.heap.size, 3, none⟩ = some (.string x.text) := cell_blk e1 rfl
  have c4 : w1.cell? ⟨w.heap.size, 4, none⟩ = some (.int .i64 x.parent) := cell_blk e1 rfl
  have c5 : w1.cell? ⟨w.heap.size, 5, none⟩ = some (.slice Ak nk ck) := cell_blk e1 rfl
  have HK : Hid (∀ W, Below w1.heap.size w1 W → ∀ i v, (#[.int .i64 x.kind, .string x.name, .slice Aa na ca, .string x.text, .int .i64 x.parent, .slice Ak nk ck] : Array Value)[i]? = some v → W.cell? ⟨w.heap.size, i, none⟩ = some v) := fun W hW i v hv => cell_blk ((hW.block _ (by omega)).trans e1) hv
  clear e1 hb1 hx
  go_enter Tryz.func47, Tryz.ntmps47
  go_upto_region 1 with fail
  rw [← hw1]
  clear hw1
  by_cases k1 : x.kind < 1
  · have HR := Lib.hid (show nodeE x = 7 from by unfold nodeE; rw [if_pos (Or.inl k1)])
    go_wp2_with fail
    go_ret
    exact ⟨retI HR.out.symm, HB1.out⟩
  by_cases k5 : 5 < x.kind
  · have HR := Lib.hid (show nodeE x = 7 from by unfold nodeE; rw [if_pos (Or.inr (Or.inl k5))])
    go_wp2_with fail
    go_ret
    exact ⟨retI HR.out.symm, HB1.out⟩
  cases hba : bareB x with
  | false =>
    have HR := Lib.hid (show nodeE x = 7 from by unfold nodeE; rw [if_pos (Or.inr (Or.inr hba))])
    rw [hba] at HBA
    clear hba
    go_wp2_with fail
    refine (HBA.out _).mono ?_
    rintro e w2 ⟨rfl, hb2⟩
    go_wp2_with fail
    go_ret
    exact ⟨retI HR.out.symm, HB1.out.trans (hb2.mono HB1.out.size)⟩
  | true =>
    rw [hba] at HBA
    have HR1 := Lib.hid (show nodeE x = (if x.kind = 2 ∧ namedR x.name lettersB = false then 3 else if attrsE x.attrs ≠ 0 then attrsE x.attrs else if 400 < x.text.size ∨ 400 < x.name.size then 2 else 0) from by
      unfold nodeE
      rw [if_neg (by rw [hba]; simp; omega)])
    clear hba
    go_upto_region 3 with (go_at_call 86; refine (HBA.out _).mono ?_; rintro e w2 ⟨rfl, hb2⟩)
    have HB2 := Lib.hid (HB1.out.trans (hb2.mono HB1.out.size))
    have d0 := HK.out _ hb2 0 _ rfl
    have d1 := HK.out _ hb2 1 _ rfl
    have d2 := HK.out _ hb2 2 _ rfl
    have HBW := Lib.hid hb2
    have hz2 := hb2.size
    clear c0 c1 c2 c3 c4 c5 hb2
    by_cases k2 : x.kind = 2
    · have k2b : (x.kind == 2) = true := by simpa using k2
      cases hnm : namedR x.name lettersB with
      | false =>
        have HR := Lib.hid (HR1.out.trans (if_pos ⟨k2, hnm⟩))
        rw [hnm] at HNA
        clear hnm k2
        go_wp2_with (go_at_call 83; refine (HNA.out _).mono ?_; rintro e w3 ⟨rfl, hb3⟩)
        go_ret
        exact ⟨retI HR.out.symm, HB2.out.trans (hb3.mono HB2.out.size)⟩
      | true =>
        have HR := Lib.hid (HR1.out.trans (if_neg (by rw [hnm]; simp)))
        rw [hnm] at HNA
        clear hnm k2
        go_upto_region 5 with (go_at_call 83; refine (HNA.out _).mono ?_; rintro e w3 ⟨rfl, hb3⟩)
        have HB3 := Lib.hid (HB2.out.trans (hb3.mono HB2.out.size))
        have HBW3 := Lib.hid (HBW.out.trans (hb3.mono hz2))
        clear hb3 d0 d1 d2
        have b2 := HK.out _ HBW3.out 2 _ rfl
        by_cases ha0 : attrsE x.attrs = 0
        · have HR3 := Lib.hid (HR.out.trans (if_neg (by rw [ha0]; decide)))
          have HAT2 := Lib.hid (HAT.out _ HB3.out)
          rw [ha0] at HAT2
          clear ha0
          go_upto_region 8 with (go_at_call 87; refine HAT2.out.mono ?_; rintro e w4 ⟨rfl, hb4⟩)
          have HB4 := Lib.hid (HB3.out.trans (hb4.mono HB3.out.size))
          have d1' := HK.out _ (HBW3.out.trans (hb4.mono HBW3.out.size)) 1 _ rfl
          have d3' := HK.out _ (HBW3.out.trans (hb4.mono HBW3.out.size)) 3 _ rfl
          clear hb4
          by_cases ht : 400 < x.text.size
          · have HR4 := Lib.hid (HR3.out.trans (if_pos (Or.inl ht)))
            go_wp2_with fail
            go_ret
            exact ⟨retI HR4.out.symm, HB4.out⟩
          · by_cases hn4 : 400 < x.name.size
            · have HR4 := Lib.hid (HR3.out.trans (if_pos (Or.inr hn4)))
              go_wp2_with fail
              go_ret
              exact ⟨retI HR4.out.symm, HB4.out⟩
            · have HR4 := Lib.hid (HR3.out.trans (if_neg (by omega)))
              go_wp2_with fail
              go_ret
              exact ⟨retI HR4.out.symm, HB4.out⟩
        · have HR3 := Lib.hid (HR.out.trans (if_pos ha0))
          have HAT2 := Lib.hid (HAT.out _ HB3.out)
          have ha1 : (attrsE x.attrs != 0) = true := by simpa using ha0
          generalize attrsE x.attrs = q at *
          clear ha0
          go_wp2_with (go_at_call 87; refine HAT2.out.mono ?_; rintro e w4 ⟨rfl, hb4⟩)
          go_ret
          exact ⟨retI HR3.out.symm, HB3.out.trans (hb4.mono HB3.out.size)⟩

    · have k2b : (x.kind == 2) = false := by simpa using k2
      have HR := Lib.hid (HR1.out.trans (if_neg (fun h => k2 h.1)))
      clear k2
      go_upto_region 5 with fail
      clear d0 d1 d2
      have b2 := HK.out _ HBW.out 2 _ rfl
      by_cases ha0 : attrsE x.attrs = 0
      · have HR3 := Lib.hid (HR.out.trans (if_neg (by rw [ha0]; decide)))
        have HAT2 := Lib.hid (HAT.out _ HB2.out)
        rw [ha0] at HAT2
        clear ha0
        go_upto_region 8 with (go_at_call 87; refine HAT2.out.mono ?_; rintro e w4 ⟨rfl, hb4⟩)
        have HB4 := Lib.hid (HB2.out.trans (hb4.mono HB2.out.size))
        have d1' := HK.out _ (HBW.out.trans (hb4.mono HBW.out.size)) 1 _ rfl
        have d3' := HK.out _ (HBW.out.trans (hb4.mono HBW.out.size)) 3 _ rfl
        clear hb4
        by_cases ht : 400 < x.text.size
        · have HR4 := Lib.hid (HR3.out.trans (if_pos (Or.inl ht)))
          go_wp2_with fail
          go_ret
          exact ⟨retI HR4.out.symm, HB4.out⟩
        · by_cases hn4 : 400 < x.name.size
          · have HR4 := Lib.hid (HR3.out.trans (if_pos (Or.inr hn4)))
            go_wp2_with fail
            go_ret
            exact ⟨retI HR4.out.symm, HB4.out⟩
          · have HR4 := Lib.hid (HR3.out.trans (if_neg (by omega)))
            go_wp2_with fail
            go_ret
            exact ⟨retI HR4.out.symm, HB4.out⟩
      · have HR3 := Lib.hid (HR.out.trans (if_pos ha0))
        have HAT2 := Lib.hid (HAT.out _ HB2.out)
        have ha1 : (attrsE x.attrs != 0) = true := by simpa using ha0
        generalize attrsE x.attrs = q at *
        clear ha0
        go_wp2_with (go_at_call 87; refine HAT2.out.mono ?_; rintro e w4 ⟨rfl, hb4⟩)
        go_ret
        exact ⟨retI HR3.out.symm, HB2.out.trans (hb4.mono HB2.out.size)⟩

end Go.Proofs.YtegcedboeemedaaGreatDoor

/-
The walk of package dom: kids.
-/
namespace Go.Proofs.YtegcedboeemedaaGreatDoor
open Go.RowKit Go.Cl
attribute [local go_sem ↓] Go.wp_at_zero Go.wp_at_succ

theorem rep_bools (n : Nat) : ((List.replicate n false).map Value.bool).toArray = Array.replicate n (Value.bool false) := by
  apply Array.toList_inj.1
  simp
theorem make_bools (w : World) (n : Nat) (hn : n ≤ 100000) : (Instr.makeSlice 39 (.int .i64 (n : Int)) (.int .i64 (n : Int))).run Tryz.prog w = .ok (.slice (some ⟨w.heap.size, 0, none⟩) n n) (w.alloc (.cells (Array.replicate n (.bool false)) 4)) := by
  obtain ⟨i0, hi, hz0, hz1, hz2⟩ := info_parts (show (Tryz.prog.info? 4).map (fun i => (i.zero, i.size, i.bytes)) = some (some (.bool false), 1, 1) from by kernel_rfl)
  have h := run_makeSlice (P := Tryz.prog) w 39 4 i0 (.bool false) Tryz.underlying39 hi hz0 .i64 .i64 (n : Int) (n : Int) (by omega) (Int.le_refl _) (by rw [hz1]; simp; omega) (by rw [hz2]; omega) (by omega)
  rw [h, hz1]
  have e : madeCells (Value.bool false).cells (((n : Int)).toNat * 1) = ((List.replicate n false).map Value.bool).toArray := by
    apply Array.toList_inj.1
    rw [show (Value.bool false).cells = #[.bool false] from rfl, toList_madeCells_one]
    simp
  rw [e, rep_bools]
  rfl
/-- A row of bools in a block of its own. -/
abbrev BoolsAt (w : World) (g : Nat) (s : List Bool) : Prop := w.heap[g]? = some (.cells (s.map Value.bool).toArray 4 (0, 0))
theorem BoolsAt.cell {w : World} {g : Nat} {s : List Bool} (h : BoolsAt w g s) {m : Nat} {b : Bool} (hm : s[m]? = some b) : w.cell? ⟨g, m, none⟩ = some (.bool b) := cell_blk h (by simp [hm])
theorem BoolsAt.set {w : World} {g : Nat} {s : List Bool} (h : BoolsAt w g s) (m : Nat) (b : Bool) : BoolsAt (w.setCell ⟨g, m, none⟩ (.bool b)) g (s.set m b) := by
  show (w.setCell _ _).heap[g]? = _
  rw [set_blk h]
  congr 2
  apply Array.toList_inj.1
  rw [Array.toList_setIfInBounds]
  simp [List.map_set]
theorem BoolsAt.below {w w' : World} {g B : Nat} {s : List Bool} (h : BoolsAt w g s) (hb : Below B w w') (hg : g < B) : BoolsAt w' g s := (hb.block g hg).trans h

theorem kidsF_err {l : List Nd} {i : Nat} {seen seen' : List Bool} {ks : List Int} {j : Nat} {k e : Int} (h : kidsF l i seen ks = kidsF l i seen' (ks.drop j)) (hk : ks[j]? = some k) (he : kidE l i seen' k = e) (h0 : e ≠ 0) : kidsF l i seen ks = (e, seen') := by
  rw [h, List.drop_eq_getElem_cons (List.getElem?_eq_some_iff.1 hk).1, (List.getElem?_eq_some_iff.1 hk).2, kidsF, he, if_pos h0]
theorem kidsF_ok {l : List Nd} {i : Nat} {seen seen' : List Bool} {ks : List Int} {j : Nat} {k : Int} (h : kidsF l i seen ks = kidsF l i seen' (ks.drop j)) (hk : ks[j]? = some k) (he : kidE l i seen' k = 0) : kidsF l i seen ks = kidsF l i (seen'.set k.toNat true) (ks.drop (j + 1)) := by
  rw [h, List.drop_eq_getElem_cons (List.getElem?_eq_some_iff.1 hk).1, (List.getElem?_eq_some_iff.1 hk).2, kidsF, he, if_neg (by decide)]
theorem kidsF_end {l : List Nd} {i : Nat} {seen seen' : List Bool} {ks : List Int} {j : Nat} (h : kidsF l i seen ks = kidsF l i seen' (ks.drop j)) (hk : ks.length ≤ j) : kidsF l i seen ks = (0, seen') := by
  rw [h, List.drop_of_length_le hk, kidsF]
theorem allKids_err {l : List Nd} {i : Nat} {s0 seen s : List Bool} {x : Nd} {e : Int} (h : allKids l 0 s0 l = allKids l i seen (l.drop i)) (hx : l[i]? = some x) (hk : kidsF l i seen x.kids = (e, s)) (h0 : e ≠ 0) : allKids l 0 s0 l = (e, s) := by
  rw [h, List.drop_eq_getElem_cons (List.getElem?_eq_some_iff.1 hx).1, (List.getElem?_eq_some_iff.1 hx).2, allKids, hk, if_pos h0]
theorem allKids_ok {l : List Nd} {i : Nat} {s0 seen s : List Bool} {x : Nd} (h : allKids l 0 s0 l = allKids l i seen (l.drop i)) (hx : l[i]? = some x) (hk : kidsF l i seen x.kids = (0, s)) : allKids l 0 s0 l = allKids l (i + 1) s (l.drop (i + 1)) := by
  rw [h, List.drop_eq_getElem_cons (List.getElem?_eq_some_iff.1 hx).1, (List.getElem?_eq_some_iff.1 hx).2, allKids, hk, if_neg (by simp)]
theorem kidsE_err {l : List Nd} {e : Int} {s : List Bool} (h : allKids l 0 (List.replicate l.length false) l = (e, s)) (h0 : e ≠ 0) : kidsE l = e := by
  unfold kidsE
  rw [h]
  simp only [ne_eq, h0, not_false_eq_true, if_true]
theorem kidsE_rest {l : List Nd} {s : List Bool} (h : allKids l 0 (List.replicate l.length false) l = (0, s)) : kidsE l = if lostB s l = true then 3 else if (l.map Nd.parent).headD 0 ≠ -1 then 3 else 0 := by
  unfold kidsE
  rw [h]
  simp only [ne_eq, not_true_eq_false, if_false]
theorem map_at {α β : Type} {l : List α} {f : α → β} {m : Nat} {y : α} (h : l[m]? = some y) (d : β) : (l.map f)[m]?.getD d = f y := by
  rw [List.getElem?_map, h]
  rfl
theorem kidE_out {l : List Nd} {i : Nat} {seen : List Bool} {k : Int} (h : k < 0 ∨ (l.length : Int) ≤ k) : kidE l i seen k = 3 := by
  unfold kidE
  rw [if_pos h]
theorem kidE_not {l : List Nd} {i m : Nat} {seen : List Bool} {y : Nd} {b : Bool} (hy : l[m]? = some y) (hs : seen[m]? = some b) (h : y.parent ≠ (i : Int) ∨ b = true) : kidE l i seen (m : Int) = 3 := by
  have hm := (List.getElem?_eq_some_iff.1 hy).1
  unfold kidE
  rw [if_neg (by omega), Int.toNat_natCast, map_at hy, hs, Option.getD_some]
  rw [if_pos h]
theorem kidE_seven {l : List Nd} {i m : Nat} {seen : List Bool} {y : Nd} (hy : l[m]? = some y) (hs : seen[m]? = some false) (h : y.parent = (i : Int)) (h0 : i = 0 ∧ y.kind = 3) : kidE l i seen (m : Int) = 7 := by
  have hm := (List.getElem?_eq_some_iff.1 hy).1
  unfold kidE
  rw [if_neg (by omega), Int.toNat_natCast, map_at hy, map_at hy, hs, Option.getD_some]
  rw [if_neg (by simp [h]), if_pos h0]
theorem kidE_zero {l : List Nd} {i m : Nat} {seen : List Bool} {y : Nd} (hy : l[m]? = some y) (hs : seen[m]? = some false) (h : y.parent = (i : Int)) (h0 : ¬ (i = 0 ∧ y.kind = 3)) : kidE l i seen (m : Int) = 0 := by
  have hm := (List.getElem?_eq_some_iff.1 hy).1
  unfold kidE
  rw [if_neg (by omega), Int.toNat_natCast, map_at hy, map_at hy, hs, Option.getD_some]
  rw [if_neg (by simp [h]), if_neg h0]
theorem lost_hit {seen : List Bool} {l : List Nd} {i : Nat} {x : Nd} (h : lostB seen l = lostB (seen.drop i) (l.drop i)) (hs : seen[i]? = some false) (hx : l[i]? = some x) (hp : x.parent ≠ -1) : lostB seen l = true := by
  rw [h, List.drop_eq_getElem_cons (List.getElem?_eq_some_iff.1 hx).1, (List.getElem?_eq_some_iff.1 hx).2, List.drop_eq_getElem_cons (List.getElem?_eq_some_iff.1 hs).1, (List.getElem?_eq_some_iff.1 hs).2, lostB]
  have : (x.parent != -1) = true := by simpa using hp
  rw [this]
  rfl
theorem lost_go {seen : List Bool} {l : List Nd} {i : Nat} {x : Nd} {b : Bool} (h : lostB seen l = lostB (seen.drop i) (l.drop i)) (hs : seen[i]? = some b) (hx : l[i]? = some x) (hp : x.parent = -1 ∨ b = true) : lostB seen l = lostB (seen.drop (i + 1)) (l.drop (i + 1)) := by
  rw [h, List.drop_eq_getElem_cons (List.getElem?_eq_some_iff.1 hx).1, (List.getElem?_eq_some_iff.1 hx).2, List.drop_eq_getElem_cons (List.getElem?_eq_some_iff.1 hs).1, (List.getElem?_eq_some_iff.1 hs).2, lostB]
  have : (x.parent != -1 && !b) = false := by
    rcases hp with hp | hp
    · rw [hp]; rfl
    · rw [hp]; simp
  rw [this, Bool.false_or]
theorem lost_end {seen : List Bool} {l : List Nd} {i : Nat} (h : lostB seen l = lostB (seen.drop i) (l.drop i)) (hi : l.length ≤ i) : lostB seen l = false := by
  rw [h, List.drop_of_length_le hi]
  cases seen.drop i <;> rfl

/-- A document lies so: its cells, for whatever world behind. -/
structure DocAt (w : World) (B : Nat) (b o n : Nat) (l : List Nd) : Prop where
  hn : n = l.length
  at_ : ∀ i x, l[i]? = some x → ∃ Aa na ca Ak nk ck, NdAt w (lt B) x Aa na ca Ak nk ck ∧ w.cell? ⟨b, o + i * 6, none⟩ = some (.int .i64 x.kind) ∧ w.cell? ⟨b, o + i * 6 + 1, none⟩ = some (.string x.name) ∧ w.cell? ⟨b, o + i * 6 + 2, none⟩ = some (.slice Aa na ca) ∧ w.cell? ⟨b, o + i * 6 + 3, none⟩ = some (.string x.text) ∧ w.cell? ⟨b, o + i * 6 + 4, none⟩ = some (.int .i64 x.parent) ∧ w.cell? ⟨b, o + i * 6 + 5, none⟩ = some (.slice Ak nk ck)
  lt : b < B
theorem doc_at {w : World} {B : Nat} {A : Option Addr} {n c : Nat} {l : List Nd} (h : Sl tNd w (lt B) A n c l) (hn : 0 < n) : ∃ b o, A = some ⟨b, o, none⟩ ∧ DocAt w B b o n l := by
  obtain ⟨b, o, cells, rfl, hD, hr, hc⟩ := h.at_ hn
  refine ⟨b, o, rfl, h.hn, fun i x hx => ?_, hD⟩
  obtain ⟨b', o', Aa, na, ca, Ak, nk, ck, e, hD', hn', hc'⟩ := Sl.nd h hx
  obtain ⟨rfl, rfl⟩ : b = b' ∧ o = o' := by simpa using e
  exact ⟨Aa, na, ca, Ak, nk, ck, hn', hc' 0 _ rfl, hc' 1 _ rfl, hc' 2 _ rfl, hc' 3 _ rfl, hc' 4 _ rfl, hc' 5 _ rfl⟩
theorem DocAt.below {w w' : World} {B B' b o n : Nat} {l : List Nd} (h : DocAt w B b o n l) (hb : Below B' w w') (hB : B ≤ B') : DocAt w' B b o n l :=
  ⟨h.hn, fun i x hx => by
    obtain ⟨Aa, na, ca, Ak, nk, ck, hn, c0, c1, c2, c3, c4, c5⟩ := h.at_ i x hx
    have hk : ∀ j v, w.cell? ⟨b, j, none⟩ = some v → w'.cell? ⟨b, j, none⟩ = some v := fun j v hv => (hb.cell (p := ⟨b, j, none⟩) (Nat.lt_of_lt_of_le h.lt hB)).trans hv
    exact ⟨Aa, na, ca, Ak, nk, ck, hn.below hb hB, hk _ _ c0, hk _ _ c1, hk _ _ c2, hk _ _ c3, hk _ _ c4, hk _ _ c5⟩, h.lt⟩
end Go.Proofs.YtegcedboeemedaaGreatDoor

/-
The walk of package dom: kids.
-/
namespace Go.Proofs.YtegcedboeemedaaGreatDoor
open Go.RowKit Go.Cl
attribute [local go_sem ↓] Go.wp_at_zero Go.wp_at_succ

/-- The document's box and the marks, between two rounds. -/
structure KMid (w : World) (A : Option Addr) (n c : Nat) (q : Bool) (seen : List Bool) (W : World) : Prop where
  box : W.heap[w.heap.size]? = some (.cells #[.slice A n c, .bool q] 33 (0, 0))
  marks : BoolsAt W (w.heap.size + 1) seen
  len : seen.length = n
  low : Below w.heap.size w W
theorem KMid.next {w W W' : World} {A : Option Addr} {n c : Nat} {q : Bool} {seen : List Bool} (h : KMid w A n c q seen W) (hb : Below (w.heap.size + 2) W W') : KMid w A n c q seen W' :=
  ⟨(hb.block _ (by omega)).trans h.box, h.marks.below hb (by omega), h.len, h.low.trans (hb.mono (by omega))⟩
theorem KMid.mark {w W : World} {A : Option Addr} {n c : Nat} {q : Bool} {seen : List Bool} (h : KMid w A n c q seen W) (m : Nat) : KMid w A n c q (seen.set m true) (W.setCell ⟨w.heap.size + 1, m, none⟩ (.bool true)) :=
  ⟨(Below.heap_setCell W ⟨w.heap.size + 1, m, none⟩ _ _ (by intro e; have e' : w.heap.size = w.heap.size + 1 := e; omega)).trans h.box, h.marks.set m true, by rw [List.length_set]; exact h.len, h.low.setCell (p := ⟨w.heap.size + 1, m, none⟩) (by show _ ≤ w.heap.size + 1; omega) _⟩

set_option maxRecDepth 100000 in
set_option maxHeartbeats 8000000 in
theorem kids_any (A : Option Addr) (n c : Nat) (l : List Nd) (q : Bool) (w : World) (B : Nat) (hl : Sl tNd w (lt B) A n c l) (hB : B ≤ w.heap.size) (hn : n ≤ 200) (hn0 : 0 < n) :
    Calls Tryz.prog 48 #[.agg #[.slice A n c, .bool q]] w fun e w' => e = .returned (.int .i64 (kidsE l)) ∧ Below w.heap.size w w' := by
  have HL := Lib.hid hl.hn
  obtain ⟨b, o, rfl, hd⟩ := doc_at hl hn0
  have HD := Lib.hid hd
  clear hd
  have hmk := make_bools (w.alloc (.cells #[.slice (some ⟨b, o, none⟩) n c, .bool q] 33)) n (by omega)
  rw [World.size_alloc] at hmk
  obtain ⟨w0, hw0⟩ : ∃ w0, w0 = (w.alloc (.cells #[.slice (some ⟨b, o, none⟩) n c, .bool q] 33)).alloc (.cells (Array.replicate n (.bool false)) 4) := ⟨_, rfl⟩
  have hM0 : KMid w (some ⟨b, o, none⟩) n c q (List.replicate n false) w0 := by
    rw [hw0]
    refine ⟨(Lib.alloc_old _ _ _ (by simp)).trans (heap_alloc_new w _), ?_, by simp, ((Below.refl _ w).alloc (Nat.le_refl _) _).alloc (by simp) _⟩
    have := heap_alloc_new (w.alloc (.cells #[.slice (some ⟨b, o, none⟩) n c, .bool q] 33)) (.cells (Array.replicate n (.bool false)) 4)
    rw [World.size_alloc] at this
    show _ = _
    rw [rep_bools]
    exact this
  have HM0 := Lib.hid hM0
  have bx0 : w0.cell? ⟨w.heap.size, 0, none⟩ = some (.slice (some ⟨b, o, none⟩) n c) := cell_blk hM0.box rfl
  clear hM0
  go_enter Tryz.func48, Tryz.ntmps48
  go_upto_region 2 with fail
  rw [← hw0]
  clear hw0 hmk
  go_wp2_with fail
  go_loopw [17] (fun i wr => ∃ (k : Nat) (seen : List Bool), k ≤ n ∧ i = .int .i64 (k : Int) ∧ KMid w (some ⟨b, o, none⟩) n c q seen wr ∧ Hid (allKids l 0 (List.replicate l.length false) l = allKids l k seen (l.drop k))) (fun i _ => n - (intOf i).toNat)
  case atStart => exact ⟨0, _, Nat.zero_le _, rfl, HM0.out, Lib.hid (by rw [HL.out]; rfl)⟩
  case round =>
    obtain ⟨i, seen, hi, rfl, hM, HA⟩ := hrel
    have HM := Lib.hid hM
    have hzr := hM.low.size
    have hgr : w.heap.size + 1 < wr.heap.size := by
      have := (Array.getElem?_eq_some_iff.1 hM.marks).1
      omega
    clear hM
    by_cases hlt : i < n
    · obtain ⟨x, hx⟩ : ∃ x, l[i]? = some x := get_some (by have := HL.out; omega)
      obtain ⟨Aa, na, ca, Ak, nk, ck, hnd, c0, c1, c2, c3, c4, c5⟩ := HD.out.at_ i x hx
      have HT : Hid (∀ W, Below w.heap.size w W → ∀ j v, w.cell? ⟨b, j, none⟩ = some v → W.cell? ⟨b, j, none⟩ = some v) := fun W hW j v hv => (hW.cell (p := ⟨b, j, none⟩) (Nat.lt_of_lt_of_le HD.out.lt hB)).trans hv
      have d0 := HT.out wr HM.out.low _ _ c0
      have d1 := HT.out wr HM.out.low _ _ c1
      have d2 := HT.out wr HM.out.low _ _ c2
      have d3 := HT.out wr HM.out.low _ _ c3
      have d4 := HT.out wr HM.out.low _ _ c4
      have d5 := HT.out wr HM.out.low _ _ c5
      have HX := Lib.hid hx
      have HND := Lib.hid hnd
      have hnk := hnd.kids.small
      have HNK := Lib.hid hnd.kids.hn
      clear hx hnd c0 c1 c2 c3 c4 c5
      go_upto_region 5 with fail
      obtain ⟨w1, hw1⟩ : ∃ w1, w1 = wr.alloc (.cells #[.int .i64 x.kind, .string x.name, .slice Aa na ca, .string x.text, .int .i64 x.parent, .slice Ak nk ck] 46) := ⟨_, rfl⟩
      have k5 : w1.cell? ⟨wr.heap.size, 5, none⟩ = some (.slice Ak nk ck) := by rw [hw1]; exact cell_blk (heap_alloc_new wr _) rfl
      have HM1 : Hid (KMid w (some ⟨b, o, none⟩) n c q seen w1) := by rw [hw1]; exact HM.out.next ((Below.refl _ wr).alloc (by omega) _)
      rw [← hw1]
      clear hw1 d0 d1 d2 d3 d4 d5
      go_wp2_with fail
      obtain ⟨wo, rfl⟩ : ∃ wo : World, wo = wr := ⟨_, rfl⟩
      go_loopw [25] (fun jj wi => ∃ (j : Nat) (sn : List Bool), j ≤ nk ∧ jj = .int .i64 (j : Int) ∧ KMid w (some ⟨b, o, none⟩) n c q sn wi ∧ Hid (kidsF l i seen x.kids = kidsF l i sn (x.kids.drop j))) (fun jj _ => nk - (intOf jj).toNat)
      case atStart => exact ⟨0, seen, Nat.zero_le _, rfl, HM1.out, Lib.hid rfl⟩
      case round =>
        obtain ⟨j, sn, hj, rfl, hMi, HK⟩ := hrel
        have HMi := Lib.hid hMi
        have hln := hMi.len
        have hlow := hMi.low
        have bx : wr.cell? ⟨w.heap.size, 0, none⟩ = some (.slice (some ⟨b, o, none⟩) n c) := cell_blk hMi.box rfl
        have HLN := Lib.hid hln
        have HLOW := Lib.hid hlow
        clear hMi hln hlow
        by_cases hjl : j < nk
        · obtain ⟨k, hk⟩ : ∃ k, x.kids[j]? = some k := get_some (by have := HNK.out; omega)
          obtain ⟨bk, ok, rfl, hbk, ck0, hwf⟩ := (HND.out.kids.below HLOW.out hB).int hk
          have HKJ := Lib.hid hk
          have hcap : nk ≤ ck := HND.out.kids.hc
          clear hk hwf
          by_cases hk0 : k < 0
          · have HR := Lib.hid (kidsE_err (allKids_err HA.out HX.out (kidsF_err HK.out HKJ.out (kidE_out (Or.inl hk0)) (by decide)) (by decide)) (by decide))
            go_wp2_with fail
            go_ret
            exact ⟨retI HR.out.symm, HLOW.out⟩
          obtain ⟨m, rfl⟩ : ∃ m : Nat, k = (m : Int) := ⟨k.toNat, by omega⟩
          by_cases hkn : n ≤ m
          · have HR := Lib.hid (kidsE_err (allKids_err HA.out HX.out (kidsF_err HK.out HKJ.out (kidE_out (Or.inr (by have := HL.out; omega))) (by decide)) (by decide)) (by decide))
            go_wp2_with fail
            go_ret
            exact ⟨retI HR.out.symm, HLOW.out⟩
          obtain ⟨y, hy⟩ : ∃ y, l[m]? = some y := get_some (by have := HL.out; omega)
          obtain ⟨sm, hsm⟩ : ∃ sm, sn[m]? = some sm := get_some (by have := HLN.out; omega)
          obtain ⟨_, _, _, _, _, _, _, y0, _, _, _, y4, _⟩ := HD.out.at_ m y hy
          have p0 := HT.out wr HLOW.out _ _ y0
          have p4 := HT.out wr HLOW.out _ _ y4
          have ms := HMi.out.marks.cell hsm
          have HY := Lib.hid hy
          have HSM := Lib.hid hsm
          have i1 : (0 : Int) ≤ (m : Int) := by omega
          have i2 : (m : Int) < (n : Int) := by omega
          have i3 : ¬ (n : Int) ≤ (m : Int) := by omega
          have hcap2 : n ≤ c := hl.hc
          clear y0 y4 hy hsm
          by_cases hp : y.parent = (i : Int)
          · have hpb : (y.parent != (i : Int)) = false := by simpa using hp
            cases sm with
            | true =>
              have HR := Lib.hid (kidsE_err (allKids_err HA.out HX.out (kidsF_err HK.out HKJ.out (kidE_not HY.out HSM.out (Or.inr rfl)) (by decide)) (by decide)) (by decide))
              clear hp
              go_wp2_with fail
              go_ret
              exact ⟨retI HR.out.symm, HLOW.out⟩
            | false =>
              by_cases hi0 : i = 0
              · have hib : ((i : Int) == 0) = true := by rw [hi0]; rfl
                by_cases hk3 : y.kind = 3
                · have hkb : (y.kind == 3) = true := by simpa using hk3
                  have HR := Lib.hid (kidsE_err (allKids_err HA.out HX.out (kidsF_err HK.out HKJ.out (kidE_seven HY.out HSM.out hp ⟨hi0, hk3⟩) (by decide)) (by decide)) (by decide))
                  clear hp hi0 hk3
                  go_wp2_with fail
                  go_ret
                  exact ⟨retI HR.out.symm, HLOW.out⟩
                · have hkb : (y.kind == 3) = false := by simpa using hk3
                  have HK2 := Lib.hid (kidsF_ok HK.out HKJ.out (kidE_zero HY.out HSM.out hp (fun h => hk3 h.2)))
                  have fz : wr.frozen? ⟨w.heap.size + 1, m, none⟩ = false := free_blk HMi.out.marks
                  clear hp hi0 hk3
                  go_wp2_with fail
                  go_roundw
                  case rel => exact ⟨j + 1, sn.set m true, by omega, by go_num, HMi.out.mark m, by rw [Int.toNat_natCast] at HK2; exact HK2⟩
                  case measure => simp [intOf]; omega
              · have hib : ((i : Int) == 0) = false := by simpa using hi0
                have HK2 := Lib.hid (kidsF_ok HK.out HKJ.out (kidE_zero HY.out HSM.out hp (fun h => hi0 h.1)))
                have fz : wr.frozen? ⟨w.heap.size + 1, m, none⟩ = false := free_blk HMi.out.marks
                clear hp hi0
                go_wp2_with fail
                go_roundw
                case rel => exact ⟨j + 1, sn.set m true, by omega, by go_num, HMi.out.mark m, by rw [Int.toNat_natCast] at HK2; exact HK2⟩
                case measure => simp [intOf]; omega
          · have hpb : (y.parent != (i : Int)) = true := by simpa using hp
            have HR := Lib.hid (kidsE_err (allKids_err HA.out HX.out (kidsF_err HK.out HKJ.out (kidE_not HY.out HSM.out (Or.inl hp)) (by decide)) (by decide)) (by decide))
            clear hp
            go_wp2_with fail
            go_ret
            exact ⟨retI HR.out.symm, HLOW.out⟩
        · have HA2 := Lib.hid (allKids_ok HA.out HX.out (kidsF_end HK.out (by have := HNK.out; omega)))
          go_wp2_with fail
          go_roundw
          case rel => exact ⟨i + 1, sn, by omega, by go_num, HMi.out, HA2⟩
          case measure => simp [intOf]; omega
    · have HRS := Lib.hid (kidsE_rest (s := seen) (by rw [HA.out, List.drop_of_length_le (by have := HL.out; omega), allKids]))
      have bx : wr.cell? ⟨w.heap.size, 0, none⟩ = some (.slice (some ⟨b, o, none⟩) n c) := cell_blk HM.out.box rfl
      go_wp2_with fail
      obtain ⟨wo, rfl⟩ : ∃ wo : World, wo = wr := ⟨_, rfl⟩
      go_loopw [74] (fun jj wi => ∃ (j : Nat), j ≤ n ∧ jj = .int .i64 (j : Int) ∧ KMid w (some ⟨b, o, none⟩) n c q seen wi ∧ Hid (lostB seen l = lostB (seen.drop j) (l.drop j))) (fun jj _ => n - (intOf jj).toNat)
      case atStart => exact ⟨0, Nat.zero_le _, rfl, HM.out, Lib.hid rfl⟩
      case round =>
        obtain ⟨j, hj, rfl, hMj, HLB⟩ := hrel
        have HMj := Lib.hid hMj
        have hgj : w.heap.size + 1 < wr.heap.size := (Array.getElem?_eq_some_iff.1 hMj.marks).1
        have bx2 : wr.cell? ⟨w.heap.size, 0, none⟩ = some (.slice (some ⟨b, o, none⟩) n c) := cell_blk hMj.box rfl
        clear hMj
        by_cases hjl : j < n
        · obtain ⟨x, hx⟩ : ∃ x, l[j]? = some x := get_some (by have := HL.out; omega)
          obtain ⟨sj, hsj⟩ : ∃ sj, seen[j]? = some sj := get_some (by have := HM.out.len; omega)
          obtain ⟨Aa, na, ca, Ak, nk, ck, hnd, c0, c1, c2, c3, c4, c5⟩ := HD.out.at_ j x hx
          have HT : Hid (∀ W, Below w.heap.size w W → ∀ j v, w.cell? ⟨b, j, none⟩ = some v → W.cell? ⟨b, j, none⟩ = some v) := fun W hW j v hv => (hW.cell (p := ⟨b, j, none⟩) (Nat.lt_of_lt_of_le HD.out.lt hB)).trans hv
          have d0 := HT.out wr HMj.out.low _ _ c0
          have d1 := HT.out wr HMj.out.low _ _ c1
          have d2 := HT.out wr HMj.out.low _ _ c2
          have d3 := HT.out wr HMj.out.low _ _ c3
          have d4 := HT.out wr HMj.out.low _ _ c4
          have d5 := HT.out wr HMj.out.low _ _ c5
          have HX := Lib.hid hx
          have HSJ := Lib.hid hsj
          have hcap : n ≤ c := hl.hc
          clear hx hsj hnd c0 c1 c2 c3 c4 c5
          go_upto_region 18 with fail
          obtain ⟨w1, hw1⟩ : ∃ w1, w1 = wr.alloc (.cells #[.int .i64 x.kind, .string x.name, .slice Aa na ca, .string x.text, .int .i64 x.parent, .slice Ak nk ck] 46) := ⟨_, rfl⟩
          have k4 : w1.cell? ⟨wr.heap.size, 4, none⟩ = some (.int .i64 x.parent) := by rw [hw1]; exact cell_blk (heap_alloc_new wr _) rfl
          have HM1 : Hid (KMid w (some ⟨b, o, none⟩) n c q seen w1) := by rw [hw1]; exact HMj.out.next ((Below.refl _ wr).alloc (by omega) _)
          have ms := HM1.out.marks.cell HSJ.out
          rw [← hw1]
          clear hw1 d0 d1 d2 d3 d4 d5 bx bx2
          by_cases hp : x.parent = -1
          · have hpb : (x.parent != -1) = false := by simpa using hp
            have HLB2 := Lib.hid (lost_go HLB.out HSJ.out HX.out (Or.inl hp))
            clear hp
            go_wp2_with fail
            go_roundw
            case rel => exact ⟨j + 1, by omega, by go_num, HM1.out, HLB2⟩
            case measure => simp [intOf]; omega
          · have hpb : (x.parent != -1) = true := by simpa using hp
            cases sj with
            | true =>
              have HLB2 := Lib.hid (lost_go HLB.out HSJ.out HX.out (Or.inr rfl))
              clear hp
              go_wp2_with fail
              go_roundw
              case rel => exact ⟨j + 1, by omega, by go_num, HM1.out, HLB2⟩
              case measure => simp [intOf]; omega
            | false =>
              have HR := Lib.hid (HRS.out.trans (if_pos (lost_hit HLB.out HSJ.out HX.out hp)))
              clear hp
              go_wp2_with fail
              go_ret
              exact ⟨retI HR.out.symm, HM1.out.low⟩
        · have HR := Lib.hid (HRS.out.trans (if_neg (by rw [lost_end HLB.out (by have := HL.out; omega)]; decide)))
          obtain ⟨x, hx⟩ : ∃ x, l[0]? = some x := get_some (by have := HL.out; omega)
          obtain ⟨Aa, na, ca, Ak, nk, ck, hnd, c0, c1, c2, c3, c4, c5⟩ := HD.out.at_ 0 x hx
          have d4 : wr.cell? ⟨b, o + 4, none⟩ = some (.int .i64 x.parent) := (HMj.out.low.cell (p := ⟨b, o + 4, none⟩) (Nat.lt_of_lt_of_le HD.out.lt hB)).trans (by simpa using c4)
          have HH := Lib.hid (show (l.map Nd.parent).headD 0 = x.parent from by
            cases l with
            | nil => cases hx
            | cons z r => simp at hx; subst hx; rfl)
          clear hx hnd c0 c1 c2 c3 c4 c5
          by_cases hp : x.parent = -1
          · have hpb : (x.parent != -1) = false := by simpa using hp
            have HR2 := Lib.hid (HR.out.trans (if_neg (by rw [HH.out, hp]; decide)))
            clear hp
            go_wp2_with fail
            go_ret
            exact ⟨retI HR2.out.symm, HMj.out.low⟩
          · have hpb : (x.parent != -1) = true := by simpa using hp
            have HR2 := Lib.hid (HR.out.trans (if_pos (by rw [HH.out]; exact hp)))
            clear hp
            go_wp2_with fail
            go_ret
            exact ⟨retI HR2.out.symm, HMj.out.low⟩
end Go.Proofs.YtegcedboeemedaaGreatDoor

/-
The walks of package dom: up, Check.
-/
namespace Go.Proofs.YtegcedboeemedaaGreatDoor
open Go.RowKit Go.Cl
attribute [local go_sem ↓] Go.wp_at_zero Go.wp_at_succ

theorem upF_go {l : List Nd} {f m : Nat} {x : Nd} {p : Nat} (hx : l[m]? = some x) (hp : x.parent = (p : Int)) : upF l (f + 1) (m : Int) = upF l f (p : Int) + 1 := by
  rw [upF, Int.toNat_natCast, map_at hx, hp]
  rw [if_pos (by omega)]
theorem upF_stop {l : List Nd} {f m : Nat} {x : Nd} (hx : l[m]? = some x) (hp : x.parent < 0) : upF l f (m : Int) = 0 := by
  cases f with
  | zero => rfl
  | succ f =>
    rw [upF, Int.toNat_natCast, map_at hx]
    rw [if_neg (by omega)]

set_option maxRecDepth 100000 in
set_option maxHeartbeats 1000000 in
theorem up_any (A : Option Addr) (n c : Nat) (l : List Nd) (q : Bool) (k : Nat) (w : World) (B : Nat) (hl : Sl tNd w (lt B) A n c l) (hB : B ≤ w.heap.size) (hn : n ≤ 200) (hk : k < n) (hpar : ∀ x ∈ l, x.parent < (n : Int)) :
    Calls Tryz.prog 49 #[.agg #[.slice A n c, .bool q], .int .i64 (k : Int)] w fun e w' => e = .returned (.int .i64 (upN l (k : Int))) ∧ Below w.heap.size w w' := by
  have HL := Lib.hid hl.hn
  have HP := Lib.hid hpar
  obtain ⟨b, o, rfl, hd⟩ := doc_at hl (by omega)
  have hcap : n ≤ c := hl.hc
  obtain ⟨w0, hw0⟩ : ∃ w0, w0 = w.alloc (.cells #[.slice (some ⟨b, o, none⟩) n c, .bool q] 33) := ⟨_, rfl⟩
  have bx : w0.cell? ⟨w.heap.size, 0, none⟩ = some (.slice (some ⟨b, o, none⟩) n c) := by rw [hw0]; exact cell_blk (heap_alloc_new w _) rfl
  have hb0 : Below w.heap.size w w0 := by rw [hw0]; exact (Below.refl _ _).alloc (Nat.le_refl _) _
  have HD := Lib.hid (hd.below hb0 hB)
  have HB0 := Lib.hid hb0
  clear hd hb0 hpar
  go_enter Tryz.func49, Tryz.ntmps49
  go_upto_region 1 with fail
  rw [← hw0]
  clear hw0
  go_loop [1, 4] (fun s t => ∃ (m many : Nat), m < n ∧ many ≤ n + 1 ∧ s = .int .i64 (m : Int) ∧ t = .int .i64 (many : Int) ∧ Hid (upN l (k : Int) = many + upF l (n + 1 - many) (m : Int))) (fun _ t => n + 1 - (intOf t).toNat)
  case atStart => exact ⟨k, 0, hk, Nat.zero_le _, rfl, rfl, Lib.hid (by unfold upN; rw [HL.out]; simp)⟩
  case round =>
    obtain ⟨m, many, hm, hmn, rfl, rfl, HU⟩ := hrel
    obtain ⟨x, hx⟩ : ∃ x, l[m]? = some x := get_some (by have := HL.out; omega)
    obtain ⟨_, _, _, _, _, _, _, _, _, _, _, c4, _⟩ := HD.out.at_ m x hx
    have hpx := HP.out x (List.mem_of_getElem? hx)
    have i1 : (0 : Int) ≤ (m : Int) := by omega
    have i2 : (m : Int) < (n : Int) := by omega
    by_cases hp0 : 0 ≤ x.parent
    · by_cases hmn2 : many ≤ n
      · obtain ⟨p, hp⟩ : ∃ p : Nat, x.parent = (p : Int) := ⟨x.parent.toNat, by omega⟩
        have HU2 := Lib.hid (show upN l (k : Int) = (many + 1 : Nat) + upF l (n + 1 - (many + 1)) (p : Int) from by
          rw [HU.out, show n + 1 - many = (n + 1 - (many + 1)) + 1 from by omega, upF_go hx hp]
          omega)
        have hpn : p < n := by omega
        rw [hp] at c4
        clear hx hp hp0 hpx
        go_wp2_with fail
        go_round
        case rel => exact ⟨p, many + 1, hpn, by omega, rfl, by go_num, HU2⟩
        case measure => simp [intOf]; omega
      · have HR := Lib.hid (show upN l (k : Int) = many from by rw [HU.out, show n + 1 - many = 0 from by omega]; rfl)
        clear hx
        go_wp2_with fail
        go_ret
        exact ⟨retI (by rw [HR.out]), HB0.out⟩
    · have HR := Lib.hid (show upN l (k : Int) = many from by rw [HU.out, upF_stop hx (by omega)]; rfl)
      clear hx
      go_wp2_with fail
      go_ret
      exact ⟨retI (by rw [HR.out]), HB0.out⟩

/-! ### what kids tells -/
/-- What has been marked. -/
structure KidsOk (l : List Nd) (i : Nat) (seen : List Bool) : Prop where
  len : seen.length = l.length
  kids : ∀ (j : Nat) x, j < i → l[j]? = some x → x.kids.Nodup ∧ ∀ k ∈ x.kids, ∃ m y, k = ((m : Nat) : Int) ∧ l[m]? = some y ∧ y.parent = (j : Int) ∧ ¬ (j = 0 ∧ y.kind = 3)
  marks : ∀ m : Nat, seen[m]? = some true → ∃ j x, j < i ∧ l[j]? = some x ∧ (m : Int) ∈ x.kids
/-- One list of kids, as far as it has gone. -/
structure KidsPart (l : List Nd) (i : Nat) (s0 seen : List Bool) (ks : List Int) : Prop where
  len : seen.length = l.length
  kids : ks.Nodup ∧ ∀ k ∈ ks, ∃ m y, k = ((m : Nat) : Int) ∧ l[m]? = some y ∧ y.parent = (i : Int) ∧ ¬ (i = 0 ∧ y.kind = 3) ∧ seen[m]? = some true
  marks : ∀ m : Nat, seen[m]? = some true → s0[m]? = some true ∨ (m : Int) ∈ ks
  keep : ∀ m : Nat, s0[m]? = some true → seen[m]? = some true
theorem kidE_facts {l : List Nd} {i : Nat} {seen : List Bool} {k : Int} (hs : seen.length = l.length) (h : kidE l i seen k = 0) : ∃ m y, k = ((m : Nat) : Int) ∧ l[m]? = some y ∧ y.parent = (i : Int) ∧ ¬ (i = 0 ∧ y.kind = 3) ∧ seen[m]? = some false := by
  unfold kidE at h
  by_cases h1 : k < 0 ∨ (l.length : Int) ≤ k
  · rw [if_pos h1] at h; cases h
  · rw [if_neg h1] at h
    obtain ⟨m, rfl⟩ : ∃ m : Nat, k = (m : Int) := ⟨k.toNat, by omega⟩
    obtain ⟨y, hy⟩ := get_some (l := l) (k := m) (by omega)
    obtain ⟨s, hss⟩ := get_some (l := seen) (k := m) (by omega)
    rw [Int.toNat_natCast, map_at hy, map_at hy, hss, Option.getD_some] at h
    by_cases h2 : y.parent ≠ (i : Int) ∨ s = true
    · rw [if_pos h2] at h; cases h
    · rw [if_neg h2] at h
      by_cases h3 : i = 0 ∧ y.kind = 3
      · rw [if_pos h3] at h; cases h
      · refine ⟨m, y, rfl, hy, by by_cases e : y.parent = (i : Int); exact e; exact absurd (Or.inl e) h2, h3, ?_⟩
        rw [hss]
        cases s with
        | true => exact absurd (Or.inr rfl) h2
        | false => rfl
theorem kidsF_part {l : List Nd} {i : Nat} {s0 : List Bool} (r : List Int) : ∀ (ks : List Int) (seen : List Bool), KidsPart l i s0 seen ks → (kidsF l i seen r).1 = 0 → KidsPart l i s0 (kidsF l i seen r).2 (ks ++ r) := by
  induction r with
  | nil => intro ks seen h _; rw [List.append_nil]; exact h
  | cons k r ih =>
    intro ks seen h h0
    rw [kidsF] at h0 ⊢
    by_cases he : kidE l i seen k = 0
    · rw [if_neg (by rw [he]; decide)] at h0 ⊢
      obtain ⟨m, y, rfl, hy, hp, h3, hs⟩ := kidE_facts h.len he
      rw [Int.toNat_natCast] at h0 ⊢
      have hm := (List.getElem?_eq_some_iff.1 hs).1
      have key : KidsPart l i s0 (seen.set m true) (ks ++ [(m : Int)]) := by
        refine ⟨by rw [List.length_set]; exact h.len, ⟨?_, ?_⟩, ?_, ?_⟩
        · rw [List.nodup_append]
          refine ⟨h.kids.1, by simp, ?_⟩
          intro a ha b hb e
          simp at hb
          subst hb
          subst e
          obtain ⟨m', y', e1, _, _, _, hs'⟩ := h.kids.2 _ ha
          have : m = m' := by omega
          subst this
          rw [hs] at hs'
          cases hs'
        · intro k' hk'
          rcases List.mem_append.1 hk' with hk' | hk'
          · obtain ⟨m', y', e1, a1, a2, a3, a4⟩ := h.kids.2 _ hk'
            refine ⟨m', y', e1, a1, a2, a3, ?_⟩
            rw [List.getElem?_set]
            split
            · rename_i e; subst e; simp
            · exact a4
          · simp at hk'
            subst hk'
            exact ⟨m, y, rfl, hy, hp, h3, by rw [List.getElem?_set_self hm]⟩
        · intro m' hm'
          rw [List.getElem?_set] at hm'
          split at hm'
          · rename_i e; subst e; exact Or.inr (by simp)
          · rcases h.marks m' hm' with a | a
            · exact Or.inl a
            · exact Or.inr (List.mem_append_left _ a)
        · intro m' hm'
          rw [List.getElem?_set]
          split
          · rename_i e; subst e; simp
          · exact h.keep m' hm'
      have := ih (ks ++ [(m : Int)]) (seen.set m true) key h0
      rwa [List.append_assoc] at this
    · rw [if_pos he] at h0
      exact absurd h0 he
theorem allKids_ok_of {l : List Nd} (r : List Nd) : ∀ (i : Nat) (seen : List Bool), l.drop i = r → KidsOk l i seen → (allKids l i seen r).1 = 0 → KidsOk l (i + r.length) (allKids l i seen r).2 := by
  induction r with
  | nil => intro i seen _ h _; exact h
  | cons x r ih =>
    intro i seen hd h h0
    have hx : l[i]? = some x := by
      have := List.getElem?_drop (xs := l) (i := i) (j := 0)
      rw [hd] at this
      simpa using this.symm
    have hd2 : l.drop (i + 1) = r := by
      have := congrArg (List.drop 1) hd
      rwa [List.drop_drop] at this
    rw [allKids] at h0 ⊢
    by_cases he : (kidsF l i seen x.kids).1 = 0
    · rw [if_neg (by rw [he]; decide)] at h0 ⊢
      have hpart := kidsF_part (l := l) (i := i) (s0 := seen) x.kids [] seen ⟨h.len, ⟨List.nodup_nil, fun k hk => by cases hk⟩, fun m hm => Or.inl hm, fun m hm => hm⟩ he
      rw [List.nil_append] at hpart
      have key : KidsOk l (i + 1) (kidsF l i seen x.kids).2 := by
        refine ⟨hpart.len, ?_, ?_⟩
        · intro j y hj hy
          by_cases e : j = i
          · subst e
            rw [hx] at hy
            obtain rfl := Option.some.inj hy
            exact ⟨hpart.kids.1, fun k hk => by
              obtain ⟨m, z, e1, a1, a2, a3, _⟩ := hpart.kids.2 k hk
              exact ⟨m, z, e1, a1, a2, a3⟩⟩
          · exact h.kids j y (by omega) hy
        · intro m hm
          rcases hpart.marks m hm with a | a
          · obtain ⟨j, y, hj, hy, hk⟩ := h.marks m a
            exact ⟨j, y, by omega, hy, hk⟩
          · exact ⟨i, x, by omega, hx, a⟩
      have := ih (i + 1) _ hd2 key h0
      rw [List.length_cons]
      rwa [show i + 1 + r.length = i + (r.length + 1) from by omega] at this
    · rw [if_pos he] at h0
      exact absurd h0 he
/-- What a document whose kids are right is like. -/
structure KidsRight (l : List Nd) : Prop where
  kids : ∀ (j : Nat) x, l[j]? = some x → x.kids.Nodup ∧ ∀ k ∈ x.kids, ∃ m y, k = ((m : Nat) : Int) ∧ l[m]? = some y ∧ y.parent = (j : Int) ∧ ¬ (j = 0 ∧ y.kind = 3)
  known : ∀ (m : Nat) y, l[m]? = some y → y.parent ≠ -1 → ∃ (j : Nat) (x : Nd), l[j]? = some x ∧ (m : Int) ∈ x.kids
  top : ∀ x, l[0]? = some x → x.parent = -1
theorem lost_none (seen : List Bool) (l : List Nd) (h : lostB seen l = false) (hs : seen.length = l.length) : ∀ (m : Nat) y, l[m]? = some y → y.parent ≠ -1 → seen[m]? = some true := by
  induction l generalizing seen with
  | nil => intro m y hy; simp at hy
  | cons x l ih =>
    cases seen with
    | nil => simp at hs
    | cons s t =>
      rw [lostB, Bool.or_eq_false_iff] at h
      intro m y hy hp
      cases m with
      | zero =>
        simp at hy
        subst hy
        have h1 := h.1
        have : (x.parent != -1) = true := by simpa using hp
        rw [this] at h1
        simp at h1
        simp [h1]
      | succ m =>
        simp at hy
        have := ih t h.2 (by simpa using hs) m y hy hp
        simpa using this
theorem kids_right {l : List Nd} (h0 : 0 < l.length) (h : kidsE l = 0) : KidsRight l := by
  unfold kidsE at h
  simp only at h
  by_cases h1 : (allKids l 0 (List.replicate l.length false) l).1 = 0
  · rw [if_neg (by rw [h1]; decide)] at h
    have hok := allKids_ok_of (l := l) l 0 (List.replicate l.length false) rfl ⟨by simp, fun j x hj => by omega, fun m hm => by
      have := (List.getElem?_eq_some_iff.1 hm).2
      simp at this⟩ h1
    rw [Nat.zero_add] at hok
    by_cases h2 : lostB (allKids l 0 (List.replicate l.length false) l).2 l = true
    · rw [if_pos h2] at h; cases h
    · rw [if_neg h2] at h
      by_cases h3 : (l.map Nd.parent).headD 0 ≠ -1
      · rw [if_pos h3] at h; cases h
      · refine ⟨fun j x hx => hok.kids j x (List.getElem?_eq_some_iff.1 hx).1 hx, fun m y hy hp => ?_, fun x hx => ?_⟩
        · obtain ⟨j, x, _, hx, hk⟩ := hok.marks m (lost_none _ _ (by simpa using h2) hok.len m y hy hp)
          exact ⟨j, x, hx, hk⟩
        · cases l with
          | nil => cases hx
          | cons z r =>
            have hz : z = x := by simpa using hx
            subst hz
            simpa using h3
  · rw [if_pos h1] at h
    exact absurd h h1
theorem KidsRight.parent_lt {l : List Nd} (h : KidsRight l) : ∀ x ∈ l, x.parent = -1 ∨ ∃ j y, x.parent = ((j : Nat) : Int) ∧ l[j]? = some y := by
  intro x hx
  by_cases hp : x.parent = -1
  · exact Or.inl hp
  · obtain ⟨m, hm⟩ := List.mem_iff_getElem?.1 hx
    obtain ⟨j, y, hy, hk⟩ := h.known m x hm hp
    obtain ⟨m', z, e, hz, hpz, _⟩ := (h.kids j y hy).2 _ hk
    have : m = m' := by omega
    subst this
    rw [hm] at hz
    obtain rfl := Option.some.inj hz
    exact Or.inr ⟨j, y, hpz, hy⟩
end Go.Proofs.YtegcedboeemedaaGreatDoor

/-
The walk of package dom: Check.
-/
namespace Go.Proofs.YtegcedboeemedaaGreatDoor
open Go.RowKit Go.Cl
attribute [local go_sem ↓] Go.wp_at_zero Go.wp_at_succ

theorem first_bad {l : List Nd} {k : Nat} {x : Nd} (hx : l[k]? = some x) (h : ((x.kind == 1) != (k == 0)) = true) : firstE k (l.drop k) = 3 := by
  rw [List.drop_eq_getElem_cons (List.getElem?_eq_some_iff.1 hx).1, (List.getElem?_eq_some_iff.1 hx).2, firstE, if_pos h]
theorem first_err {l : List Nd} {k : Nat} {x : Nd} (hx : l[k]? = some x) (h : ((x.kind == 1) != (k == 0)) = false) (he : nodeE x ≠ 0) : firstE k (l.drop k) = nodeE x := by
  rw [List.drop_eq_getElem_cons (List.getElem?_eq_some_iff.1 hx).1, (List.getElem?_eq_some_iff.1 hx).2, firstE, if_neg (by rw [h]; decide), if_pos he]
theorem first_ok {l : List Nd} {k : Nat} {x : Nd} (hx : l[k]? = some x) (h : ((x.kind == 1) != (k == 0)) = false) (he : nodeE x = 0) : firstE k (l.drop k) = firstE (k + 1) (l.drop (k + 1)) := by
  rw [List.drop_eq_getElem_cons (List.getElem?_eq_some_iff.1 hx).1, (List.getElem?_eq_some_iff.1 hx).2, firstE, if_neg (by rw [h]; decide), if_neg (by rw [he]; simp)]
theorem check_first {l : List Nd} {n : Nat} {e : Int} (hn : n ≤ 200) (h0 : 0 < n) (hl : n = l.length) (h : firstE 0 l = e) (he : e ≠ 0) : checkD l = e := by
  unfold checkD
  rw [if_neg (by omega), if_neg (by omega), h, if_pos he]
theorem check_kids {l : List Nd} {n : Nat} {e : Int} (hn : n ≤ 200) (h0 : 0 < n) (hl : n = l.length) (h : firstE 0 l = 0) (hk : kidsE l = e) (he : e ≠ 0) : checkD l = e := by
  unfold checkD
  rw [if_neg (by omega), if_neg (by omega), h, if_neg (by decide), hk, if_pos he]
theorem check_last {l : List Nd} {n : Nat} (hn : n ≤ 200) (h0 : 0 < n) (hl : n = l.length) (h : firstE 0 l = 0) (hk : kidsE l = 0) : checkD l = lastE l (List.range l.length) := by
  unfold checkD
  rw [if_neg (by omega), if_neg (by omega), h, if_neg (by decide), hk, if_neg (by decide)]
theorem range_at {n k : Nat} (h : k < n) : (List.range n).drop k = k :: (List.range n).drop (k + 1) := by
  rw [List.drop_eq_getElem_cons (by simpa using h)]
  simp
theorem last_eight {l : List Nd} {k : Nat} (hk : k < l.length) (h : l.length < upN l k) : lastE l ((List.range l.length).drop k) = 8 := by
  rw [range_at hk, lastE, if_pos h]
theorem last_two {l : List Nd} {k : Nat} (hk : k < l.length) (h : ¬ l.length < upN l k) (h2 : 40 < upN l k) : lastE l ((List.range l.length).drop k) = 2 := by
  rw [range_at hk, lastE, if_neg h, if_pos h2]
theorem last_go {l : List Nd} {k : Nat} (hk : k < l.length) (h : ¬ l.length < upN l k) (h2 : ¬ 40 < upN l k) : lastE l ((List.range l.length).drop k) = lastE l ((List.range l.length).drop (k + 1)) := by
  conv => lhs; rw [range_at hk, lastE, if_neg h, if_neg h2]

set_option maxRecDepth 100000 in
set_option maxHeartbeats 4000000 in
theorem check_dom (A : Option Addr) (n c : Nat) (l : List Nd) (q : Bool) (w : World) (B : Nat) (hl : Sl tNd w (lt B) A n c l) (hB : B ≤ w.heap.size) :
    Calls Tryz.prog 20 #[.agg #[.slice A n c, .bool q]] w fun e w' => e = .returned (.int .i64 (checkD l)) ∧ Below w.heap.size w w' := by
  have hn1 := hl.small
  have HL := Lib.hid hl.hn
  have hbel : ∀ o, Below w.heap.size w (w.alloc o) := fun o => (Below.refl _ _).alloc (Nat.le_refl _) o
  by_cases hn : 200 < n
  · have HR := Lib.hid (show checkD l = 2 from by unfold checkD; rw [if_pos (by have := HL.out; omega)])
    go_enter Tryz.func20, Tryz.ntmps20
    go_wp2_with fail
    go_ret
    exact ⟨retI HR.out.symm, hbel _⟩
  by_cases hn0 : n = 0
  · have HR := Lib.hid (show checkD l = 3 from by unfold checkD; rw [if_neg (by have := HL.out; omega), if_pos (by have := HL.out; omega)])
    subst hn0
    go_enter Tryz.func20, Tryz.ntmps20
    go_wp2_with fail
    go_ret
    exact ⟨retI HR.out.symm, hbel _⟩
  have hn : n ≤ 200 := by omega
  have hn0 : 0 < n := by omega
  have t1 : decide ((200 : Int) < (n : Int)) = false := decide_eq_false (by omega)
  have t2 : ((n : Int) == 0) = false := by rw [beq_eq_false_iff_ne]; omega
  obtain ⟨b, o, rfl, hd⟩ := doc_at hl hn0
  have HD := Lib.hid hd
  have hcap : n ≤ c := hl.hc
  obtain ⟨w0, hw0⟩ : ∃ w0, w0 = w.alloc (.cells #[.slice (some ⟨b, o, none⟩) n c, .bool q] 33) := ⟨_, rfl⟩
  have hbx : w0.heap[w.heap.size]? = some (.cells #[.slice (some ⟨b, o, none⟩) n c, .bool q] 33 (0, 0)) := by rw [hw0]; exact heap_alloc_new w _
  have bx : w0.cell? ⟨w.heap.size, 0, none⟩ = some (.slice (some ⟨b, o, none⟩) n c) := cell_blk hbx rfl
  have hb0 : Below w.heap.size w w0 := by rw [hw0]; exact hbel _
  have HB0 := Lib.hid hb0
  have HBX := Lib.hid hbx
  have HT : Hid (∀ W, Below w.heap.size w W → ∀ j v, w.cell? ⟨b, j, none⟩ = some v → W.cell? ⟨b, j, none⟩ = some v) := fun W hW j v hv => (hW.cell (p := ⟨b, j, none⟩) (Nat.lt_of_lt_of_le HD.out.lt hB)).trans hv
  clear hd hb0 hbx hbel
  go_enter Tryz.func20, Tryz.ntmps20
  go_upto_region 1 with fail
  rw [← hw0]
  clear hw0
  go_wp2_with fail
  go_loopw [22] (fun s wr => ∃ (k : Nat), k ≤ n ∧ s = .int .i64 (k : Int) ∧ Below w.heap.size w wr ∧ wr.heap[w.heap.size]? = some (.cells #[.slice (some ⟨b, o, none⟩) n c, .bool q] 33 (0, 0)) ∧ Hid (firstE 0 l = firstE k (l.drop k))) (fun s _ => n - (intOf s).toNat)
  case atStart => exact ⟨0, Nat.zero_le _, rfl, HB0.out, HBX.out, Lib.hid rfl⟩
  case round =>
    obtain ⟨k, hk, rfl, hb, hbx, HF⟩ := hrel
    have hz := hb.size
    have hgx : w.heap.size < wr.heap.size := (Array.getElem?_eq_some_iff.1 hbx).1
    have HBX2 := Lib.hid hbx
    have HBW := Lib.hid hb
    clear hbx
    by_cases hlt : k < n
    · obtain ⟨x, hx⟩ : ∃ x, l[k]? = some x := get_some (by have := HL.out; omega)
      obtain ⟨Aa, na, ca, Ak, nk, ck, hnd, c0, c1, c2, c3, c4, c5⟩ := HD.out.at_ k x hx
      have d0 := HT.out wr hb _ _ c0
      have d1 := HT.out wr hb _ _ c1
      have d2 := HT.out wr hb _ _ c2
      have d3 := HT.out wr hb _ _ c3
      have d4 := HT.out wr hb _ _ c4
      have d5 := HT.out wr hb _ _ c5
      have HX := Lib.hid hx
      have HND := Lib.hid hnd
      clear hx hnd c0 c1 c2 c3 c4 c5 hb
      go_upto_region 8 with fail
      obtain ⟨w1, hw1⟩ : ∃ w1, w1 = wr.alloc (.cells #[.int .i64 x.kind, .string x.name, .slice Aa na ca, .string x.text, .int .i64 x.parent, .slice Ak nk ck] 46) := ⟨_, rfl⟩
      have e1 : w1.heap[wr.heap.size]? = some (.cells #[.int .i64 x.kind, .string x.name, .slice Aa na ca, .string x.text, .int .i64 x.parent, .slice Ak nk ck] 46 (0, 0)) := by rw [hw1]; exact heap_alloc_new wr _
      have hz1 : w1.heap.size = wr.heap.size + 1 := by rw [hw1]; exact World.size_alloc wr _
      have hb1 : Below w.heap.size w w1 := by rw [hw1]; exact HBW.out.alloc hz _
      have HBX1 : Hid (w1.heap[w.heap.size]? = some (.cells #[.slice (some ⟨b, o, none⟩) n c, .bool q] 33 (0, 0))) := by rw [hw1]; exact (Lib.alloc_old wr _ _ hgx).trans HBX2.out
      rw [← hw1]
      have k0 : w1.cell? ⟨wr.heap.size, 0, none⟩ = some (.int .i64 x.kind) := cell_blk e1 rfl
      have k1 : w1.cell? ⟨wr.heap.size, 1, none⟩ = some (.string x.name) := cell_blk e1 rfl
      have k2 : w1.cell? ⟨wr.heap.size, 2, none⟩ = some (.slice Aa na ca) := cell_blk e1 rfl
      have k3 : w1.cell? ⟨wr.heap.size, 3, none⟩ = some (.string x.text) := cell_blk e1 rfl
      have k4 : w1.cell? ⟨wr.heap.size, 4, none⟩ = some (.int .i64 x.parent) := cell_blk e1 rfl
      have k5 : w1.cell? ⟨wr.heap.size, 5, none⟩ = some (.slice Ak nk ck) := cell_blk e1 rfl
      clear hw1 e1 d0 d1 d2 d3 d4 d5
      by_cases hx1 : x.kind = 1
      · have hx1b : (x.kind == 1) = true := by simpa using hx1
        by_cases hk0 : k = 0
        · have hk0b : ((k : Int) == 0) = true := by rw [hk0]; rfl
          have hkk : ((x.kind == 1) != (k == 0)) = false := by rw [hx1b, hk0]; rfl
          have HKK := Lib.hid hkk
          clear hx1 hk0 hkk
          have HB1 := Lib.hid hb1
          by_cases he : nodeE x = 0
          · have HF2 := Lib.hid (HF.out.trans (first_ok HX.out HKK.out he))
            have HO := Lib.hid (one_any' x Aa na ca Ak nk ck w1 B (HND.out.below HB1.out hB) (Nat.le_trans hB HB1.out.size))
            rw [he] at HO
            clear he
            go_wp2_with (go_at_call 47; refine HO.out.mono ?_; rintro e w2 ⟨rfl, hb2⟩)
            have HB2 := Lib.hid (HB1.out.trans (hb2.mono HB1.out.size))
            have hbx2 : w2.heap[w.heap.size]? = some (.cells #[.slice (some ⟨b, o, none⟩) n c, .bool q] 33 (0, 0)) := (hb2.block _ (by omega)).trans HBX1.out
            clear hb2
            go_roundw
            case rel => exact ⟨k + 1, by omega, by go_num, HB2.out, hbx2, HF2⟩
            case measure => simp [intOf]; omega
          · have HR := Lib.hid (HF.out.trans (first_err HX.out HKK.out he))
            have HO := Lib.hid (one_any' x Aa na ca Ak nk ck w1 B (HND.out.below HB1.out hB) (Nat.le_trans hB HB1.out.size))
            have HRR := Lib.hid (check_first hn hn0 HL.out (e := nodeE x) HR.out he)
            have he1 : (nodeE x != 0) = true := by simpa using he
            generalize nodeE x = ee at *
            clear he
            go_wp2_with (go_at_call 47; refine HO.out.mono ?_; rintro e w2 ⟨rfl, hb2⟩)
            go_ret
            exact ⟨retI HRR.out.symm, HB1.out.trans (hb2.mono HB1.out.size)⟩

        · have hk0b : ((k : Int) == 0) = false := by simpa using hk0
          have HR := Lib.hid (check_first hn hn0 HL.out (HF.out.trans (first_bad HX.out (by rw [hx1b]; simpa using hk0))) (by decide))
          clear hx1 hk0
          go_wp2_with fail
          go_ret
          exact ⟨retI HR.out.symm, hb1⟩
      · have hx1b : (x.kind == 1) = false := by simpa using hx1
        by_cases hk0 : k = 0
        · have hk0b : ((k : Int) == 0) = true := by rw [hk0]; rfl
          have HR := Lib.hid (check_first hn hn0 HL.out (HF.out.trans (first_bad HX.out (by rw [hx1b, hk0]; rfl))) (by decide))
          clear hx1 hk0
          go_wp2_with fail
          go_ret
          exact ⟨retI HR.out.symm, hb1⟩
        · have hk0b : ((k : Int) == 0) = false := by simpa using hk0
          have hkk : ((x.kind == 1) != (k == 0)) = false := by rw [hx1b]; simpa using hk0
          have HKK := Lib.hid hkk
          clear hx1 hk0 hkk
          have HB1 := Lib.hid hb1
          by_cases he : nodeE x = 0
          · have HF2 := Lib.hid (HF.out.trans (first_ok HX.out HKK.out he))
            have HO := Lib.hid (one_any' x Aa na ca Ak nk ck w1 B (HND.out.below HB1.out hB) (Nat.le_trans hB HB1.out.size))
            rw [he] at HO
            clear he
            go_wp2_with (go_at_call 47; refine HO.out.mono ?_; rintro e w2 ⟨rfl, hb2⟩)
            have HB2 := Lib.hid (HB1.out.trans (hb2.mono HB1.out.size))
            have hbx2 : w2.heap[w.heap.size]? = some (.cells #[.slice (some ⟨b, o, none⟩) n c, .bool q] 33 (0, 0)) := (hb2.block _ (by omega)).trans HBX1.out
            clear hb2
            go_roundw
            case rel => exact ⟨k + 1, by omega, by go_num, HB2.out, hbx2, HF2⟩
            case measure => simp [intOf]; omega
          · have HR := Lib.hid (HF.out.trans (first_err HX.out HKK.out he))
            have HO := Lib.hid (one_any' x Aa na ca Ak nk ck w1 B (HND.out.below HB1.out hB) (Nat.le_trans hB HB1.out.size))
            have HRR := Lib.hid (check_first hn hn0 HL.out (e := nodeE x) HR.out he)
            have he1 : (nodeE x != 0) = true := by simpa using he
            generalize nodeE x = ee at *
            clear he
            go_wp2_with (go_at_call 47; refine HO.out.mono ?_; rintro e w2 ⟨rfl, hb2⟩)
            go_ret
            exact ⟨retI HRR.out.symm, HB1.out.trans (hb2.mono HB1.out.size)⟩

    · have HF0 := Lib.hid (show firstE 0 l = 0 from by rw [HF.out, List.drop_of_length_le (by have := HL.out; omega), firstE])
      have bx1 : wr.cell? ⟨w.heap.size, 0, none⟩ = some (.slice (some ⟨b, o, none⟩) n c) := cell_blk HBX2.out rfl
      have bx2 : wr.cell? ⟨w.heap.size, 1, none⟩ = some (.bool q) := cell_blk HBX2.out rfl
      have HK := Lib.hid (kids_any (some ⟨b, o, none⟩) n c l q wr B (hl.below hb hB) (by omega) hn hn0)
      by_cases hke : kidsE l = 0
      · rw [hke] at HK
        have HKR := Lib.hid (kids_right (by have := HL.out; omega) hke)
        have HLA := Lib.hid (check_last hn hn0 HL.out HF0.out hke)
        clear hke
        go_upto_region 17 with (go_at_call 48; refine HK.out.mono ?_; rintro e w2 ⟨rfl, hb2⟩)
        have hbx3 : w2.heap[w.heap.size]? = some (.cells #[.slice (some ⟨b, o, none⟩) n c, .bool q] 33 (0, 0)) := (hb2.block _ hgx).trans HBX2.out
        have HB2 := Lib.hid (hb.trans (hb2.mono hz))
        have HBX3 := Lib.hid hbx3
        have bx3 : w2.cell? ⟨w.heap.size, 0, none⟩ = some (.slice (some ⟨b, o, none⟩) n c) := cell_blk hbx3 rfl
        clear hb hb2 bx1 bx2 hbx3
        go_wp2_with fail
        go_loopw [47] (fun s wi => ∃ (j : Nat), j ≤ n ∧ s = .int .i64 (j : Int) ∧ Below w.heap.size w wi ∧ wi.heap[w.heap.size]? = some (.cells #[.slice (some ⟨b, o, none⟩) n c, .bool q] 33 (0, 0)) ∧ Hid (checkD l = lastE l ((List.range l.length).drop j))) (fun s _ => n - (intOf s).toNat)
        case atStart => exact ⟨0, Nat.zero_le _, rfl, HB2.out, HBX3.out, HLA⟩
        case round =>
          obtain ⟨j, hj, rfl, hbj, hbxj, HJ⟩ := hrel
          have hgj : w.heap.size < wr.heap.size := (Array.getElem?_eq_some_iff.1 hbxj).1
          have y1 : wr.cell? ⟨w.heap.size, 0, none⟩ = some (.slice (some ⟨b, o, none⟩) n c) := cell_blk hbxj rfl
          have y2 : wr.cell? ⟨w.heap.size, 1, none⟩ = some (.bool q) := cell_blk hbxj rfl
          have HBXJ := Lib.hid hbxj
          clear hbxj
          by_cases hjn : j < n
          · have HU := Lib.hid (up_any (some ⟨b, o, none⟩) n c l q j wr B (hl.below hbj hB) (by omega) hn hjn (fun x hx => by
              rcases HKR.out.parent_lt x hx with h | ⟨m, y, h, hy⟩
              · omega
              · have := (List.getElem?_eq_some_iff.1 hy).1
                have := HL.out
                omega))
            have HBJ := Lib.hid hbj
            have hjl : j < l.length := by have := HL.out; omega
            generalize hu : upN l (j : Int) = u at *
            go_upto_region 21 with (go_at_call 49; refine HU.out.mono ?_; rintro e w3 ⟨rfl, hb3⟩)
            have hbx4 : w3.heap[w.heap.size]? = some (.cells #[.slice (some ⟨b, o, none⟩) n c, .bool q] 33 (0, 0)) := (hb3.block _ hgj).trans HBXJ.out
            have HBX4 := Lib.hid hbx4
            have bx4 : w3.cell? ⟨w.heap.size, 0, none⟩ = some (.slice (some ⟨b, o, none⟩) n c) := cell_blk hbx4 rfl
            have HB3 := Lib.hid (HBJ.out.trans (hb3.mono HBJ.out.size))
            clear hb3 hbx4 y1 y2 hbj
            by_cases h1 : n < u
            · have HR := Lib.hid (HJ.out.trans (last_eight hjl (by rw [hu]; have := HL.out; omega)))
              clear hu hjl
              go_wp2_with fail
              go_ret
              exact ⟨retI HR.out.symm, HB3.out⟩
            · by_cases h2 : 40 < u
              · have HR := Lib.hid (HJ.out.trans (last_two hjl (by rw [hu]; have := HL.out; omega) (by rw [hu]; exact h2)))
                clear hu hjl
                go_wp2_with fail
                go_ret
                exact ⟨retI HR.out.symm, HB3.out⟩
              · have HJ2 := Lib.hid (HJ.out.trans (last_go hjl (by rw [hu]; have := HL.out; omega) (by rw [hu]; exact h2)))
                clear hu hjl
                go_wp2_with fail
                go_roundw
                case rel => exact ⟨j + 1, by omega, by go_num, HB3.out, HBX4.out, HJ2⟩
                case measure => simp [intOf]; omega
          · have HR := Lib.hid (show checkD l = 0 from by rw [HJ.out, List.drop_of_length_le (by rw [List.length_range]; have := HL.out; omega), lastE])
            go_wp2_with fail
            go_ret
            exact ⟨retI HR.out.symm, hbj⟩
      · have HR := Lib.hid (check_kids hn hn0 HL.out HF0.out rfl hke)
        have hke1 : (kidsE l != 0) = true := by simpa using hke
        generalize kidsE l = ee at *
        clear hke
        go_wp2_with (go_at_call 48; refine HK.out.mono ?_; rintro e w2 ⟨rfl, hb2⟩)
        go_ret
        exact ⟨retI HR.out.symm, hb.trans (hb2.mono hz)⟩
end Go.Proofs.YtegcedboeemedaaGreatDoor

/-
Documents that are right, as trees: up and down, beside, next and last. No program in sight.
-/
namespace Go.Proofs.YtegcedboeemedaaGreatDoor
open Go.RowKit Go.Cl

/-- A node's parent; a node's kids. -/
def parD (l : List Nd) (m : Int) : Int := if m < 0 then -1 else (l.map Nd.parent)[m.toNat]?.getD (-1)
def kidsD (l : List Nd) (m : Int) : List Int := (l.map Nd.kids)[m.toNat]?.getD []
theorem parD_at {l : List Nd} {m : Nat} {x : Nd} (h : l[m]? = some x) : parD l m = x.parent := by
  unfold parD
  rw [if_neg (by omega), Int.toNat_natCast, map_at h]
theorem kidsD_at {l : List Nd} {m : Nat} {x : Nd} (h : l[m]? = some x) : kidsD l m = x.kids := by
  unfold kidsD
  rw [Int.toNat_natCast, map_at h]

/-- A document that is right. -/
structure Tree (l : List Nd) : Prop where
  small : l.length ≤ 200
  pos : 0 < l.length
  kr : KidsRight l
  deep : ∀ m : Nat, m < l.length → upN l m ≤ 40 ∧ upN l m ≤ l.length
theorem last_all {l : List Nd} (r : List Nat) (h : lastE l r = 0) : ∀ i ∈ r, ¬ l.length < upN l i ∧ ¬ 40 < upN l i := by
  induction r with
  | nil => intro i hi; cases hi
  | cons j r ih =>
    rw [lastE] at h
    by_cases h1 : l.length < upN l j
    · rw [if_pos h1] at h; cases h
    · rw [if_neg h1] at h
      by_cases h2 : 40 < upN l j
      · rw [if_pos h2] at h; cases h
      · rw [if_neg h2] at h
        intro i hi
        rcases List.mem_cons.1 hi with rfl | hi
        · exact ⟨h1, h2⟩
        · exact ih h i hi
theorem tree_of {l : List Nd} (h : checkD l = 0) : Tree l := by
  unfold checkD at h
  by_cases h1 : 200 < l.length
  · rw [if_pos h1] at h; cases h
  rw [if_neg h1] at h
  by_cases h2 : l.length = 0
  · rw [if_pos h2] at h; cases h
  rw [if_neg h2] at h
  by_cases h3 : firstE 0 l = 0
  · rw [if_neg (by rw [h3]; decide)] at h
    by_cases h4 : kidsE l = 0
    · rw [if_neg (by rw [h4]; decide)] at h
      exact ⟨by omega, by omega, kids_right (by omega) h4, fun m hm => by
        have := last_all _ h m (by simpa using hm)
        omega⟩
    · rw [if_pos h4] at h; exact absurd h h4
  · rw [if_pos h3] at h; exact absurd h h3

section
variable {l : List Nd} (T : Tree l)
include T
theorem Tree.kid {p : Nat} (hp : p < l.length) {k : Int} (hk : k ∈ kidsD l p) : ∃ m : Nat, k = (m : Int) ∧ m < l.length ∧ parD l m = (p : Int) := by
  obtain ⟨x, hx⟩ := get_some (l := l) hp
  rw [kidsD_at hx] at hk
  obtain ⟨m, y, rfl, hy, hpar, _⟩ := (T.kr.kids p x hx).2 k hk
  exact ⟨m, rfl, (List.getElem?_eq_some_iff.1 hy).1, by rw [parD_at hy, hpar]⟩
theorem Tree.nodup {p : Nat} (hp : p < l.length) : (kidsD l p).Nodup := by
  obtain ⟨x, hx⟩ := get_some (l := l) hp
  rw [kidsD_at hx]
  exact (T.kr.kids p x hx).1
theorem Tree.par {m : Nat} (hm : m < l.length) : parD l m = -1 ∨ ∃ p : Nat, parD l m = (p : Int) ∧ p < l.length ∧ (m : Int) ∈ kidsD l p := by
  obtain ⟨x, hx⟩ := get_some (l := l) hm
  by_cases h : x.parent = -1
  · exact Or.inl (by rw [parD_at hx, h])
  · obtain ⟨j, y, hy, hk⟩ := T.kr.known m x hx h
    obtain ⟨m', z, e, hz, hp, _⟩ := (T.kr.kids j y hy).2 _ hk
    have : m = m' := by omega
    subst this
    rw [hx] at hz
    obtain rfl := Option.some.inj hz
    exact Or.inr ⟨j, by rw [parD_at hx, hp], (List.getElem?_eq_some_iff.1 hy).1, by rw [kidsD_at hy]; exact hk⟩
theorem Tree.root : parD l 0 = -1 := by
  obtain ⟨x, hx⟩ := get_some (l := l) T.pos
  have := parD_at hx
  rw [T.kr.top x hx] at this
  exact this
end

/-! ### how deep -/
theorem upF_sat (l : List Nd) (f : Nat) : ∀ z : Int, upF l (f + 1) z ≤ f → upF l f z = upF l (f + 1) z := by
  induction f with
  | zero =>
    intro z h
    show 0 = _
    omega
  | succ f ih =>
    intro z h
    rw [upF] at h
    conv => lhs; rw [upF]
    conv => rhs; rw [upF]
    try simp only at h ⊢
    by_cases hp : 0 ≤ (l.map Nd.parent)[z.toNat]?.getD (-1)
    · rw [if_pos hp] at h
      rw [if_pos hp, if_pos hp, ih _ (by omega)]
    · rw [if_neg hp, if_neg hp]
theorem Tree.up_par {l : List Nd} (T : Tree l) {m p : Nat} (hm : m < l.length) (h : parD l m = (p : Int)) : p < l.length ∧ upN l m = upN l p + 1 := by
  rcases T.par hm with e | ⟨q, e, hq, _⟩
  · omega
  · have : p = q := by omega
    subst this
    obtain ⟨x, hx⟩ := get_some (l := l) hm
    refine ⟨hq, ?_⟩
    have hd := (T.deep p hq).2
    unfold upN at hd ⊢
    rw [upF_go hx (by rw [← parD_at hx]; exact h)]
    rw [upF_sat l l.length p hd]
/-- How many steps are left up to the top; none where no node is. -/
def depZ (l : List Nd) (z : Int) : Nat := if z < 0 then 0 else upN l z + 1
theorem Tree.dep_par {l : List Nd} (T : Tree l) {m : Nat} (hm : m < l.length) : depZ l (parD l m) + 1 = depZ l m := by
  have h0 : depZ l m = upN l m + 1 := by unfold depZ; rw [if_neg (by omega)]
  rcases T.par hm with e | ⟨p, e, hp, _⟩
  · obtain ⟨x, hx⟩ := get_some (l := l) hm
    have hz : upN l m = 0 := by
      unfold upN
      exact upF_stop hx (by rw [← parD_at hx, e]; decide)
    rw [h0, e, hz]
    rfl
  · rw [h0, e, (T.up_par hm e).2]
    unfold depZ
    rw [if_neg (by omega)]

/-! ### kid, beside, over, next, last -/
def kidR (l : List Nd) (m : Int) (last : Bool) : Int := if kidsD l m = [] then -1 else if last then (kidsD l m).getLastD 0 else (kidsD l m).headD 0
def besideR (l : List Nd) (m b : Int) : Int :=
  if parD l m < 0 then -1
  else
    let i := Lib.idxOf (kidsD l (parD l m)) m + b
    if i < 0 ∨ ((kidsD l (parD l m)).length : Int) ≤ i then -1 else (kidsD l (parD l m))[i.toNat]?.getD 0
def overF (l : List Nd) : Nat → Int → Int
  | 0, _ => -1
  | f + 1, z => if 0 ≤ besideR l z 1 then besideR l z 1 else overF l f (parD l z)
def overR (l : List Nd) (z : Int) : Int := overF l (depZ l z) z
def nextR (l : List Nd) (m : Int) : Int := if 0 ≤ kidR l m false then kidR l m false else overR l m
theorem Tree.over_step {l : List Nd} (T : Tree l) {m : Nat} (hm : m < l.length) : overR l m = if 0 ≤ besideR l m 1 then besideR l m 1 else overR l (parD l m) := by
  unfold overR
  rw [← T.dep_par hm, overF]
theorem idx_of_mem {ks : List Int} {x : Int} (h : x ∈ ks) : ∃ i : Nat, Lib.idxOf ks x = (i : Int) ∧ ks[i]? = some x ∧ ∀ j, j < i → ks[j]? ≠ some x := by
  have hi : ∃ i, ks.findIdx? (· == x) = some i := by
    cases hf : ks.findIdx? (· == x) with
    | none =>
      have := List.findIdx?_eq_none_iff.1 hf x h
      simp at this
    | some i => exact ⟨i, rfl⟩
  obtain ⟨i, hi⟩ := hi
  obtain ⟨hl, he, hne⟩ := List.findIdx?_eq_some_iff_getElem.1 hi
  have hx : ks[i]? = some x := by
    rw [List.getElem?_eq_getElem hl]
    simpa using he
  have hn : ∀ j, j < i → ks[j]? ≠ some x := fun j hj e => by
    have := hne j hj
    have hjl := (List.getElem?_eq_some_iff.1 e)
    simp [hjl.2] at this
  refine ⟨i, ?_, hx, hn⟩
  have := Lib.idxOf_hit ks ks.length i x hl (Nat.le_refl _) (by simp [List.getD, hx]) (fun j hj e => hn j hj (by
    have hjl : j < ks.length := by omega
    rw [List.getElem?_eq_getElem hjl]
    simp [List.getD, List.getElem?_eq_getElem hjl] at e
    rw [e]))
  rwa [List.take_length] at this
theorem idx_uniq {ks : List Int} (hn : ks.Nodup) {x : Int} {i : Nat} (h : ks[i]? = some x) : Lib.idxOf ks x = (i : Int) := by
  obtain ⟨j, hj, hx, _⟩ := idx_of_mem (List.mem_of_getElem? h)
  rw [hj]
  have hi := (List.getElem?_eq_some_iff.1 h)
  have hjl := (List.getElem?_eq_some_iff.1 hx)
  have : i = j := by
    rcases Nat.lt_trichotomy i j with h1 | h1 | h1
    · exact absurd (hi.2.trans hjl.2.symm) (List.pairwise_iff_getElem.1 hn i j hi.1 hjl.1 h1)
    · exact h1
    · exact absurd (hjl.2.trans hi.2.symm) (List.pairwise_iff_getElem.1 hn j i hjl.1 hi.1 h1)
  rw [this]

section
variable {l : List Nd} (T : Tree l)
include T
theorem Tree.beside_at {m p i : Nat} (hp : p < l.length) (e : parD l m = (p : Int)) (hx : (kidsD l p)[i]? = some (m : Int)) (b : Int) :
    besideR l m b = if (i : Int) + b < 0 ∨ ((kidsD l p).length : Int) ≤ (i : Int) + b then -1 else (kidsD l p)[((i : Int) + b).toNat]?.getD 0 := by
  unfold besideR
  rw [if_neg (by omega), e]
  simp only [idx_uniq (T.nodup hp) hx]
end

/-! ### next and last undo each other -/
section
variable {l : List Nd} (T : Tree l)
include T
end
end Go.Proofs.YtegcedboeemedaaGreatDoor

/-
What texts over documents share: a node and all above it; the way down; rows of ints. The contracts of slices.Index and few.
-/
namespace Go.Proofs.YtegcedboeemedaaGreatDoor
open Go.RowKit Go.Cl
attribute [local go_sem ↓] Go.wp_at_zero Go.wp_at_succ

theorem DocAt.more {w : World} {B B' b o n : Nat} {l : List Nd} (h : DocAt w B b o n l) (hB : B ≤ B') : DocAt w B' b o n l :=
  ⟨h.hn, fun i x hx => by
    obtain ⟨Aa, na, ca, Ak, nk, ck, hn, r⟩ := h.at_ i x hx
    exact ⟨Aa, na, ca, Ak, nk, ck, ⟨hn.attrs.up hB, hn.kids.up hB, hn.kind, hn.name, hn.text, hn.parent⟩, r⟩, Nat.lt_of_lt_of_le h.lt hB⟩
theorem index_int (A : Option Addr) (n c : Nat) (l : List Int) (x : Int) (w : World) (D : Nat → Prop) (hl : Sl (tInt .i64) w D A n c l) :
    Calls Tryz.prog 275 #[.slice A n c, .int .i64 x] w fun e w' => e = .returned (.int .i64 (Lib.idxOf l x)) ∧ w' = w := by
  rcases Nat.eq_zero_or_pos n with h0 | h0
  · subst h0
    obtain rfl : l = [] := List.eq_nil_of_length_eq_zero hl.hn.symm
    exact Tryz.slices_Index_int_empty A c x w
  · obtain ⟨b, o, cells, rfl, hb, hr, hc⟩ := hl.at_ h0
    have hn := hl.hn
    refine (Tryz.slices_Index_int b o n c l x w (by omega) (by have := hl.small; omega) (fun j hj => ?_)).mono fun e w' h => ⟨by rw [h.1, hn, List.take_length], h.2⟩
    obtain ⟨b', o', e, _, hcell, _⟩ := hl.int (List.getElem?_eq_getElem hj)
    simp only [Option.some.injEq, Addr.mk.injEq] at e
    obtain ⟨rfl, rfl, _⟩ := e
    rw [hcell, List.getD_eq_getElem?_getD, List.getElem?_eq_getElem hj]; rfl

/-- A node, and all above it. -/
def chainF (l : List Nd) : Nat → Int → List Int
  | 0, _ => []
  | f + 1, z => z :: chainF l f (parD l z)
def chainR (l : List Nd) (z : Int) : List Int := chainF l (depZ l z) z
theorem Tree.chain_step {l : List Nd} (T : Tree l) {m : Nat} (hm : m < l.length) : chainR l m = (m : Int) :: chainR l (parD l m) := by
  unfold chainR
  rw [← T.dep_par hm, chainF]
/-- The node on top of all above a node. -/
def topR (l : List Nd) (m : Int) : Int := (chainR l m).reverse.headD 0
section
variable {l : List Nd} (T : Tree l)
include T
theorem Tree.top_par {m p : Nat} (hm : m < l.length) (hp : p < l.length) (e : parD l m = (p : Int)) : topR l m = topR l p := by
  unfold topR
  rw [T.chain_step hm, e, T.chain_step hp]
  simp
end
end Go.Proofs.YtegcedboeemedaaGreatDoor

/-
The nodes in their order: a chain of nexts. No program in sight.
-/
namespace Go.Proofs.YtegcedboeemedaaGreatDoor
open Go.RowKit Go.Cl

/-- A node and all below it, in their order. -/
def preF (l : List Nd) : Nat → Int → List Int
  | 0, _ => []
  | f + 1, z => z :: (kidsD l z).flatMap (preF l f)
def preR (l : List Nd) (z : Int) : List Int := preF l (41 - upN l z) z
theorem fm_congr {f g : Int → List Int} : ∀ {xs : List Int}, (∀ x ∈ xs, f x = g x) → xs.flatMap f = xs.flatMap g := by
  intro xs
  induction xs with
  | nil => intro _; rfl
  | cons x r ih =>
    intro h
    rw [List.flatMap_cons, List.flatMap_cons, h x (by simp), ih fun y hy => h y (by simp [hy])]
/-- A chain of nexts, that goes on to e. -/
def Ch (l : List Nd) (xs : List Int) (e : Int) : Prop := ∀ (i : Nat) (x : Int), xs[i]? = some x → nextR l x = (xs[i + 1]?).getD e
theorem Ch.nil (l : List Nd) (e : Int) : Ch l [] e := fun i x h => by simp at h
theorem Ch.app {l : List Nd} {xs ys : List Int} {e e' : Int} (h1 : Ch l xs e) (h2 : Ch l ys e') (he : (ys[0]?).getD e' = e) : Ch l (xs ++ ys) e' := by
  intro i x hx
  by_cases hi : i < xs.length
  · rw [List.getElem?_append_left hi] at hx
    rw [h1 i x hx]
    by_cases hi2 : i + 1 < xs.length
    · rw [List.getElem?_append_left hi2, List.getElem?_eq_getElem hi2]
      rfl
    · rw [List.getElem?_append_right (by omega), List.getElem?_eq_none (l := xs) (by omega), show i + 1 - xs.length = 0 from by omega]
      exact he.symm
  · rw [List.getElem?_append_right (by omega)] at hx
    rw [List.getElem?_append_right (by omega), show i + 1 - xs.length = (i - xs.length) + 1 from by omega]
    exact h2 _ x hx

section
variable {l : List Nd} (T : Tree l)
include T
theorem Tree.pre_step {m : Nat} (hm : m < l.length) : preR l m = (m : Int) :: (kidsD l m).flatMap (preR l) := by
  have hd := (T.deep m hm).1
  have h1 : preR l m = (m : Int) :: (kidsD l m).flatMap (preF l (40 - upN l m)) := by
    unfold preR
    rw [show 41 - upN l m = (40 - upN l m) + 1 from by omega, preF]
  rw [h1]
  congr 1
  apply fm_congr
  intro k hk
  obtain ⟨n, rfl, hn, hp⟩ := T.kid hm hk
  have := (T.up_par hn hp).2
  unfold preR
  rw [show 41 - upN l n = 40 - upN l m from by omega]
theorem Tree.pre_head {m : Nat} (hm : m < l.length) : (preR l m)[0]? = some (m : Int) := by
  rw [T.pre_step hm]
  rfl
theorem Tree.over_kid {m j : Nat} {k : Nat} (hm : m < l.length) (hk : k < l.length) (hp : parD l k = (m : Int)) (hj : (kidsD l m)[j]? = some (k : Int)) : overR l k = ((kidsD l m)[j + 1]?).getD (overR l m) := by
  have hb := T.beside_at hm hp hj 1
  rw [show ((j : Int) + 1).toNat = j + 1 from by omega] at hb
  rw [T.over_step hk, hp]
  by_cases hl : j + 1 < (kidsD l m).length
  · rw [if_neg (by omega)] at hb
    obtain ⟨z, hz⟩ := get_some hl
    obtain ⟨q, rfl, _⟩ := T.kid hm (List.mem_of_getElem? hz)
    rw [hz, Option.getD_some] at hb
    rw [hb, hz, Option.getD_some, if_pos (by omega)]
  · rw [if_pos (by omega)] at hb
    rw [hb, if_neg (by decide), List.getElem?_eq_none (by omega)]
    rfl
/-- The kids from one on. -/
theorem Tree.kids_chain {m : Nat} (hm : m < l.length) (ih : ∀ k ∈ kidsD l m, Ch l (preR l k) (overR l k)) (g : Nat) : ∀ j, j + g = (kidsD l m).length →
    Ch l (((kidsD l m).drop j).flatMap (preR l)) (overR l m) ∧ ((((kidsD l m).drop j).flatMap (preR l))[0]?).getD (overR l m) = ((kidsD l m)[j]?).getD (overR l m) := by
  induction g with
  | zero =>
    intro j hj
    rw [List.drop_of_length_le (by omega), List.getElem?_eq_none (l := kidsD l m) (by omega)]
    exact ⟨Ch.nil _ _, rfl⟩
  | succ g ihg =>
    intro j hj
    obtain ⟨h1, h2⟩ := ihg (j + 1) (by omega)
    have hjl : j < (kidsD l m).length := by omega
    obtain ⟨z, hz⟩ := get_some hjl
    obtain ⟨k, rfl, hk, hp⟩ := T.kid hm (List.mem_of_getElem? hz)
    have hd : (kidsD l m).drop j = (k : Int) :: (kidsD l m).drop (j + 1) := by
      rw [List.drop_eq_getElem_cons hjl, (List.getElem?_eq_some_iff.1 hz).2]
    rw [hd, List.flatMap_cons]
    refine ⟨(ih _ (List.mem_of_getElem? hz)).app h1 (by rw [h2, T.over_kid hm hk hp hz]), ?_⟩
    have hh := T.pre_head hk
    have h0 : 0 < (preR l (k : Int)).length := (List.getElem?_eq_some_iff.1 hh).1
    rw [List.getElem?_append_left h0, hh, hz]
theorem Tree.pre_chain (f : Nat) : ∀ m : Nat, m < l.length → upN l m + f = 41 → Ch l (preR l m) (overR l m) ∧ ∀ x ∈ preR l m, ∃ n : Nat, x = (n : Int) ∧ n < l.length ∧ topR l n = topR l m := by
  induction f with
  | zero =>
    intro m hm hf
    have := (T.deep m hm).1
    omega
  | succ f ih =>
    intro m hm hf
    have hk : ∀ k ∈ kidsD l m, ∃ n : Nat, k = (n : Int) ∧ n < l.length ∧ parD l n = (m : Int) ∧ upN l n + f = 41 := fun k hk => by
      obtain ⟨n, e, hn, hp⟩ := T.kid hm hk
      exact ⟨n, e, hn, hp, by have := (T.up_par hn hp).2; omega⟩
    rw [T.pre_step hm]
    refine ⟨?_, ?_⟩
    · obtain ⟨h1, h2⟩ := T.kids_chain hm (fun k h => by obtain ⟨n, rfl, hn, _, hu⟩ := hk k h; exact (ih n hn hu).1) (kidsD l m).length 0 (by omega)
      rw [List.drop_zero] at h1 h2
      have hs : Ch l [(m : Int)] (((kidsD l m)[0]?).getD (overR l m)) := by
        intro i x hx
        cases i with
        | succ i => simp at hx
        | zero =>
          simp at hx
          subst hx
          show nextR l m = _
          unfold nextR
          cases hks : kidsD l m with
          | nil =>
            have hq : kidR l m false = -1 := by unfold kidR; rw [if_pos hks]
            rw [hq, if_neg (by decide)]
            rfl
          | cons z r =>
            obtain ⟨q, rfl, _⟩ := T.kid hm (k := z) (by rw [hks]; simp)
            have hq : kidR l m false = (q : Int) := by
              unfold kidR
              rw [hks, if_neg (by simp), if_neg (by decide)]
              rfl
            rw [hq, if_pos (by omega)]
            rfl
      exact hs.app h1 h2
    · intro x hx
      rcases List.mem_cons.1 hx with rfl | hx
      · exact ⟨m, rfl, hm, rfl⟩
      · obtain ⟨k, hkm, hx⟩ := List.mem_flatMap.1 hx
        obtain ⟨n, rfl, hn, hp, hu⟩ := hk k hkm
        obtain ⟨q, e, hq, ht⟩ := (ih n hn hu).2 x hx
        exact ⟨q, e, hq, ht.trans (T.top_par hn hm hp)⟩
end
theorem few_nats (N : Nat) : ∀ xs : List Int, (∀ (i j : Nat) (x : Int), i < j → xs[i]? = some x → xs[j]? = some x → False) → (∀ x ∈ xs, ∃ n : Nat, x = (n : Int) ∧ n < N) → xs.length ≤ N := by
  intro xs h hin
  have hn : xs.Nodup := List.pairwise_iff_getElem.2 fun i j hi hj hij e => h i j xs[i] hij (List.getElem?_eq_getElem hi) (by rw [List.getElem?_eq_getElem hj, e])
  clear h
  induction N generalizing xs with
  | zero =>
    cases xs with
    | nil => simp
    | cons x r =>
      obtain ⟨n, _, hx⟩ := hin x (by simp)
      omega
  | succ N ih =>
    have h1 := ih (xs.erase (N : Int)) (fun x hx => by
      obtain ⟨hne, hx⟩ := (List.Nodup.mem_erase_iff hn).1 hx
      obtain ⟨n, rfl, hl⟩ := hin x hx
      exact ⟨n, rfl, by omega⟩) (hn.erase _)
    rw [List.length_erase] at h1
    by_cases hm : (N : Int) ∈ xs
    · rw [if_pos hm] at h1
      omega
    · rw [if_neg hm] at h1
      omega
end Go.Proofs.YtegcedboeemedaaGreatDoor

/-
The order of the nodes: who stands in it, and that a parent stands ahead of its kids. No program in sight.
-/
namespace Go.Proofs.YtegcedboeemedaaGreatDoor
open Go.RowKit Go.Cl

section
variable {l : List Nd} (T : Tree l)
include T
end
end Go.Proofs.YtegcedboeemedaaGreatDoor

/-
A document is right just where its nodes, its kids and its depth are; what an edit does to its nodes. No program in sight.
-/
namespace Go.Proofs.YtegcedboeemedaaGreatDoor
open Go.RowKit Go.Cl

/-! ### how deep, as a relation -/
inductive Up (l : List Nd) : Int → Nat → Prop
  | top {z : Int} : parD l z < 0 → Up l z 0
  | step {z : Int} {d : Nat} : 0 ≤ parD l z → Up l (parD l z) d → Up l z (d + 1)
theorem parD_pos {l : List Nd} {z : Int} (h : 0 ≤ z) : (l.map Nd.parent)[z.toNat]?.getD (-1) = parD l z := by
  unfold parD
  rw [if_neg (by omega)]
theorem upF_up {l : List Nd} : ∀ (f : Nat) (z : Int), 0 ≤ z → upF l f z < f → Up l z (upF l f z) := by
  intro f
  induction f with
  | zero => intro z hz h; omega
  | succ f ih =>
    intro z hz h
    rw [Go.Proofs.YtegcedboeemedaaGreatDoor.upF, parD_pos hz] at h ⊢
    by_cases hp : 0 ≤ parD l z
    · rw [show (let p := parD l z; if 0 ≤ p then upF l f p + 1 else 0) = upF l f (parD l z) + 1 from if_pos hp] at h ⊢
      exact Up.step hp (ih _ hp (by omega))
    · rw [show (let p := parD l z; if 0 ≤ p then upF l f p + 1 else 0) = 0 from if_neg hp] at h ⊢
      exact Up.top (by omega)
/-! ### a document that is right -/
structure Good (l : List Nd) : Prop where
  small : l.length ≤ 200
  pos : 0 < l.length
  root : ∀ (i : Nat) x, l[i]? = some x → (x.kind = 1 ↔ i = 0)
  each : ∀ x ∈ l, nodeE x = 0
  kr : KidsRight l
  deep : ∀ m : Nat, m < l.length → ∃ d, d ≤ 40 ∧ Up l m d
theorem first_iff (l : List Nd) : ∀ k : Nat, firstE k l = 0 ↔ ∀ (i : Nat) x, l[i]? = some x → (x.kind = 1 ↔ k + i = 0) ∧ nodeE x = 0 := by
  induction l with
  | nil => intro k; exact ⟨fun _ i x h => by simp at h, fun _ => rfl⟩
  | cons y r ih =>
    intro k
    rw [firstE]
    by_cases h1 : ((y.kind == 1) != (k == 0)) = true
    · rw [if_pos h1]
      refine ⟨fun h => by simp at h, fun h => ?_⟩
      have := (h 0 y rfl).1
      exfalso
      rw [Nat.add_zero] at this
      have e : (y.kind == 1) = (k == 0) := by
        rw [Bool.eq_iff_iff]
        simpa using this
      rw [e] at h1
      simp at h1
    · rw [if_neg h1]
      have e : (y.kind = 1 ↔ k = 0) := by
        have e : (y.kind == 1) = (k == 0) := by simpa using h1
        rw [Bool.eq_iff_iff] at e
        simpa using e
      by_cases h2 : nodeE y = 0
      · rw [if_neg (by rw [h2]; decide), ih (k + 1)]
        constructor
        · intro h i x hx
          cases i with
          | zero =>
            obtain rfl : y = x := by simpa using hx
            exact ⟨by simpa using e, h2⟩
          | succ i =>
            have := h i x (by simpa using hx)
            rw [show k + 1 + i = k + (i + 1) from by omega] at this
            exact this
        · intro h i x hx
          have := h (i + 1) x (by simpa using hx)
          rw [show k + (i + 1) = k + 1 + i from by omega] at this
          exact this
      · rw [if_pos h2]
        exact ⟨fun h => absurd h h2, fun h => absurd (h 0 y rfl).2 h2⟩
theorem good_of {l : List Nd} (h : checkD l = 0) : Good l := by
  have T := tree_of h
  have h1 : firstE 0 l = 0 := by
    unfold checkD at h
    rw [if_neg (by have := T.small; omega), if_neg (by have := T.pos; omega)] at h
    by_cases h3 : firstE 0 l = 0
    · exact h3
    · rw [if_pos h3] at h; exact absurd h h3
  have h2 := (first_iff l 0).1 h1
  refine ⟨T.small, T.pos, fun i x hx => by simpa using (h2 i x hx).1, fun x hx => ?_, T.kr, fun m hm => ?_⟩
  · obtain ⟨i, hi⟩ := List.mem_iff_getElem?.1 hx
    exact (h2 i x hi).2
  · have hd := T.deep m hm
    exact ⟨upN l m, hd.1, upF_up _ _ (by omega) (by have h2 := hd.2; unfold upN at h2; omega)⟩
end Go.Proofs.YtegcedboeemedaaGreatDoor

/-
What an edit does to a document's nodes, in plain words; attributes that are right. No program in sight.
-/
namespace Go.Proofs.YtegcedboeemedaaGreatDoor
open Go.RowKit Go.Cl

/-! ### attributes -/
theorem findA_cases (ats : List DAttr) (nm : ByteArray) : (findA ats nm = -1 ∧ ∀ a ∈ ats, a.1.toList ≠ nm.toList) ∨ ∃ (i : Nat) (a : DAttr), findA ats nm = (i : Int) ∧ ats[i]? = some a ∧ a.1.toList = nm.toList := by
  unfold findA
  cases hf : ats.findIdx? (fun a => a.1.toList == nm.toList) with
  | none =>
    left
    refine ⟨rfl, fun a ha => ?_⟩
    have := List.findIdx?_eq_none_iff.1 hf a ha
    simpa using this
  | some i =>
    right
    obtain ⟨hl, he, _⟩ := List.findIdx?_eq_some_iff_getElem.1 hf
    exact ⟨i, ats[i], rfl, List.getElem?_eq_getElem hl, by simpa using he⟩
theorem findA_nat {ats : List DAttr} {nm : ByteArray} (h : 0 ≤ findA ats nm) : ∃ (i : Nat) (a : DAttr), findA ats nm = (i : Int) ∧ ats[i]? = some a ∧ a.1.toList = nm.toList := by
  rcases findA_cases ats nm with ⟨e, _⟩ | h
  · omega
  · exact h
/-- Attributes that may be. -/
structure AttrsOk (ats : List DAttr) : Prop where
  few : ats.length ≤ 12
  each : ∀ a ∈ ats, namedR a.1 attrB = true ∧ a.2.size ≤ 400
  once : (ats.map fun a => a.1.toList).Nodup
theorem attrsF_iff : ∀ (r pre : List DAttr), attrsF pre r = 0 ↔ (∀ a ∈ r, namedR a.1 attrB = true ∧ a.2.size ≤ 400) ∧ (r.map fun a => a.1.toList).Nodup ∧ ∀ a ∈ r, ∀ b ∈ pre, b.1.toList ≠ a.1.toList := by
  intro r
  induction r with
  | nil => intro pre; simp [attrsF]
  | cons a r ih =>
    intro pre
    rw [attrsF]
    by_cases h1 : namedR a.1 attrB = false
    · rw [if_pos h1]
      refine ⟨fun h => absurd h (by decide), fun h => ?_⟩
      have := (h.1 a (by simp)).1
      rw [h1] at this; cases this
    rw [if_neg h1]
    by_cases h2 : 400 < a.2.size
    · rw [if_pos h2]
      refine ⟨fun h => absurd h (by decide), fun h => ?_⟩
      have := (h.1 a (by simp)).2
      omega
    rw [if_neg h2]
    by_cases h3 : 0 ≤ findA pre a.1
    · rw [if_pos h3]
      refine ⟨fun h => absurd h (by decide), fun h => ?_⟩
      obtain ⟨i, b, _, hb, e⟩ := findA_nat h3
      exact absurd e (h.2.2 a (by simp) b (List.mem_of_getElem? hb))
    rw [if_neg h3, ih]
    have hpre : ∀ b ∈ pre, b.1.toList ≠ a.1.toList := by
      rcases findA_cases pre a.1 with ⟨_, h⟩ | ⟨i, _, e, _⟩
      · exact h
      · omega
    have hnm : namedR a.1 attrB = true := by simpa using h1
    constructor
    · rintro ⟨h4, h5, h6⟩
      refine ⟨fun x hx => ?_, ?_, fun x hx b hb => ?_⟩
      · rcases List.mem_cons.1 hx with rfl | hx
        · exact ⟨hnm, by omega⟩
        · exact h4 x hx
      · rw [List.map_cons, List.nodup_cons]
        refine ⟨fun hm => ?_, h5⟩
        obtain ⟨x, hx, e⟩ := List.mem_map.1 hm
        exact h6 x hx a (by simp) e.symm
      · rcases List.mem_cons.1 hx with rfl | hx
        · exact hpre b hb
        · exact h6 x hx b (by simp [hb])
    · rintro ⟨h4, h5, h6⟩
      rw [List.map_cons, List.nodup_cons] at h5
      refine ⟨fun x hx => h4 x (by simp [hx]), h5.2, fun x hx b hb => ?_⟩
      rcases List.mem_append.1 hb with hb | hb
      · exact h6 x (by simp [hx]) b hb
      · obtain rfl : b = a := by simpa using hb
        intro e
        exact h5.1 (List.mem_map.2 ⟨x, hx, e.symm⟩)
theorem attrsE_iff (ats : List DAttr) : attrsE ats = 0 ↔ AttrsOk ats := by
  unfold attrsE
  by_cases h : 12 < ats.length
  · rw [if_pos h]
    exact ⟨fun h => absurd h (by decide), fun k => by have := k.few; omega⟩
  · rw [if_neg h, attrsF_iff]
    exact ⟨fun ⟨h1, h2, _⟩ => ⟨by omega, h1, h2⟩, fun k => ⟨k.each, k.once, by simp⟩⟩
/-! ### edits -/
end Go.Proofs.YtegcedboeemedaaGreatDoor

/-
A document that is right stays so, whatever edit is done. No program in sight.
-/
namespace Go.Proofs.YtegcedboeemedaaGreatDoor
open Go.RowKit Go.Cl

/-! ### one node -/
theorem nodeE_iff (x : Nd) : nodeE x = 0 ↔ (1 ≤ x.kind ∧ x.kind ≤ 5 ∧ bareB x = true) ∧ (x.kind = 2 → namedR x.name lettersB = true) ∧ AttrsOk x.attrs ∧ x.text.size ≤ 400 ∧ x.name.size ≤ 400 := by
  rw [← attrsE_iff]
  unfold nodeE
  by_cases h1 : x.kind < 1 ∨ 5 < x.kind ∨ bareB x = false
  · rw [if_pos h1]
    refine ⟨fun h => absurd h (by decide), fun h => ?_⟩
    rcases h1 with h1 | h1 | h1
    · omega
    · omega
    · rw [h1] at h; exact absurd h.1.2.2 (by decide)
  rw [if_neg h1]
  have hb : 1 ≤ x.kind ∧ x.kind ≤ 5 ∧ bareB x = true := ⟨by omega, by omega, by
    cases hb : bareB x with
    | true => rfl
    | false => exact absurd (Or.inr (Or.inr hb)) h1⟩
  by_cases h2 : x.kind = 2 ∧ namedR x.name lettersB = false
  · rw [if_pos h2]
    refine ⟨fun h => absurd h (by decide), fun h => ?_⟩
    rw [h.2.1 h2.1] at h2
    exact absurd h2.2 (by decide)
  rw [if_neg h2]
  have hn : x.kind = 2 → namedR x.name lettersB = true := fun e => by
    cases hb : namedR x.name lettersB with
    | true => rfl
    | false => exact absurd ⟨e, hb⟩ h2
  by_cases h3 : attrsE x.attrs = 0
  · rw [if_neg (by rw [h3]; decide)]
    by_cases h4 : 400 < x.text.size ∨ 400 < x.name.size
    · rw [if_pos h4]
      exact ⟨fun h => absurd h (by decide), fun h => by omega⟩
    · rw [if_neg h4]
      exact ⟨fun _ => ⟨hb, hn, h3, by omega, by omega⟩, fun _ => rfl⟩
  · rw [if_pos h3]
    exact ⟨fun h => absurd h h3, fun h => absurd h.2.2.1 h3⟩
/-! ### up -/
/-! ### nodes that are turned, kids and parents left alone -/
/-! ### below -/
/-! ### two nodes turned -/
/-! ### whatever is edited -/
end Go.Proofs.YtegcedboeemedaaGreatDoor
