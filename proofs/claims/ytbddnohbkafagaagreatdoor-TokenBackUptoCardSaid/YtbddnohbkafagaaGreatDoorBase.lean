/-
How data lie in memory: what a value reads as in a world, and what keeps it so. No program in sight.
-/
import Derived.WalkKit
import Derived.Below
import Derived.Lib.Hide
import Derived.ProofKit
import Derived.SizedLaws
import Derived.Deep.Slices
import Derived.ChangeSame
import Derived.Maps.AppendAt
import Derived.Laws.OwnMore
import Derived.OwnWalk
import Derived.RegionTactic
import Derived.Laws.IdiomCopy
import Derived.Lib.SliceRun
import Derived.Deep.RegionLaw
namespace Go.Cl
open Go.RowKit

/-- How data of a type lie in cells: 'rep w D x cs': the cells cs read as x in the world w; what they lead to lies in blocks of D. -/
structure Ty (α : Type) where
  size : Nat
  bytes : Nat
  pos : 1 ≤ bytes
  rep : World → (Nat → Prop) → α → List Value → Prop
  len : ∀ {w : World} {D : Nat → Prop} {x : α} {cs : List Value}, rep w D x cs → cs.length = size
  keep : ∀ {w w' : World} {D : Nat → Prop} {x : α} {cs : List Value}, rep w D x cs → (∀ p : Addr, D p.block → w'.cell? p = w.cell? p) → rep w' D x cs
  more : ∀ {w : World} {D D' : Nat → Prop} {x : α} {cs : List Value}, rep w D x cs → (∀ b, D b → D' b) → rep w D' x cs
  one : ∀ {w : World} {D : Nat → Prop} {x : α} {cs : List Value}, rep w D x cs → ∀ u ∈ cs, u.oneCell' = true

/-- A row of cells that reads as a list. -/
def Row {α : Type} (T : Ty α) (w : World) (D : Nat → Prop) : List α → List Value → Prop
  | [], cs => cs = []
  | x :: xs, cs => ∃ c1 c2, cs = c1 ++ c2 ∧ T.rep w D x c1 ∧ Row T w D xs c2

section
variable {α : Type} {T : Ty α} {w w' : World} {D D' : Nat → Prop}
theorem Row.len {xs : List α} {cs : List Value} (h : Row T w D xs cs) : cs.length = xs.length * T.size := by
  induction xs generalizing cs with
  | nil => have : cs = [] := h
           subst this; simp
  | cons x xs ih =>
    obtain ⟨c1, c2, rfl, h1, h2⟩ := h
    rw [List.length_append, T.len h1, ih h2, List.length_cons, Nat.succ_mul, Nat.add_comm]
theorem Row.keep {xs : List α} {cs : List Value} (h : Row T w D xs cs) (hk : ∀ p : Addr, D p.block → w'.cell? p = w.cell? p) : Row T w' D xs cs := by
  induction xs generalizing cs with
  | nil => exact h
  | cons x xs ih =>
    obtain ⟨c1, c2, rfl, h1, h2⟩ := h
    exact ⟨c1, c2, rfl, T.keep h1 hk, ih h2⟩
theorem Row.more {xs : List α} {cs : List Value} (h : Row T w D xs cs) (hk : ∀ b, D b → D' b) : Row T w D' xs cs := by
  induction xs generalizing cs with
  | nil => exact h
  | cons x xs ih =>
    obtain ⟨c1, c2, rfl, h1, h2⟩ := h
    exact ⟨c1, c2, rfl, T.more h1 hk, ih h2⟩
theorem Row.nil : Row T w D ([] : List α) [] := rfl
theorem Row.append {xs ys : List α} {cs ds : List Value} (h : Row T w D xs cs) (k : Row T w D ys ds) : Row T w D (xs ++ ys) (cs ++ ds) := by
  induction xs generalizing cs with
  | nil => have : cs = [] := h
           subst this; simpa using k
  | cons x xs ih =>
    obtain ⟨c1, c2, rfl, h1, h2⟩ := h
    exact ⟨c1, c2 ++ ds, by simp, h1, ih h2⟩
theorem Row.one {x : α} {cs : List Value} (h : T.rep w D x cs) : Row T w D [x] cs := ⟨cs, [], by simp, h, rfl⟩
theorem Row.one_ {xs : List α} {cs : List Value} (h : Row T w D xs cs) : ∀ u ∈ cs, u.oneCell' = true := by
  induction xs generalizing cs with
  | nil => have : cs = [] := h
           subst this; simp
  | cons x xs ih =>
    obtain ⟨c1, c2, rfl, h1, h2⟩ := h
    intro u hu
    rcases List.mem_append.1 hu with hu | hu
    · exact T.one h1 u hu
    · exact ih h2 u hu
theorem Row.at_ {xs : List α} {cs : List Value} (h : Row T w D xs cs) {i : Nat} {x : α} (hx : xs[i]? = some x) :
    ∃ c, T.rep w D x c ∧ (∀ j u, c[j]? = some u → cs[i * T.size + j]? = some u) := by
  induction xs generalizing cs i with
  | nil => simp at hx
  | cons y xs ih =>
    obtain ⟨c1, c2, rfl, h1, h2⟩ := h
    have hl := T.len h1
    match i with
    | 0 =>
      have hy : y = x := by simpa using hx
      subst hy
      refine ⟨c1, h1, fun j u hj => ?_⟩
      have := (List.getElem?_eq_some_iff.1 hj).1
      rw [List.getElem?_append_left (by omega)]
      simpa using hj
    | i + 1 =>
      have hx' : xs[i]? = some x := by simpa using hx
      obtain ⟨c, hc, hcell⟩ := ih h2 hx'
      refine ⟨c, hc, fun j u hj => ?_⟩
      rw [Nat.succ_mul, List.getElem?_append_right (by omega)]
      rw [show i * T.size + T.size + j - c1.length = i * T.size + j from by omega]
      exact hcell j u hj
theorem Row.take {xs : List α} {cs : List Value} (h : Row T w D xs cs) (k : Nat) : Row T w D (xs.take k) (cs.take (k * T.size)) := by
  induction xs generalizing cs k with
  | nil => have : cs = [] := h
           subst this; simp; exact Row.nil
  | cons x xs ih =>
    obtain ⟨c1, c2, rfl, h1, h2⟩ := h
    have hl := T.len h1
    match k with
    | 0 => simp; exact Row.nil
    | k + 1 =>
      have e : (c1 ++ c2).take ((k + 1) * T.size) = c1 ++ c2.take (k * T.size) := by
        rw [Nat.succ_mul, List.take_append, List.take_of_length_le (by omega), show k * T.size + T.size - c1.length = k * T.size from by omega]
      rw [e]
      exact ⟨c1, _, rfl, h1, ih h2 k⟩
theorem Row.drop {xs : List α} {cs : List Value} (h : Row T w D xs cs) (k : Nat) : Row T w D (xs.drop k) (cs.drop (k * T.size)) := by
  induction xs generalizing cs k with
  | nil => have : cs = [] := h
           subst this; simp; exact Row.nil
  | cons x xs ih =>
    match k with
    | 0 => simpa using h
    | k + 1 =>
      obtain ⟨c1, c2, rfl, h1, h2⟩ := h
      have hl := T.len h1
      have e : (c1 ++ c2).drop ((k + 1) * T.size) = c2.drop (k * T.size) := by
        rw [Nat.succ_mul, List.drop_append, List.drop_of_length_le (by omega), show k * T.size + T.size - c1.length = k * T.size from by omega, List.nil_append]
      rw [e]
      exact ih h2 k
end

/-- A slice's value (address, length, capacity) that reads as a list; what it leads to lies in blocks of D. -/
structure Sl {α : Type} (T : Ty α) (w : World) (D : Nat → Prop) (A : Option Addr) (n c : Nat) (xs : List α) : Prop where
  hn : n = xs.length
  hc : n ≤ c
  hb : n * T.bytes ≤ 140737488355328
  hm : c ≤ maxLen
  nil_ : A = none → c = 0
  at_ : 0 < n → ∃ b o cells, A = some ⟨b, o, none⟩ ∧ D b ∧ Row T w D xs cells ∧ ∀ j u, cells[j]? = some u → w.cell? ⟨b, o + j, none⟩ = some u

section
variable {α : Type} {T : Ty α} {w w' : World} {D D' : Nat → Prop} {A : Option Addr} {n c : Nat} {xs : List α}
theorem Sl.keep (h : Sl T w D A n c xs) (hk : ∀ p : Addr, D p.block → w'.cell? p = w.cell? p) : Sl T w' D A n c xs :=
  ⟨h.hn, h.hc, h.hb, h.hm, h.nil_, fun h0 => by
    obtain ⟨b, o, cells, e, hb, hr, hcell⟩ := h.at_ h0
    exact ⟨b, o, cells, e, hb, hr.keep hk, fun j u hj => (hk ⟨b, o + j, none⟩ hb).trans (hcell j u hj)⟩⟩
theorem Sl.more (h : Sl T w D A n c xs) (hk : ∀ b, D b → D' b) : Sl T w D' A n c xs :=
  ⟨h.hn, h.hc, h.hb, h.hm, h.nil_, fun h0 => by
    obtain ⟨b, o, cells, e, hb, hr, hcell⟩ := h.at_ h0
    exact ⟨b, o, cells, e, hk _ hb, hr.more hk, hcell⟩⟩
theorem Sl.nil : Sl T w D none 0 0 ([] : List α) := ⟨rfl, Nat.le_refl _, by simp, by simp, fun _ => rfl, fun h => absurd h (by omega)⟩
theorem Sl.cut_to (h : Sl T w D A n c xs) {k : Nat} (hk : k ≤ n) : Sl T w D A k c (xs.take k) := by
  refine ⟨?_, Nat.le_trans hk h.hc, Nat.le_trans (Nat.mul_le_mul_right _ hk) h.hb, h.hm, h.nil_, fun h0 => ?_⟩
  · have := h.hn
    rw [List.length_take]; omega
  · obtain ⟨b, o, cells, e, hb, hr, hcell⟩ := h.at_ (by omega)
    refine ⟨b, o, cells.take (k * T.size), e, hb, hr.take k, fun j u hu => hcell j u ?_⟩
    rw [List.getElem?_take] at hu
    split at hu
    · exact hu
    · cases hu
theorem Sl.small (h : Sl T w D A n c xs) : n ≤ 140737488355328 := Nat.le_trans (by have := Nat.mul_le_mul_left n T.pos; omega) h.hb
theorem Sl.drew (h : Sl T w D A n c xs) : Sl T w.drew D A n c xs := h.keep fun _ _ => rfl
/-- One element: where it lies, and its cells. -/
theorem Sl.get (h : Sl T w D A n c xs) {i : Nat} {x : α} (hx : xs[i]? = some x) :
    ∃ b o cs, A = some ⟨b, o, none⟩ ∧ D b ∧ T.rep w D x cs ∧ ∀ j u, cs[j]? = some u → w.cell? ⟨b, o + (i * T.size + j), none⟩ = some u := by
  have hi := (List.getElem?_eq_some_iff.1 hx).1
  obtain ⟨b, o, cells, e, hb, hr, hcell⟩ := h.at_ (by have := h.hn; omega)
  obtain ⟨cs, hcs, hj⟩ := hr.at_ hx
  exact ⟨b, o, cs, e, hb, hcs, fun j u hu => hcell _ u (hj j u hu)⟩
end

/-- Below a block's number. -/
def lt (B : Nat) : Nat → Prop := fun b => b < B

theorem keep_of_below {B B' : Nat} {w w' : World} (h : Below B' w w') (hB : B ≤ B') : ∀ p : Addr, lt B p.block → w'.cell? p = w.cell? p :=
  fun p hp => h.cell (p := p) (Nat.lt_of_lt_of_le hp hB)

section
variable {α : Type} {T : Ty α} {w w' : World} {A : Option Addr} {n c : Nat} {xs : List α} {B B' : Nat}
theorem Sl.below (h : Sl T w (lt B) A n c xs) (hb : Below B' w w') (hB : B ≤ B') : Sl T w' (lt B) A n c xs := h.keep (keep_of_below hb hB)
theorem Sl.al (h : Sl T w (lt B) A n c xs) (hB : B ≤ w.heap.size) (o : Obj) : Sl T (w.alloc o) (lt B) A n c xs := h.keep fun p hp => World.cell?_alloc_lt w o p (Nat.lt_of_lt_of_le hp hB)
theorem Sl.up (h : Sl T w (lt B) A n c xs) (hB : B ≤ B') : Sl T w (lt B') A n c xs := h.more fun _ hb => Nat.lt_of_lt_of_le hb hB
end

/-- The bytes of an integer kind. -/
def kindBytes : IntKind → Nat
  | .i8 | .u8 => 1
  | .i16 | .u16 => 2
  | .i32 | .u32 => 4
  | .i64 | .u64 => 8
/-- Integers. -/
def tInt (k : IntKind) : Ty Int where
  size := 1
  bytes := kindBytes k
  pos := by cases k <;> decide
  rep _ _ x cs := cs = [.int k x] ∧ (Lit.int k x).wf = true
  len := by rintro w D x cs ⟨rfl, _⟩; rfl
  one := by rintro w D x cs ⟨rfl, _⟩ u hu; simp at hu; subst hu; rfl
  keep := by rintro w w' D x cs h _; exact h
  more := by rintro w D D' x cs h _; exact h
/-- Bools. -/
def tBool : Ty Bool where
  size := 1
  bytes := 1
  pos := Nat.le_refl _
  rep _ _ x cs := cs = [.bool x]
  len := by rintro w D x cs rfl; rfl
  one := by rintro w D x cs rfl u hu; simp at hu; subst hu; rfl
  keep := by rintro w w' D x cs h _; exact h
  more := by rintro w D D' x cs h _; exact h
/-- Strings. -/
def tStr : Ty ByteArray where
  size := 1
  bytes := 16
  pos := by decide
  rep _ _ x cs := cs = [.string x] ∧ x.size ≤ 1152921504606846976
  len := by rintro w D x cs ⟨rfl, _⟩; rfl
  one := by rintro w D x cs ⟨rfl, _⟩ u hu; simp at hu; subst hu; rfl
  keep := by rintro w w' D x cs h _; exact h
  more := by rintro w D D' x cs h _; exact h
/-- Two things, one behind the other. -/
def tPair {α β : Type} (S : Ty α) (T : Ty β) : Ty (α × β) where
  size := S.size + T.size
  bytes := S.bytes + T.bytes
  pos := Nat.le_trans S.pos (Nat.le_add_right _ _)
  rep w D x cs := ∃ c1 c2, cs = c1 ++ c2 ∧ S.rep w D x.1 c1 ∧ T.rep w D x.2 c2
  len := by rintro w D x cs ⟨c1, c2, rfl, h1, h2⟩; rw [List.length_append, S.len h1, T.len h2]
  one := by
    rintro w D x cs ⟨c1, c2, rfl, h1, h2⟩ u hu
    rcases List.mem_append.1 hu with hu | hu
    · exact S.one h1 u hu
    · exact T.one h2 u hu
  keep := by rintro w w' D x cs ⟨c1, c2, rfl, h1, h2⟩ hk; exact ⟨c1, c2, rfl, S.keep h1 hk, T.keep h2 hk⟩
  more := by rintro w D D' x cs ⟨c1, c2, rfl, h1, h2⟩ hk; exact ⟨c1, c2, rfl, S.more h1 hk, T.more h2 hk⟩
/-- The same cells, read as another type of data. -/
def tMap {α β : Type} (S : Ty α) (f : β → α) (b : Nat) (hb : 1 ≤ b := by decide) : Ty β where
  size := S.size
  bytes := b
  pos := hb
  rep w D x cs := S.rep w D (f x) cs
  len h := S.len h
  one h := S.one h
  keep h hk := S.keep h hk
  more h hk := S.more h hk
/-- Slices. -/
def tSlice {α : Type} (T : Ty α) : Ty (List α) where
  size := 1
  bytes := 24
  pos := by decide
  rep w D xs cs := ∃ A n c, cs = [.slice A n c] ∧ Sl T w D A n c xs
  len := by rintro w D x cs ⟨A, n, c, rfl, _⟩; rfl
  one := by rintro w D x cs ⟨A, n, c, rfl, _⟩ u hu; simp at hu; subst hu; rfl
  keep := by rintro w w' D x cs ⟨A, n, c, rfl, h⟩ hk; exact ⟨A, n, c, rfl, h.keep hk⟩
  more := by rintro w D D' x cs ⟨A, n, c, rfl, h⟩ hk; exact ⟨A, n, c, rfl, h.more hk⟩

/-- Strings lie alike in whatever world. -/
theorem row_str {w w' : World} {D D' : Nat → Prop} {xs : List ByteArray} {cs : List Value} (h : Row tStr w D xs cs) : Row tStr w' D' xs cs := by
  induction xs generalizing cs with
  | nil => exact h
  | cons x xs ih =>
    obtain ⟨c1, c2, rfl, h1, h2⟩ := h
    exact ⟨c1, c2, rfl, h1, ih h2⟩
theorem row_int {k : IntKind} {w w' : World} {D D' : Nat → Prop} {xs : List Int} {cs : List Value} (h : Row (tInt k) w D xs cs) : Row (tInt k) w' D' xs cs := by
  induction xs generalizing cs with
  | nil => exact h
  | cons x xs ih =>
    obtain ⟨c1, c2, rfl, h1, h2⟩ := h
    exact ⟨c1, c2, rfl, h1, ih h2⟩
theorem row_strs {w : World} {D : Nat → Prop} (l : List ByteArray) (h : ∀ x ∈ l, x.size ≤ 1152921504606846976) : Row tStr w D l (l.map Value.string) := by
  induction l with
  | nil => exact Row.nil
  | cons x l ih => exact ⟨[.string x], _, rfl, ⟨rfl, h x (by simp)⟩, ih fun y hy => h y (by simp [hy])⟩
/-- One string of a slice of strings. -/
theorem Sl.str {w : World} {D : Nat → Prop} {A : Option Addr} {n c : Nat} {xs : List ByteArray} (h : Sl tStr w D A n c xs) {i : Nat} {x : ByteArray} (hx : xs[i]? = some x) :
    ∃ b o, A = some ⟨b, o, none⟩ ∧ D b ∧ w.cell? ⟨b, o + i, none⟩ = some (.string x) ∧ x.size ≤ 1152921504606846976 := by
  obtain ⟨b, o, cs, e, hb, ⟨rfl, hs⟩, hj⟩ := h.get hx
  exact ⟨b, o, e, hb, by simpa [tStr] using hj 0 _ rfl, hs⟩
/-- One integer of a slice of integers. -/
theorem Sl.int {k : IntKind} {w : World} {D : Nat → Prop} {A : Option Addr} {n c : Nat} {xs : List Int} (h : Sl (tInt k) w D A n c xs) {i : Nat} {x : Int} (hx : xs[i]? = some x) :
    ∃ b o, A = some ⟨b, o, none⟩ ∧ D b ∧ w.cell? ⟨b, o + i, none⟩ = some (.int k x) ∧ (Lit.int k x).wf = true := by
  obtain ⟨b, o, cs, e, hb, ⟨rfl, hs⟩, hj⟩ := h.get hx
  exact ⟨b, o, e, hb, by simpa [tInt] using hj 0 _ rfl, hs⟩

theorem cell_al {w : World} {p : Addr} {v : Value} (h : w.cell? p = some v) (o : Obj) : (w.alloc o).cell? p = some v := (World.cell?_alloc_lt w o p (World.block_lt_of_cell? w p h)).trans h
theorem cell_be {w w' : World} {p : Addr} {v : Value} (h : w.cell? p = some v) (hb : Below w.heap.size w w') : w'.cell? p = some v := (hb.cell (World.block_lt_of_cell? w p h)).trans h
theorem cell_blk {w : World} {g i : Nat} {cs : Array Value} {e : TypeId} {v : Value} (h : w.heap[g]? = some (.cells cs e (0, 0))) (hv : cs[i]? = some v) : w.cell? ⟨g, i, none⟩ = some v := (cell_of_row w g i cs e (0, 0) h).trans hv
theorem cell_new (w : World) (cs : List Value) (e : TypeId) : ∀ j u, cs[j]? = some u → (w.alloc (.cells cs.toArray e)).cell? ⟨w.heap.size, 0 + j, none⟩ = some u := fun j u hu => by
  rw [Nat.zero_add]
  exact cell_blk (heap_alloc_new w _) (by simpa using hu)
theorem free_blk {w : World} {g i : Nat} {cs : Array Value} {e : TypeId} (h : w.heap[g]? = some (.cells cs e (0, 0))) : w.frozen? ⟨g, i, none⟩ = false := by simp [World.frozen?, h]
theorem set_blk {w : World} {g i : Nat} {cs : Array Value} {e : TypeId} (h : w.heap[g]? = some (.cells cs e (0, 0))) (v : Value) : (w.setCell ⟨g, i, none⟩ v).heap[g]? = some (.cells (cs.setIfInBounds i v) e (0, 0)) := by
  simp [World.setCell, Array.getElem?_modify, h]
theorem min_nat (n : Nat) (b : Int) (hb : 0 ≤ b) : ∃ k : Nat, min (n : Int) b = (k : Int) ∧ k ≤ n ∧ (k : Int) ≤ b ∧ (k = n ∨ (k : Int) = b) := ⟨(min (n : Int) b).toNat, by omega, by omega, by omega, by omega⟩
theorem retB {a b : Bool} (h : a = b) : Ending.returned (.bool a) = .returned (.bool b) := by rw [h]
theorem retI {k : IntKind} {a b : Int} (h : a = b) : Ending.returned (.int k a) = .returned (.int k b) := by rw [h]
theorem retS {a b : ByteArray} (h : a = b) : Ending.returned (.string a) = .returned (.string b) := by rw [h]

theorem take_pred {α : Type} {l : List α} {k : Nat} {x : α} (h0 : 0 < k) (hx : l[k - 1]? = some x) : l.take k = l.take (k - 1) ++ [x] := by
  have h2 : k = (k - 1) + 1 := by omega
  conv => lhs; rw [h2]
  rw [List.take_add_one, hx]; rfl
theorem take_rev {α : Type} {l : List α} {k : Nat} {x : α} (h0 : 0 < k) (hx : l[k - 1]? = some x) : (l.take k).reverse = x :: (l.take (k - 1)).reverse := by
  rw [take_pred h0 hx, List.reverse_append]; rfl
theorem take_snoc {α : Type} {l : List α} {k : Nat} {x : α} (hx : l[k]? = some x) : l.take (k + 1) = l.take k ++ [x] := by
  rw [List.take_add_one, hx]; rfl
theorem set_same {α : Type} {l : List α} {k : Nat} {x : α} (h : l[k]? = some x) : l.set k x = l := by
  apply List.ext_getElem?
  intro i
  rw [List.getElem?_set]
  split
  · rename_i e
    subst e
    split
    · exact h.symm
    · rename_i h2
      exact absurd (List.getElem?_eq_some_iff.1 h).1 h2
  · rfl
theorem get_some {α : Type} {l : List α} {k : Nat} (h : k < l.length) : ∃ x, l[k]? = some x := ⟨l[k], List.getElem?_eq_getElem h⟩

end Go.Cl

/-
What an argument reads as, for the claim's form, is what it reads as for the walks: by the type's shape. No program in sight.
-/
namespace Go.Cl
open Go.RowKit Go.ChangeShapes Go.WideShapes Go.Deep

/-- The type t of the program P lies in memory as T says. -/
structure Lifts {α : Type} (P : Program) (t : TypeId) (T : Ty α) : Prop where
  size : P.cellsOf t = T.size
  bytes : P.bytesOf t = T.bytes
  read : ∀ {H : Type} (enc : TypeId × Value → H) (w : World) (base : Nat) (held : Bool) (fuel : Nat) (cs : List Value) (x : DataW H × List MemPlace),
    DataW.trod enc P w base (fun _ => true) held fuel t cs = some x → (∀ n ∈ x.1.weights P t, n ≤ reachBytes) → ∃ d, T.rep w (lt w.heap.size) d cs

theorem reach_le : reachBytes ≤ 140737488355328 := by decide

theorem lifts_int {P : Program} {t : TypeId} {k : IntKind} (ht : P.underlying t = some (.int k)) (hc : P.cellsOf t = 1) (hb : P.bytesOf t = kindBytes k) : Lifts P t (tInt k) where
  size := hc
  bytes := hb
  read enc w base held fuel cs x h _ := by
    obtain ⟨n, rfl, _, hw⟩ := DataW.trod_int ht h
    exact ⟨n, rfl, hw⟩
theorem lifts_bool {P : Program} {t : TypeId} (ht : P.underlying t = some .bool) (hc : P.cellsOf t = 1) (hb : P.bytesOf t = 1) : Lifts P t tBool where
  size := hc
  bytes := hb
  read enc w base held fuel cs x h _ := by
    obtain ⟨n, rfl, _⟩ := DataW.trod_bool ht h
    exact ⟨n, rfl⟩
theorem lifts_str {P : Program} {t : TypeId} (ht : P.underlying t = some .string) (hc : P.cellsOf t = 1) (hb : P.bytesOf t = 16) : Lifts P t tStr where
  size := hc
  bytes := hb
  read enc w base held fuel cs x h hw := by
    obtain ⟨s, rfl, rfl, _⟩ := DataW.trod_string ht h
    refine ⟨s, rfl, ?_⟩
    have h1 := hw s.data.toList.length (by rw [DataW.weights]; exact List.mem_singleton.2 rfl)
    have e : s.data.toList.length = s.size := by rw [ByteArray.size, Array.length_toList]
    have h2 := reach_le
    omega

theorem weightsAll_mem {H : Type} {P : Program} {e : TypeId} {l : List (DataW H)} {d : DataW H} (hd : d ∈ l) {n : Nat} (hn : n ∈ d.weights P e) : n ∈ DataW.weightsAll P e l := by
  induction l with
  | nil => cases hd
  | cons x l ih =>
    rcases List.mem_cons.1 hd with rfl | hd
    · simp [DataW.weightsAll, hn]
    · simp [DataW.weightsAll, ih hd]

theorem row_up {α : Type} {T : Ty α} {w : World} {D : Nat → Prop} {a : Addr} (len : Nat)
    (h : ∀ i, i < len → ∃ d cs, T.rep w D d cs ∧ ∀ j, j < T.size → w.cell? ((a.add (i * T.size)).add j) = cs[j]?) :
    ∃ xs cells, xs.length = len ∧ Row T w D xs cells ∧ ∀ j u, cells[j]? = some u → w.cell? (a.add j) = some u := by
  induction len with
  | zero => exact ⟨[], [], rfl, Row.nil, by simp⟩
  | succ n ih =>
    obtain ⟨xs, cells, hl, hr, hc⟩ := ih fun i hi => h i (by omega)
    obtain ⟨d, cs, hd, hj⟩ := h n (by omega)
    refine ⟨xs ++ [d], cells ++ cs, by simp [hl], hr.append (Row.one hd), fun j u hu => ?_⟩
    have hlen := hr.len
    rw [hl] at hlen
    rcases Nat.lt_or_ge j cells.length with hlt | hge
    · rw [List.getElem?_append_left hlt] at hu
      exact hc j u hu
    · rw [List.getElem?_append_right hge] at hu
      have hlt : j - cells.length < cs.length := (List.getElem?_eq_some_iff.1 hu).1
      rw [T.len hd] at hlt
      have := hj (j - cells.length) hlt
      rw [Go.Deep.add_add, hu] at this
      rw [← this]
      congr 2
      omega

theorem addr_form {w : World} {a : Addr} {v : Value} (h : w.cell? a = some v) : a = ⟨a.block, a.off, none⟩ := by
  have := World.cell?_spot h
  cases a
  simp_all

theorem lifts_slice {α : Type} {T : Ty α} {P : Program} {t e : TypeId} (ht : P.underlying t = some (.slice e)) (hc : P.cellsOf t = 1) (hb : P.bytesOf t = 24) (hT : Lifts P e T) (hpos : 0 < T.size) : Lifts P t (tSlice T) where
  size := hc
  bytes := hb
  read enc w base held fuel cs x h hw := by
    rcases open_slice ht h with ⟨rfl, rfl⟩ | ⟨a, len, cap, m, n, D, Pl, rfl, hb, hl, hm, hmm, rfl, hi⟩
    · exact ⟨[], none, 0, 0, rfl, Sl.nil⟩
    · have hmc : m = cap := by simpa using hmm
      subst hmc
      simp only [DataW.weights, ht] at hw
      have hcap : m * T.bytes ≤ 140737488355328 := by
        have h1 := hw _ List.mem_cons_self
        simp at h1
        rw [hT.bytes, show len + (m - len) = m from by omega] at h1
        exact Nat.le_trans h1 reach_le
      have hel : ∀ i, i < len → ∃ d cs, T.rep w (lt w.heap.size) d cs ∧ ∀ j, j < T.size → w.cell? ((a.add (i * T.size)).add j) = cs[j]? := by
        intro i hil
        obtain ⟨cs', h1, h2⟩ := hi i (by omega)
        rw [hT.size] at h1
        obtain ⟨_, h3, h4⟩ := World.cells?_some h1
        obtain ⟨d, hd⟩ := hT.read enc w base held n cs' _ h2 (fun k hk => hw k (List.mem_cons_of_mem _ (List.mem_append_left _ (weightsAll_mem (List.mem_map.2 ⟨i, List.mem_range.2 hil, rfl⟩) hk))))
        exact ⟨d, cs', hd, h4⟩
      obtain ⟨xs, cells, hxl, hr, hcell⟩ := row_up (a := a) len hel
      refine ⟨xs, some a, len, m, rfl, hxl.symm, hl, Nat.le_trans (Nat.mul_le_mul_right _ hl) hcap, hm, by simp, fun h0 => ?_⟩
      have hlen := hr.len
      have h00 : 0 < cells.length := by rw [hlen, hxl]; exact Nat.mul_pos h0 hpos
      have hc0 := hcell 0 cells[0] (List.getElem?_eq_getElem h00)
      have ha : a.add 0 = a := rfl
      rw [ha] at hc0
      have hf := addr_form hc0
      refine ⟨a.block, a.off, cells, by rw [← hf], World.block_lt_of_cell? w a hc0, hr, fun j u hu => ?_⟩
      rw [← hcell j u hu]
      congr 1
      rw [hf]
      unfold Addr.add
      split
      · rename_i h; subst h; rfl
      · rfl

/-- The fields from one offset on. -/
structure LiftsF {α : Type} (P : Program) (fs : List Field) (off : Nat) (T : Ty α) : Prop where
  size : (fs.map fun f => P.cellsOf f.type).sum = T.size
  read : ∀ {H : Type} (enc : TypeId × Value → H) (w : World) (base : Nat) (held : Bool) (fuel : Nat) (cs : List Value) (ys : List (DataW H × List MemPlace)),
    cs.length = off + T.size → ys.length = fs.length →
    (∀ (i : Nat) (f : Field), fs[i]? = some f → DataW.trod enc P w base (fun _ => true) held fuel f.type ((cs.drop f.offset).take (P.cellsOf f.type)) = ys[i]?) →
    (∀ n ∈ DataW.weightsEach P (fs.map (·.type)) (ys.map (·.1)), n ≤ reachBytes) → ∃ d, T.rep w (lt w.heap.size) d (cs.drop off)

theorem liftsF_one {α : Type} {T : Ty α} {P : Program} {f : Field} {off : Nat} (ho : f.offset = off) (hT : Lifts P f.type T) : LiftsF P [f] off T where
  size := by simp [hT.size]
  read enc w base held fuel cs ys hl hy h hw := by
    match ys, hy with
    | [y], _ =>
      have h0 := h 0 f rfl
      rw [ho, hT.size, List.take_of_length_le (by simp [hl])] at h0
      exact hT.read enc w base held fuel _ y h0 (fun n hn => hw n (by simp [DataW.weightsEach, hn]))

theorem liftsF_cons {α β : Type} {S : Ty α} {T : Ty β} {P : Program} {f : Field} {fs : List Field} {off : Nat} (ho : f.offset = off) (hS : Lifts P f.type S) (hT : LiftsF P fs (off + S.size) T) :
    LiftsF P (f :: fs) off (tPair S T) where
  size := by simp [hS.size, hT.size, tPair]
  read enc w base held fuel cs ys hl hy h hw := by
    match ys, hy with
    | y :: ys, hy =>
      have h0 := h 0 f rfl
      have hl' : cs.length = off + (S.size + T.size) := hl
      obtain ⟨d2, hd2⟩ := hT.read enc w base held fuel cs ys (by omega) (by simpa using hy) (fun i g hg => by simpa using h (i + 1) g (by simpa using hg))
        (fun n hn => hw n (by simp [DataW.weightsEach, hn]))
      rw [ho, hS.size] at h0
      obtain ⟨d1, hd1⟩ := hS.read enc w base held fuel _ y h0 (fun n hn => hw n (by simp [DataW.weightsEach, hn]))
      refine ⟨(d1, d2), _, _, ?_, hd1, hd2⟩
      rw [← List.drop_drop, List.take_append_drop]

theorem lifts_struct {α : Type} {T : Ty α} {P : Program} {t : TypeId} {fs : List Field} (ht : P.underlying t = some (.struct fs.toArray)) (hc : P.cellsOf t = T.size) (hb : P.bytesOf t = T.bytes) (hT : LiftsF P fs 0 T) : Lifts P t T where
  size := hc
  bytes := hb
  read enc w base held fuel cs x h hw := by
    obtain ⟨ys, n, _, rfl, hl, hyl, hf⟩ := DataW.trod_struct ht h
    have hw' : ∀ n ∈ DataW.weightsEach P (fs.map (·.type)) (ys.map (·.1)), n ≤ reachBytes := fun n hn => hw n (by simpa [DataW.weights, ht] using hn)
    obtain ⟨d, hd⟩ := hT.read enc w base held n cs ys (by rw [hl, hc]; simp) (by simpa using hyl) (fun i f hi => hf i f (by simpa using hi)) hw'
    exact ⟨d, by simpa using hd⟩

theorem lifts_map {α β : Type} {T : Ty α} {P : Program} {t : TypeId} {f : β → α} (g : α → β) (hg : ∀ a, f (g a) = a) (hT : Lifts P t T) : Lifts P t (tMap T f T.bytes T.pos) where
  size := hT.size
  bytes := hT.bytes
  read enc w base held fuel cs x h hw := by
    obtain ⟨d, hd⟩ := hT.read enc w base held fuel cs x h hw
    exact ⟨g d, by show T.rep _ _ (f (g d)) _; rw [hg]; exact hd⟩

/-- An argument of a law. -/
theorem Lifts.arg {α : Type} {T : Ty α} {P : Program} {ts : List TypeId} {t : TypeId} (hT : Lifts P t T) {H : Type} {enc : TypeId × Value → H} {w : World} {base : Nat} {held : Bool} {v : Value} {ds : List (DataW H)} {d : DataW H} {p : List MemPlace}
    (h : DataW.Trod enc P w base (fun _ => true) held t v d p) (hw : (DataW.weightsEach P ts ds).all (· ≤ reachBytes) = true) {j : Nat} (htj : ts[j]? = some t) (hdj : ds[j]? = some d) :
    ∃ x, T.rep w (lt w.heap.size) x v.cells.toList := by
  obtain ⟨fuel, hf⟩ := h
  exact hT.read enc w base held fuel _ _ hf fun n hn => by
    have := List.all_eq_true.1 hw _ (DataW.weights_mem_each htj hdj n hn)
    simpa using this

end Go.Cl

/-
Slices that the call made itself: what they own; append as a law over what the source reads as. No program in sight.
-/
namespace Go.Cl
open Go.RowKit

/-- A fresh block as a slice. -/
theorem Sl.fresh {α : Type} {T : Ty α} {w : World} {B n : Nat} {xs : List α} {cells : List Value} (e : TypeId) (hr : Row T w (lt B) xs cells) (hB : B ≤ w.heap.size) (hn : n = xs.length) (hb : n * T.bytes ≤ 140737488355328) :
    Sl T (w.alloc (.cells cells.toArray e)) (lt (w.heap.size + 1)) (some ⟨w.heap.size, 0, none⟩) n n xs :=
  ⟨hn, Nat.le_refl _, hb, by have := Nat.mul_le_mul_left n T.pos; unfold maxLen; omega, by simp, fun h0 => ⟨w.heap.size, 0, cells, rfl, Nat.lt_succ_self _,
    (hr.keep fun p hp => World.cell?_alloc_lt w _ p (Nat.lt_of_lt_of_le hp hB)).more fun b hb => by have h1 : b < B := hb; show b < w.heap.size + 1; omega,
    fun j u hu => by
      rw [cell_of_row _ w.heap.size _ cells.toArray e (0, 0) (heap_alloc_new w _)]
      simpa using hu⟩⟩

/-- A row that the call owns, and what it reads as. -/
def Own {α : Type} (T : Ty α) (w : World) (base : Nat) (e : TypeId) (D : Nat → Prop) (v : Value) (n : Nat) (xs : List α) : Prop :=
  ∃ cells, w.ownsRow base e T.size v n cells ∧ Row T w D xs cells

section
variable {α : Type} {T : Ty α} {w w' : World} {base : Nat} {e : TypeId} {D D' : Nat → Prop} {v : Value} {n : Nat} {xs : List α}
theorem Own.nil (w : World) (base : Nat) (e : TypeId) (D : Nat → Prop) : Own T w base e D (.slice none 0 0) 0 ([] : List α) := ⟨[], World.ownsRow_nil w base e T.size, Row.nil⟩
theorem Own.more (h : Own T w base e D v n xs) (hk : ∀ b, D b → D' b) : Own T w base e D' v n xs := by
  obtain ⟨cells, h1, h2⟩ := h
  exact ⟨cells, h1, h2.more hk⟩
theorem Own.form (h : Own T w base e D v n xs) : ∃ A c, v = .slice A n c := by
  obtain ⟨cells, h1, h2⟩ := h
  rcases h1.2 with ⟨rfl, rfl⟩ | ⟨g, cap, cur, rfl, _⟩
  · exact ⟨none, 0, rfl⟩
  · exact ⟨_, _, rfl⟩
theorem Own.len (h : Own T w base e D v n xs) (hpos : 0 < T.size) : n = xs.length := by
  obtain ⟨cells, h1, h2⟩ := h
  have e1 := h1.1
  rw [h2.len] at e1
  exact (Nat.eq_of_mul_eq_mul_right hpos e1).symm
theorem Own.lt (h : Own T w base e D v n xs) : ∀ k, v.ownBlock = some k → base ≤ k ∧ k < w.heap.size := by
  obtain ⟨cells, h1, _⟩ := h
  exact h1.lt
/-- Read as a slice: what it leads to lies in D or in the row itself. -/
theorem Own.sl {A : Option Addr} {c : Nat} (h : Own T w base e D (.slice A n c) n xs) (hpos : 0 < T.size) (hn : n * T.bytes ≤ 140737488355328) :
    Sl T w (fun b => D b ∨ (base ≤ b ∧ b < w.heap.size)) A n c xs := by
  have hl := h.len hpos
  obtain ⟨cells, h1, h2⟩ := h
  rcases h1.2 with ⟨hv, h0⟩ | ⟨g, cap, cur, hv, hb, hh, hnc, hcm, hsz, htk⟩
  · injection hv with hA hn0 hc0
    subst hA hc0
    subst h0
    exact ⟨hl, Nat.le_refl _, by simp, by simp, fun _ => rfl, fun h => absurd h (by omega)⟩
  · injection hv with hA hn0 hc0
    subst hA hc0
    have hlt := (Array.getElem?_eq_some_iff.1 hh).1
    refine ⟨hl, hnc, hn, hcm, by simp, fun _ => ⟨g, 0, cells, rfl, .inr ⟨hb, hlt⟩, h2.more fun b hb => .inl hb, fun j u hu => ?_⟩⟩
    rw [cell_of_row w g _ cur e (0, 0) hh, ← htk] at *
    have hj := (List.getElem?_eq_some_iff.1 hu).1
    rw [List.length_take] at hj
    rw [List.getElem?_take_of_lt (by omega)] at hu
    simpa using hu
/-- Kept where the row's own block and the blocks of D are as they were. -/
theorem Own.kept {row : Option Nat} (h : Own T w base e D v n xs) (hg : w.grownBy w' row) (hne : v.ownBlock = none ∨ v.ownBlock ≠ row) (hD : ∀ b, D b → b < w.heap.size ∧ some b ≠ row) : Own T w' base e D v n xs := by
  obtain ⟨cells, h1, h2⟩ := h
  exact ⟨cells, h1.kept hg hne, h2.keep fun p hp => World.cell?_of_block (hg.block p.block (hD _ hp).1 (hD _ hp).2)⟩
theorem Own.below {B : Nat} (h : Own T w base e D v n xs) (hb : Below B w w') (hv : ∀ k, v.ownBlock = some k → k < B) (hD : ∀ b, D b → b < B) : Own T w' base e D v n xs := by
  obtain ⟨cells, h1, h2⟩ := h
  refine ⟨cells, ⟨h1.1, ?_⟩, h2.keep fun p hp => hb.cell (hD _ hp)⟩
  rcases h1.2 with h3 | ⟨g, cap, cur, rfl, hb', hh, rest⟩
  · exact .inl h3
  · exact .inr ⟨g, cap, cur, rfl, hb', by rw [hb.block g (hv g rfl)]; exact hh, rest⟩
theorem Own.alloc (h : Own T w base e D v n xs) (o : Obj) (hD : ∀ b, D b → b < w.heap.size) : Own T (w.alloc o) base e D v n xs :=
  h.below ((Below.refl w.heap.size w).alloc (Nat.le_refl _) o) (fun k hk => (h.lt k hk).2) hD
theorem Own.drew (h : Own T w base e D v n xs) : Own T w.drew base e D v n xs := by
  obtain ⟨cells, h1, h2⟩ := h
  exact ⟨cells, h1.drew, h2.keep fun _ _ => rfl⟩
end

theorem set_app_left {α : Type} (l r : List α) (i : Nat) (u : α) (h : i < l.length) : (l ++ r).set i u = l.set i u ++ r := by
  rw [List.set_append, if_pos h]
theorem set_app_right {α : Type} (l r : List α) (i : Nat) (u : α) : (l ++ r).set (l.length + i) u = l ++ r.set i u := by
  rw [List.set_append, if_neg (by omega), Nat.add_sub_cancel_left]
/-- One cell of a row is set: the element that it belongs to reads as another. -/
theorem Row.set_ {α : Type} {T : Ty α} {w : World} {D : Nat → Prop} {xs : List α} {cs : List Value} (h : Row T w D xs cs) {i j : Nat} {x y : α} {u : Value} (hx : xs[i]? = some x) (hj : j < T.size)
    (hr : ∀ c, T.rep w D x c → (∀ k v, c[k]? = some v → cs[i * T.size + k]? = some v) → T.rep w D y (c.set j u)) : Row T w D (xs.set i y) (cs.set (i * T.size + j) u) := by
  induction xs generalizing cs i with
  | nil => simp at hx
  | cons z xs ih =>
    obtain ⟨c1, c2, rfl, h1, h2⟩ := h
    have hl := T.len h1
    match i with
    | 0 =>
      have hz : z = x := by simpa using hx
      subst hz
      rw [Nat.zero_mul, Nat.zero_add, set_app_left _ _ _ _ (by omega)]
      exact ⟨_, _, rfl, hr c1 h1 (fun k v hk => by
        have := (List.getElem?_eq_some_iff.1 hk).1
        rw [Nat.zero_mul, Nat.zero_add, List.getElem?_append_left (by omega)]
        exact hk), h2⟩
    | i + 1 =>
      have hx' : xs[i]? = some x := by simpa using hx
      rw [show (i + 1) * T.size + j = c1.length + (i * T.size + j) from by rw [Nat.succ_mul, hl]; omega, set_app_right]
      refine ⟨c1, _, rfl, h1, ih h2 hx' fun c hc hk => hr c hc fun k v hv => ?_⟩
      rw [show (i + 1) * T.size + k = c1.length + (i * T.size + k) from by rw [Nat.succ_mul, hl]; omega, List.getElem?_append_right (by omega), Nat.add_sub_cancel_left]
      exact hk k v hv
/-- A store into a row that the call owns. -/
theorem Own.stored {α : Type} {T : Ty α} {w : World} {base g n c : Nat} {e : TypeId} {D : Nat → Prop} {xs : List α} (h : Own T w base e D (.slice (some ⟨g, 0, none⟩) n c) n xs) (hD : ∀ b, D b → b ≠ g)
    {i j : Nat} {x y : α} {u : Value} (hx : xs[i]? = some x) (hj : j < T.size) (hr : ∀ cs, T.rep w D x cs → T.rep w D y (cs.set j u)) :
    Own T (w.setCell ⟨g, i * T.size + j, none⟩ u) base e D (.slice (some ⟨g, 0, none⟩) n c) n (xs.set i y) := by
  obtain ⟨cells, h1, h2⟩ := h
  exact ⟨_, (h1.stored (i * T.size + j) u).1, (h2.set_ hx hj fun c hc _ => hr c hc).keep fun p hp => World.cell?_setCell_other w _ p u (fun e => hD _ hp (by rw [← e]))⟩
/-- Where a row lies that is not empty. -/
theorem Own.block {α : Type} {T : Ty α} {w : World} {base n c : Nat} {e : TypeId} {D : Nat → Prop} {xs : List α} {A : Option Addr} (h : Own T w base e D (.slice A n c) n xs) (hn : 0 < n) :
    ∃ g cells, A = some ⟨g, 0, none⟩ ∧ base ≤ g ∧ g < w.heap.size ∧ Row T w D xs cells ∧ (∀ k u, cells[k]? = some u → w.cell? ⟨g, k, none⟩ = some u) ∧ ∀ k, w.frozen? ⟨g, k, none⟩ = false := by
  obtain ⟨cells, h1, h2⟩ := h
  rcases h1.2 with ⟨hv, h0⟩ | ⟨g, cap, cur, hv, hb, hh, hnc, hcm, hsz, htk⟩
  · omega
  · injection hv with hA hn0 hc0
    subst hA hc0
    refine ⟨g, cells, rfl, hb, (Array.getElem?_eq_some_iff.1 hh).1, h2, fun k u hu => ?_, fun k => free_blk hh⟩
    rw [← htk, List.getElem?_take] at hu
    split at hu
    · exact cell_blk hh (by simpa using hu)
    · cases hu

/-- What the program's tables say of a slice type and its element. -/
structure ElemOf (P : Program) (t e : TypeId) (size bytes : Nat) : Prop where
  under : P.underlying t = some (.slice e)
  info : ∃ i z, P.info? e = some i ∧ i.zero = some z ∧ i.size = size ∧ i.bytes = bytes ∧ z.cells.size = size
  pos : 0 < size

theorem mkElem {P : Program} {t e : TypeId} {size bytes : Nat} {z : Value} (h1 : P.underlying t = some (.slice e)) (h2 : (P.info? e).map (fun i => (i.zero, i.size, i.bytes)) = some (some z, size, bytes)) (h3 : z.cells.size = size) (h4 : 0 < size) : ElemOf P t e size bytes :=
  ⟨h1, by
    cases hi : P.info? e with
    | none => rw [hi] at h2; cases h2
    | some i =>
      rw [hi] at h2
      simp only [Option.map_some, Option.some.injEq, Prod.mk.injEq] at h2
      exact ⟨i, z, rfl, h2.1, h2.2.1, h2.2.2, h3⟩, h4⟩

section
variable {P : Program} (w : World)

theorem run_append_of_nil (base : Nat) (t ty e : TypeId) (i : TypeInfo) (size : Nat) (ht : P.underlying t = some (.slice e)) (hi : P.info? e = some i)
    (v : Value) (n : Nat) (xs : List Value) (hown : w.ownsRow base e size v n xs) (c : Nat) : (Builtin.append_ #[t, t] ty #[v, .slice none 0 c]).run P w = .ok v w := by
  rcases hown.2 with ⟨rfl, rfl⟩ | ⟨g, cap, cur, rfl, _, _, hnc, _⟩
  · simp [Builtin.append_, run_underlying ht, sizeOf, typeInfo, hi, Builtin.lenOf, Builtin.firstCells]
  · simp [Builtin.append_, run_underlying ht, sizeOf, typeInfo, hi, Builtin.lenOf, Builtin.firstCells, hnc, storeCells]

/-- append(own, source...), whatever the source: nil, empty or not. -/
theorem run_apd {α : Type} {T : Ty α} {t ty e : TypeId} {bytes base : Nat} (hE : ElemOf P t e T.size bytes) {v : Value} {n : Nat} {cs : List Value} (hown : w.ownsRow base e T.size v n cs)
    {D : Nat → Prop} {A : Option Addr} {m c : Nat} {ys : List α} (hs : Sl T w D A m c ys) (h63 : n + m ≤ 140737488355328) (hbytes : (n + m) * bytes ≤ 140737488355328) (hbase : base ≤ w.heap.size) :
    ∃ v' w' news, (Builtin.append_ #[t, t] ty #[v, .slice A m c]).run P w = .ok v' w' ∧ Row T w D ys news ∧ w'.ownsRow base e T.size v' (n + m) (cs ++ news) ∧ w.grownBy w' v.ownBlock ∧
      (v'.ownBlock = v.ownBlock ∨ v'.ownBlock = some w.heap.size) := by
  obtain ⟨i, z, hi, hz, hsize, hby, hzs⟩ := hE.info
  rcases Nat.eq_zero_or_pos m with h0 | h0
  · subst h0
    obtain rfl : ys = [] := List.eq_nil_of_length_eq_zero hs.hn.symm
    rcases A with _ | ad
    · obtain rfl : c = 0 := hs.nil_ rfl
      exact ⟨v, w, [], run_append_of_nil w base t ty e i T.size hE.under hi v n cs hown 0, Row.nil, by simpa using hown, World.grownBy.refl w _, .inl rfl⟩
    · obtain ⟨v', w', hrun, h2, h3, _, h5⟩ := run_append_own_at (P := P) w base t ty e i z T.size bytes hE.under hi hz hsize hby hzs hE.pos v n cs hown ad 0 c [] (by simp) (by simp) (by simp) (by unfold maxLen; omega) hbytes hbase
      exact ⟨v', w', [], hrun, Row.nil, h2, h3, h5⟩
  · obtain ⟨b, o, cells, rfl, hb, hr, hcell⟩ := hs.at_ h0
    obtain ⟨v', w', hrun, h2, h3, _, h5⟩ := run_append_own_at (P := P) w base t ty e i z T.size bytes hE.under hi hz hsize hby hzs hE.pos v n cs hown ⟨b, o, none⟩ m c cells (by rw [hr.len, hs.hn])
      (fun j u hu => by
        rw [← hcell j u hu]
        congr 1
        unfold Addr.add
        split
        · rename_i h; subst h; rfl
        · rfl) hr.one_ (by unfold maxLen; omega) hbytes hbase
    exact ⟨v', w', cells, hrun, hr, h2, h3, h5⟩

theorem wp_apd {o : Oper} {a : Act} {K : Act → World → Prop} {Q : Exit → Act → World → Prop} (s x : Operand) (t : TypeId)
    (ho : o.op = .call { callee := .builtin .append, args := #[s, x], argTypes := #[t, t] })
    {α : Type} {T : Ty α} {e : TypeId} {bytes base : Nat} (hE : ElemOf P t e T.size bytes) {v : Value} {n : Nat} {cs : List Value} (hv : a.eval s = v) (hown : w.ownsRow base e T.size v n cs)
    {D : Nat → Prop} {A : Option Addr} {m c : Nat} {ys : List α} (hx : a.eval x = .slice A m c) (hs : Sl T w D A m c ys) (h63 : n + m ≤ 140737488355328) (hbytes : (n + m) * bytes ≤ 140737488355328) (hbase : base ≤ w.heap.size)
    (h : ∀ v' w' news, Row T w D ys news → w'.ownsRow base e T.size v' (n + m) (cs ++ news) → w.grownBy w' v.ownBlock → (v'.ownBlock = v.ownBlock ∨ v'.ownBlock = some w.heap.size) → K (a.put o.dst v') w') : o.wp P a w K Q := by
  obtain ⟨v', w', news, hrun, h1, h2, h3, h4⟩ := run_apd (P := P) (ty := o.type) w hE hown hs h63 hbytes hbase
  unfold Oper.wp execOp
  simp only [ho, resolve, invoke, builtin, Sem.run_bind, Sem.run_pure, Result.andThen_ok, List.map_toArray, List.map_cons, List.map_nil, hv, hx, hrun]
  exact h v' w' news h1 h2 h3 h4

theorem wpList_apd {ops : Array Oper} {rest : List Oper} {o : Oper} {a : Act} {Q : Exit → Act → World → Prop} (hgd : o.guard = none) (s x : Operand) (t : TypeId)
    (ho : o.op = .call { callee := .builtin .append, args := #[s, x], argTypes := #[t, t] })
    {α : Type} {T : Ty α} {e : TypeId} {bytes base : Nat} (hE : ElemOf P t e T.size bytes) {v : Value} {n : Nat} {cs : List Value} (hv : a.eval s = v) (hown : w.ownsRow base e T.size v n cs)
    {D : Nat → Prop} {A : Option Addr} {m c : Nat} {ys : List α} (hx : a.eval x = .slice A m c) (hs : Sl T w D A m c ys) (h63 : n + m ≤ 140737488355328) (hbytes : (n + m) * bytes ≤ 140737488355328) (hbase : base ≤ w.heap.size)
    (h : ∀ v' w' news, Row T w D ys news → w'.ownsRow base e T.size v' (n + m) (cs ++ news) → w.grownBy w' v.ownBlock → (v'.ownBlock = v.ownBlock ∨ v'.ownBlock = some w.heap.size) → wpList P ops Q rest (a.put o.dst v') w') : wpList P ops Q (o :: rest) a w :=
  wpList_plain hgd fun _ hK => wp_apd w s x t ho hE hv hown hx hs h63 hbytes hbase fun v' w' news h1 h2 h3 h4 => hK _ _ (h v' w' news h1 h2 h3 h4)
end

section
variable {P : Program} (w : World)
/-- append(own, source...): what is owned behind it reads as both lists. -/
theorem wpList_apo {ops : Array Oper} {rest : List Oper} {o : Oper} {a : Act} {Q : Exit → Act → World → Prop} (hgd : o.guard = none) (s x : Operand) (t : TypeId)
    (ho : o.op = .call { callee := .builtin .append, args := #[s, x], argTypes := #[t, t] })
    {α : Type} {T : Ty α} {e : TypeId} {bytes base : Nat} (hE : ElemOf P t e T.size bytes) {v : Value} {n : Nat} {xs : List α} {D : Nat → Prop} (hv : a.eval s = v) (hown : Own T w base e D v n xs) (hD : ∀ b, D b → b < w.heap.size ∧ some b ≠ v.ownBlock)
    {D' : Nat → Prop} {A : Option Addr} {m c : Nat} {ys : List α} (hx : a.eval x = .slice A m c) (hs : Sl T w D' A m c ys) (hD' : ∀ b, D' b → b < w.heap.size ∧ some b ≠ v.ownBlock) (h63 : n + m ≤ 140737488355328) (hbytes : (n + m) * bytes ≤ 140737488355328) (hbase : base ≤ w.heap.size)
    (h : ∀ v' w', Own T w' base e (fun b => D b ∨ D' b) v' (n + m) (xs ++ ys) → w.grownBy w' v.ownBlock → Below base w w' → (v'.ownBlock = v.ownBlock ∨ v'.ownBlock = some w.heap.size) → wpList P ops Q rest (a.put o.dst v') w') : wpList P ops Q (o :: rest) a w := by
  obtain ⟨cs, h1, h2⟩ := hown
  refine wpList_apd w hgd s x t ho hE hv h1 hx hs h63 hbytes hbase fun v' w' news hn ho' hg hb => ?_
  have hk : ∀ {D : Nat → Prop}, (∀ b, D b → b < w.heap.size ∧ some b ≠ v.ownBlock) → ∀ p : Addr, D p.block → w'.cell? p = w.cell? p := fun hD p hp => World.cell?_of_block (hg.block p.block (hD _ hp).1 (hD _ hp).2)
  exact h v' w' ⟨_, ho', ((h2.keep (hk hD)).more fun _ h => .inl h).append ((hn.keep (hk hD')).more fun _ h => .inr h)⟩ hg ((Below.refl base w).grown hg hbase fun k hk => (h1.lt k hk).1) hb
end

/-- A row of strings that the call owns. -/
def OwnS (w : World) (base : Nat) (e : TypeId) (v : Value) (n : Nat) (xs : List ByteArray) : Prop := Own tStr w base e (fun _ => False) v n xs

/-- One string more, or a slice of strings more. -/
theorem wpList_aps {P : Program} (w : World) {ops : Array Oper} {rest : List Oper} {o : Oper} {a : Act} {Q : Exit → Act → World → Prop} (hgd : o.guard = none) (s x : Operand) (t : TypeId)
    (ho : o.op = .call { callee := .builtin .append, args := #[s, x], argTypes := #[t, t] })
    {e : TypeId} {bytes base : Nat} (hE : ElemOf P t e 1 bytes) {v : Value} {n : Nat} {xs : List ByteArray} (hv : a.eval s = v) (hown : OwnS w base e v n xs)
    {D' : Nat → Prop} {A : Option Addr} {m c : Nat} {ys : List ByteArray} (hx : a.eval x = .slice A m c) (hs : Sl tStr w D' A m c ys) (h63 : n + m ≤ 140737488355328) (hbytes : (n + m) * bytes ≤ 140737488355328) (hbase : base ≤ w.heap.size)
    (h : ∀ v' w', OwnS w' base e v' (n + m) (xs ++ ys) → w.grownBy w' v.ownBlock → Below base w w' → (v'.ownBlock = v.ownBlock ∨ v'.ownBlock = some w.heap.size) → wpList P ops Q rest (a.put o.dst v') w') : wpList P ops Q (o :: rest) a w := by
  obtain ⟨cs, h1, h2⟩ := hown
  refine wpList_apd (T := tStr) w hgd s x t ho hE hv h1 hx hs h63 hbytes hbase fun v' w' news hn ho' hg hb => ?_
  exact h v' w' ⟨_, ho', (row_str h2).append (row_str hn)⟩ hg ((Below.refl base w).grown hg hbase fun k hk => (h1.lt k hk).1) hb

theorem OwnS.made (w : World) (base : Nat) (e : TypeId) (hb : base ≤ w.heap.size) : OwnS (w.alloc (.cells #[] e)) base e (.slice (some ⟨w.heap.size, 0, none⟩) 0 0) 0 [] :=
  ⟨[], World.ownsRow_made w #[] 0 hb (by simp) (by simp), Row.nil⟩
theorem OwnS.al {w : World} {base : Nat} {e : TypeId} {v : Value} {n : Nat} {xs : List ByteArray} (h : OwnS w base e v n xs) (o : Obj) : OwnS (w.alloc o) base e v n xs := Own.alloc h o fun _ h => h.elim
theorem OwnS.sl {w : World} {base : Nat} {e : TypeId} {v : Value} {n : Nat} {xs : List ByteArray} (h : OwnS w base e v n xs) (hn : n * 16 ≤ 140737488355328) : ∃ A c, v = .slice A n c ∧ Sl tStr w (lt w.heap.size) A n c xs := by
  obtain ⟨A, c, rfl⟩ := Own.form h
  exact ⟨A, c, rfl, (Own.sl h (by decide) hn).more fun b hb => hb.elim False.elim fun hb => hb.2⟩

/-- Data that lie alike in whatever world: nothing is led to. -/
def Flat {α : Type} (T : Ty α) : Prop := ∀ {w w' : World} {D D' : Nat → Prop} {x : α} {cs : List Value}, T.rep w D x cs → T.rep w' D' x cs
theorem flatInt (k : IntKind) : Flat (tInt k) := fun h => h
theorem flatStr : Flat tStr := fun h => h
theorem flatPair {α β : Type} {S : Ty α} {T : Ty β} (hS : Flat S) (hT : Flat T) : Flat (tPair S T) := fun h => by
  obtain ⟨c1, c2, rfl, h1, h2⟩ := h
  exact ⟨c1, c2, rfl, hS h1, hT h2⟩
theorem Row.flat {α : Type} {T : Ty α} (hT : Flat T) {w w' : World} {D D' : Nat → Prop} {xs : List α} {cs : List Value} (h : Row T w D xs cs) : Row T w' D' xs cs := by
  induction xs generalizing cs with
  | nil => exact h
  | cons x xs ih =>
    obtain ⟨c1, c2, rfl, h1, h2⟩ := h
    exact ⟨c1, c2, rfl, hT h1, ih h2⟩
theorem Own.flat {α : Type} {T : Ty α} (hT : Flat T) {w : World} {base : Nat} {e : TypeId} {D D' : Nat → Prop} {v : Value} {n : Nat} {xs : List α} (h : Own T w base e D v n xs) : Own T w base e D' v n xs := by
  obtain ⟨cells, h1, h2⟩ := h
  exact ⟨cells, h1, h2.flat hT⟩
/-- A row of such data that the call owns. -/
def OwnF {α : Type} (T : Ty α) (w : World) (base : Nat) (e : TypeId) (v : Value) (n : Nat) (xs : List α) : Prop := Own T w base e (fun _ => False) v n xs
section
variable {α : Type} {T : Ty α} {w w' : World} {base : Nat} {e : TypeId} {v : Value} {n : Nat} {xs : List α}
theorem OwnF.nil (w : World) (base : Nat) (e : TypeId) : OwnF T w base e (.slice none 0 0) 0 ([] : List α) := Own.nil _ _ _ _
theorem OwnF.made (w : World) (base : Nat) (e : TypeId) (hb : base ≤ w.heap.size) : OwnF T (w.alloc (.cells #[] e)) base e (.slice (some ⟨w.heap.size, 0, none⟩) 0 0) 0 ([] : List α) :=
  ⟨[], World.ownsRow_made w #[] 0 hb (by simp) (by simp), Row.nil⟩
theorem OwnF.al (h : OwnF T w base e v n xs) (o : Obj) : OwnF T (w.alloc o) base e v n xs := Own.alloc h o fun _ h => h.elim
theorem OwnF.below {B : Nat} (h : OwnF T w base e v n xs) (hb : Below B w w') (hv : w.heap.size ≤ B) : OwnF T w' base e v n xs := Own.below h hb (fun k hk => Nat.lt_of_lt_of_le (Own.lt h k hk).2 hv) fun _ h => h.elim
theorem OwnF.drew (h : OwnF T w base e v n xs) : OwnF T w.drew base e v n xs := Own.drew h
theorem OwnF.sl (h : OwnF T w base e v n xs) (hpos : 0 < T.size) (hn : n * T.bytes ≤ 140737488355328) : ∃ A c, v = .slice A n c ∧ Sl T w (lt w.heap.size) A n c xs := by
  obtain ⟨A, c, rfl⟩ := Own.form h
  exact ⟨A, c, rfl, (Own.sl h hpos hn).more fun b hb => hb.elim False.elim fun hb => hb.2⟩
end
/-- append to such a row: one more, or a slice of them. -/
theorem wpList_apf {P : Program} (w : World) {ops : Array Oper} {rest : List Oper} {o : Oper} {a : Act} {Q : Exit → Act → World → Prop} {α : Type} {T : Ty α} (hT : Flat T) (hgd : o.guard = none) (s x : Operand) (t : TypeId)
    (ho : o.op = .call { callee := .builtin .append, args := #[s, x], argTypes := #[t, t] })
    {e : TypeId} {bytes base : Nat} (hE : ElemOf P t e T.size bytes) {v : Value} {n : Nat} {xs : List α} (hv : a.eval s = v) (hown : OwnF T w base e v n xs)
    {D' : Nat → Prop} {A : Option Addr} {m c : Nat} {ys : List α} (hx : a.eval x = .slice A m c) (hs : Sl T w D' A m c ys) (h63 : n + m ≤ 140737488355328) (hbytes : (n + m) * bytes ≤ 140737488355328) (hbase : base ≤ w.heap.size)
    (h : ∀ v' w', OwnF T w' base e v' (n + m) (xs ++ ys) → w.grownBy w' v.ownBlock → Below base w w' → (v'.ownBlock = v.ownBlock ∨ v'.ownBlock = some w.heap.size) → wpList P ops Q rest (a.put o.dst v') w') : wpList P ops Q (o :: rest) a w := by
  obtain ⟨cs, h1, h2⟩ := hown
  refine wpList_apd (T := T) w hgd s x t ho hE hv h1 hx hs h63 hbytes hbase fun v' w' news hn ho' hg hb => ?_
  exact h v' w' ⟨_, ho', (h2.flat hT).append (hn.flat hT)⟩ hg ((Below.refl base w).grown hg hbase fun k hk => (h1.lt k hk).1) hb
/-- One new element in a block of its own. -/
theorem Sl.one_new {α : Type} {T : Ty α} (hT : Flat T) (w : World) (e : TypeId) {x : α} {cs : List Value} (hr : T.rep w (fun _ => False) x cs) (hb : T.bytes ≤ 140737488355328) : Sl T (w.alloc (.cells cs.toArray e)) (lt (w.heap.size + 1)) (some ⟨w.heap.size, 0, none⟩) 1 1 [x] :=
  Sl.fresh (B := w.heap.size) e (Row.one (hT hr)) (Nat.le_refl _) rfl (by omega)

/-- append of one element that lies in a block of its own: the run. -/
theorem run_ap1 {P : Program} (w : World) {t ty : TypeId} {α : Type} {T : Ty α} {e : TypeId} {bytes base : Nat} (hE : ElemOf P t e T.size bytes) {v : Value} {n : Nat} {xs : List α} {D : Nat → Prop} (hown : Own T w base e D v n xs) (hD : ∀ b, D b → b < w.heap.size ∧ some b ≠ v.ownBlock)
    {b off c : Nat} {y : α} {cs : List Value} (hr : T.rep w D y cs) (hcell : ∀ j u, cs[j]? = some u → w.cell? ⟨b, off + j, none⟩ = some u) (h63 : n + 1 ≤ 140737488355328) (hbytes : (n + 1) * bytes ≤ 140737488355328) (hbase : base ≤ w.heap.size) :
    ∃ v' w', (Builtin.append_ #[t, t] ty #[v, .slice (some ⟨b, off, none⟩) 1 c]).run P w = .ok v' w' ∧ Own T w' base e D v' (n + 1) (xs ++ [y]) ∧ w.grownBy w' v.ownBlock ∧ Below base w w' ∧ (v'.ownBlock = v.ownBlock ∨ v'.ownBlock = some w.heap.size) := by
  obtain ⟨cells, h1, h2⟩ := hown
  obtain ⟨i, z, hi, hz, hsize, hby, hzs⟩ := hE.info
  obtain ⟨v', w', hrun, ho', hg, _, hb⟩ := run_append_own_at (P := P) w base t ty e i z T.size bytes hE.under hi hz hsize hby hzs hE.pos v n cells h1 ⟨b, off, none⟩ 1 c cs (by rw [T.len hr, Nat.one_mul])
    (fun j u hu => by
      rw [← hcell j u hu]
      congr 1
      unfold Addr.add
      split
      · rename_i h; subst h; rfl
      · rfl) (T.one hr) (by unfold maxLen; omega) hbytes hbase
  have hk : ∀ p : Addr, D p.block → w'.cell? p = w.cell? p := fun p hp => World.cell?_of_block (hg.block p.block (hD _ hp).1 (hD _ hp).2)
  exact ⟨v', w', hrun, ⟨_, ho', (h2.keep hk).append (Row.one (T.keep hr hk))⟩, hg, (Below.refl base w).grown hg hbase fun k hk => (h1.lt k hk).1, hb⟩

/-- .. at the walk. -/
theorem wpList_ap1 {P : Program} (w : World) {ops : Array Oper} {rest : List Oper} {o : Oper} {a : Act} {Q : Exit → Act → World → Prop} (hgd : o.guard = none) (s x : Operand) (t : TypeId)
    (ho : o.op = .call { callee := .builtin .append, args := #[s, x], argTypes := #[t, t] })
    {α : Type} {T : Ty α} {e : TypeId} {bytes base : Nat} (hE : ElemOf P t e T.size bytes) {v : Value} {n : Nat} {xs : List α} {D : Nat → Prop} (hv : a.eval s = v) (hown : Own T w base e D v n xs) (hD : ∀ b, D b → b < w.heap.size ∧ some b ≠ v.ownBlock)
    {b off c : Nat} {y : α} {cs : List Value} (hx : a.eval x = .slice (some ⟨b, off, none⟩) 1 c) (hr : T.rep w D y cs) (hcell : ∀ j u, cs[j]? = some u → w.cell? ⟨b, off + j, none⟩ = some u) (h63 : n + 1 ≤ 140737488355328) (hbytes : (n + 1) * bytes ≤ 140737488355328) (hbase : base ≤ w.heap.size)
    (h : ∀ v' w', Own T w' base e D v' (n + 1) (xs ++ [y]) → w.grownBy w' v.ownBlock → Below base w w' → (v'.ownBlock = v.ownBlock ∨ v'.ownBlock = some w.heap.size) → wpList P ops Q rest (a.put o.dst v') w') : wpList P ops Q (o :: rest) a w := by
  obtain ⟨v', w', hrun, h1, h2, h3, h4⟩ := run_ap1 (P := P) (t := t) (ty := o.type) (c := c) w hE hown hD hr hcell h63 hbytes hbase
  refine wpList_plain hgd fun K hK => ?_
  unfold Oper.wp execOp
  simp only [ho, resolve, invoke, builtin, Sem.run_bind, Sem.run_pure, Result.andThen_ok, List.map_toArray, List.map_cons, List.map_nil, hv, hx, hrun]
  exact hK _ _ (h v' w' h1 h2 h3 h4)

/-- .. at a step of a region that draws its order. -/
theorem step_ap1 {P : Program} (w : World) {ops : Array Oper} {o : Oper} {a : Act} {K : Act → World → Prop} {Q : Exit → Act → World → Prop} {E : Prop} (hgd : o.guard = none) (s x : Operand) (t : TypeId)
    (ho : o.op = .call { callee := .builtin .append, args := #[s, x], argTypes := #[t, t] })
    {α : Type} {T : Ty α} {e : TypeId} {bytes base : Nat} (hE : ElemOf P t e T.size bytes) {v : Value} {n : Nat} {xs : List α} {D : Nat → Prop} (hv : a.eval s = v) (hown : Own T w base e D v n xs) (hD : ∀ b, D b → b < w.heap.size ∧ some b ≠ v.ownBlock)
    {b off c : Nat} {y : α} {cs : List Value} (hx : a.eval x = .slice (some ⟨b, off, none⟩) 1 c) (hr : T.rep w D y cs) (hcell : ∀ j u, cs[j]? = some u → w.cell? ⟨b, off + j, none⟩ = some u) (h63 : n + 1 ≤ 140737488355328) (hbytes : (n + 1) * bytes ≤ 140737488355328) (hbase : base ≤ w.heap.size)
    (h : ∀ v' w', Own T w' base e D v' (n + 1) (xs ++ [y]) → w.grownBy w' v.ownBlock → Below base w w' → (v'.ownBlock = v.ownBlock ∨ v'.ownBlock = some w.heap.size) → K (a.put o.dst v') w') :
    if Region.wanted o (yielded ops a.tmps) = true then Oper.wp P o a w K Q else E := by
  obtain ⟨v', w', hrun, h1, h2, h3, h4⟩ := run_ap1 (P := P) (t := t) (ty := o.type) (c := c) w hE hown hD hr hcell h63 hbytes hbase
  rw [if_pos (by simp [Region.wanted, hgd])]
  unfold Oper.wp execOp
  simp only [ho, resolve, invoke, builtin, Sem.run_bind, Sem.run_pure, Result.andThen_ok, List.map_toArray, List.map_cons, List.map_nil, hv, hx, hrun]
  exact h v' w' h1 h2 h3 h4
theorem Own.cut_to {α : Type} {T : Ty α} {w : World} {base : Nat} {e : TypeId} {D : Nat → Prop} {A : Option Addr} {n c k : Nat} {xs : List α} (h : Own T w base e D (.slice A n c) n xs) (hk : k ≤ n) : Own T w base e D (.slice A k c) k (xs.take k) := by
  obtain ⟨cells, h1, h2⟩ := h
  have hl := h1.1
  have hm := Nat.mul_le_mul_right T.size hk
  refine ⟨cells.take (k * T.size), ⟨by rw [List.length_take]; omega, ?_⟩, h2.take k⟩
  rcases h1.2 with ⟨hv, h0⟩ | ⟨g, cap, cur, hv, hb, hh, hnc, hcm, hsz, htk⟩
  · injection hv with hA hn hc
    subst hA hc
    exact .inl ⟨by rw [show k = 0 from by omega], by omega⟩
  · injection hv with hA hn hc
    subst hA hc
    exact .inr ⟨g, c, cur, rfl, hb, hh, by omega, hcm, hsz, by rw [← htk, List.take_take, Nat.min_eq_left hm]⟩
theorem Own.down {α : Type} {T : Ty α} {w : World} {base base' : Nat} {e : TypeId} {D : Nat → Prop} {v : Value} {n : Nat} {xs : List α} (h : Own T w base e D v n xs) (hb : base' ≤ base) : Own T w base' e D v n xs := by
  obtain ⟨cells, h1, h2⟩ := h
  refine ⟨cells, ⟨h1.1, ?_⟩, h2⟩
  rcases h1.2 with h3 | ⟨g, cap, cur, hv, hb', rest⟩
  · exact .inl h3
  · exact .inr ⟨g, cap, cur, hv, Nat.le_trans hb hb', rest⟩

end Go.Cl

/-
A row of cells written in place: the block behind it; slices.Delete's and clear's ways with it. No program in sight.
-/
namespace Go.Cl
open Go.RowKit

theorem heap_setCells {b : Nat} {e : TypeId} {fr : Nat × Nat} : ∀ (vs : List Value) (o : Nat) (w : World) (cur : Array Value), w.heap[b]? = some (.cells cur e fr) → o + vs.length ≤ cur.size →
    ∃ cur', (w.setCells b o vs).heap[b]? = some (.cells cur' e fr) ∧ cur'.size = cur.size ∧ cur'.toList = cur.toList.take o ++ vs ++ cur.toList.drop (o + vs.length)
  | [], o, w, cur, h, _ => ⟨cur, h, rfl, by simp⟩
  | v :: r, o, w, cur, h, hl => by
    have h1 : (w.setCell ⟨b, o, none⟩ v).heap[b]? = some (.cells (cur.setIfInBounds o v) e fr) := by simp [World.setCell, Array.getElem?_modify, h]
    obtain ⟨cur', h2, h3, h4⟩ := heap_setCells r (o + 1) _ _ h1 (by simp at hl ⊢; omega)
    refine ⟨cur', h2, by simpa using h3, ?_⟩
    have hlt : o < cur.toList.length := by simp at hl ⊢; omega
    rw [h4, Array.toList_setIfInBounds]
    have e1 : (cur.toList.set o v).take (o + 1) = cur.toList.take o ++ [v] := by
      rw [List.take_add_one, List.take_set_of_le (by omega), List.getElem?_set_self hlt]
      rfl
    have e2 : (cur.toList.set o v).drop (o + 1 + r.length) = cur.toList.drop (o + 1 + r.length) := List.drop_set_of_lt (by omega)
    rw [e1, e2]
    simp [Nat.add_comm 1, Nat.add_assoc]
theorem heap_setCells_other {b k : Nat} (hk : k ≠ b) : ∀ (vs : List Value) (o : Nat) (w : World), (w.setCells b o vs).heap[k]? = w.heap[k]?
  | [], _, _ => rfl
  | v :: r, o, w => by
    rw [World.setCells, heap_setCells_other hk r]
    exact Below.heap_setCell _ _ _ _ hk
theorem grown_setCells (b : Nat) : ∀ (vs : List Value) (o : Nat) (w : World), w.grownBy (w.setCells b o vs) (some b)
  | [], _, w => World.grownBy.refl w _
  | v :: r, o, w => by
    have h1 : w.grownBy (w.setCell ⟨b, o, none⟩ v) (some b) := ⟨rfl, rfl, rfl, by simp, fun k _ hk => Below.heap_setCell _ _ _ _ (fun e => hk (by rw [e]))⟩
    have h2 := grown_setCells b r (o + 1) (w.setCell ⟨b, o, none⟩ v)
    exact ⟨h2.os.trans h1.os, h2.tape.trans h1.tape, h2.output.trans h1.output, Nat.le_trans h1.size h2.size, fun k hk hn => (h2.block k (Nat.lt_of_lt_of_le hk h1.size) hn).trans (h1.block k hk hn)⟩
theorem grownBy.trans' {a b c : World} {row : Option Nat} (h1 : a.grownBy b row) (h2 : b.grownBy c row) : a.grownBy c row :=
  ⟨h2.os.trans h1.os, h2.tape.trans h1.tape, h2.output.trans h1.output, Nat.le_trans h1.size h2.size, fun k hk hn => (h2.block k (Nat.lt_of_lt_of_le hk h1.size) hn).trans (h1.block k hk hn)⟩

/-- clear on one element. -/
theorem run_clear_one {P : Program} (w : World) (t e ty : TypeId) (z : Value) (zs : List Value) (ht : P.underlying t = some (.slice e)) (hv : ∀ w, (zeroValue e).run P w = .ok z w) (hz : (Builtin.zeroCells z.cells 1).toList = zs) (h1 : ∀ v ∈ zs, v.oneCell' = true) (b o c : Nat)
    (hc : ∀ j, j < zs.length → (w.cell? ⟨b, o + j, none⟩).isSome = true) (hf : ∀ j, j < zs.length → w.frozen? ⟨b, o + j, none⟩ = false) :
    (Builtin.clear_ #[t] ty #[.slice (some ⟨b, o, none⟩) 1 c]).run P w = .ok (.tuple #[]) (w.setCells b o zs) := by
  have hst := run_storeCells_cells (P := P) b o zs 0 w (by simpa using hc) (by simpa using hf) h1
  simp only [Nat.add_zero] at hst
  simp [Builtin.clear_, run_underlying ht, hv, hz, hst]

/-- Behind 'append(s[:i], s[i+1:]...)' and 'clear' of the last one: the row without that element. -/
theorem ownsRow_cut {w : World} {base g n c size i : Nat} {e : TypeId} {cells zs : List Value} (h : w.ownsRow base e size (.slice (some ⟨g, 0, none⟩) n c) n cells) (hi : i < n) (hz : zs.length = size) :
    ((w.drew.setCells g (0 + i * size) (cells.drop ((i + 1) * size))).setCells g ((n - 1) * size) zs).ownsRow base e size (.slice (some ⟨g, 0, none⟩) (n - 1) c) (n - 1) (cells.take (i * size) ++ cells.drop ((i + 1) * size)) := by
  have hlen := h.1
  rcases h.2 with ⟨hv, _⟩ | ⟨g', cap, cur, hv, hb, hh, hnc, hcm, hsz, htk⟩
  · cases hv
  · simp only [Value.slice.injEq, Option.some.injEq, Addr.mk.injEq, and_true, true_and] at hv
    obtain ⟨rfl, rfl⟩ := hv
    have m1 : (i + 1) * size ≤ n * size := Nat.mul_le_mul_right _ (by omega)
    have m2 : n * size ≤ c * size := Nat.mul_le_mul_right _ hnc
    have m3 : (n - 1) * size + size = n * size := by rw [← Nat.succ_mul]; congr 1; omega
    have m4 : i * size + size = (i + 1) * size := by rw [Nat.succ_mul]
    have hcl : cur.toList.length = c * size := by simpa using hsz
    have hn1 : (cells.drop ((i + 1) * size)).length = n * size - (i + 1) * size := by rw [List.length_drop, hlen]
    obtain ⟨cur1, h1, h2, h3⟩ := heap_setCells (cells.drop ((i + 1) * size)) (0 + i * size) w.drew cur hh (by omega)
    obtain ⟨cur2, h4, h5, h6⟩ := heap_setCells zs ((n - 1) * size) _ cur1 h1 (by omega)
    refine ⟨by rw [List.length_append, List.length_take, hn1]; omega, .inr ⟨g, c, cur2, rfl, hb, h4, by omega, hcm, by omega, ?_⟩⟩
    rw [h6, List.append_assoc, List.take_append_of_le_length (by rw [List.length_take]; simp; omega), List.take_take, Nat.min_self, h3, ← htk, List.take_append_of_le_length (by simp; omega)]
    rw [List.take_of_length_le (by simp; omega), Nat.zero_add, List.take_take, Nat.min_eq_left (by omega)]
theorem List.take_drop_erase {α : Type} (l : List α) (i : Nat) : l.take i ++ l.drop (i + 1) = l.eraseIdx i := (List.eraseIdx_eq_take_drop_succ l i).symm

end Go.Cl
