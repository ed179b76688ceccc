/-
How data lie in memory: what a value reads as in a world, and what keeps it so. No program in sight.
-/
import Derived.WalkKit
import Derived.Below
import Derived.Lib.Hide
namespace Go.Cl
open Go.RowKit

/-- How data of a type lie in cells: 'rep w D x cs': the cells cs read as x in the world w; what they lead to lies in blocks of D. -/
structure Ty (α : Type) where
  size : Nat
  bytes : Nat
  pos : 1 ≤ bytes
  rep : World → (Nat → Prop) → α → List Value → Prop
  len : ∀ {w : World} {D : Nat → Prop} {x : α} {cs : List Value}, rep w D x cs → cs.length = size
  keep : ∀ {w w' : World} {D : Nat → Prop} {x : α} {cs : List Value}, rep w D x cs → (∀ p : Addr, D p.block → w'.cell? p = w.cell? p) → rep w' D x cs
  more : ∀ {w : World} {D D' : Nat → Prop} {x : α} {cs : List Value}, rep w D x cs → (∀ b, D b → D' b) → rep w D' x cs
  one : ∀ {w : World} {D : Nat → Prop} {x : α} {cs : List Value}, rep w D x cs → ∀ u ∈ cs, u.oneCell' = true

/-- A row of cells that reads as a list. -/
def Row {α : Type} (T : Ty α) (w : World) (D : Nat → Prop) : List α → List Value → Prop
  | [], cs => cs = []
  | x :: xs, cs => ∃ c1 c2, cs = c1 ++ c2 ∧ T.rep w D x c1 ∧ Row T w D xs c2

section
variable {α : Type} {T : Ty α} {w w' : World} {D D' : Nat → Prop}
theorem Row.len {xs : List α} {cs : List Value} (h : Row T w D xs cs) : cs.length = xs.length * T.size := by
  induction xs generalizing cs with
  | nil => have : cs = [] := h
           subst this; simp
  | cons x xs ih =>
    obtain ⟨c1, c2, rfl, h1, h2⟩ := h
    rw [List.length_append, T.len h1, ih h2, List.length_cons, Nat.succ_mul, Nat.add_comm]
theorem Row.keep {xs : List α} {cs : List Value} (h : Row T w D xs cs) (hk : ∀ p : Addr, D p.block → w'.cell? p = w.cell? p) : Row T w' D xs cs := by
  induction xs generalizing cs with
  | nil => exact h
  | cons x xs ih =>
    obtain ⟨c1, c2, rfl, h1, h2⟩ := h
    exact ⟨c1, c2, rfl, T.keep h1 hk, ih h2⟩
theorem Row.more {xs : List α} {cs : List Value} (h : Row T w D xs cs) (hk : ∀ b, D b → D' b) : Row T w D' xs cs := by
  induction xs generalizing cs with
  | nil => exact h
  | cons x xs ih =>
    obtain ⟨c1, c2, rfl, h1, h2⟩ := h
    exact ⟨c1, c2, rfl, T.more h1 hk, ih h2⟩
theorem Row.nil : Row T w D ([] : List α) [] := rfl
theorem Row.append {xs ys : List α} {cs ds : List Value} (h : Row T w D xs cs) (k : Row T w D ys ds) : Row T w D (xs ++ ys) (cs ++ ds) := by
  induction xs generalizing cs with
  | nil => have : cs = [] := h
           subst this; simpa using k
  | cons x xs ih =>
    obtain ⟨c1, c2, rfl, h1, h2⟩ := h
    exact ⟨c1, c2 ++ ds, by simp, h1, ih h2⟩
theorem Row.one {x : α} {cs : List Value} (h : T.rep w D x cs) : Row T w D [x] cs := ⟨cs, [], by simp, h, rfl⟩
theorem Row.one_ {xs : List α} {cs : List Value} (h : Row T w D xs cs) : ∀ u ∈ cs, u.oneCell' = true := by
  induction xs generalizing cs with
  | nil => have : cs = [] := h
           subst this; simp
  | cons x xs ih =>
    obtain ⟨c1, c2, rfl, h1, h2⟩ := h
    intro u hu
    rcases List.mem_append.1 hu with hu | hu
    · exact T.one h1 u hu
    · exact ih h2 u hu
theorem Row.at_ {xs : List α} {cs : List Value} (h : Row T w D xs cs) {i : Nat} {x : α} (hx : xs[i]? = some x) :
    ∃ c, T.rep w D x c ∧ (∀ j u, c[j]? = some u → cs[i * T.size + j]? = some u) := by
  induction xs generalizing cs i with
  | nil => simp at hx
  | cons y xs ih =>
    obtain ⟨c1, c2, rfl, h1, h2⟩ := h
    have hl := T.len h1
    match i with
    | 0 =>
      have hy : y = x := by simpa using hx
      subst hy
      refine ⟨c1, h1, fun j u hj => ?_⟩
      have := (List.getElem?_eq_some_iff.1 hj).1
      rw [List.getElem?_append_left (by omega)]
      simpa using hj
    | i + 1 =>
      have hx' : xs[i]? = some x := by simpa using hx
      obtain ⟨c, hc, hcell⟩ := ih h2 hx'
      refine ⟨c, hc, fun j u hj => ?_⟩
      rw [Nat.succ_mul, List.getElem?_append_right (by omega)]
      rw [show i * T.size + T.size + j - c1.length = i * T.size + j from by omega]
      exact hcell j u hj
theorem Row.take {xs : List α} {cs : List Value} (h : Row T w D xs cs) (k : Nat) : Row T w D (xs.take k) (cs.take (k * T.size)) := by
  induction xs generalizing cs k with
  | nil => have : cs = [] := h
           subst this; simp; exact Row.nil
  | cons x xs ih =>
    obtain ⟨c1, c2, rfl, h1, h2⟩ := h
    have hl := T.len h1
    match k with
    | 0 => simp; exact Row.nil
    | k + 1 =>
      have e : (c1 ++ c2).take ((k + 1) * T.size) = c1 ++ c2.take (k * T.size) := by
        rw [Nat.succ_mul, List.take_append, List.take_of_length_le (by omega), show k * T.size + T.size - c1.length = k * T.size from by omega]
      rw [e]
      exact ⟨c1, _, rfl, h1, ih h2 k⟩
theorem Row.drop {xs : List α} {cs : List Value} (h : Row T w D xs cs) (k : Nat) : Row T w D (xs.drop k) (cs.drop (k * T.size)) := by
  induction xs generalizing cs k with
  | nil => have : cs = [] := h
           subst this; simp; exact Row.nil
  | cons x xs ih =>
    match k with
    | 0 => simpa using h
    | k + 1 =>
      obtain ⟨c1, c2, rfl, h1, h2⟩ := h
      have hl := T.len h1
      have e : (c1 ++ c2).drop ((k + 1) * T.size) = c2.drop (k * T.size) := by
        rw [Nat.succ_mul, List.drop_append, List.drop_of_length_le (by omega), show k * T.size + T.size - c1.length = k * T.size from by omega, List.nil_append]
      rw [e]
      exact ih h2 k
end

/-- A slice's value (address, length, capacity) that reads as a list; what it leads to lies in blocks of D. -/
structure Sl {α : Type} (T : Ty α) (w : World) (D : Nat → Prop) (A : Option Addr) (n c : Nat) (xs : List α) : Prop where
  hn : n = xs.length
  hc : n ≤ c
  hb : n * T.bytes ≤ 140737488355328
  hm : c ≤ maxLen
  nil_ : A = none → c = 0
  at_ : 0 < n → ∃ b o cells, A = some ⟨b, o, none⟩ ∧ D b ∧ Row T w D xs cells ∧ ∀ j u, cells[j]? = some u → w.cell? ⟨b, o + j, none⟩ = some u

section
variable {α : Type} {T : Ty α} {w w' : World} {D D' : Nat → Prop} {A : Option Addr} {n c : Nat} {xs : List α}
theorem Sl.keep (h : Sl T w D A n c xs) (hk : ∀ p : Addr, D p.block → w'.cell? p = w.cell? p) : Sl T w' D A n c xs :=
  ⟨h.hn, h.hc, h.hb, h.hm, h.nil_, fun h0 => by
    obtain ⟨b, o, cells, e, hb, hr, hcell⟩ := h.at_ h0
    exact ⟨b, o, cells, e, hb, hr.keep hk, fun j u hj => (hk ⟨b, o + j, none⟩ hb).trans (hcell j u hj)⟩⟩
theorem Sl.more (h : Sl T w D A n c xs) (hk : ∀ b, D b → D' b) : Sl T w D' A n c xs :=
  ⟨h.hn, h.hc, h.hb, h.hm, h.nil_, fun h0 => by
    obtain ⟨b, o, cells, e, hb, hr, hcell⟩ := h.at_ h0
    exact ⟨b, o, cells, e, hk _ hb, hr.more hk, hcell⟩⟩
theorem Sl.nil : Sl T w D none 0 0 ([] : List α) := ⟨rfl, Nat.le_refl _, by simp, by simp, fun _ => rfl, fun h => absurd h (by omega)⟩
theorem Sl.cut_to (h : Sl T w D A n c xs) {k : Nat} (hk : k ≤ n) : Sl T w D A k c (xs.take k) := by
  refine ⟨?_, Nat.le_trans hk h.hc, Nat.le_trans (Nat.mul_le_mul_right _ hk) h.hb, h.hm, h.nil_, fun h0 => ?_⟩
  · have := h.hn
    rw [List.length_take]; omega
  · obtain ⟨b, o, cells, e, hb, hr, hcell⟩ := h.at_ (by omega)
    refine ⟨b, o, cells.take (k * T.size), e, hb, hr.take k, fun j u hu => hcell j u ?_⟩
    rw [List.getElem?_take] at hu
    split at hu
    · exact hu
    · cases hu
theorem Sl.small (h : Sl T w D A n c xs) : n ≤ 140737488355328 := Nat.le_trans (by have := Nat.mul_le_mul_left n T.pos; omega) h.hb
theorem Sl.drew (h : Sl T w D A n c xs) : Sl T w.drew D A n c xs := h.keep fun _ _ => rfl
/-- One element: where it lies, and its cells. -/
theorem Sl.get (h : Sl T w D A n c xs) {i : Nat} {x : α} (hx : xs[i]? = some x) :
    ∃ b o cs, A = some ⟨b, o, none⟩ ∧ D b ∧ T.rep w D x cs ∧ ∀ j u, cs[j]? = some u → w.cell? ⟨b, o + (i * T.size + j), none⟩ = some u := by
  have hi := (List.getElem?_eq_some_iff.1 hx).1
  obtain ⟨b, o, cells, e, hb, hr, hcell⟩ := h.at_ (by have := h.hn; omega)
  obtain ⟨cs, hcs, hj⟩ := hr.at_ hx
  exact ⟨b, o, cs, e, hb, hcs, fun j u hu => hcell _ u (hj j u hu)⟩
end

/-- Below a block's number. -/
def lt (B : Nat) : Nat → Prop := fun b => b < B

theorem keep_of_below {B B' : Nat} {w w' : World} (h : Below B' w w') (hB : B ≤ B') : ∀ p : Addr, lt B p.block → w'.cell? p = w.cell? p :=
  fun p hp => h.cell (p := p) (Nat.lt_of_lt_of_le hp hB)

section
variable {α : Type} {T : Ty α} {w w' : World} {A : Option Addr} {n c : Nat} {xs : List α} {B B' : Nat}
theorem Sl.below (h : Sl T w (lt B) A n c xs) (hb : Below B' w w') (hB : B ≤ B') : Sl T w' (lt B) A n c xs := h.keep (keep_of_below hb hB)
theorem Sl.al (h : Sl T w (lt B) A n c xs) (hB : B ≤ w.heap.size) (o : Obj) : Sl T (w.alloc o) (lt B) A n c xs := h.keep fun p hp => World.cell?_alloc_lt w o p (Nat.lt_of_lt_of_le hp hB)
theorem Sl.up (h : Sl T w (lt B) A n c xs) (hB : B ≤ B') : Sl T w (lt B') A n c xs := h.more fun _ hb => Nat.lt_of_lt_of_le hb hB
end

/-- The bytes of an integer kind. -/
def kindBytes : IntKind → Nat
  | .i8 | .u8 => 1
  | .i16 | .u16 => 2
  | .i32 | .u32 => 4
  | .i64 | .u64 => 8
/-- Integers. -/
def tInt (k : IntKind) : Ty Int where
  size := 1
  bytes := kindBytes k
  pos := by cases k <;> decide
  rep _ _ x cs := cs = [.int k x] ∧ (Lit.int k x).wf = true
  len := by rintro w D x cs ⟨rfl, _⟩; rfl
  one := by rintro w D x cs ⟨rfl, _⟩ u hu; simp at hu; subst hu; rfl
  keep := by rintro w w' D x cs h _; exact h
  more := by rintro w D D' x cs h _; exact h
/-- Bools. -/
def tBool : Ty Bool where
  size := 1
  bytes := 1
  pos := Nat.le_refl _
  rep _ _ x cs := cs = [.bool x]
  len := by rintro w D x cs rfl; rfl
  one := by rintro w D x cs rfl u hu; simp at hu; subst hu; rfl
  keep := by rintro w w' D x cs h _; exact h
  more := by rintro w D D' x cs h _; exact h
/-- Strings. -/
def tStr : Ty ByteArray where
  size := 1
  bytes := 16
  pos := by decide
  rep _ _ x cs := cs = [.string x] ∧ x.size ≤ 1152921504606846976
  len := by rintro w D x cs ⟨rfl, _⟩; rfl
  one := by rintro w D x cs ⟨rfl, _⟩ u hu; simp at hu; subst hu; rfl
  keep := by rintro w w' D x cs h _; exact h
  more := by rintro w D D' x cs h _; exact h
/-- Two things, one behind the other. -/
def tPair {α β : Type} (S : Ty α) (T : Ty β) : Ty (α × β) where
  size := S.size + T.size
  bytes := S.bytes + T.bytes
  pos := Nat.le_trans S.pos (Nat.le_add_right _ _)
  rep w D x cs := ∃ c1 c2, cs = c1 ++ c2 ∧ S.rep w D x.1 c1 ∧ T.rep w D x.2 c2
  len := by rintro w D x cs ⟨c1, c2, rfl, h1, h2⟩; rw [List.length_append, S.len h1, T.len h2]
  one := by
    rintro w D x cs ⟨c1, c2, rfl, h1, h2⟩ u hu
    rcases List.mem_append.1 hu with hu | hu
    · exact S.one h1 u hu
    · exact T.one h2 u hu
  keep := by rintro w w' D x cs ⟨c1, c2, rfl, h1, h2⟩ hk; exact ⟨c1, c2, rfl, S.keep h1 hk, T.keep h2 hk⟩
  more := by rintro w D D' x cs ⟨c1, c2, rfl, h1, h2⟩ hk; exact ⟨c1, c2, rfl, S.more h1 hk, T.more h2 hk⟩
/-- The same cells, read as another type of data. -/
def tMap {α β : Type} (S : Ty α) (f : β → α) (b : Nat) (hb : 1 ≤ b := by decide) : Ty β where
  size := S.size
  bytes := b
  pos := hb
  rep w D x cs := S.rep w D (f x) cs
  len h := S.len h
  one h := S.one h
  keep h hk := S.keep h hk
  more h hk := S.more h hk
/-- Slices. -/
def tSlice {α : Type} (T : Ty α) : Ty (List α) where
  size := 1
  bytes := 24
  pos := by decide
  rep w D xs cs := ∃ A n c, cs = [.slice A n c] ∧ Sl T w D A n c xs
  len := by rintro w D x cs ⟨A, n, c, rfl, _⟩; rfl
  one := by rintro w D x cs ⟨A, n, c, rfl, _⟩ u hu; simp at hu; subst hu; rfl
  keep := by rintro w w' D x cs ⟨A, n, c, rfl, h⟩ hk; exact ⟨A, n, c, rfl, h.keep hk⟩
  more := by rintro w D D' x cs ⟨A, n, c, rfl, h⟩ hk; exact ⟨A, n, c, rfl, h.more hk⟩

/-- Strings lie alike in whatever world. -/
theorem row_str {w w' : World} {D D' : Nat → Prop} {xs : List ByteArray} {cs : List Value} (h : Row tStr w D xs cs) : Row tStr w' D' xs cs := by
  induction xs generalizing cs with
  | nil => exact h
  | cons x xs ih =>
    obtain ⟨c1, c2, rfl, h1, h2⟩ := h
    exact ⟨c1, c2, rfl, h1, ih h2⟩
theorem row_int {k : IntKind} {w w' : World} {D D' : Nat → Prop} {xs : List Int} {cs : List Value} (h : Row (tInt k) w D xs cs) : Row (tInt k) w' D' xs cs := by
  induction xs generalizing cs with
  | nil => exact h
  | cons x xs ih =>
    obtain ⟨c1, c2, rfl, h1, h2⟩ := h
    exact ⟨c1, c2, rfl, h1, ih h2⟩
theorem row_strs {w : World} {D : Nat → Prop} (l : List ByteArray) (h : ∀ x ∈ l, x.size ≤ 1152921504606846976) : Row tStr w D l (l.map Value.string) := by
  induction l with
  | nil => exact Row.nil
  | cons x l ih => exact ⟨[.string x], _, rfl, ⟨rfl, h x (by simp)⟩, ih fun y hy => h y (by simp [hy])⟩
/-- One string of a slice of strings. -/
theorem Sl.str {w : World} {D : Nat → Prop} {A : Option Addr} {n c : Nat} {xs : List ByteArray} (h : Sl tStr w D A n c xs) {i : Nat} {x : ByteArray} (hx : xs[i]? = some x) :
    ∃ b o, A = some ⟨b, o, none⟩ ∧ D b ∧ w.cell? ⟨b, o + i, none⟩ = some (.string x) ∧ x.size ≤ 1152921504606846976 := by
  obtain ⟨b, o, cs, e, hb, ⟨rfl, hs⟩, hj⟩ := h.get hx
  exact ⟨b, o, e, hb, by simpa [tStr] using hj 0 _ rfl, hs⟩
/-- One integer of a slice of integers. -/
theorem Sl.int {k : IntKind} {w : World} {D : Nat → Prop} {A : Option Addr} {n c : Nat} {xs : List Int} (h : Sl (tInt k) w D A n c xs) {i : Nat} {x : Int} (hx : xs[i]? = some x) :
    ∃ b o, A = some ⟨b, o, none⟩ ∧ D b ∧ w.cell? ⟨b, o + i, none⟩ = some (.int k x) ∧ (Lit.int k x).wf = true := by
  obtain ⟨b, o, cs, e, hb, ⟨rfl, hs⟩, hj⟩ := h.get hx
  exact ⟨b, o, e, hb, by simpa [tInt] using hj 0 _ rfl, hs⟩

theorem cell_al {w : World} {p : Addr} {v : Value} (h : w.cell? p = some v) (o : Obj) : (w.alloc o).cell? p = some v := (World.cell?_alloc_lt w o p (World.block_lt_of_cell? w p h)).trans h
theorem cell_be {w w' : World} {p : Addr} {v : Value} (h : w.cell? p = some v) (hb : Below w.heap.size w w') : w'.cell? p = some v := (hb.cell (World.block_lt_of_cell? w p h)).trans h
theorem cell_blk {w : World} {g i : Nat} {cs : Array Value} {e : TypeId} {v : Value} (h : w.heap[g]? = some (.cells cs e (0, 0))) (hv : cs[i]? = some v) : w.cell? ⟨g, i, none⟩ = some v := (cell_of_row w g i cs e (0, 0) h).trans hv
theorem cell_new (w : World) (cs : List Value) (e : TypeId) : ∀ j u, cs[j]? = some u → (w.alloc (.cells cs.toArray e)).cell? ⟨w.heap.size, 0 + j, none⟩ = some u := fun j u hu => by
  rw [Nat.zero_add]
  exact cell_blk (heap_alloc_new w _) (by simpa using hu)
theorem free_blk {w : World} {g i : Nat} {cs : Array Value} {e : TypeId} (h : w.heap[g]? = some (.cells cs e (0, 0))) : w.frozen? ⟨g, i, none⟩ = false := by simp [World.frozen?, h]
theorem set_blk {w : World} {g i : Nat} {cs : Array Value} {e : TypeId} (h : w.heap[g]? = some (.cells cs e (0, 0))) (v : Value) : (w.setCell ⟨g, i, none⟩ v).heap[g]? = some (.cells (cs.setIfInBounds i v) e (0, 0)) := by
  simp [World.setCell, Array.getElem?_modify, h]
theorem min_nat (n : Nat) (b : Int) (hb : 0 ≤ b) : ∃ k : Nat, min (n : Int) b = (k : Int) ∧ k ≤ n ∧ (k : Int) ≤ b ∧ (k = n ∨ (k : Int) = b) := ⟨(min (n : Int) b).toNat, by omega, by omega, by omega, by omega⟩
theorem retB {a b : Bool} (h : a = b) : Ending.returned (.bool a) = .returned (.bool b) := by rw [h]
theorem retI {k : IntKind} {a b : Int} (h : a = b) : Ending.returned (.int k a) = .returned (.int k b) := by rw [h]
theorem retS {a b : ByteArray} (h : a = b) : Ending.returned (.string a) = .returned (.string b) := by rw [h]

theorem take_pred {α : Type} {l : List α} {k : Nat} {x : α} (h0 : 0 < k) (hx : l[k - 1]? = some x) : l.take k = l.take (k - 1) ++ [x] := by
  have h2 : k = (k - 1) + 1 := by omega
  conv => lhs; rw [h2]
  rw [List.take_add_one, hx]; rfl
theorem take_rev {α : Type} {l : List α} {k : Nat} {x : α} (h0 : 0 < k) (hx : l[k - 1]? = some x) : (l.take k).reverse = x :: (l.take (k - 1)).reverse := by
  rw [take_pred h0 hx, List.reverse_append]; rfl
theorem take_snoc {α : Type} {l : List α} {k : Nat} {x : α} (hx : l[k]? = some x) : l.take (k + 1) = l.take k ++ [x] := by
  rw [List.take_add_one, hx]; rfl
theorem set_same {α : Type} {l : List α} {k : Nat} {x : α} (h : l[k]? = some x) : l.set k x = l := by
  apply List.ext_getElem?
  intro i
  rw [List.getElem?_set]
  split
  · rename_i e
    subst e
    split
    · exact h.symm
    · rename_i h2
      exact absurd (List.getElem?_eq_some_iff.1 h).1 h2
  · rfl
theorem get_some {α : Type} {l : List α} {k : Nat} (h : k < l.length) : ∃ x, l[k]? = some x := ⟨l[k], List.getElem?_eq_getElem h⟩

end Go.Cl
