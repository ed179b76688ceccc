/-
The types of package active, and the library's generic functions at them.
-/
import Derived.Test.YtabilpahmmkjkaaProg
import Derived.Test.YtabilpahmmkjkaaKit3
import Derived.Test.YtabilpahmmkjkaaShelf
import Derived.WalkSpells
import Derived.Outline
import Derived.StillTailTactics
import Derived.WalkSmall
import Derived.Laws.StructEq
import Derived.Deep.QuietTactic
import Derived.BigQuiet
import Derived.Deep.RegionHeld3
import Derived.Deep.DeepMust
namespace Go.Proofs.Ytabilpahmmkjkaa
open Go.RowKit Go.Cl

abbrev Attr := ByteArray × ByteArray
structure Item where
  node : Int
  name : ByteArray
  attrs : List Attr
def tAttr : Ty Attr := tPair tStr tStr
def tItem : Ty Item := tMap (tPair (tInt .i64) (tPair tStr (tSlice tAttr))) (fun x => (x.node, x.name, x.attrs)) 48

theorem elemAttr : ElemOf Try.prog 24 80 2 32 := mkElem Try.underlying24 (by kernel_rfl) (z := .agg #[.string ⟨#[]⟩, .string ⟨#[]⟩]) rfl (by decide)
theorem elemItem : ElemOf Try.prog 23 26 3 48 := mkElem Try.underlying23 (by kernel_rfl) (z := .agg #[.int .i64 0, .string ⟨#[]⟩, .slice none 0 0]) rfl (by decide)
theorem elemInt : ElemOf Try.prog 34 3 1 8 := mkElem Try.underlying34 (by kernel_rfl) (z := .int .i64 0) rfl (by decide)

/-- slices.Clone: a row of its own that reads as the same. -/
theorem cloneAttr (A : Option Addr) (n c : Nat) (xs : List Attr) (w : World) (B : Nat) (hl : Sl tAttr w (lt B) A n c xs) (hB : B ≤ w.heap.size) :
    Calls Try.prog 49 #[.slice A n c] w fun e w' => ∃ A' c', e = .returned (.slice A' n c') ∧ Below w.heap.size w w' ∧ Own tAttr w' w.heap.size 80 (lt B) (.slice A' n c') n xs := by
  have hn1 := hl.small
  have hbt : n * 32 ≤ 140737488355328 := hl.hb
  have heq := fun (a : Option Addr) (k q : Nat) (wx : World) => Lib.run_eql_slice_nil (P := Try.prog) wx 24 80 a k q 0 0 Try.underlying24
  cases A with
  | none =>
    obtain rfl : c = 0 := hl.nil_ rfl
    obtain rfl : n = 0 := by have := hl.hc; omega
    obtain rfl : xs = [] := List.eq_nil_of_length_eq_zero hl.hn.symm
    go_enter Try.func49, Try.ntmps49
    go_wp2_with fail
    go_ret
    exact ⟨none, 0, rfl, Below.refl _ _, Own.nil _ _ _ _⟩
  | some ad =>
    go_enter Try.func49, Try.ntmps49
    go_wp2_with (at_builtin; refine wpList_apo _ rfl (.tmp 5) (.tmp 6) 24 rfl elemAttr (v := .slice (some ⟨w.heap.size, 0, none⟩) 0 0) (xs := []) (D := fun _ => False) rfl ⟨[], World.ownsRow_made w #[] 0 (Nat.le_refl _) (by simp) (by simp), Row.nil⟩ (fun _ h => h.elim) rfl (hl.al hB _) (fun b hb => ⟨by have h1 : b < B := hb; simp; omega, by have h1 : b < B := hb; simp only [Value.ownBlock, ne_eq, Option.some.injEq]; omega⟩) (by omega) (by omega) (by simp) ?_; intro v1 w1 hown1 hgr1 hbl1 _)
    obtain ⟨A1, c1, rfl⟩ := hown1.form
    have h1 := (hown1.more (D' := lt B) fun b hb => hb.elim False.elim id)
    have h2 := ((Below.refl _ w).alloc (Nat.le_refl _) _).trans hbl1
    rw [Nat.zero_add, List.nil_append] at h1
    clear hown1 hgr1 hbl1
    rw [Nat.zero_add]
    go_wp2_with fail
    go_ret
    exact ⟨A1, c1, rfl, h2, h1⟩

/-- slices.Clone: a row of its own that reads as the same. -/
theorem cloneItem (A : Option Addr) (n c : Nat) (xs : List Item) (w : World) (B : Nat) (hl : Sl tItem w (lt B) A n c xs) (hB : B ≤ w.heap.size) :
    Calls Try.prog 30 #[.slice A n c] w fun e w' => ∃ A' c', e = .returned (.slice A' n c') ∧ Below w.heap.size w w' ∧ Own tItem w' w.heap.size 26 (lt B) (.slice A' n c') n xs := by
  have hn1 := hl.small
  have hbt : n * 48 ≤ 140737488355328 := hl.hb
  have heq := fun (a : Option Addr) (k q : Nat) (wx : World) => Lib.run_eql_slice_nil (P := Try.prog) wx 23 26 a k q 0 0 Try.underlying23
  cases A with
  | none =>
    obtain rfl : c = 0 := hl.nil_ rfl
    obtain rfl : n = 0 := by have := hl.hc; omega
    obtain rfl : xs = [] := List.eq_nil_of_length_eq_zero hl.hn.symm
    go_enter Try.func30, Try.ntmps30
    go_wp2_with fail
    go_ret
    exact ⟨none, 0, rfl, Below.refl _ _, Own.nil _ _ _ _⟩
  | some ad =>
    go_enter Try.func30, Try.ntmps30
    go_wp2_with (at_builtin; refine wpList_apo _ rfl (.tmp 5) (.tmp 6) 23 rfl elemItem (v := .slice (some ⟨w.heap.size, 0, none⟩) 0 0) (xs := []) (D := fun _ => False) rfl ⟨[], World.ownsRow_made w #[] 0 (Nat.le_refl _) (by simp) (by simp), Row.nil⟩ (fun _ h => h.elim) rfl (hl.al hB _) (fun b hb => ⟨by have h1 : b < B := hb; simp; omega, by have h1 : b < B := hb; simp only [Value.ownBlock, ne_eq, Option.some.injEq]; omega⟩) (by omega) (by omega) (by simp) ?_; intro v1 w1 hown1 hgr1 hbl1 _)
    obtain ⟨A1, c1, rfl⟩ := hown1.form
    have h1 := (hown1.more (D' := lt B) fun b hb => hb.elim False.elim id)
    have h2 := ((Below.refl _ w).alloc (Nat.le_refl _) _).trans hbl1
    rw [Nat.zero_add, List.nil_append] at h1
    clear hown1 hgr1 hbl1
    rw [Nat.zero_add]
    go_wp2_with fail
    go_ret
    exact ⟨A1, c1, rfl, h2, h1⟩

/-- '==' of two attributes. -/
theorem eqlAttr (w : World) (a b c d : ByteArray) : (binOp .eql 80 (.agg #[.string a, .string b]) (.agg #[.string c, .string d])).run Try.prog w = .ok (.bool (a.toList == c.toList && b.toList == d.toList)) w := by
  have hS : Try.prog.underlying 80 = some (.struct (Try.prog.fieldsOf 80)) := by kernel_rfl
  have hp : Try.prog.stoodInHeld 80 = false := by kernel_rfl
  rw [run_eql_struct, run_equalIn_struct w 9999 _ _ _ hS hp]
  simp only [Program.fieldsOf, Try.underlying80]
  cases h1 : (a.toList == c.toList) <;> cases h2 : (b.toList == d.toList) <;> simp [go_sem, Op.eqFields, h1, h2]

theorem containsInt_any (A : Option Addr) (n c : Nat) (l : List Int) (x : Int) (w : World) (D : Nat → Prop) (hl : Sl (tInt .i64) w D A n c l) :
    Calls Try.prog 56 #[.slice A n c, .int .i64 x] w fun e w' => e = .returned (.bool (l.contains x)) ∧ w' = w := by
  rcases Nat.eq_zero_or_pos n with h0 | h0
  · subst h0
    obtain rfl : l = [] := List.eq_nil_of_length_eq_zero hl.hn.symm
    exact (Try.slices_Contains_int_empty A c x w).mono fun e w' h => ⟨by rw [h.1]; rfl, h.2⟩
  · obtain ⟨b, o, cells, rfl, hb, hr, hc⟩ := hl.at_ h0
    have hn := hl.hn
    refine (Try.slices_Contains_int b o n c l x w (by omega) (by have := hl.small; omega) (fun j hj => ?_)).mono fun e w' h => ⟨by rw [h.1, hn, List.take_length], h.2⟩
    obtain ⟨b', o', e, _, hcell, _⟩ := hl.int (List.getElem?_eq_getElem hj)
    simp only [Option.some.injEq, Addr.mk.injEq] at e
    obtain ⟨rfl, rfl, _⟩ := e
    rw [hcell, List.getD_eq_getElem?_getD, List.getElem?_eq_getElem hj]; rfl

end Go.Proofs.Ytabilpahmmkjkaa
