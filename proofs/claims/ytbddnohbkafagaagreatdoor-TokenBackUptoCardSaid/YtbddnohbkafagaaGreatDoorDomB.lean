/-
Documents: the data, how they lie in memory, and what dom.Check says of them, in plain words.
-/
import Derived.Test.YtbddnohbkafagaaGreatDoorProg
import Derived.Test.YtbddnohbkafagaaGreatDoorBase
import Derived.Test.YtbddnohbkafagaaGreatDoorShelf
import Derived.Lib.SlTrimSet
import Derived.Lib.Bytealg
import Derived.Shelf.Strings.SlTrimAscii
import Derived.WalkSpells
import Derived.Outline
import Derived.Deep.QuietTactic
import Derived.BigQuiet
import Derived.Deep.RegionHeld3
import Derived.Deep.DrawnRows
import Derived.Deep.DeepMust
import Derived.Deep.DeepCutAuto
import Derived.Laws.MakeOwn
import Derived.Laws.OwnMore
namespace Go.Proofs.YtbddnohbkafagaaGreatDoor
open Go.RowKit Go.Cl

/-- An attribute: its name, its value. -/
abbrev DAttr := ByteArray × ByteArray
def tDA : Ty DAttr := tPair tStr tStr
/-- A node. -/
structure Nd where
  kind : Int
  name : ByteArray
  attrs : List DAttr
  text : ByteArray
  parent : Int
  kids : List Int
def tNd : Ty Nd := tMap (tPair (tInt .i64) (tPair tStr (tPair (tSlice tDA) (tPair tStr (tPair (tInt .i64) (tSlice (tInt .i64))))))) (fun x => (x.kind, x.name, x.attrs, x.text, x.parent, x.kids)) 96

theorem elemDA : ElemOf Tryz.prog 30 55 2 32 := mkElem Tryz.underlying30 (by kernel_rfl) (z := .agg #[.string ⟨#[]⟩, .string ⟨#[]⟩]) rfl (by decide)
/-- The cells of a node. -/
def ndCells (x : Nd) (Aa : Option Addr) (na ca : Nat) (Ak : Option Addr) (nk ck : Nat) : List Value := [.int .i64 x.kind, .string x.name, .slice Aa na ca, .string x.text, .int .i64 x.parent, .slice Ak nk ck]
/-- What is known of them. -/
structure NdAt (w : World) (D : Nat → Prop) (x : Nd) (Aa : Option Addr) (na ca : Nat) (Ak : Option Addr) (nk ck : Nat) : Prop where
  attrs : Sl tDA w D Aa na ca x.attrs
  kids : Sl (tInt .i64) w D Ak nk ck x.kids
  kind : (Lit.int .i64 x.kind).wf = true
  name : x.name.size ≤ 1152921504606846976
  text : x.text.size ≤ 1152921504606846976
  parent : (Lit.int .i64 x.parent).wf = true
theorem nd_cells {w : World} {D : Nat → Prop} {x : Nd} {cs : List Value} (h : tNd.rep w D x cs) : ∃ Aa na ca Ak nk ck, cs = ndCells x Aa na ca Ak nk ck ∧ NdAt w D x Aa na ca Ak nk ck := by
  obtain ⟨c1, c2, rfl, ⟨rfl, h1⟩, c3, c4, rfl, ⟨rfl, h2⟩, c5, c6, rfl, ⟨Aa, na, ca, rfl, h3⟩, c7, c8, rfl, ⟨rfl, h4⟩, c9, c10, rfl, ⟨rfl, h5⟩, Ak, nk, ck, rfl, h6⟩ := h
  exact ⟨Aa, na, ca, Ak, nk, ck, rfl, h3, h6, h1, h2, h4, h5⟩
theorem nd_rep {w : World} {D : Nat → Prop} {x : Nd} {Aa : Option Addr} {na ca : Nat} {Ak : Option Addr} {nk ck : Nat} (h : NdAt w D x Aa na ca Ak nk ck) : tNd.rep w D x (ndCells x Aa na ca Ak nk ck) :=
  ⟨[_], _, rfl, ⟨rfl, h.kind⟩, [_], _, rfl, ⟨rfl, h.name⟩, [_], _, rfl, ⟨Aa, na, ca, rfl, h.attrs⟩, [_], _, rfl, ⟨rfl, h.text⟩, [_], _, rfl, ⟨rfl, h.parent⟩, Ak, nk, ck, rfl, h.kids⟩
theorem NdAt.below {w w' : World} {B B' : Nat} {x : Nd} {Aa : Option Addr} {na ca : Nat} {Ak : Option Addr} {nk ck : Nat} (h : NdAt w (lt B) x Aa na ca Ak nk ck) (hb : Below B' w w') (hB : B ≤ B') : NdAt w' (lt B) x Aa na ca Ak nk ck :=
  ⟨h.attrs.below hb hB, h.kids.below hb hB, h.kind, h.name, h.text, h.parent⟩
/-- One node of a slice of nodes: its six cells. -/
theorem Sl.nd {w : World} {D : Nat → Prop} {A : Option Addr} {n c : Nat} {l : List Nd} (h : Sl tNd w D A n c l) {i : Nat} {x : Nd} (hx : l[i]? = some x) :
    ∃ b o Aa na ca Ak nk ck, A = some ⟨b, o, none⟩ ∧ D b ∧ NdAt w D x Aa na ca Ak nk ck ∧ ∀ j u, (ndCells x Aa na ca Ak nk ck)[j]? = some u → w.cell? ⟨b, o + (i * 6 + j), none⟩ = some u := by
  obtain ⟨b, o, cs, e, hD, hr, hc⟩ := h.get hx
  obtain ⟨Aa, na, ca, Ak, nk, ck, rfl, hn⟩ := nd_cells hr
  exact ⟨b, o, Aa, na, ca, Ak, nk, ck, e, hD, hn, hc⟩

/-! ### names and attributes -/
def signsB : List UInt8 := (⟨#[97, 98, 99, 100, 101, 102, 103, 104, 105, 106, 107, 108, 109, 110, 111, 112, 113, 114, 115, 116, 117, 118, 119, 120, 121, 122, 48, 49, 50, 51, 52, 53, 54, 55, 56, 57, 45, 95, 58]⟩ : ByteArray).data.toList
def lettersB : ByteArray := (⟨#[97, 98, 99, 100, 101, 102, 103, 104, 105, 106, 107, 108, 109, 110, 111, 112, 113, 114, 115, 116, 117, 118, 119, 120, 121, 122]⟩ : ByteArray)
def attrB : ByteArray := (⟨#[97, 98, 99, 100, 101, 102, 103, 104, 105, 106, 107, 108, 109, 110, 111, 112, 113, 114, 115, 116, 117, 118, 119, 120, 121, 122, 45, 95]⟩ : ByteArray)
/-- A name that begins with one of some signs. -/
def namedR (s first : ByteArray) : Bool := decide (0 < s.size) && decide (s.size ≤ 40) && decide (0 ≤ Lib.indexByte first.data.toList (s.data.toList.headD 0)) && (Lib.trimS s.data.toList signsB).isEmpty
/-- An attribute's place. -/
def findA (l : List DAttr) (nm : ByteArray) : Int := match l.findIdx? (fun a => a.1.toList == nm.toList) with
  | some i => i
  | none => -1
/-- Attributes, one by one. -/
def attrsF : List DAttr → List DAttr → Int
  | _, [] => 0
  | pre, a :: r => if namedR a.1 attrB = false then 3 else if 400 < a.2.size then 2 else if 0 ≤ findA pre a.1 then 3 else attrsF (pre ++ [a]) r
def attrsE (l : List DAttr) : Int := if 12 < l.length then 2 else attrsF [] l
def parentB (k : Int) : Bool := k == 1 || k == 2
def bareB (x : Nd) : Bool :=
  (x.kind == 2 || x.kind == 5 || x.name.toList.isEmpty) && (x.kind == 2 || x.attrs.isEmpty) && ((x.kind == 3 || x.kind == 4) || x.text.toList.isEmpty) && (parentB x.kind || x.kids.isEmpty)
/-- One node by itself. -/
def nodeE (x : Nd) : Int :=
  if x.kind < 1 ∨ 5 < x.kind ∨ bareB x = false then 7
  else if x.kind = 2 ∧ namedR x.name lettersB = false then 3
  else if attrsE x.attrs ≠ 0 then attrsE x.attrs
  else if 400 < x.text.size ∨ 400 < x.name.size then 2 else 0

/-! ### kids -/
/-- One kid: an error, or all that have been seen. -/
def kidE (l : List Nd) (i : Nat) (seen : List Bool) (k : Int) : Int :=
  if k < 0 ∨ (l.length : Int) ≤ k then 3
  else if ((l.map Nd.parent)[k.toNat]?.getD 0 ≠ (i : Int)) ∨ seen[k.toNat]?.getD true = true then 3
  else if i = 0 ∧ (l.map Nd.kind)[k.toNat]?.getD 0 = 3 then 7 else 0
def kidsF (l : List Nd) (i : Nat) : List Bool → List Int → Int × List Bool
  | seen, [] => (0, seen)
  | seen, k :: r => if kidE l i seen k ≠ 0 then (kidE l i seen k, seen) else kidsF l i (seen.set k.toNat true) r
def allKids (l : List Nd) : Nat → List Bool → List Nd → Int × List Bool
  | _, seen, [] => (0, seen)
  | i, seen, x :: r => if (kidsF l i seen x.kids).1 ≠ 0 then kidsF l i seen x.kids else allKids l (i + 1) (kidsF l i seen x.kids).2 r
/-- Has a node a parent that does not know it? -/
def lostB : List Bool → List Nd → Bool
  | s :: t, x :: r => (x.parent != -1 && !s) || lostB t r
  | _, _ => false
def kidsE (l : List Nd) : Int :=
  let r := allKids l 0 (List.replicate l.length false) l
  if r.1 ≠ 0 then r.1 else if lostB r.2 l = true then 3 else if (l.map Nd.parent).headD 0 ≠ -1 then 3 else 0

/-! ### up -/
/-- How many parents a node has above it, up to so many. -/
def upF (l : List Nd) : Nat → Int → Nat
  | 0, _ => 0
  | f + 1, n => let p := (l.map Nd.parent)[n.toNat]?.getD (-1)
    if 0 ≤ p then upF l f p + 1 else 0
def upN (l : List Nd) (n : Int) : Nat := upF l (l.length + 1) n
/-- The first loop of Check. -/
def firstE : Nat → List Nd → Int
  | _, [] => 0
  | i, x :: r => if (x.kind == 1) != (i == 0) then 3 else if nodeE x ≠ 0 then nodeE x else firstE (i + 1) r
/-- The last one. -/
def lastE (l : List Nd) : List Nat → Int
  | [] => 0
  | i :: r => if l.length < upN l i then 8 else if 40 < upN l i then 2 else lastE l r
/-- What Check says. -/
def checkD (l : List Nd) : Int :=
  if 200 < l.length then 2 else if l.length = 0 then 3
  else if firstE 0 l ≠ 0 then firstE 0 l
  else if kidsE l ≠ 0 then kidsE l
  else lastE l (List.range l.length)
end Go.Proofs.YtbddnohbkafagaaGreatDoor

/-
The walks of package dom: named, Name, attrName, find, attrs.
-/
namespace Go.Proofs.YtbddnohbkafagaaGreatDoor
open Go.RowKit Go.Cl
attribute [local go_sem ↓] Go.wp_at_zero Go.wp_at_succ

theorem isE_of {s : ByteArray} (h : s.size = 0) : s.toList.isEmpty = true := by
  rw [ByteArray.toList_eq]
  have : s.data.toList.length = 0 := by simpa using h
  rw [List.eq_nil_of_length_eq_zero this]; rfl
theorem isE_not {s : ByteArray} (h : 0 < s.size) : s.toList.isEmpty = false := by
  rw [ByteArray.toList_eq]
  cases hl : s.data.toList with
  | nil => have : s.data.toList.length = s.size := by simp
           rw [hl] at this; simp at this; omega
  | cons => rfl
theorem headD_at {s : ByteArray} (h : 0 < s.size) : s.data.toList.headD 0 = s[0] := by
  have h0 : s.data.toList[0]? = some s[0] := by rw [List.getElem?_eq_getElem (by simpa using h)]; rfl
  cases hl : s.data.toList with
  | nil => rw [hl] at h0; cases h0
  | cons b l => rw [hl] at h0; simpa using h0
end Go.Proofs.YtbddnohbkafagaaGreatDoor

/-
The walks of package dom: find, attrs.
-/
namespace Go.Proofs.YtbddnohbkafagaaGreatDoor
open Go.RowKit Go.Cl
attribute [local go_sem ↓] Go.wp_at_zero Go.wp_at_succ

theorem findA_skip {l : List DAttr} {nm : ByteArray} {k : Nat} {x : DAttr} (h : ∀ j y, j < k → l[j]? = some y → (y.1.toList == nm.toList) = false) (hx : l[k]? = some x) (hp : (x.1.toList == nm.toList) = false) : ∀ j y, j < k + 1 → l[j]? = some y → (y.1.toList == nm.toList) = false := by
  intro j y hj hy
  by_cases e : j = k
  · subst e
    rw [hx] at hy
    obtain rfl := Option.some.inj hy
    exact hp
  · exact h j y (by omega) hy
theorem findA_hit {l : List DAttr} {nm : ByteArray} {k : Nat} {x : DAttr} (h : ∀ j y, j < k → l[j]? = some y → (y.1.toList == nm.toList) = false) (hx : l[k]? = some x) (hp : (x.1.toList == nm.toList) = true) : findA l nm = (k : Int) := by
  have hf : l.findIdx? (fun a => a.1.toList == nm.toList) = some k := by
    rw [List.findIdx?_eq_some_iff_getElem]
    have hk := (List.getElem?_eq_some_iff.1 hx).1
    refine ⟨hk, by rw [(List.getElem?_eq_some_iff.1 hx).2]; exact hp, fun j hj => ?_⟩
    have := h j l[j] hj (List.getElem?_eq_getElem (by omega))
    simp [this]
  unfold findA
  rw [hf]
theorem findA_none {l : List DAttr} {nm : ByteArray} {k : Nat} (h : ∀ j y, j < k → l[j]? = some y → (y.1.toList == nm.toList) = false) (hk : l.length ≤ k) : findA l nm = -1 := by
  have hf : l.findIdx? (fun a => a.1.toList == nm.toList) = none := by
    rw [List.findIdx?_eq_none_iff]
    intro x hx
    obtain ⟨j, hj⟩ := List.mem_iff_getElem?.1 hx
    exact h j x (by have := (List.getElem?_eq_some_iff.1 hj).1; omega) hj
  unfold findA
  rw [hf]
theorem da_cells {w : World} {D : Nat → Prop} {A : Option Addr} {n c : Nat} {l : List DAttr} (h : Sl tDA w D A n c l) {i : Nat} {x : DAttr} (hx : l[i]? = some x) :
    ∃ b o, A = some ⟨b, o, none⟩ ∧ D b ∧ w.cell? ⟨b, o + i * 2, none⟩ = some (.string x.1) ∧ w.cell? ⟨b, o + i * 2 + 1, none⟩ = some (.string x.2) ∧ x.1.size ≤ 1152921504606846976 ∧ x.2.size ≤ 1152921504606846976 := by
  obtain ⟨b, o, cs, e, hD, ⟨c1, c2, rfl, ⟨rfl, h1⟩, rfl, h2⟩, hc⟩ := h.get hx
  exact ⟨b, o, e, hD, hc 0 _ rfl, hc 1 _ rfl, h1, h2⟩

theorem attrsF_step {l : List DAttr} {k : Nat} {x : DAttr} (hx : l[k]? = some x) (h1 : namedR x.1 attrB = true) (h2 : x.2.size ≤ 400) (h3 : findA (l.take k) x.1 < 0) : attrsF (l.take k) (l.drop k) = attrsF (l.take (k + 1)) (l.drop (k + 1)) := by
  rw [List.drop_eq_getElem_cons (List.getElem?_eq_some_iff.1 hx).1, (List.getElem?_eq_some_iff.1 hx).2, attrsF, if_neg (by rw [h1]; decide), if_neg (by omega), if_neg (by omega), take_snoc hx]
theorem attrsF_one {l : List DAttr} {k : Nat} {x : DAttr} (hx : l[k]? = some x) (h1 : namedR x.1 attrB = false) : attrsF (l.take k) (l.drop k) = 3 := by
  rw [List.drop_eq_getElem_cons (List.getElem?_eq_some_iff.1 hx).1, (List.getElem?_eq_some_iff.1 hx).2, attrsF, if_pos h1]
theorem attrsF_two {l : List DAttr} {k : Nat} {x : DAttr} (hx : l[k]? = some x) (h1 : namedR x.1 attrB = true) (h2 : 400 < x.2.size) : attrsF (l.take k) (l.drop k) = 2 := by
  rw [List.drop_eq_getElem_cons (List.getElem?_eq_some_iff.1 hx).1, (List.getElem?_eq_some_iff.1 hx).2, attrsF, if_neg (by rw [h1]; decide), if_pos h2]
theorem attrsF_three {l : List DAttr} {k : Nat} {x : DAttr} (hx : l[k]? = some x) (h1 : namedR x.1 attrB = true) (h2 : x.2.size ≤ 400) (h3 : 0 ≤ findA (l.take k) x.1) : attrsF (l.take k) (l.drop k) = 3 := by
  rw [List.drop_eq_getElem_cons (List.getElem?_eq_some_iff.1 hx).1, (List.getElem?_eq_some_iff.1 hx).2, attrsF, if_neg (by rw [h1]; decide), if_neg (by omega), if_pos h3]

end Go.Proofs.YtbddnohbkafagaaGreatDoor

/-
The walks of package dom: parent, bare, one.
-/
namespace Go.Proofs.YtbddnohbkafagaaGreatDoor
open Go.RowKit Go.Cl
attribute [local go_sem ↓] Go.wp_at_zero Go.wp_at_succ

theorem below_dN {B : Nat} {a w : World} (h : Below B a w) (n : Nat) : Below B a (w.drewN n) := h.trans ⟨rfl, rfl, rfl, Nat.le_refl _, fun _ _ => rfl⟩
theorem len0 {α : Type} {l : List α} {n : Nat} (h : n = l.length) : ((n : Int) == 0) = l.isEmpty := by
  subst h
  cases l with
  | nil => rfl
  | cons a l =>
    rw [List.isEmpty_cons, beq_eq_false_iff_ne, List.length_cons]
    omega

end Go.Proofs.YtbddnohbkafagaaGreatDoor

/-
The walk of package dom: kids.
-/
namespace Go.Proofs.YtbddnohbkafagaaGreatDoor
open Go.RowKit Go.Cl
attribute [local go_sem ↓] Go.wp_at_zero Go.wp_at_succ

theorem rep_bools (n : Nat) : ((List.replicate n false).map Value.bool).toArray = Array.replicate n (Value.bool false) := by
  apply Array.toList_inj.1
  simp
/-- A row of bools in a block of its own. -/
abbrev BoolsAt (w : World) (g : Nat) (s : List Bool) : Prop := w.heap[g]? = some (.cells (s.map Value.bool).toArray 4 (0, 0))
theorem BoolsAt.cell {w : World} {g : Nat} {s : List Bool} (h : BoolsAt w g s) {m : Nat} {b : Bool} (hm : s[m]? = some b) : w.cell? ⟨g, m, none⟩ = some (.bool b) := cell_blk h (by simp [hm])
theorem BoolsAt.set {w : World} {g : Nat} {s : List Bool} (h : BoolsAt w g s) (m : Nat) (b : Bool) : BoolsAt (w.setCell ⟨g, m, none⟩ (.bool b)) g (s.set m b) := by
  show (w.setCell _ _).heap[g]? = _
  rw [set_blk h]
  congr 2
  apply Array.toList_inj.1
  rw [Array.toList_setIfInBounds]
  simp [List.map_set]
theorem BoolsAt.below {w w' : World} {g B : Nat} {s : List Bool} (h : BoolsAt w g s) (hb : Below B w w') (hg : g < B) : BoolsAt w' g s := (hb.block g hg).trans h

theorem kidsF_err {l : List Nd} {i : Nat} {seen seen' : List Bool} {ks : List Int} {j : Nat} {k e : Int} (h : kidsF l i seen ks = kidsF l i seen' (ks.drop j)) (hk : ks[j]? = some k) (he : kidE l i seen' k = e) (h0 : e ≠ 0) : kidsF l i seen ks = (e, seen') := by
  rw [h, List.drop_eq_getElem_cons (List.getElem?_eq_some_iff.1 hk).1, (List.getElem?_eq_some_iff.1 hk).2, kidsF, he, if_pos h0]
theorem kidsF_ok {l : List Nd} {i : Nat} {seen seen' : List Bool} {ks : List Int} {j : Nat} {k : Int} (h : kidsF l i seen ks = kidsF l i seen' (ks.drop j)) (hk : ks[j]? = some k) (he : kidE l i seen' k = 0) : kidsF l i seen ks = kidsF l i (seen'.set k.toNat true) (ks.drop (j + 1)) := by
  rw [h, List.drop_eq_getElem_cons (List.getElem?_eq_some_iff.1 hk).1, (List.getElem?_eq_some_iff.1 hk).2, kidsF, he, if_neg (by decide)]
theorem kidsF_end {l : List Nd} {i : Nat} {seen seen' : List Bool} {ks : List Int} {j : Nat} (h : kidsF l i seen ks = kidsF l i seen' (ks.drop j)) (hk : ks.length ≤ j) : kidsF l i seen ks = (0, seen') := by
  rw [h, List.drop_of_length_le hk, kidsF]
theorem allKids_err {l : List Nd} {i : Nat} {s0 seen s : List Bool} {x : Nd} {e : Int} (h : allKids l 0 s0 l = allKids l i seen (l.drop i)) (hx : l[i]? = some x) (hk : kidsF l i seen x.kids = (e, s)) (h0 : e ≠ 0) : allKids l 0 s0 l = (e, s) := by
  rw [h, List.drop_eq_getElem_cons (List.getElem?_eq_some_iff.1 hx).1, (List.getElem?_eq_some_iff.1 hx).2, allKids, hk, if_pos h0]
theorem allKids_ok {l : List Nd} {i : Nat} {s0 seen s : List Bool} {x : Nd} (h : allKids l 0 s0 l = allKids l i seen (l.drop i)) (hx : l[i]? = some x) (hk : kidsF l i seen x.kids = (0, s)) : allKids l 0 s0 l = allKids l (i + 1) s (l.drop (i + 1)) := by
  rw [h, List.drop_eq_getElem_cons (List.getElem?_eq_some_iff.1 hx).1, (List.getElem?_eq_some_iff.1 hx).2, allKids, hk, if_neg (by simp)]
theorem kidsE_err {l : List Nd} {e : Int} {s : List Bool} (h : allKids l 0 (List.replicate l.length false) l = (e, s)) (h0 : e ≠ 0) : kidsE l = e := by
  unfold kidsE
  rw [h]
  simp only [ne_eq, h0, not_false_eq_true, if_true]
theorem kidsE_rest {l : List Nd} {s : List Bool} (h : allKids l 0 (List.replicate l.length false) l = (0, s)) : kidsE l = if lostB s l = true then 3 else if (l.map Nd.parent).headD 0 ≠ -1 then 3 else 0 := by
  unfold kidsE
  rw [h]
  simp only [ne_eq, not_true_eq_false, if_false]
theorem map_at {α β : Type} {l : List α} {f : α → β} {m : Nat} {y : α} (h : l[m]? = some y) (d : β) : (l.map f)[m]?.getD d = f y := by
  rw [List.getElem?_map, h]
  rfl
theorem kidE_out {l : List Nd} {i : Nat} {seen : List Bool} {k : Int} (h : k < 0 ∨ (l.length : Int) ≤ k) : kidE l i seen k = 3 := by
  unfold kidE
  rw [if_pos h]
theorem kidE_not {l : List Nd} {i m : Nat} {seen : List Bool} {y : Nd} {b : Bool} (hy : l[m]? = some y) (hs : seen[m]? = some b) (h : y.parent ≠ (i : Int) ∨ b = true) : kidE l i seen (m : Int) = 3 := by
  have hm := (List.getElem?_eq_some_iff.1 hy).1
  unfold kidE
  rw [if_neg (by omega), Int.toNat_natCast, map_at hy, hs, Option.getD_some]
  rw [if_pos h]
theorem kidE_seven {l : List Nd} {i m : Nat} {seen : List Bool} {y : Nd} (hy : l[m]? = some y) (hs : seen[m]? = some false) (h : y.parent = (i : Int)) (h0 : i = 0 ∧ y.kind = 3) : kidE l i seen (m : Int) = 7 := by
  have hm := (List.getElem?_eq_some_iff.1 hy).1
  unfold kidE
  rw [if_neg (by omega), Int.toNat_natCast, map_at hy, map_at hy, hs, Option.getD_some]
  rw [if_neg (by simp [h]), if_pos h0]
theorem kidE_zero {l : List Nd} {i m : Nat} {seen : List Bool} {y : Nd} (hy : l[m]? = some y) (hs : seen[m]? = some false) (h : y.parent = (i : Int)) (h0 : ¬ (i = 0 ∧ y.kind = 3)) : kidE l i seen (m : Int) = 0 := by
  have hm := (List.getElem?_eq_some_iff.1 hy).1
  unfold kidE
  rw [if_neg (by omega), Int.toNat_natCast, map_at hy, map_at hy, hs, Option.getD_some]
  rw [if_neg (by simp [h]), if_neg h0]
theorem lost_hit {seen : List Bool} {l : List Nd} {i : Nat} {x : Nd} (h : lostB seen l = lostB (seen.drop i) (l.drop i)) (hs : seen[i]? = some false) (hx : l[i]? = some x) (hp : x.parent ≠ -1) : lostB seen l = true := by
  rw [h, List.drop_eq_getElem_cons (List.getElem?_eq_some_iff.1 hx).1, (List.getElem?_eq_some_iff.1 hx).2, List.drop_eq_getElem_cons (List.getElem?_eq_some_iff.1 hs).1, (List.getElem?_eq_some_iff.1 hs).2, lostB]
  have : (x.parent != -1) = true := by simpa using hp
  rw [this]
  rfl
theorem lost_go {seen : List Bool} {l : List Nd} {i : Nat} {x : Nd} {b : Bool} (h : lostB seen l = lostB (seen.drop i) (l.drop i)) (hs : seen[i]? = some b) (hx : l[i]? = some x) (hp : x.parent = -1 ∨ b = true) : lostB seen l = lostB (seen.drop (i + 1)) (l.drop (i + 1)) := by
  rw [h, List.drop_eq_getElem_cons (List.getElem?_eq_some_iff.1 hx).1, (List.getElem?_eq_some_iff.1 hx).2, List.drop_eq_getElem_cons (List.getElem?_eq_some_iff.1 hs).1, (List.getElem?_eq_some_iff.1 hs).2, lostB]
  have : (x.parent != -1 && !b) = false := by
    rcases hp with hp | hp
    · rw [hp]; rfl
    · rw [hp]; simp
  rw [this, Bool.false_or]
theorem lost_end {seen : List Bool} {l : List Nd} {i : Nat} (h : lostB seen l = lostB (seen.drop i) (l.drop i)) (hi : l.length ≤ i) : lostB seen l = false := by
  rw [h, List.drop_of_length_le hi]
  cases seen.drop i <;> rfl

/-- A document lies so: its cells, for whatever world behind. -/
structure DocAt (w : World) (B : Nat) (b o n : Nat) (l : List Nd) : Prop where
  hn : n = l.length
  at_ : ∀ i x, l[i]? = some x → ∃ Aa na ca Ak nk ck, NdAt w (lt B) x Aa na ca Ak nk ck ∧ w.cell? ⟨b, o + i * 6, none⟩ = some (.int .i64 x.kind) ∧ w.cell? ⟨b, o + i * 6 + 1, none⟩ = some (.string x.name) ∧ w.cell? ⟨b, o + i * 6 + 2, none⟩ = some (.slice Aa na ca) ∧ w.cell? ⟨b, o + i * 6 + 3, none⟩ = some (.string x.text) ∧ w.cell? ⟨b, o + i * 6 + 4, none⟩ = some (.int .i64 x.parent) ∧ w.cell? ⟨b, o + i * 6 + 5, none⟩ = some (.slice Ak nk ck)
  lt : b < B
theorem doc_at {w : World} {B : Nat} {A : Option Addr} {n c : Nat} {l : List Nd} (h : Sl tNd w (lt B) A n c l) (hn : 0 < n) : ∃ b o, A = some ⟨b, o, none⟩ ∧ DocAt w B b o n l := by
  obtain ⟨b, o, cells, rfl, hD, hr, hc⟩ := h.at_ hn
  refine ⟨b, o, rfl, h.hn, fun i x hx => ?_, hD⟩
  obtain ⟨b', o', Aa, na, ca, Ak, nk, ck, e, hD', hn', hc'⟩ := Sl.nd h hx
  obtain ⟨rfl, rfl⟩ : b = b' ∧ o = o' := by simpa using e
  exact ⟨Aa, na, ca, Ak, nk, ck, hn', hc' 0 _ rfl, hc' 1 _ rfl, hc' 2 _ rfl, hc' 3 _ rfl, hc' 4 _ rfl, hc' 5 _ rfl⟩
theorem DocAt.below {w w' : World} {B B' b o n : Nat} {l : List Nd} (h : DocAt w B b o n l) (hb : Below B' w w') (hB : B ≤ B') : DocAt w' B b o n l :=
  ⟨h.hn, fun i x hx => by
    obtain ⟨Aa, na, ca, Ak, nk, ck, hn, c0, c1, c2, c3, c4, c5⟩ := h.at_ i x hx
    have hk : ∀ j v, w.cell? ⟨b, j, none⟩ = some v → w'.cell? ⟨b, j, none⟩ = some v := fun j v hv => (hb.cell (p := ⟨b, j, none⟩) (Nat.lt_of_lt_of_le h.lt hB)).trans hv
    exact ⟨Aa, na, ca, Ak, nk, ck, hn.below hb hB, hk _ _ c0, hk _ _ c1, hk _ _ c2, hk _ _ c3, hk _ _ c4, hk _ _ c5⟩, h.lt⟩
end Go.Proofs.YtbddnohbkafagaaGreatDoor

/-
The walk of package dom: kids.
-/
namespace Go.Proofs.YtbddnohbkafagaaGreatDoor
open Go.RowKit Go.Cl
attribute [local go_sem ↓] Go.wp_at_zero Go.wp_at_succ

end Go.Proofs.YtbddnohbkafagaaGreatDoor

/-
The walks of package dom: up, Check.
-/
namespace Go.Proofs.YtbddnohbkafagaaGreatDoor
open Go.RowKit Go.Cl
attribute [local go_sem ↓] Go.wp_at_zero Go.wp_at_succ

theorem upF_go {l : List Nd} {f m : Nat} {x : Nd} {p : Nat} (hx : l[m]? = some x) (hp : x.parent = (p : Int)) : upF l (f + 1) (m : Int) = upF l f (p : Int) + 1 := by
  rw [upF, Int.toNat_natCast, map_at hx, hp]
  rw [if_pos (by omega)]
theorem upF_stop {l : List Nd} {f m : Nat} {x : Nd} (hx : l[m]? = some x) (hp : x.parent < 0) : upF l f (m : Int) = 0 := by
  cases f with
  | zero => rfl
  | succ f =>
    rw [upF, Int.toNat_natCast, map_at hx]
    rw [if_neg (by omega)]

/-! ### what kids tells -/
/-- What has been marked. -/
structure KidsOk (l : List Nd) (i : Nat) (seen : List Bool) : Prop where
  len : seen.length = l.length
  kids : ∀ (j : Nat) x, j < i → l[j]? = some x → x.kids.Nodup ∧ ∀ k ∈ x.kids, ∃ m y, k = ((m : Nat) : Int) ∧ l[m]? = some y ∧ y.parent = (j : Int) ∧ ¬ (j = 0 ∧ y.kind = 3)
  marks : ∀ m : Nat, seen[m]? = some true → ∃ j x, j < i ∧ l[j]? = some x ∧ (m : Int) ∈ x.kids
/-- One list of kids, as far as it has gone. -/
structure KidsPart (l : List Nd) (i : Nat) (s0 seen : List Bool) (ks : List Int) : Prop where
  len : seen.length = l.length
  kids : ks.Nodup ∧ ∀ k ∈ ks, ∃ m y, k = ((m : Nat) : Int) ∧ l[m]? = some y ∧ y.parent = (i : Int) ∧ ¬ (i = 0 ∧ y.kind = 3) ∧ seen[m]? = some true
  marks : ∀ m : Nat, seen[m]? = some true → s0[m]? = some true ∨ (m : Int) ∈ ks
  keep : ∀ m : Nat, s0[m]? = some true → seen[m]? = some true
theorem kidE_facts {l : List Nd} {i : Nat} {seen : List Bool} {k : Int} (hs : seen.length = l.length) (h : kidE l i seen k = 0) : ∃ m y, k = ((m : Nat) : Int) ∧ l[m]? = some y ∧ y.parent = (i : Int) ∧ ¬ (i = 0 ∧ y.kind = 3) ∧ seen[m]? = some false := by
  unfold kidE at h
  by_cases h1 : k < 0 ∨ (l.length : Int) ≤ k
  · rw [if_pos h1] at h; cases h
  · rw [if_neg h1] at h
    obtain ⟨m, rfl⟩ : ∃ m : Nat, k = (m : Int) := ⟨k.toNat, by omega⟩
    obtain ⟨y, hy⟩ := get_some (l := l) (k := m) (by omega)
    obtain ⟨s, hss⟩ := get_some (l := seen) (k := m) (by omega)
    rw [Int.toNat_natCast, map_at hy, map_at hy, hss, Option.getD_some] at h
    by_cases h2 : y.parent ≠ (i : Int) ∨ s = true
    · rw [if_pos h2] at h; cases h
    · rw [if_neg h2] at h
      by_cases h3 : i = 0 ∧ y.kind = 3
      · rw [if_pos h3] at h; cases h
      · refine ⟨m, y, rfl, hy, by by_cases e : y.parent = (i : Int); exact e; exact absurd (Or.inl e) h2, h3, ?_⟩
        rw [hss]
        cases s with
        | true => exact absurd (Or.inr rfl) h2
        | false => rfl
theorem kidsF_part {l : List Nd} {i : Nat} {s0 : List Bool} (r : List Int) : ∀ (ks : List Int) (seen : List Bool), KidsPart l i s0 seen ks → (kidsF l i seen r).1 = 0 → KidsPart l i s0 (kidsF l i seen r).2 (ks ++ r) := by
  induction r with
  | nil => intro ks seen h _; rw [List.append_nil]; exact h
  | cons k r ih =>
    intro ks seen h h0
    rw [kidsF] at h0 ⊢
    by_cases he : kidE l i seen k = 0
    · rw [if_neg (by rw [he]; decide)] at h0 ⊢
      obtain ⟨m, y, rfl, hy, hp, h3, hs⟩ := kidE_facts h.len he
      rw [Int.toNat_natCast] at h0 ⊢
      have hm := (List.getElem?_eq_some_iff.1 hs).1
      have key : KidsPart l i s0 (seen.set m true) (ks ++ [(m : Int)]) := by
        refine ⟨by rw [List.length_set]; exact h.len, ⟨?_, ?_⟩, ?_, ?_⟩
        · rw [List.nodup_append]
          refine ⟨h.kids.1, by simp, ?_⟩
          intro a ha b hb e
          simp at hb
          subst hb
          subst e
          obtain ⟨m', y', e1, _, _, _, hs'⟩ := h.kids.2 _ ha
          have : m = m' := by omega
          subst this
          rw [hs] at hs'
          cases hs'
        · intro k' hk'
          rcases List.mem_append.1 hk' with hk' | hk'
          · obtain ⟨m', y', e1, a1, a2, a3, a4⟩ := h.kids.2 _ hk'
            refine ⟨m', y', e1, a1, a2, a3, ?_⟩
            rw [List.getElem?_set]
            split
            · rename_i e; subst e; simp
            · exact a4
          · simp at hk'
            subst hk'
            exact ⟨m, y, rfl, hy, hp, h3, by rw [List.getElem?_set_self hm]⟩
        · intro m' hm'
          rw [List.getElem?_set] at hm'
          split at hm'
          · rename_i e; subst e; exact Or.inr (by simp)
          · rcases h.marks m' hm' with a | a
            · exact Or.inl a
            · exact Or.inr (List.mem_append_left _ a)
        · intro m' hm'
          rw [List.getElem?_set]
          split
          · rename_i e; subst e; simp
          · exact h.keep m' hm'
      have := ih (ks ++ [(m : Int)]) (seen.set m true) key h0
      rwa [List.append_assoc] at this
    · rw [if_pos he] at h0
      exact absurd h0 he
theorem allKids_ok_of {l : List Nd} (r : List Nd) : ∀ (i : Nat) (seen : List Bool), l.drop i = r → KidsOk l i seen → (allKids l i seen r).1 = 0 → KidsOk l (i + r.length) (allKids l i seen r).2 := by
  induction r with
  | nil => intro i seen _ h _; exact h
  | cons x r ih =>
    intro i seen hd h h0
    have hx : l[i]? = some x := by
      have := List.getElem?_drop (xs := l) (i := i) (j := 0)
      rw [hd] at this
      simpa using this.symm
    have hd2 : l.drop (i + 1) = r := by
      have := congrArg (List.drop 1) hd
      rwa [List.drop_drop] at this
    rw [allKids] at h0 ⊢
    by_cases he : (kidsF l i seen x.kids).1 = 0
    · rw [if_neg (by rw [he]; decide)] at h0 ⊢
      have hpart := kidsF_part (l := l) (i := i) (s0 := seen) x.kids [] seen ⟨h.len, ⟨List.nodup_nil, fun k hk => by cases hk⟩, fun m hm => Or.inl hm, fun m hm => hm⟩ he
      rw [List.nil_append] at hpart
      have key : KidsOk l (i + 1) (kidsF l i seen x.kids).2 := by
        refine ⟨hpart.len, ?_, ?_⟩
        · intro j y hj hy
          by_cases e : j = i
          · subst e
            rw [hx] at hy
            obtain rfl := Option.some.inj hy
            exact ⟨hpart.kids.1, fun k hk => by
              obtain ⟨m, z, e1, a1, a2, a3, _⟩ := hpart.kids.2 k hk
              exact ⟨m, z, e1, a1, a2, a3⟩⟩
          · exact h.kids j y (by omega) hy
        · intro m hm
          rcases hpart.marks m hm with a | a
          · obtain ⟨j, y, hj, hy, hk⟩ := h.marks m a
            exact ⟨j, y, by omega, hy, hk⟩
          · exact ⟨i, x, by omega, hx, a⟩
      have := ih (i + 1) _ hd2 key h0
      rw [List.length_cons]
      rwa [show i + 1 + r.length = i + (r.length + 1) from by omega] at this
    · rw [if_pos he] at h0
      exact absurd h0 he
/-- What a document whose kids are right is like. -/
structure KidsRight (l : List Nd) : Prop where
  kids : ∀ (j : Nat) x, l[j]? = some x → x.kids.Nodup ∧ ∀ k ∈ x.kids, ∃ m y, k = ((m : Nat) : Int) ∧ l[m]? = some y ∧ y.parent = (j : Int) ∧ ¬ (j = 0 ∧ y.kind = 3)
  known : ∀ (m : Nat) y, l[m]? = some y → y.parent ≠ -1 → ∃ (j : Nat) (x : Nd), l[j]? = some x ∧ (m : Int) ∈ x.kids
  top : ∀ x, l[0]? = some x → x.parent = -1
theorem lost_none (seen : List Bool) (l : List Nd) (h : lostB seen l = false) (hs : seen.length = l.length) : ∀ (m : Nat) y, l[m]? = some y → y.parent ≠ -1 → seen[m]? = some true := by
  induction l generalizing seen with
  | nil => intro m y hy; simp at hy
  | cons x l ih =>
    cases seen with
    | nil => simp at hs
    | cons s t =>
      rw [lostB, Bool.or_eq_false_iff] at h
      intro m y hy hp
      cases m with
      | zero =>
        simp at hy
        subst hy
        have h1 := h.1
        have : (x.parent != -1) = true := by simpa using hp
        rw [this] at h1
        simp at h1
        simp [h1]
      | succ m =>
        simp at hy
        have := ih t h.2 (by simpa using hs) m y hy hp
        simpa using this
theorem kids_right {l : List Nd} (h0 : 0 < l.length) (h : kidsE l = 0) : KidsRight l := by
  unfold kidsE at h
  simp only at h
  by_cases h1 : (allKids l 0 (List.replicate l.length false) l).1 = 0
  · rw [if_neg (by rw [h1]; decide)] at h
    have hok := allKids_ok_of (l := l) l 0 (List.replicate l.length false) rfl ⟨by simp, fun j x hj => by omega, fun m hm => by
      have := (List.getElem?_eq_some_iff.1 hm).2
      simp at this⟩ h1
    rw [Nat.zero_add] at hok
    by_cases h2 : lostB (allKids l 0 (List.replicate l.length false) l).2 l = true
    · rw [if_pos h2] at h; cases h
    · rw [if_neg h2] at h
      by_cases h3 : (l.map Nd.parent).headD 0 ≠ -1
      · rw [if_pos h3] at h; cases h
      · refine ⟨fun j x hx => hok.kids j x (List.getElem?_eq_some_iff.1 hx).1 hx, fun m y hy hp => ?_, fun x hx => ?_⟩
        · obtain ⟨j, x, _, hx, hk⟩ := hok.marks m (lost_none _ _ (by simpa using h2) hok.len m y hy hp)
          exact ⟨j, x, hx, hk⟩
        · cases l with
          | nil => cases hx
          | cons z r =>
            have hz : z = x := by simpa using hx
            subst hz
            simpa using h3
  · rw [if_pos h1] at h
    exact absurd h h1
theorem KidsRight.parent_lt {l : List Nd} (h : KidsRight l) : ∀ x ∈ l, x.parent = -1 ∨ ∃ j y, x.parent = ((j : Nat) : Int) ∧ l[j]? = some y := by
  intro x hx
  by_cases hp : x.parent = -1
  · exact Or.inl hp
  · obtain ⟨m, hm⟩ := List.mem_iff_getElem?.1 hx
    obtain ⟨j, y, hy, hk⟩ := h.known m x hm hp
    obtain ⟨m', z, e, hz, hpz, _⟩ := (h.kids j y hy).2 _ hk
    have : m = m' := by omega
    subst this
    rw [hm] at hz
    obtain rfl := Option.some.inj hz
    exact Or.inr ⟨j, y, hpz, hy⟩
end Go.Proofs.YtbddnohbkafagaaGreatDoor

/-
The walk of package dom: Check.
-/
namespace Go.Proofs.YtbddnohbkafagaaGreatDoor
open Go.RowKit Go.Cl
attribute [local go_sem ↓] Go.wp_at_zero Go.wp_at_succ

theorem first_bad {l : List Nd} {k : Nat} {x : Nd} (hx : l[k]? = some x) (h : ((x.kind == 1) != (k == 0)) = true) : firstE k (l.drop k) = 3 := by
  rw [List.drop_eq_getElem_cons (List.getElem?_eq_some_iff.1 hx).1, (List.getElem?_eq_some_iff.1 hx).2, firstE, if_pos h]
theorem first_err {l : List Nd} {k : Nat} {x : Nd} (hx : l[k]? = some x) (h : ((x.kind == 1) != (k == 0)) = false) (he : nodeE x ≠ 0) : firstE k (l.drop k) = nodeE x := by
  rw [List.drop_eq_getElem_cons (List.getElem?_eq_some_iff.1 hx).1, (List.getElem?_eq_some_iff.1 hx).2, firstE, if_neg (by rw [h]; decide), if_pos he]
theorem first_ok {l : List Nd} {k : Nat} {x : Nd} (hx : l[k]? = some x) (h : ((x.kind == 1) != (k == 0)) = false) (he : nodeE x = 0) : firstE k (l.drop k) = firstE (k + 1) (l.drop (k + 1)) := by
  rw [List.drop_eq_getElem_cons (List.getElem?_eq_some_iff.1 hx).1, (List.getElem?_eq_some_iff.1 hx).2, firstE, if_neg (by rw [h]; decide), if_neg (by rw [he]; simp)]
theorem check_first {l : List Nd} {n : Nat} {e : Int} (hn : n ≤ 200) (h0 : 0 < n) (hl : n = l.length) (h : firstE 0 l = e) (he : e ≠ 0) : checkD l = e := by
  unfold checkD
  rw [if_neg (by omega), if_neg (by omega), h, if_pos he]
theorem check_kids {l : List Nd} {n : Nat} {e : Int} (hn : n ≤ 200) (h0 : 0 < n) (hl : n = l.length) (h : firstE 0 l = 0) (hk : kidsE l = e) (he : e ≠ 0) : checkD l = e := by
  unfold checkD
  rw [if_neg (by omega), if_neg (by omega), h, if_neg (by decide), hk, if_pos he]
theorem check_last {l : List Nd} {n : Nat} (hn : n ≤ 200) (h0 : 0 < n) (hl : n = l.length) (h : firstE 0 l = 0) (hk : kidsE l = 0) : checkD l = lastE l (List.range l.length) := by
  unfold checkD
  rw [if_neg (by omega), if_neg (by omega), h, if_neg (by decide), hk, if_neg (by decide)]
theorem range_at {n k : Nat} (h : k < n) : (List.range n).drop k = k :: (List.range n).drop (k + 1) := by
  rw [List.drop_eq_getElem_cons (by simpa using h)]
  simp
theorem last_eight {l : List Nd} {k : Nat} (hk : k < l.length) (h : l.length < upN l k) : lastE l ((List.range l.length).drop k) = 8 := by
  rw [range_at hk, lastE, if_pos h]
theorem last_two {l : List Nd} {k : Nat} (hk : k < l.length) (h : ¬ l.length < upN l k) (h2 : 40 < upN l k) : lastE l ((List.range l.length).drop k) = 2 := by
  rw [range_at hk, lastE, if_neg h, if_pos h2]
theorem last_go {l : List Nd} {k : Nat} (hk : k < l.length) (h : ¬ l.length < upN l k) (h2 : ¬ 40 < upN l k) : lastE l ((List.range l.length).drop k) = lastE l ((List.range l.length).drop (k + 1)) := by
  conv => lhs; rw [range_at hk, lastE, if_neg h, if_neg h2]

end Go.Proofs.YtbddnohbkafagaaGreatDoor
