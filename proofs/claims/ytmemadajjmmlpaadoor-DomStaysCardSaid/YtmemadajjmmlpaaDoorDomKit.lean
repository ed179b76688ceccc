/-
Documents: the data, how they lie in memory, and what dom.Check says of them, in plain words.
-/
import Derived.Test.YtmemadajjmmlpaaDoorProg
import Derived.Test.YtmemadajjmmlpaaDoorKit3
import Derived.Test.YtmemadajjmmlpaaDoorShelf
import Derived.Lib.SlTrimSet
import Derived.Lib.Bytealg
namespace Go.Proofs.YtmemadajjmmlpaaDoor
open Go.RowKit Go.Cl

/-- An attribute: its name, its value. -/
abbrev DAttr := ByteArray × ByteArray
def tDA : Ty DAttr := tPair tStr tStr
/-- A node. -/
structure Nd where
  kind : Int
  name : ByteArray
  attrs : List DAttr
  text : ByteArray
  parent : Int
  kids : List Int
def tNd : Ty Nd := tMap (tPair (tInt .i64) (tPair tStr (tPair (tSlice tDA) (tPair tStr (tPair (tInt .i64) (tSlice (tInt .i64))))))) (fun x => (x.kind, x.name, x.attrs, x.text, x.parent, x.kids)) 96

theorem elemDA : ElemOf Tryd.prog 32 91 2 32 := mkElem Tryd.underlying32 (by kernel_rfl) (z := .agg #[.string ⟨#[]⟩, .string ⟨#[]⟩]) rfl (by decide)
theorem elemNd : ElemOf Tryd.prog 22 35 6 96 := mkElem Tryd.underlying22 (by kernel_rfl) (z := .agg #[.int .i64 0, .string ⟨#[]⟩, .slice none 0 0, .string ⟨#[]⟩, .int .i64 0, .slice none 0 0]) rfl (by decide)
theorem elemI : ElemOf Tryd.prog 33 3 1 8 := mkElem Tryd.underlying33 (by kernel_rfl) (z := .int .i64 0) rfl (by decide)

/-- The cells of a node. -/
def ndCells (x : Nd) (Aa : Option Addr) (na ca : Nat) (Ak : Option Addr) (nk ck : Nat) : List Value := [.int .i64 x.kind, .string x.name, .slice Aa na ca, .string x.text, .int .i64 x.parent, .slice Ak nk ck]
/-- What is known of them. -/
structure NdAt (w : World) (D : Nat → Prop) (x : Nd) (Aa : Option Addr) (na ca : Nat) (Ak : Option Addr) (nk ck : Nat) : Prop where
  attrs : Sl tDA w D Aa na ca x.attrs
  kids : Sl (tInt .i64) w D Ak nk ck x.kids
  kind : (Lit.int .i64 x.kind).wf = true
  name : x.name.size ≤ 1152921504606846976
  text : x.text.size ≤ 1152921504606846976
  parent : (Lit.int .i64 x.parent).wf = true
theorem nd_cells {w : World} {D : Nat → Prop} {x : Nd} {cs : List Value} (h : tNd.rep w D x cs) : ∃ Aa na ca Ak nk ck, cs = ndCells x Aa na ca Ak nk ck ∧ NdAt w D x Aa na ca Ak nk ck := by
  obtain ⟨c1, c2, rfl, ⟨rfl, h1⟩, c3, c4, rfl, ⟨rfl, h2⟩, c5, c6, rfl, ⟨Aa, na, ca, rfl, h3⟩, c7, c8, rfl, ⟨rfl, h4⟩, c9, c10, rfl, ⟨rfl, h5⟩, Ak, nk, ck, rfl, h6⟩ := h
  exact ⟨Aa, na, ca, Ak, nk, ck, rfl, h3, h6, h1, h2, h4, h5⟩
theorem nd_rep {w : World} {D : Nat → Prop} {x : Nd} {Aa : Option Addr} {na ca : Nat} {Ak : Option Addr} {nk ck : Nat} (h : NdAt w D x Aa na ca Ak nk ck) : tNd.rep w D x (ndCells x Aa na ca Ak nk ck) :=
  ⟨[_], _, rfl, ⟨rfl, h.kind⟩, [_], _, rfl, ⟨rfl, h.name⟩, [_], _, rfl, ⟨Aa, na, ca, rfl, h.attrs⟩, [_], _, rfl, ⟨rfl, h.text⟩, [_], _, rfl, ⟨rfl, h.parent⟩, Ak, nk, ck, rfl, h.kids⟩
theorem NdAt.below {w w' : World} {B B' : Nat} {x : Nd} {Aa : Option Addr} {na ca : Nat} {Ak : Option Addr} {nk ck : Nat} (h : NdAt w (lt B) x Aa na ca Ak nk ck) (hb : Below B' w w') (hB : B ≤ B') : NdAt w' (lt B) x Aa na ca Ak nk ck :=
  ⟨h.attrs.below hb hB, h.kids.below hb hB, h.kind, h.name, h.text, h.parent⟩
/-- One node of a slice of nodes: its six cells. -/
theorem Sl.nd {w : World} {D : Nat → Prop} {A : Option Addr} {n c : Nat} {l : List Nd} (h : Sl tNd w D A n c l) {i : Nat} {x : Nd} (hx : l[i]? = some x) :
    ∃ b o Aa na ca Ak nk ck, A = some ⟨b, o, none⟩ ∧ D b ∧ NdAt w D x Aa na ca Ak nk ck ∧ ∀ j u, (ndCells x Aa na ca Ak nk ck)[j]? = some u → w.cell? ⟨b, o + (i * 6 + j), none⟩ = some u := by
  obtain ⟨b, o, cs, e, hD, hr, hc⟩ := h.get hx
  obtain ⟨Aa, na, ca, Ak, nk, ck, rfl, hn⟩ := nd_cells hr
  exact ⟨b, o, Aa, na, ca, Ak, nk, ck, e, hD, hn, hc⟩

/-! ### names and attributes -/
def signsB : List UInt8 := (⟨#[97, 98, 99, 100, 101, 102, 103, 104, 105, 106, 107, 108, 109, 110, 111, 112, 113, 114, 115, 116, 117, 118, 119, 120, 121, 122, 48, 49, 50, 51, 52, 53, 54, 55, 56, 57, 45, 95, 58]⟩ : ByteArray).data.toList
def lettersB : ByteArray := (⟨#[97, 98, 99, 100, 101, 102, 103, 104, 105, 106, 107, 108, 109, 110, 111, 112, 113, 114, 115, 116, 117, 118, 119, 120, 121, 122]⟩ : ByteArray)
def attrB : ByteArray := (⟨#[97, 98, 99, 100, 101, 102, 103, 104, 105, 106, 107, 108, 109, 110, 111, 112, 113, 114, 115, 116, 117, 118, 119, 120, 121, 122, 45, 95]⟩ : ByteArray)
/-- A name that begins with one of some signs. -/
def namedR (s first : ByteArray) : Bool := decide (0 < s.size) && decide (s.size ≤ 40) && decide (0 ≤ Lib.indexByte first.data.toList (s.data.toList.headD 0)) && (Lib.trimS s.data.toList signsB).isEmpty
/-- An attribute's place. -/
def findA (l : List DAttr) (nm : ByteArray) : Int := match l.findIdx? (fun a => a.1.toList == nm.toList) with
  | some i => i
  | none => -1
/-- Attributes, one by one. -/
def attrsF : List DAttr → List DAttr → Int
  | _, [] => 0
  | pre, a :: r => if namedR a.1 attrB = false then 3 else if 400 < a.2.size then 2 else if 0 ≤ findA pre a.1 then 3 else attrsF (pre ++ [a]) r
def attrsE (l : List DAttr) : Int := if 12 < l.length then 2 else attrsF [] l
def parentB (k : Int) : Bool := k == 1 || k == 2
def bareB (x : Nd) : Bool :=
  (x.kind == 2 || x.kind == 5 || x.name.toList.isEmpty) && (x.kind == 2 || x.attrs.isEmpty) && ((x.kind == 3 || x.kind == 4) || x.text.toList.isEmpty) && (parentB x.kind || x.kids.isEmpty)
/-- One node by itself. -/
def nodeE (x : Nd) : Int :=
  if x.kind < 1 ∨ 5 < x.kind ∨ bareB x = false then 7
  else if x.kind = 2 ∧ namedR x.name lettersB = false then 3
  else if attrsE x.attrs ≠ 0 then attrsE x.attrs
  else if 400 < x.text.size ∨ 400 < x.name.size then 2 else 0

/-! ### kids -/
/-- One kid: an error, or all that have been seen. -/
def kidE (l : List Nd) (i : Nat) (seen : List Bool) (k : Int) : Int :=
  if k < 0 ∨ (l.length : Int) ≤ k then 3
  else if ((l.map Nd.parent)[k.toNat]?.getD 0 ≠ (i : Int)) ∨ seen[k.toNat]?.getD true = true then 3
  else if i = 0 ∧ (l.map Nd.kind)[k.toNat]?.getD 0 = 3 then 7 else 0
def kidsF (l : List Nd) (i : Nat) : List Bool → List Int → Int × List Bool
  | seen, [] => (0, seen)
  | seen, k :: r => if kidE l i seen k ≠ 0 then (kidE l i seen k, seen) else kidsF l i (seen.set k.toNat true) r
def allKids (l : List Nd) : Nat → List Bool → List Nd → Int × List Bool
  | _, seen, [] => (0, seen)
  | i, seen, x :: r => if (kidsF l i seen x.kids).1 ≠ 0 then kidsF l i seen x.kids else allKids l (i + 1) (kidsF l i seen x.kids).2 r
/-- Has a node a parent that does not know it? -/
def lostB : List Bool → List Nd → Bool
  | s :: t, x :: r => (x.parent != -1 && !s) || lostB t r
  | _, _ => false
def kidsE (l : List Nd) : Int :=
  let r := allKids l 0 (List.replicate l.length false) l
  if r.1 ≠ 0 then r.1 else if lostB r.2 l = true then 3 else if (l.map Nd.parent).headD 0 ≠ -1 then 3 else 0

/-! ### up -/
/-- How many parents a node has above it, up to so many. -/
def upF (l : List Nd) : Nat → Int → Nat
  | 0, _ => 0
  | f + 1, n => let p := (l.map Nd.parent)[n.toNat]?.getD (-1)
    if 0 ≤ p then upF l f p + 1 else 0
def upN (l : List Nd) (n : Int) : Nat := upF l (l.length + 1) n
/-- The first loop of Check. -/
def firstE : Nat → List Nd → Int
  | _, [] => 0
  | i, x :: r => if (x.kind == 1) != (i == 0) then 3 else if nodeE x ≠ 0 then nodeE x else firstE (i + 1) r
/-- The last one. -/
def lastE (l : List Nd) : List Nat → Int
  | [] => 0
  | i :: r => if l.length < upN l i then 8 else if 40 < upN l i then 2 else lastE l r
/-- What Check says. -/
def checkD (l : List Nd) : Int :=
  if 200 < l.length then 2 else if l.length = 0 then 3
  else if firstE 0 l ≠ 0 then firstE 0 l
  else if kidsE l ≠ 0 then kidsE l
  else lastE l (List.range l.length)
end Go.Proofs.YtmemadajjmmlpaaDoor
