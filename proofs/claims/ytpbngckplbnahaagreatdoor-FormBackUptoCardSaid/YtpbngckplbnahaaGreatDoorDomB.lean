/-
Documents: the data, how they lie in memory, and what dom.Check says of them, in plain words.
-/
import Derived.Test.YtpbngckplbnahaaGreatDoorProg
import Derived.Test.YtpbngckplbnahaaGreatDoorBase
import Derived.Test.YtpbngckplbnahaaGreatDoorShelf
import Derived.Lib.SlTrimSet
import Derived.Lib.Bytealg
import Derived.Shelf.Strings.SlTrimAscii
import Derived.WalkSpells
import Derived.Outline
import Derived.Deep.QuietTactic
import Derived.BigQuiet
import Derived.Deep.RegionHeld3
import Derived.Deep.DrawnRows
import Derived.Deep.DeepMust
import Derived.Deep.DeepCutAuto
import Derived.Laws.MakeOwn
import Derived.Laws.OwnMore
namespace Go.Proofs.YtpbngckplbnahaaGreatDoor
open Go.RowKit Go.Cl

/-- An attribute: its name, its value. -/
abbrev DAttr := ByteArray × ByteArray
def tDA : Ty DAttr := tPair tStr tStr
/-- A node. -/
structure Nd where
  kind : Int
  name : ByteArray
  attrs : List DAttr
  text : ByteArray
  parent : Int
  kids : List Int
def tNd : Ty Nd := tMap (tPair (tInt .i64) (tPair tStr (tPair (tSlice tDA) (tPair tStr (tPair (tInt .i64) (tSlice (tInt .i64))))))) (fun x => (x.kind, x.name, x.attrs, x.text, x.parent, x.kids)) 96

theorem elemDA : ElemOf Tryz.prog 24 31 2 32 := mkElem Tryz.underlying24 (by kernel_rfl) (z := .agg #[.string ⟨#[]⟩, .string ⟨#[]⟩]) rfl (by decide)
theorem elemNd : ElemOf Tryz.prog 27 26 6 96 := mkElem Tryz.underlying27 (by kernel_rfl) (z := .agg #[.int .i64 0, .string ⟨#[]⟩, .slice none 0 0, .string ⟨#[]⟩, .int .i64 0, .slice none 0 0]) rfl (by decide)
theorem elemI : ElemOf Tryz.prog 23 3 1 8 := mkElem Tryz.underlying23 (by kernel_rfl) (z := .int .i64 0) rfl (by decide)

/-- The cells of a node. -/
def ndCells (x : Nd) (Aa : Option Addr) (na ca : Nat) (Ak : Option Addr) (nk ck : Nat) : List Value := [.int .i64 x.kind, .string x.name, .slice Aa na ca, .string x.text, .int .i64 x.parent, .slice Ak nk ck]
/-- What is known of them. -/
structure NdAt (w : World) (D : Nat → Prop) (x : Nd) (Aa : Option Addr) (na ca : Nat) (Ak : Option Addr) (nk ck : Nat) : Prop where
  attrs : Sl tDA w D Aa na ca x.attrs
  kids : Sl (tInt .i64) w D Ak nk ck x.kids
  kind : (Lit.int .i64 x.kind).wf = true
  name : x.name.size ≤ 1152921504606846976
  text : x.text.size ≤ 1152921504606846976
  parent : (Lit.int .i64 x.parent).wf = true
theorem nd_cells {w : World} {D : Nat → Prop} {x : Nd} {cs : List Value} (h : tNd.rep w D x cs) : ∃ Aa na ca Ak nk ck, cs = ndCells x Aa na ca Ak nk ck ∧ NdAt w D x Aa na ca Ak nk ck := by
  obtain ⟨c1, c2, rfl, ⟨rfl, h1⟩, c3, c4, rfl, ⟨rfl, h2⟩, c5, c6, rfl, ⟨Aa, na, ca, rfl, h3⟩, c7, c8, rfl, ⟨rfl, h4⟩, c9, c10, rfl, ⟨rfl, h5⟩, Ak, nk, ck, rfl, h6⟩ := h
  exact ⟨Aa, na, ca, Ak, nk, ck, rfl, h3, h6, h1, h2, h4, h5⟩
theorem nd_rep {w : World} {D : Nat → Prop} {x : Nd} {Aa : Option Addr} {na ca : Nat} {Ak : Option Addr} {nk ck : Nat} (h : NdAt w D x Aa na ca Ak nk ck) : tNd.rep w D x (ndCells x Aa na ca Ak nk ck) :=
  ⟨[_], _, rfl, ⟨rfl, h.kind⟩, [_], _, rfl, ⟨rfl, h.name⟩, [_], _, rfl, ⟨Aa, na, ca, rfl, h.attrs⟩, [_], _, rfl, ⟨rfl, h.text⟩, [_], _, rfl, ⟨rfl, h.parent⟩, Ak, nk, ck, rfl, h.kids⟩
theorem NdAt.below {w w' : World} {B B' : Nat} {x : Nd} {Aa : Option Addr} {na ca : Nat} {Ak : Option Addr} {nk ck : Nat} (h : NdAt w (lt B) x Aa na ca Ak nk ck) (hb : Below B' w w') (hB : B ≤ B') : NdAt w' (lt B) x Aa na ca Ak nk ck :=
  ⟨h.attrs.below hb hB, h.kids.below hb hB, h.kind, h.name, h.text, h.parent⟩
/-- One node of a slice of nodes: its six cells. -/
theorem Sl.nd {w : World} {D : Nat → Prop} {A : Option Addr} {n c : Nat} {l : List Nd} (h : Sl tNd w D A n c l) {i : Nat} {x : Nd} (hx : l[i]? = some x) :
    ∃ b o Aa na ca Ak nk ck, A = some ⟨b, o, none⟩ ∧ D b ∧ NdAt w D x Aa na ca Ak nk ck ∧ ∀ j u, (ndCells x Aa na ca Ak nk ck)[j]? = some u → w.cell? ⟨b, o + (i * 6 + j), none⟩ = some u := by
  obtain ⟨b, o, cs, e, hD, hr, hc⟩ := h.get hx
  obtain ⟨Aa, na, ca, Ak, nk, ck, rfl, hn⟩ := nd_cells hr
  exact ⟨b, o, Aa, na, ca, Ak, nk, ck, e, hD, hn, hc⟩

/-! ### names and attributes -/
def signsB : List UInt8 := (⟨#[97, 98, 99, 100, 101, 102, 103, 104, 105, 106, 107, 108, 109, 110, 111, 112, 113, 114, 115, 116, 117, 118, 119, 120, 121, 122, 48, 49, 50, 51, 52, 53, 54, 55, 56, 57, 45, 95, 58]⟩ : ByteArray).data.toList
def lettersB : ByteArray := (⟨#[97, 98, 99, 100, 101, 102, 103, 104, 105, 106, 107, 108, 109, 110, 111, 112, 113, 114, 115, 116, 117, 118, 119, 120, 121, 122]⟩ : ByteArray)
def attrB : ByteArray := (⟨#[97, 98, 99, 100, 101, 102, 103, 104, 105, 106, 107, 108, 109, 110, 111, 112, 113, 114, 115, 116, 117, 118, 119, 120, 121, 122, 45, 95]⟩ : ByteArray)
/-- A name that begins with one of some signs. -/
def namedR (s first : ByteArray) : Bool := decide (0 < s.size) && decide (s.size ≤ 40) && decide (0 ≤ Lib.indexByte first.data.toList (s.data.toList.headD 0)) && (Lib.trimS s.data.toList signsB).isEmpty
/-- An attribute's place. -/
def findA (l : List DAttr) (nm : ByteArray) : Int := match l.findIdx? (fun a => a.1.toList == nm.toList) with
  | some i => i
  | none => -1
/-- Attributes, one by one. -/
def attrsF : List DAttr → List DAttr → Int
  | _, [] => 0
  | pre, a :: r => if namedR a.1 attrB = false then 3 else if 400 < a.2.size then 2 else if 0 ≤ findA pre a.1 then 3 else attrsF (pre ++ [a]) r
def attrsE (l : List DAttr) : Int := if 12 < l.length then 2 else attrsF [] l
def parentB (k : Int) : Bool := k == 1 || k == 2
def bareB (x : Nd) : Bool :=
  (x.kind == 2 || x.kind == 5 || x.name.toList.isEmpty) && (x.kind == 2 || x.attrs.isEmpty) && ((x.kind == 3 || x.kind == 4) || x.text.toList.isEmpty) && (parentB x.kind || x.kids.isEmpty)
/-- One node by itself. -/
def nodeE (x : Nd) : Int :=
  if x.kind < 1 ∨ 5 < x.kind ∨ bareB x = false then 7
  else if x.kind = 2 ∧ namedR x.name lettersB = false then 3
  else if attrsE x.attrs ≠ 0 then attrsE x.attrs
  else if 400 < x.text.size ∨ 400 < x.name.size then 2 else 0

/-! ### kids -/
/-- One kid: an error, or all that have been seen. -/
def kidE (l : List Nd) (i : Nat) (seen : List Bool) (k : Int) : Int :=
  if k < 0 ∨ (l.length : Int) ≤ k then 3
  else if ((l.map Nd.parent)[k.toNat]?.getD 0 ≠ (i : Int)) ∨ seen[k.toNat]?.getD true = true then 3
  else if i = 0 ∧ (l.map Nd.kind)[k.toNat]?.getD 0 = 3 then 7 else 0
def kidsF (l : List Nd) (i : Nat) : List Bool → List Int → Int × List Bool
  | seen, [] => (0, seen)
  | seen, k :: r => if kidE l i seen k ≠ 0 then (kidE l i seen k, seen) else kidsF l i (seen.set k.toNat true) r
def allKids (l : List Nd) : Nat → List Bool → List Nd → Int × List Bool
  | _, seen, [] => (0, seen)
  | i, seen, x :: r => if (kidsF l i seen x.kids).1 ≠ 0 then kidsF l i seen x.kids else allKids l (i + 1) (kidsF l i seen x.kids).2 r
/-- Has a node a parent that does not know it? -/
def lostB : List Bool → List Nd → Bool
  | s :: t, x :: r => (x.parent != -1 && !s) || lostB t r
  | _, _ => false
def kidsE (l : List Nd) : Int :=
  let r := allKids l 0 (List.replicate l.length false) l
  if r.1 ≠ 0 then r.1 else if lostB r.2 l = true then 3 else if (l.map Nd.parent).headD 0 ≠ -1 then 3 else 0

/-! ### up -/
/-- How many parents a node has above it, up to so many. -/
def upF (l : List Nd) : Nat → Int → Nat
  | 0, _ => 0
  | f + 1, n => let p := (l.map Nd.parent)[n.toNat]?.getD (-1)
    if 0 ≤ p then upF l f p + 1 else 0
def upN (l : List Nd) (n : Int) : Nat := upF l (l.length + 1) n
/-- The first loop of Check. -/
def firstE : Nat → List Nd → Int
  | _, [] => 0
  | i, x :: r => if (x.kind == 1) != (i == 0) then 3 else if nodeE x ≠ 0 then nodeE x else firstE (i + 1) r
/-- The last one. -/
def lastE (l : List Nd) : List Nat → Int
  | [] => 0
  | i :: r => if l.length < upN l i then 8 else if 40 < upN l i then 2 else lastE l r
/-- What Check says. -/
def checkD (l : List Nd) : Int :=
  if 200 < l.length then 2 else if l.length = 0 then 3
  else if firstE 0 l ≠ 0 then firstE 0 l
  else if kidsE l ≠ 0 then kidsE l
  else lastE l (List.range l.length)
end Go.Proofs.YtpbngckplbnahaaGreatDoor

/-
The walks of package dom: named, Name, attrName, find, attrs.
-/
namespace Go.Proofs.YtpbngckplbnahaaGreatDoor
open Go.RowKit Go.Cl
attribute [local go_sem ↓] Go.wp_at_zero Go.wp_at_succ

theorem isE_of {s : ByteArray} (h : s.size = 0) : s.toList.isEmpty = true := by
  rw [ByteArray.toList_eq]
  have : s.data.toList.length = 0 := by simpa using h
  rw [List.eq_nil_of_length_eq_zero this]; rfl
theorem isE_not {s : ByteArray} (h : 0 < s.size) : s.toList.isEmpty = false := by
  rw [ByteArray.toList_eq]
  cases hl : s.data.toList with
  | nil => have : s.data.toList.length = s.size := by simp
           rw [hl] at this; simp at this; omega
  | cons => rfl
theorem headD_at {s : ByteArray} (h : 0 < s.size) : s.data.toList.headD 0 = s[0] := by
  have h0 : s.data.toList[0]? = some s[0] := by rw [List.getElem?_eq_getElem (by simpa using h)]; rfl
  cases hl : s.data.toList with
  | nil => rw [hl] at h0; cases h0
  | cons b l => rw [hl] at h0; simpa using h0
set_option maxRecDepth 100000 in
theorem named_any' (s first : ByteArray) (w : World) (hs : s.size ≤ 1152921504606846976) :
    Calls Tryz.prog 177 #[.string s, .string first] w fun e w' => e = .returned (.bool (namedR s first)) ∧ Below w.heap.size w w' := by
  by_cases h0 : 0 < s.size
  · have he := isE_not h0
    by_cases h40 : s.size ≤ 40
    · have HI := Lib.hid (fun W => Tryz.strings_IndexByte first (s[0].toNat : Int) W)
      rw [show ((s[0].toNat : Int)).toNat.toUInt8 = s[0] from by simp] at HI
      have HR := Lib.hid (show namedR s first = (decide ((0 : Int) ≤ Lib.indexByte first.data.toList s[0]) && (Lib.trimS s.data.toList signsB).isEmpty) from by
        unfold namedR
        rw [headD_at h0, decide_eq_true h0, decide_eq_true h40]
        rfl)
      generalize hx : Lib.indexByte first.data.toList s[0] = x at *
      by_cases hx0 : 0 ≤ x
      · have HT : Hid (∀ W, Calls Tryz.prog 119 #[.string s, .string (⟨#[97, 98, 99, 100, 101, 102, 103, 104, 105, 106, 107, 108, 109, 110, 111, 112, 113, 114, 115, 116, 117, 118, 119, 120, 121, 122, 48, 49, 50, 51, 52, 53, 54, 55, 56, 57, 45, 95, 58]⟩ : ByteArray)] W fun e w' => e = .returned (.string ⟨(Lib.trimS s.data.toList signsB).toArray⟩) ∧ Below W.heap.size W w') := fun W =>
          Any.strings_Trim_laid Tryz.laysTrim (by kernel_rfl) s (⟨#[97, 98, 99, 100, 101, 102, 103, 104, 105, 106, 107, 108, 109, 110, 111, 112, 113, 114, 115, 116, 117, 118, 119, 120, 121, 122, 48, 49, 50, 51, 52, 53, 54, 55, 56, 57, 45, 95, 58]⟩ : ByteArray) W (by omega) (by decide) (ascii_of_all (by decide))
        have HR2 : Hid (namedR s first = (ByteArray.mk (Lib.trimS s.data.toList signsB).toArray).toList.isEmpty) := by
          show namedR s first = _
          rw [HR.out, decide_eq_true hx0, ByteArray.toList_eq]
          rfl
        clear hx HR
        generalize ByteArray.mk (Lib.trimS s.data.toList signsB).toArray = t at *
        go_enter Tryz.func177, Tryz.ntmps177
        go_wp2_with fail
        refine (HI.out _).mono ?_
        rintro e w1 ⟨rfl, rfl⟩
        go_wp2_with fail
        refine (HT.out _).mono ?_
        rintro e w2 ⟨rfl, hb⟩
        go_wp2_with fail
        go_ret
        exact ⟨retB HR2.out.symm, hb⟩
      · have HR2 : Hid (namedR s first = false) := by
          show namedR s first = _
          rw [HR.out, decide_eq_false hx0]
          rfl
        clear hx HR
        go_enter Tryz.func177, Tryz.ntmps177
        go_wp2_with fail
        refine (HI.out _).mono ?_
        rintro e w1 ⟨rfl, rfl⟩
        go_wp2_with fail
        go_ret
        exact ⟨retB HR2.out.symm, Below.refl _ _⟩
    · have HR : Hid (namedR s first = false) := by
        show namedR s first = false
        unfold namedR
        rw [decide_eq_false h40]
        simp
      go_enter Tryz.func177, Tryz.ntmps177
      go_wp2_with fail
      go_ret
      exact ⟨retB HR.out.symm, Below.refl _ _⟩
  · have he := isE_of (s := s) (by omega)
    have HR : Hid (namedR s first = false) := by
      show namedR s first = false
      unfold namedR
      rw [decide_eq_false h0]
      simp
    go_enter Tryz.func177, Tryz.ntmps177
    go_wp2_with fail
    go_ret
    exact ⟨retB HR.out.symm, Below.refl _ _⟩
theorem name_any (s : ByteArray) (w : World) (hs : s.size ≤ 1152921504606846976) :
    Calls Tryz.prog 137 #[.string s] w fun e w' => e = .returned (.bool (namedR s lettersB)) ∧ Below w.heap.size w w' := by
  have HN := Lib.hid (fun W => named_any' s lettersB W hs)
  go_enter Tryz.func137, Tryz.ntmps137
  go_wp2_with fail
  refine (HN.out _).mono ?_
  rintro e w2 ⟨rfl, hb⟩
  go_wp2_with fail
  go_ret
  exact ⟨rfl, hb⟩
theorem attrName_any (s : ByteArray) (w : World) (hs : s.size ≤ 1152921504606846976) :
    Calls Tryz.prog 178 #[.string s] w fun e w' => e = .returned (.bool (namedR s attrB)) ∧ Below w.heap.size w w' := by
  have HN := Lib.hid (fun W => named_any' s attrB W hs)
  go_enter Tryz.func178, Tryz.ntmps178
  go_wp2_with fail
  refine (HN.out _).mono ?_
  rintro e w2 ⟨rfl, hb⟩
  go_wp2_with fail
  go_ret
  exact ⟨rfl, hb⟩
end Go.Proofs.YtpbngckplbnahaaGreatDoor

/-
The walks of package dom: find, attrs.
-/
namespace Go.Proofs.YtpbngckplbnahaaGreatDoor
open Go.RowKit Go.Cl
attribute [local go_sem ↓] Go.wp_at_zero Go.wp_at_succ

theorem findLam_any (a b nm : ByteArray) (g : Nat) (w : World) (hc : w.cell? ⟨g, 0, none⟩ = some (.string nm)) :
    Calls Tryz.prog 106 #[.agg #[.string a, .string b], .pointer (some ⟨g, 0, none⟩)] w fun e w' => e = .returned (.bool (a.toList == nm.toList)) ∧ Below w.heap.size w w' := by
  have hc2 : ∀ o, (w.alloc o).cell? ⟨g, 0, none⟩ = some (.string nm) := fun o => cell_al hc o
  go_enter Tryz.func106, Tryz.ntmps106
  go_wp2_with fail
  go_ret
  exact ⟨rfl, (Below.refl _ _).alloc (Nat.le_refl _) _⟩

theorem findA_skip {l : List DAttr} {nm : ByteArray} {k : Nat} {x : DAttr} (h : ∀ j y, j < k → l[j]? = some y → (y.1.toList == nm.toList) = false) (hx : l[k]? = some x) (hp : (x.1.toList == nm.toList) = false) : ∀ j y, j < k + 1 → l[j]? = some y → (y.1.toList == nm.toList) = false := by
  intro j y hj hy
  by_cases e : j = k
  · subst e
    rw [hx] at hy
    obtain rfl := Option.some.inj hy
    exact hp
  · exact h j y (by omega) hy
theorem findA_hit {l : List DAttr} {nm : ByteArray} {k : Nat} {x : DAttr} (h : ∀ j y, j < k → l[j]? = some y → (y.1.toList == nm.toList) = false) (hx : l[k]? = some x) (hp : (x.1.toList == nm.toList) = true) : findA l nm = (k : Int) := by
  have hf : l.findIdx? (fun a => a.1.toList == nm.toList) = some k := by
    rw [List.findIdx?_eq_some_iff_getElem]
    have hk := (List.getElem?_eq_some_iff.1 hx).1
    refine ⟨hk, by rw [(List.getElem?_eq_some_iff.1 hx).2]; exact hp, fun j hj => ?_⟩
    have := h j l[j] hj (List.getElem?_eq_getElem (by omega))
    simp [this]
  unfold findA
  rw [hf]
theorem findA_none {l : List DAttr} {nm : ByteArray} {k : Nat} (h : ∀ j y, j < k → l[j]? = some y → (y.1.toList == nm.toList) = false) (hk : l.length ≤ k) : findA l nm = -1 := by
  have hf : l.findIdx? (fun a => a.1.toList == nm.toList) = none := by
    rw [List.findIdx?_eq_none_iff]
    intro x hx
    obtain ⟨j, hj⟩ := List.mem_iff_getElem?.1 hx
    exact h j x (by have := (List.getElem?_eq_some_iff.1 hj).1; omega) hj
  unfold findA
  rw [hf]
theorem da_cells {w : World} {D : Nat → Prop} {A : Option Addr} {n c : Nat} {l : List DAttr} (h : Sl tDA w D A n c l) {i : Nat} {x : DAttr} (hx : l[i]? = some x) :
    ∃ b o, A = some ⟨b, o, none⟩ ∧ D b ∧ w.cell? ⟨b, o + i * 2, none⟩ = some (.string x.1) ∧ w.cell? ⟨b, o + i * 2 + 1, none⟩ = some (.string x.2) ∧ x.1.size ≤ 1152921504606846976 ∧ x.2.size ≤ 1152921504606846976 := by
  obtain ⟨b, o, cs, e, hD, ⟨c1, c2, rfl, ⟨rfl, h1⟩, rfl, h2⟩, hc⟩ := h.get hx
  exact ⟨b, o, e, hD, hc 0 _ rfl, hc 1 _ rfl, h1, h2⟩

set_option maxRecDepth 100000 in
theorem idxA_any (A : Option Addr) (n c : Nat) (l : List DAttr) (nm : ByteArray) (g : Nat) (w : World) (B : Nat) (hl : Sl tDA w (lt B) A n c l) (hB : B ≤ w.heap.size) (hc : w.cell? ⟨g, 0, none⟩ = some (.string nm)) :
    Calls Tryz.prog 105 #[.slice A n c, .func (.func 106) #[] #[.pointer (some ⟨g, 0, none⟩)]] w fun e w' => e = .returned (.int .i64 (findA l nm)) ∧ Below w.heap.size w w' := by
  have hn1 := hl.small
  have HL := Lib.hid hl.hn
  go_enter Tryz.func105, Tryz.ntmps105
  go_wp2_with fail
  go_loopw [8] (fun i wr => ∃ k : Nat, k ≤ n ∧ i = .int .i64 (k : Int) ∧ Below w.heap.size w wr ∧ Hid (∀ j y, j < k → l[j]? = some y → (y.1.toList == nm.toList) = false)) (fun i _ => n - (intOf i).toNat)
  case atStart => exact ⟨0, Nat.zero_le _, rfl, Below.refl _ _, Lib.hid (fun j y hj => by omega)⟩
  case round =>
    obtain ⟨k, hk, rfl, hb, HA⟩ := hrel
    by_cases hlt : k < n
    · obtain ⟨x, hx⟩ : ∃ x, l[k]? = some x := get_some (by have := HL.out; omega)
      obtain ⟨b, o, rfl, hD, c1, c2, z1, z2⟩ := da_cells (hl.below hb hB) hx
      have HX := Lib.hid hx
      have HCALL := Lib.hid (findLam_any x.1 x.2 nm g wr (cell_be hc hb))
      clear hx
      cases hpx : (x.1.toList == nm.toList) with
      | true =>
        have HR := Lib.hid (findA_hit HA.out HX.out hpx)
        rw [hpx] at HCALL
        clear hpx
        go_wp2_with fail
        refine HCALL.out.mono ?_
        rintro e w1 ⟨rfl, hb1⟩
        go_wp2_with fail
        go_ret
        exact ⟨retI HR.out.symm, hb.trans (hb1.mono hb.size)⟩
      | false =>
        have HA2 := Lib.hid (findA_skip HA.out HX.out hpx)
        rw [hpx] at HCALL
        clear hpx
        go_wp2_with fail
        refine HCALL.out.mono ?_
        rintro e w1 ⟨rfl, hb1⟩
        go_wp2_with fail
        go_roundw
        case rel => exact ⟨k + 1, by omega, by go_num, hb.trans (hb1.mono hb.size), HA2⟩
        case measure => simp [intOf]; omega
    · have HR := Lib.hid (findA_none (k := k) HA.out (by have := HL.out; omega))
      go_wp2_with fail
      go_ret
      exact ⟨retI HR.out.symm, hb⟩
theorem find_dom (A : Option Addr) (n c : Nat) (l : List DAttr) (nm : ByteArray) (w : World) (B : Nat) (hl : Sl tDA w (lt B) A n c l) (hB : B ≤ w.heap.size) :
    Calls Tryz.prog 56 #[.slice A n c, .string nm] w fun e w' => e = .returned (.int .i64 (findA l nm)) ∧ Below w.heap.size w w' := by
  have HI := Lib.hid (idxA_any A n c l nm w.heap.size (w.alloc (.cells #[.string nm] 9)) B (hl.al hB _) (by rw [World.size_alloc]; omega) (cell_blk (heap_alloc_new w _) rfl))
  go_enter Tryz.func56, Tryz.ntmps56
  go_wp2_with fail
  refine HI.out.mono ?_
  rintro e w1 ⟨rfl, hb1⟩
  go_wp2_with fail
  go_ret
  exact ⟨rfl, ((Below.refl _ _).alloc (Nat.le_refl _) _).trans (hb1.mono (by rw [World.size_alloc]; omega))⟩

theorem attrsF_step {l : List DAttr} {k : Nat} {x : DAttr} (hx : l[k]? = some x) (h1 : namedR x.1 attrB = true) (h2 : x.2.size ≤ 400) (h3 : findA (l.take k) x.1 < 0) : attrsF (l.take k) (l.drop k) = attrsF (l.take (k + 1)) (l.drop (k + 1)) := by
  rw [List.drop_eq_getElem_cons (List.getElem?_eq_some_iff.1 hx).1, (List.getElem?_eq_some_iff.1 hx).2, attrsF, if_neg (by rw [h1]; decide), if_neg (by omega), if_neg (by omega), take_snoc hx]
theorem attrsF_one {l : List DAttr} {k : Nat} {x : DAttr} (hx : l[k]? = some x) (h1 : namedR x.1 attrB = false) : attrsF (l.take k) (l.drop k) = 3 := by
  rw [List.drop_eq_getElem_cons (List.getElem?_eq_some_iff.1 hx).1, (List.getElem?_eq_some_iff.1 hx).2, attrsF, if_pos h1]
theorem attrsF_two {l : List DAttr} {k : Nat} {x : DAttr} (hx : l[k]? = some x) (h1 : namedR x.1 attrB = true) (h2 : 400 < x.2.size) : attrsF (l.take k) (l.drop k) = 2 := by
  rw [List.drop_eq_getElem_cons (List.getElem?_eq_some_iff.1 hx).1, (List.getElem?_eq_some_iff.1 hx).2, attrsF, if_neg (by rw [h1]; decide), if_pos h2]
theorem attrsF_three {l : List DAttr} {k : Nat} {x : DAttr} (hx : l[k]? = some x) (h1 : namedR x.1 attrB = true) (h2 : x.2.size ≤ 400) (h3 : 0 ≤ findA (l.take k) x.1) : attrsF (l.take k) (l.drop k) = 3 := by
  rw [List.drop_eq_getElem_cons (List.getElem?_eq_some_iff.1 hx).1, (List.getElem?_eq_some_iff.1 hx).2, attrsF, if_neg (by rw [h1]; decide), if_neg (by omega), if_pos h3]

set_option maxRecDepth 100000 in
set_option maxHeartbeats 1000000 in
theorem attrs_any (A : Option Addr) (n c : Nat) (l : List DAttr) (w : World) (B : Nat) (hl : Sl tDA w (lt B) A n c l) (hB : B ≤ w.heap.size) :
    Calls Tryz.prog 138 #[.slice A n c] w fun e w' => e = .returned (.int .i64 (attrsE l)) ∧ Below w.heap.size w w' := by
  have hn1 := hl.small
  have HL := Lib.hid hl.hn
  by_cases h12 : 12 < n
  · have HR := Lib.hid (show attrsE l = 2 from by unfold attrsE; rw [if_pos (by have := HL.out; omega)])
    go_enter Tryz.func138, Tryz.ntmps138
    go_wp2_with fail
    go_ret
    exact ⟨retI HR.out.symm, Below.refl _ _⟩
  · have HR := Lib.hid (show attrsE l = attrsF (l.take 0) (l.drop 0) from by unfold attrsE; rw [if_neg (by have := HL.out; omega)]; rfl)
    go_enter Tryz.func138, Tryz.ntmps138
    go_wp2_with fail
    go_loopw [10] (fun i wr => ∃ k : Nat, k ≤ n ∧ i = .int .i64 (k : Int) ∧ Below w.heap.size w wr ∧ Hid (attrsE l = attrsF (l.take k) (l.drop k))) (fun i _ => n - (intOf i).toNat)
    case atStart => exact ⟨0, Nat.zero_le _, rfl, Below.refl _ _, HR⟩
    case round =>
      obtain ⟨k, hk, rfl, hb, HE⟩ := hrel
      have hz := hb.size
      by_cases hlt : k < n
      · obtain ⟨x, hx⟩ : ∃ x, l[k]? = some x := get_some (by have := HL.out; omega)
        have hkr := hl.below hb hB
        have hcap : n ≤ c := hl.hc
        obtain ⟨b, o, rfl, hD, c1, c2, z1, z2⟩ := da_cells hkr hx
        have HX := Lib.hid hx
        have HN := Lib.hid (fun W => attrName_any x.1 W z1)
        clear hx
        go_upto_region 6 with fail
        obtain ⟨w1, hw1⟩ : ∃ w1, w1 = wr.alloc (.cells #[.string x.1, .string x.2] 31) := ⟨_, rfl⟩
        have e1 : w1.heap[wr.heap.size]? = some (.cells #[.string x.1, .string x.2] 31 (0, 0)) := by rw [hw1]; exact heap_alloc_new wr _
        have hz1 : w1.heap.size = wr.heap.size + 1 := by rw [hw1]; exact World.size_alloc wr _
        have hb1 : Below w.heap.size w w1 := by rw [hw1]; exact hb.alloc hz _
        rw [← hw1]
        have k1 : w1.cell? ⟨wr.heap.size, 0, none⟩ = some (.string x.1) := cell_blk e1 rfl
        have HB1 := Lib.hid hb1
        clear hw1 hb1 c1 c2
        cases hnm : namedR x.1 attrB with
        | false =>
          have HR3 := Lib.hid (HE.out.trans (attrsF_one HX.out hnm))
          rw [hnm] at HN
          clear hnm
          go_wp2_with fail
          refine (HN.out _).mono ?_
          rintro e w2 ⟨rfl, hb2⟩
          go_wp2_with fail
          go_ret
          exact ⟨retI HR3.out.symm, HB1.out.trans (hb2.mono HB1.out.size)⟩
        | true =>
          rw [hnm] at HN
          have HNM := Lib.hid hnm
          clear hnm
          go_upto_region 8 with (refine (HN.out _).mono ?_; rintro e w2 ⟨rfl, hb2⟩)
          have HB2 := Lib.hid (HB1.out.trans (hb2.mono HB1.out.size))
          have e2 : w2.heap[wr.heap.size]? = some (.cells #[.string x.1, .string x.2] 31 (0, 0)) := (hb2.block _ (by omega)).trans e1
          have k2 : w2.cell? ⟨wr.heap.size, 0, none⟩ = some (.string x.1) := cell_blk e2 rfl
          have v2 : w2.cell? ⟨wr.heap.size, 1, none⟩ = some (.string x.2) := cell_blk e2 rfl
          have hz2 := hb2.size
          clear e1 k1 hb2
          by_cases h400 : 400 < x.2.size
          · have HR2 := Lib.hid (HE.out.trans (attrsF_two HX.out HNM.out h400))
            go_wp2_with fail
            go_ret
            exact ⟨retI HR2.out.symm, HB2.out⟩
          · have hcut := (hl.below HB2.out hB).cut_to (k := k) (by omega)
            have i1 : (0 : Int) ≤ (k : Int) := by omega
            have i2 : (k : Int) ≤ (c : Int) := by omega
            have i3 : (k : Int) ≤ (n : Int) := by omega
            have HF := Lib.hid (find_dom (some ⟨b, o, none⟩) k c (l.take k) x.1 w2.drew B (hcut.drew) (by show B ≤ w2.heap.size; omega))
            generalize hf : findA (l.take k) x.1 = f at *
            clear hcut
            go_wp2_with fail
            go_region_held3 (fun w' => w'.cell? ⟨wr.heap.size, 0, none⟩ = some (.string x.1)) (first | go_keep | assumption)
              ((go_at_call 56; refine HF.out.mono ?_; rintro e w3 ⟨rfl, hb3⟩; have k3 : w3.cell? ⟨wr.heap.size, 0, none⟩ = some (.string x.1) := (hb3.cell (p := ⟨wr.heap.size, 0, none⟩) (by show wr.heap.size < w2.heap.size; omega)).trans k2))
            all_goals
              have HB3 := Lib.hid (HB2.out.trans ((((Below.refl w.heap.size w2).drew)).trans (hb3.mono (by show _ ≤ w2.heap.size; omega))))
              clear hb3 k3 k2 v2
            by_cases hf0 : 0 ≤ f
            · have HR3 := Lib.hid (HE.out.trans (attrsF_three HX.out HNM.out (by omega) (by rw [hf]; exact hf0)))
              clear hf
              go_wp2_with fail
              go_ret
              exact ⟨retI HR3.out.symm, HB3.out⟩
            · have HE2 := Lib.hid (HE.out.trans (attrsF_step HX.out HNM.out (by omega) (by rw [hf]; omega)))
              clear hf
              go_wp2_with fail
              go_roundw
              case rel => exact ⟨k + 1, by omega, by go_num, HB3.out, HE2⟩
              case measure => simp [intOf]; omega
      · have HR0 := Lib.hid (show attrsE l = 0 from by rw [HE.out, List.drop_of_length_le (by have := HL.out; omega), attrsF])
        go_wp2_with fail
        go_ret
        exact ⟨retI HR0.out.symm, hb⟩
end Go.Proofs.YtpbngckplbnahaaGreatDoor

/-
The walks of package dom: parent, bare, one.
-/
namespace Go.Proofs.YtpbngckplbnahaaGreatDoor
open Go.RowKit Go.Cl
attribute [local go_sem ↓] Go.wp_at_zero Go.wp_at_succ

theorem parentB_any (k : Int) (w : World) : Calls Tryz.prog 176 #[.int .i64 k] w fun e w' => e = .returned (.bool (parentB k)) ∧ w = w' := by
  go_enter Tryz.func176, Tryz.ntmps176
  go_wp2_with fail
  all_goals
    go_ret
    refine ⟨retB ?_, rfl⟩
    unfold parentB
    simp_all
theorem below_dN {B : Nat} {a w : World} (h : Below B a w) (n : Nat) : Below B a (w.drewN n) := h.trans ⟨rfl, rfl, rfl, Nat.le_refl _, fun _ _ => rfl⟩
theorem len0 {α : Type} {l : List α} {n : Nat} (h : n = l.length) : ((n : Int) == 0) = l.isEmpty := by
  subst h
  cases l with
  | nil => rfl
  | cons a l =>
    rw [List.isEmpty_cons, beq_eq_false_iff_ne, List.length_cons]
    omega

set_option maxRecDepth 100000 in
set_option maxHeartbeats 1000000 in
theorem bare_any (x : Nd) (Aa : Option Addr) (na ca : Nat) (Ak : Option Addr) (nk ck : Nat) (w : World) (hna : na = x.attrs.length) (hnk : nk = x.kids.length) :
    Calls Tryz.prog 136 #[.agg #[.int .i64 x.kind, .string x.name, .slice Aa na ca, .string x.text, .int .i64 x.parent, .slice Ak nk ck]] w fun e w' => e = .returned (.bool (bareB x)) ∧ Below w.heap.size w w' := by
  have ha := len0 hna
  have hk := len0 hnk
  obtain ⟨kd, nm, ats, tx, pr, ks⟩ := x
  dsimp only at *
  have HP := Lib.hid (fun W => parentB_any kd W)
  have HR : Hid (bareB ⟨kd, nm, ats, tx, pr, ks⟩ = ((kd == 2 || kd == 5 || nm.toList.isEmpty) && (kd == 2 || ((na : Int) == 0)) && ((kd == 3 || kd == 4) || tx.toList.isEmpty) && (parentB kd || ((nk : Int) == 0)))) := by
    show _ = _
    rw [ha, hk]
    rfl
  have hb : Below w.heap.size w (w.alloc (.cells #[.int .i64 kd, .string nm, .slice Aa na ca, .string tx, .int .i64 pr, .slice Ak nk ck] 26)) := (Below.refl _ _).alloc (Nat.le_refl _) _
  have HB := Lib.hid hb
  clear ha hk hb hna hnk
  generalize parentB kd = pk at *
  generalize hq1 : nm.toList.isEmpty = q1 at *
  generalize hq2 : (((na : Int) == 0) : Bool) = q2 at *
  generalize hq3 : tx.toList.isEmpty = q3 at *
  generalize hq4 : (((nk : Int) == 0) : Bool) = q4 at *
  go_enter Tryz.func136, Tryz.ntmps136
  go_wp2_with fail
  by_cases k2 : kd = 2
  · subst k2
    go_quiet (fail)
    go_wp2_with (go_at_call 176; refine (HP.out _).mono ?_; rintro e w2 ⟨rfl, rfl⟩)
    all_goals
      go_ret
      exact ⟨retB (by rw [HR.out]; simp_all), below_dN HB.out _⟩
  by_cases k3 : kd = 3
  · subst k3
    go_quiet (fail)
    go_wp2_with (go_at_call 176; refine (HP.out _).mono ?_; rintro e w2 ⟨rfl, rfl⟩)
    all_goals
      go_ret
      exact ⟨retB (by rw [HR.out]; simp_all), below_dN HB.out _⟩
  by_cases k4 : kd = 4
  · subst k4
    go_quiet (fail)
    go_wp2_with (go_at_call 176; refine (HP.out _).mono ?_; rintro e w2 ⟨rfl, rfl⟩)
    all_goals
      go_ret
      exact ⟨retB (by rw [HR.out]; simp_all), below_dN HB.out _⟩
  by_cases k5 : kd = 5
  · subst k5
    go_quiet (fail)
    go_wp2_with (go_at_call 176; refine (HP.out _).mono ?_; rintro e w2 ⟨rfl, rfl⟩)
    all_goals
      go_ret
      exact ⟨retB (by rw [HR.out]; simp_all), below_dN HB.out _⟩
  · have b2 : (kd == 2) = false := by simpa using k2
    have b3 : (kd == 3) = false := by simpa using k3
    have b4 : (kd == 4) = false := by simpa using k4
    have b5 : (kd == 5) = false := by simpa using k5
    clear k2 k3 k4 k5
    go_quiet (fail)
    go_wp2_with (go_at_call 176; refine (HP.out _).mono ?_; rintro e w2 ⟨rfl, rfl⟩)
    all_goals
      go_ret
      exact ⟨retB (by rw [HR.out]; simp_all), below_dN HB.out _⟩

set_option maxRecDepth 100000 in
set_option maxHeartbeats 1000000 in
theorem one_any' (x : Nd) (Aa : Option Addr) (na ca : Nat) (Ak : Option Addr) (nk ck : Nat) (w : World) (B : Nat) (hx : NdAt w (lt B) x Aa na ca Ak nk ck) (hB : B ≤ w.heap.size) :
    Calls Tryz.prog 98 #[.agg #[.int .i64 x.kind, .string x.name, .slice Aa na ca, .string x.text, .int .i64 x.parent, .slice Ak nk ck]] w fun e w' => e = .returned (.int .i64 (nodeE x)) ∧ Below w.heap.size w w' := by
  obtain ⟨w1, hw1⟩ : ∃ w1, w1 = w.alloc (.cells #[.int .i64 x.kind, .string x.name, .slice Aa na ca, .string x.text, .int .i64 x.parent, .slice Ak nk ck] 26) := ⟨_, rfl⟩
  have e1 : w1.heap[w.heap.size]? = some (.cells #[.int .i64 x.kind, .string x.name, .slice Aa na ca, .string x.text, .int .i64 x.parent, .slice Ak nk ck] 26 (0, 0)) := by rw [hw1]; exact heap_alloc_new w _
  have hz1 : w1.heap.size = w.heap.size + 1 := by rw [hw1]; exact World.size_alloc w _
  have hb1 : Below w.heap.size w w1 := by rw [hw1]; exact (Below.refl _ _).alloc (Nat.le_refl _) _
  have HB1 := Lib.hid hb1
  have HX := Lib.hid hx
  have HBA := Lib.hid (fun W => bare_any x Aa na ca Ak nk ck W hx.attrs.hn hx.kids.hn)
  have HNA := Lib.hid (fun W => name_any x.name W hx.name)
  have HAT := Lib.hid (fun W (hW : Below w.heap.size w W) => attrs_any Aa na ca x.attrs W B (hx.attrs.below hW hB) (Nat.le_trans hB hW.size))
  have z1 := hx.name
  have z2 := hx.text
  have c0 : w1.cell? ⟨w.heap.size, 0, none⟩ = some (.int .i64 x.kind) := cell_blk e1 rfl
  have c1 : w1.cell? ⟨w.heap.size, 1, none⟩ = some (.string x.name) := cell_blk e1 rfl
  have c2 : w1.cell? ⟨w.heap.size, 2, none⟩ = some (.slice Aa na ca) := cell_blk e1 rfl
  have c3 : w1.cell? ⟨w.heap.size, 3, none⟩ = some (.string x.text) := cell_blk e1 rfl
  have c4 : w1.cell? ⟨w.heap.size, 4, none⟩ = some (.int .i64 x.parent) := cell_blk e1 rfl
  have c5 : w1.cell? ⟨w.heap.size, 5, none⟩ = some (.slice Ak nk ck) := cell_blk e1 rfl
  have HK : Hid (∀ W, Below w1.heap.size w1 W → ∀ i v, (#[.int .i64 x.kind, .string x.name, .slice Aa na ca, .string x.text, .int .i64 x.parent, .slice Ak nk ck] : Array Value)[i]? = some v → W.cell? ⟨w.heap.size, i, none⟩ = some v) := fun W hW i v hv => cell_blk ((hW.block _ (by omega)).trans e1) hv
  clear e1 hb1 hx
  go_enter Tryz.func98, Tryz.ntmps98
  go_upto_region 1 with fail
  rw [← hw1]
  clear hw1
  by_cases k1 : x.kind < 1
  · have HR := Lib.hid (show nodeE x = 7 from by unfold nodeE; rw [if_pos (Or.inl k1)])
    go_wp2_with fail
    go_ret
    exact ⟨retI HR.out.symm, HB1.out⟩
  by_cases k5 : 5 < x.kind
  · have HR := Lib.hid (show nodeE x = 7 from by unfold nodeE; rw [if_pos (Or.inr (Or.inl k5))])
    go_wp2_with fail
    go_ret
    exact ⟨retI HR.out.symm, HB1.out⟩
  cases hba : bareB x with
  | false =>
    have HR := Lib.hid (show nodeE x = 7 from by unfold nodeE; rw [if_pos (Or.inr (Or.inr hba))])
    rw [hba] at HBA
    clear hba
    go_wp2_with fail
    refine (HBA.out _).mono ?_
    rintro e w2 ⟨rfl, hb2⟩
    go_wp2_with fail
    go_ret
    exact ⟨retI HR.out.symm, HB1.out.trans (hb2.mono HB1.out.size)⟩
  | true =>
    rw [hba] at HBA
    have HR1 := Lib.hid (show nodeE x = (if x.kind = 2 ∧ namedR x.name lettersB = false then 3 else if attrsE x.attrs ≠ 0 then attrsE x.attrs else if 400 < x.text.size ∨ 400 < x.name.size then 2 else 0) from by
      unfold nodeE
      rw [if_neg (by rw [hba]; simp; omega)])
    clear hba
    go_upto_region 3 with (go_at_call 136; refine (HBA.out _).mono ?_; rintro e w2 ⟨rfl, hb2⟩)
    have HB2 := Lib.hid (HB1.out.trans (hb2.mono HB1.out.size))
    have d0 := HK.out _ hb2 0 _ rfl
    have d1 := HK.out _ hb2 1 _ rfl
    have d2 := HK.out _ hb2 2 _ rfl
    have HBW := Lib.hid hb2
    have hz2 := hb2.size
    clear c0 c1 c2 c3 c4 c5 hb2
    by_cases k2 : x.kind = 2
    · have k2b : (x.kind == 2) = true := by simpa using k2
      cases hnm : namedR x.name lettersB with
      | false =>
        have HR := Lib.hid (HR1.out.trans (if_pos ⟨k2, hnm⟩))
        rw [hnm] at HNA
        clear hnm k2
        go_wp2_with (go_at_call 137; refine (HNA.out _).mono ?_; rintro e w3 ⟨rfl, hb3⟩)
        go_ret
        exact ⟨retI HR.out.symm, HB2.out.trans (hb3.mono HB2.out.size)⟩
      | true =>
        have HR := Lib.hid (HR1.out.trans (if_neg (by rw [hnm]; simp)))
        rw [hnm] at HNA
        clear hnm k2
        go_upto_region 5 with (go_at_call 137; refine (HNA.out _).mono ?_; rintro e w3 ⟨rfl, hb3⟩)
        have HB3 := Lib.hid (HB2.out.trans (hb3.mono HB2.out.size))
        have HBW3 := Lib.hid (HBW.out.trans (hb3.mono hz2))
        clear hb3 d0 d1 d2
        have b2 := HK.out _ HBW3.out 2 _ rfl
        by_cases ha0 : attrsE x.attrs = 0
        · have HR3 := Lib.hid (HR.out.trans (if_neg (by rw [ha0]; decide)))
          have HAT2 := Lib.hid (HAT.out _ HB3.out)
          rw [ha0] at HAT2
          clear ha0
          go_upto_region 8 with (go_at_call 138; refine HAT2.out.mono ?_; rintro e w4 ⟨rfl, hb4⟩)
          have HB4 := Lib.hid (HB3.out.trans (hb4.mono HB3.out.size))
          have d1' := HK.out _ (HBW3.out.trans (hb4.mono HBW3.out.size)) 1 _ rfl
          have d3' := HK.out _ (HBW3.out.trans (hb4.mono HBW3.out.size)) 3 _ rfl
          clear hb4
          by_cases ht : 400 < x.text.size
          · have HR4 := Lib.hid (HR3.out.trans (if_pos (Or.inl ht)))
            go_wp2_with fail
            go_ret
            exact ⟨retI HR4.out.symm, HB4.out⟩
          · by_cases hn4 : 400 < x.name.size
            · have HR4 := Lib.hid (HR3.out.trans (if_pos (Or.inr hn4)))
              go_wp2_with fail
              go_ret
              exact ⟨retI HR4.out.symm, HB4.out⟩
            · have HR4 := Lib.hid (HR3.out.trans (if_neg (by omega)))
              go_wp2_with fail
              go_ret
              exact ⟨retI HR4.out.symm, HB4.out⟩
        · have HR3 := Lib.hid (HR.out.trans (if_pos ha0))
          have HAT2 := Lib.hid (HAT.out _ HB3.out)
          have ha1 : (attrsE x.attrs != 0) = true := by simpa using ha0
          generalize attrsE x.attrs = q at *
          clear ha0
          go_wp2_with (go_at_call 138; refine HAT2.out.mono ?_; rintro e w4 ⟨rfl, hb4⟩)
          go_ret
          exact ⟨retI HR3.out.symm, HB3.out.trans (hb4.mono HB3.out.size)⟩

    · have k2b : (x.kind == 2) = false := by simpa using k2
      have HR := Lib.hid (HR1.out.trans (if_neg (fun h => k2 h.1)))
      clear k2
      go_upto_region 5 with fail
      clear d0 d1 d2
      have b2 := HK.out _ HBW.out 2 _ rfl
      by_cases ha0 : attrsE x.attrs = 0
      · have HR3 := Lib.hid (HR.out.trans (if_neg (by rw [ha0]; decide)))
        have HAT2 := Lib.hid (HAT.out _ HB2.out)
        rw [ha0] at HAT2
        clear ha0
        go_upto_region 8 with (go_at_call 138; refine HAT2.out.mono ?_; rintro e w4 ⟨rfl, hb4⟩)
        have HB4 := Lib.hid (HB2.out.trans (hb4.mono HB2.out.size))
        have d1' := HK.out _ (HBW.out.trans (hb4.mono HBW.out.size)) 1 _ rfl
        have d3' := HK.out _ (HBW.out.trans (hb4.mono HBW.out.size)) 3 _ rfl
        clear hb4
        by_cases ht : 400 < x.text.size
        · have HR4 := Lib.hid (HR3.out.trans (if_pos (Or.inl ht)))
          go_wp2_with fail
          go_ret
          exact ⟨retI HR4.out.symm, HB4.out⟩
        · by_cases hn4 : 400 < x.name.size
          · have HR4 := Lib.hid (HR3.out.trans (if_pos (Or.inr hn4)))
            go_wp2_with fail
            go_ret
            exact ⟨retI HR4.out.symm, HB4.out⟩
          · have HR4 := Lib.hid (HR3.out.trans (if_neg (by omega)))
            go_wp2_with fail
            go_ret
            exact ⟨retI HR4.out.symm, HB4.out⟩
      · have HR3 := Lib.hid (HR.out.trans (if_pos ha0))
        have HAT2 := Lib.hid (HAT.out _ HB2.out)
        have ha1 : (attrsE x.attrs != 0) = true := by simpa using ha0
        generalize attrsE x.attrs = q at *
        clear ha0
        go_wp2_with (go_at_call 138; refine HAT2.out.mono ?_; rintro e w4 ⟨rfl, hb4⟩)
        go_ret
        exact ⟨retI HR3.out.symm, HB2.out.trans (hb4.mono HB2.out.size)⟩

end Go.Proofs.YtpbngckplbnahaaGreatDoor

/-
The walk of package dom: kids.
-/
namespace Go.Proofs.YtpbngckplbnahaaGreatDoor
open Go.RowKit Go.Cl
attribute [local go_sem ↓] Go.wp_at_zero Go.wp_at_succ

theorem rep_bools (n : Nat) : ((List.replicate n false).map Value.bool).toArray = Array.replicate n (Value.bool false) := by
  apply Array.toList_inj.1
  simp
theorem make_bools (w : World) (n : Nat) (hn : n ≤ 100000) : (Instr.makeSlice 22 (.int .i64 (n : Int)) (.int .i64 (n : Int))).run Tryz.prog w = .ok (.slice (some ⟨w.heap.size, 0, none⟩) n n) (w.alloc (.cells (Array.replicate n (.bool false)) 4)) := by
  obtain ⟨i0, hi, hz0, hz1, hz2⟩ := info_parts (show (Tryz.prog.info? 4).map (fun i => (i.zero, i.size, i.bytes)) = some (some (.bool false), 1, 1) from by kernel_rfl)
  have h := run_makeSlice (P := Tryz.prog) w 22 4 i0 (.bool false) Tryz.underlying22 hi hz0 .i64 .i64 (n : Int) (n : Int) (by omega) (Int.le_refl _) (by rw [hz1]; simp; omega) (by rw [hz2]; omega) (by omega)
  rw [h, hz1]
  have e : madeCells (Value.bool false).cells (((n : Int)).toNat * 1) = ((List.replicate n false).map Value.bool).toArray := by
    apply Array.toList_inj.1
    rw [show (Value.bool false).cells = #[.bool false] from rfl, toList_madeCells_one]
    simp
  rw [e, rep_bools]
  rfl
/-- A row of bools in a block of its own. -/
abbrev BoolsAt (w : World) (g : Nat) (s : List Bool) : Prop := w.heap[g]? = some (.cells (s.map Value.bool).toArray 4 (0, 0))
theorem BoolsAt.cell {w : World} {g : Nat} {s : List Bool} (h : BoolsAt w g s) {m : Nat} {b : Bool} (hm : s[m]? = some b) : w.cell? ⟨g, m, none⟩ = some (.bool b) := cell_blk h (by simp [hm])
theorem BoolsAt.set {w : World} {g : Nat} {s : List Bool} (h : BoolsAt w g s) (m : Nat) (b : Bool) : BoolsAt (w.setCell ⟨g, m, none⟩ (.bool b)) g (s.set m b) := by
  show (w.setCell _ _).heap[g]? = _
  rw [set_blk h]
  congr 2
  apply Array.toList_inj.1
  rw [Array.toList_setIfInBounds]
  simp [List.map_set]
theorem BoolsAt.below {w w' : World} {g B : Nat} {s : List Bool} (h : BoolsAt w g s) (hb : Below B w w') (hg : g < B) : BoolsAt w' g s := (hb.block g hg).trans h

theorem kidsF_err {l : List Nd} {i : Nat} {seen seen' : List Bool} {ks : List Int} {j : Nat} {k e : Int} (h : kidsF l i seen ks = kidsF l i seen' (ks.drop j)) (hk : ks[j]? = some k) (he : kidE l i seen' k = e) (h0 : e ≠ 0) : kidsF l i seen ks = (e, seen') := by
  rw [h, List.drop_eq_getElem_cons (List.getElem?_eq_some_iff.1 hk).1, (List.getElem?_eq_some_iff.1 hk).2, kidsF, he, if_pos h0]
theorem kidsF_ok {l : List Nd} {i : Nat} {seen seen' : List Bool} {ks : List Int} {j : Nat} {k : Int} (h : kidsF l i seen ks = kidsF l i seen' (ks.drop j)) (hk : ks[j]? = some k) (he : kidE l i seen' k = 0) : kidsF l i seen ks = kidsF l i (seen'.set k.toNat true) (ks.drop (j + 1)) := by
  rw [h, List.drop_eq_getElem_cons (List.getElem?_eq_some_iff.1 hk).1, (List.getElem?_eq_some_iff.1 hk).2, kidsF, he, if_neg (by decide)]
theorem kidsF_end {l : List Nd} {i : Nat} {seen seen' : List Bool} {ks : List Int} {j : Nat} (h : kidsF l i seen ks = kidsF l i seen' (ks.drop j)) (hk : ks.length ≤ j) : kidsF l i seen ks = (0, seen') := by
  rw [h, List.drop_of_length_le hk, kidsF]
theorem allKids_err {l : List Nd} {i : Nat} {s0 seen s : List Bool} {x : Nd} {e : Int} (h : allKids l 0 s0 l = allKids l i seen (l.drop i)) (hx : l[i]? = some x) (hk : kidsF l i seen x.kids = (e, s)) (h0 : e ≠ 0) : allKids l 0 s0 l = (e, s) := by
  rw [h, List.drop_eq_getElem_cons (List.getElem?_eq_some_iff.1 hx).1, (List.getElem?_eq_some_iff.1 hx).2, allKids, hk, if_pos h0]
theorem allKids_ok {l : List Nd} {i : Nat} {s0 seen s : List Bool} {x : Nd} (h : allKids l 0 s0 l = allKids l i seen (l.drop i)) (hx : l[i]? = some x) (hk : kidsF l i seen x.kids = (0, s)) : allKids l 0 s0 l = allKids l (i + 1) s (l.drop (i + 1)) := by
  rw [h, List.drop_eq_getElem_cons (List.getElem?_eq_some_iff.1 hx).1, (List.getElem?_eq_some_iff.1 hx).2, allKids, hk, if_neg (by simp)]
theorem kidsE_err {l : List Nd} {e : Int} {s : List Bool} (h : allKids l 0 (List.replicate l.length false) l = (e, s)) (h0 : e ≠ 0) : kidsE l = e := by
  unfold kidsE
  rw [h]
  simp only [ne_eq, h0, not_false_eq_true, if_true]
theorem kidsE_rest {l : List Nd} {s : List Bool} (h : allKids l 0 (List.replicate l.length false) l = (0, s)) : kidsE l = if lostB s l = true then 3 else if (l.map Nd.parent).headD 0 ≠ -1 then 3 else 0 := by
  unfold kidsE
  rw [h]
  simp only [ne_eq, not_true_eq_false, if_false]
theorem map_at {α β : Type} {l : List α} {f : α → β} {m : Nat} {y : α} (h : l[m]? = some y) (d : β) : (l.map f)[m]?.getD d = f y := by
  rw [List.getElem?_map, h]
  rfl
theorem kidE_out {l : List Nd} {i : Nat} {seen : List Bool} {k : Int} (h : k < 0 ∨ (l.length : Int) ≤ k) : kidE l i seen k = 3 := by
  unfold kidE
  rw [if_pos h]
theorem kidE_not {l : List Nd} {i m : Nat} {seen : List Bool} {y : Nd} {b : Bool} (hy : l[m]? = some y) (hs : seen[m]? = some b) (h : y.parent ≠ (i : Int) ∨ b = true) : kidE l i seen (m : Int) = 3 := by
  have hm := (List.getElem?_eq_some_iff.1 hy).1
  unfold kidE
  rw [if_neg (by omega), Int.toNat_natCast, map_at hy, hs, Option.getD_some]
  rw [if_pos h]
theorem kidE_seven {l : List Nd} {i m : Nat} {seen : List Bool} {y : Nd} (hy : l[m]? = some y) (hs : seen[m]? = some false) (h : y.parent = (i : Int)) (h0 : i = 0 ∧ y.kind = 3) : kidE l i seen (m : Int) = 7 := by
  have hm := (List.getElem?_eq_some_iff.1 hy).1
  unfold kidE
  rw [if_neg (by omega), Int.toNat_natCast, map_at hy, map_at hy, hs, Option.getD_some]
  rw [if_neg (by simp [h]), if_pos h0]
theorem kidE_zero {l : List Nd} {i m : Nat} {seen : List Bool} {y : Nd} (hy : l[m]? = some y) (hs : seen[m]? = some false) (h : y.parent = (i : Int)) (h0 : ¬ (i = 0 ∧ y.kind = 3)) : kidE l i seen (m : Int) = 0 := by
  have hm := (List.getElem?_eq_some_iff.1 hy).1
  unfold kidE
  rw [if_neg (by omega), Int.toNat_natCast, map_at hy, map_at hy, hs, Option.getD_some]
  rw [if_neg (by simp [h]), if_neg h0]
theorem lost_hit {seen : List Bool} {l : List Nd} {i : Nat} {x : Nd} (h : lostB seen l = lostB (seen.drop i) (l.drop i)) (hs : seen[i]? = some false) (hx : l[i]? = some x) (hp : x.parent ≠ -1) : lostB seen l = true := by
  rw [h, List.drop_eq_getElem_cons (List.getElem?_eq_some_iff.1 hx).1, (List.getElem?_eq_some_iff.1 hx).2, List.drop_eq_getElem_cons (List.getElem?_eq_some_iff.1 hs).1, (List.getElem?_eq_some_iff.1 hs).2, lostB]
  have : (x.parent != -1) = true := by simpa using hp
  rw [this]
  rfl
theorem lost_go {seen : List Bool} {l : List Nd} {i : Nat} {x : Nd} {b : Bool} (h : lostB seen l = lostB (seen.drop i) (l.drop i)) (hs : seen[i]? = some b) (hx : l[i]? = some x) (hp : x.parent = -1 ∨ b = true) : lostB seen l = lostB (seen.drop (i + 1)) (l.drop (i + 1)) := by
  rw [h, List.drop_eq_getElem_cons (List.getElem?_eq_some_iff.1 hx).1, (List.getElem?_eq_some_iff.1 hx).2, List.drop_eq_getElem_cons (List.getElem?_eq_some_iff.1 hs).1, (List.getElem?_eq_some_iff.1 hs).2, lostB]
  have : (x.parent != -1 && !b) = false := by
    rcases hp with hp | hp
    · rw [hp]; rfl
    · rw [hp]; simp
  rw [this, Bool.false_or]
theorem lost_end {seen : List Bool} {l : List Nd} {i : Nat} (h : lostB seen l = lostB (seen.drop i) (l.drop i)) (hi : l.length ≤ i) : lostB seen l = false := by
  rw [h, List.drop_of_length_le hi]
  cases seen.drop i <;> rfl

/-- A document lies so: its cells, for whatever world behind. -/
structure DocAt (w : World) (B : Nat) (b o n : Nat) (l : List Nd) : Prop where
  hn : n = l.length
  at_ : ∀ i x, l[i]? = some x → ∃ Aa na ca Ak nk ck, NdAt w (lt B) x Aa na ca Ak nk ck ∧ w.cell? ⟨b, o + i * 6, none⟩ = some (.int .i64 x.kind) ∧ w.cell? ⟨b, o + i * 6 + 1, none⟩ = some (.string x.name) ∧ w.cell? ⟨b, o + i * 6 + 2, none⟩ = some (.slice Aa na ca) ∧ w.cell? ⟨b, o + i * 6 + 3, none⟩ = some (.string x.text) ∧ w.cell? ⟨b, o + i * 6 + 4, none⟩ = some (.int .i64 x.parent) ∧ w.cell? ⟨b, o + i * 6 + 5, none⟩ = some (.slice Ak nk ck)
  lt : b < B
theorem doc_at {w : World} {B : Nat} {A : Option Addr} {n c : Nat} {l : List Nd} (h : Sl tNd w (lt B) A n c l) (hn : 0 < n) : ∃ b o, A = some ⟨b, o, none⟩ ∧ DocAt w B b o n l := by
  obtain ⟨b, o, cells, rfl, hD, hr, hc⟩ := h.at_ hn
  refine ⟨b, o, rfl, h.hn, fun i x hx => ?_, hD⟩
  obtain ⟨b', o', Aa, na, ca, Ak, nk, ck, e, hD', hn', hc'⟩ := Sl.nd h hx
  obtain ⟨rfl, rfl⟩ : b = b' ∧ o = o' := by simpa using e
  exact ⟨Aa, na, ca, Ak, nk, ck, hn', hc' 0 _ rfl, hc' 1 _ rfl, hc' 2 _ rfl, hc' 3 _ rfl, hc' 4 _ rfl, hc' 5 _ rfl⟩
theorem DocAt.below {w w' : World} {B B' b o n : Nat} {l : List Nd} (h : DocAt w B b o n l) (hb : Below B' w w') (hB : B ≤ B') : DocAt w' B b o n l :=
  ⟨h.hn, fun i x hx => by
    obtain ⟨Aa, na, ca, Ak, nk, ck, hn, c0, c1, c2, c3, c4, c5⟩ := h.at_ i x hx
    have hk : ∀ j v, w.cell? ⟨b, j, none⟩ = some v → w'.cell? ⟨b, j, none⟩ = some v := fun j v hv => (hb.cell (p := ⟨b, j, none⟩) (Nat.lt_of_lt_of_le h.lt hB)).trans hv
    exact ⟨Aa, na, ca, Ak, nk, ck, hn.below hb hB, hk _ _ c0, hk _ _ c1, hk _ _ c2, hk _ _ c3, hk _ _ c4, hk _ _ c5⟩, h.lt⟩
end Go.Proofs.YtpbngckplbnahaaGreatDoor

/-
The walk of package dom: kids.
-/
namespace Go.Proofs.YtpbngckplbnahaaGreatDoor
open Go.RowKit Go.Cl
attribute [local go_sem ↓] Go.wp_at_zero Go.wp_at_succ

/-- The document's box and the marks, between two rounds. -/
structure KMid (w : World) (A : Option Addr) (n c : Nat) (q : Bool) (seen : List Bool) (W : World) : Prop where
  box : W.heap[w.heap.size]? = some (.cells #[.slice A n c, .bool q] 29 (0, 0))
  marks : BoolsAt W (w.heap.size + 1) seen
  len : seen.length = n
  low : Below w.heap.size w W
theorem KMid.next {w W W' : World} {A : Option Addr} {n c : Nat} {q : Bool} {seen : List Bool} (h : KMid w A n c q seen W) (hb : Below (w.heap.size + 2) W W') : KMid w A n c q seen W' :=
  ⟨(hb.block _ (by omega)).trans h.box, h.marks.below hb (by omega), h.len, h.low.trans (hb.mono (by omega))⟩
theorem KMid.mark {w W : World} {A : Option Addr} {n c : Nat} {q : Bool} {seen : List Bool} (h : KMid w A n c q seen W) (m : Nat) : KMid w A n c q (seen.set m true) (W.setCell ⟨w.heap.size + 1, m, none⟩ (.bool true)) :=
  ⟨(Below.heap_setCell W ⟨w.heap.size + 1, m, none⟩ _ _ (by intro e; have e' : w.heap.size = w.heap.size + 1 := e; omega)).trans h.box, h.marks.set m true, by rw [List.length_set]; exact h.len, h.low.setCell (p := ⟨w.heap.size + 1, m, none⟩) (by show _ ≤ w.heap.size + 1; omega) _⟩

set_option maxRecDepth 100000 in
set_option maxHeartbeats 8000000 in
theorem kids_any (A : Option Addr) (n c : Nat) (l : List Nd) (q : Bool) (w : World) (B : Nat) (hl : Sl tNd w (lt B) A n c l) (hB : B ≤ w.heap.size) (hn : n ≤ 200) (hn0 : 0 < n) :
    Calls Tryz.prog 99 #[.agg #[.slice A n c, .bool q]] w fun e w' => e = .returned (.int .i64 (kidsE l)) ∧ Below w.heap.size w w' := by
  have HL := Lib.hid hl.hn
  obtain ⟨b, o, rfl, hd⟩ := doc_at hl hn0
  have HD := Lib.hid hd
  clear hd
  have hmk := make_bools (w.alloc (.cells #[.slice (some ⟨b, o, none⟩) n c, .bool q] 29)) n (by omega)
  rw [World.size_alloc] at hmk
  obtain ⟨w0, hw0⟩ : ∃ w0, w0 = (w.alloc (.cells #[.slice (some ⟨b, o, none⟩) n c, .bool q] 29)).alloc (.cells (Array.replicate n (.bool false)) 4) := ⟨_, rfl⟩
  have hM0 : KMid w (some ⟨b, o, none⟩) n c q (List.replicate n false) w0 := by
    rw [hw0]
    refine ⟨(Lib.alloc_old _ _ _ (by simp)).trans (heap_alloc_new w _), ?_, by simp, ((Below.refl _ w).alloc (Nat.le_refl _) _).alloc (by simp) _⟩
    have := heap_alloc_new (w.alloc (.cells #[.slice (some ⟨b, o, none⟩) n c, .bool q] 29)) (.cells (Array.replicate n (.bool false)) 4)
    rw [World.size_alloc] at this
    show _ = _
    rw [rep_bools]
    exact this
  have HM0 := Lib.hid hM0
  have bx0 : w0.cell? ⟨w.heap.size, 0, none⟩ = some (.slice (some ⟨b, o, none⟩) n c) := cell_blk hM0.box rfl
  clear hM0
  go_enter Tryz.func99, Tryz.ntmps99
  go_upto_region 2 with fail
  rw [← hw0]
  clear hw0 hmk
  go_wp2_with fail
  go_loopw [17] (fun i wr => ∃ (k : Nat) (seen : List Bool), k ≤ n ∧ i = .int .i64 (k : Int) ∧ KMid w (some ⟨b, o, none⟩) n c q seen wr ∧ Hid (allKids l 0 (List.replicate l.length false) l = allKids l k seen (l.drop k))) (fun i _ => n - (intOf i).toNat)
  case atStart => exact ⟨0, _, Nat.zero_le _, rfl, HM0.out, Lib.hid (by rw [HL.out]; rfl)⟩
  case round =>
    obtain ⟨i, seen, hi, rfl, hM, HA⟩ := hrel
    have HM := Lib.hid hM
    have hzr := hM.low.size
    have hgr : w.heap.size + 1 < wr.heap.size := by
      have := (Array.getElem?_eq_some_iff.1 hM.marks).1
      omega
    clear hM
    by_cases hlt : i < n
    · obtain ⟨x, hx⟩ : ∃ x, l[i]? = some x := get_some (by have := HL.out; omega)
      obtain ⟨Aa, na, ca, Ak, nk, ck, hnd, c0, c1, c2, c3, c4, c5⟩ := HD.out.at_ i x hx
      have HT : Hid (∀ W, Below w.heap.size w W → ∀ j v, w.cell? ⟨b, j, none⟩ = some v → W.cell? ⟨b, j, none⟩ = some v) := fun W hW j v hv => (hW.cell (p := ⟨b, j, none⟩) (Nat.lt_of_lt_of_le HD.out.lt hB)).trans hv
      have d0 := HT.out wr HM.out.low _ _ c0
      have d1 := HT.out wr HM.out.low _ _ c1
      have d2 := HT.out wr HM.out.low _ _ c2
      have d3 := HT.out wr HM.out.low _ _ c3
      have d4 := HT.out wr HM.out.low _ _ c4
      have d5 := HT.out wr HM.out.low _ _ c5
      have HX := Lib.hid hx
      have HND := Lib.hid hnd
      have hnk := hnd.kids.small
      have HNK := Lib.hid hnd.kids.hn
      clear hx hnd c0 c1 c2 c3 c4 c5
      go_upto_region 5 with fail
      obtain ⟨w1, hw1⟩ : ∃ w1, w1 = wr.alloc (.cells #[.int .i64 x.kind, .string x.name, .slice Aa na ca, .string x.text, .int .i64 x.parent, .slice Ak nk ck] 26) := ⟨_, rfl⟩
      have k5 : w1.cell? ⟨wr.heap.size, 5, none⟩ = some (.slice Ak nk ck) := by rw [hw1]; exact cell_blk (heap_alloc_new wr _) rfl
      have HM1 : Hid (KMid w (some ⟨b, o, none⟩) n c q seen w1) := by rw [hw1]; exact HM.out.next ((Below.refl _ wr).alloc (by omega) _)
      rw [← hw1]
      clear hw1 d0 d1 d2 d3 d4 d5
      go_wp2_with fail
      obtain ⟨wo, rfl⟩ : ∃ wo : World, wo = wr := ⟨_, rfl⟩
      go_loopw [25] (fun jj wi => ∃ (j : Nat) (sn : List Bool), j ≤ nk ∧ jj = .int .i64 (j : Int) ∧ KMid w (some ⟨b, o, none⟩) n c q sn wi ∧ Hid (kidsF l i seen x.kids = kidsF l i sn (x.kids.drop j))) (fun jj _ => nk - (intOf jj).toNat)
      case atStart => exact ⟨0, seen, Nat.zero_le _, rfl, HM1.out, Lib.hid rfl⟩
      case round =>
        obtain ⟨j, sn, hj, rfl, hMi, HK⟩ := hrel
        have HMi := Lib.hid hMi
        have hln := hMi.len
        have hlow := hMi.low
        have bx : wr.cell? ⟨w.heap.size, 0, none⟩ = some (.slice (some ⟨b, o, none⟩) n c) := cell_blk hMi.box rfl
        have HLN := Lib.hid hln
        have HLOW := Lib.hid hlow
        clear hMi hln hlow
        by_cases hjl : j < nk
        · obtain ⟨k, hk⟩ : ∃ k, x.kids[j]? = some k := get_some (by have := HNK.out; omega)
          obtain ⟨bk, ok, rfl, hbk, ck0, hwf⟩ := (HND.out.kids.below HLOW.out hB).int hk
          have HKJ := Lib.hid hk
          have hcap : nk ≤ ck := HND.out.kids.hc
          clear hk hwf
          by_cases hk0 : k < 0
          · have HR := Lib.hid (kidsE_err (allKids_err HA.out HX.out (kidsF_err HK.out HKJ.out (kidE_out (Or.inl hk0)) (by decide)) (by decide)) (by decide))
            go_wp2_with fail
            go_ret
            exact ⟨retI HR.out.symm, HLOW.out⟩
          obtain ⟨m, rfl⟩ : ∃ m : Nat, k = (m : Int) := ⟨k.toNat, by omega⟩
          by_cases hkn : n ≤ m
          · have HR := Lib.hid (kidsE_err (allKids_err HA.out HX.out (kidsF_err HK.out HKJ.out (kidE_out (Or.inr (by have := HL.out; omega))) (by decide)) (by decide)) (by decide))
            go_wp2_with fail
            go_ret
            exact ⟨retI HR.out.symm, HLOW.out⟩
          obtain ⟨y, hy⟩ : ∃ y, l[m]? = some y := get_some (by have := HL.out; omega)
          obtain ⟨sm, hsm⟩ : ∃ sm, sn[m]? = some sm := get_some (by have := HLN.out; omega)
          obtain ⟨_, _, _, _, _, _, _, y0, _, _, _, y4, _⟩ := HD.out.at_ m y hy
          have p0 := HT.out wr HLOW.out _ _ y0
          have p4 := HT.out wr HLOW.out _ _ y4
          have ms := HMi.out.marks.cell hsm
          have HY := Lib.hid hy
          have HSM := Lib.hid hsm
          have i1 : (0 : Int) ≤ (m : Int) := by omega
          have i2 : (m : Int) < (n : Int) := by omega
          have i3 : ¬ (n : Int) ≤ (m : Int) := by omega
          have hcap2 : n ≤ c := hl.hc
          clear y0 y4 hy hsm
          by_cases hp : y.parent = (i : Int)
          · have hpb : (y.parent != (i : Int)) = false := by simpa using hp
            cases sm with
            | true =>
              have HR := Lib.hid (kidsE_err (allKids_err HA.out HX.out (kidsF_err HK.out HKJ.out (kidE_not HY.out HSM.out (Or.inr rfl)) (by decide)) (by decide)) (by decide))
              clear hp
              go_wp2_with fail
              go_ret
              exact ⟨retI HR.out.symm, HLOW.out⟩
            | false =>
              by_cases hi0 : i = 0
              · have hib : ((i : Int) == 0) = true := by rw [hi0]; rfl
                by_cases hk3 : y.kind = 3
                · have hkb : (y.kind == 3) = true := by simpa using hk3
                  have HR := Lib.hid (kidsE_err (allKids_err HA.out HX.out (kidsF_err HK.out HKJ.out (kidE_seven HY.out HSM.out hp ⟨hi0, hk3⟩) (by decide)) (by decide)) (by decide))
                  clear hp hi0 hk3
                  go_wp2_with fail
                  go_ret
                  exact ⟨retI HR.out.symm, HLOW.out⟩
                · have hkb : (y.kind == 3) = false := by simpa using hk3
                  have HK2 := Lib.hid (kidsF_ok HK.out HKJ.out (kidE_zero HY.out HSM.out hp (fun h => hk3 h.2)))
                  have fz : wr.frozen? ⟨w.heap.size + 1, m, none⟩ = false := free_blk HMi.out.marks
                  clear hp hi0 hk3
                  go_wp2_with fail
                  go_roundw
                  case rel => exact ⟨j + 1, sn.set m true, by omega, by go_num, HMi.out.mark m, by rw [Int.toNat_natCast] at HK2; exact HK2⟩
                  case measure => simp [intOf]; omega
              · have hib : ((i : Int) == 0) = false := by simpa using hi0
                have HK2 := Lib.hid (kidsF_ok HK.out HKJ.out (kidE_zero HY.out HSM.out hp (fun h => hi0 h.1)))
                have fz : wr.frozen? ⟨w.heap.size + 1, m, none⟩ = false := free_blk HMi.out.marks
                clear hp hi0
                go_wp2_with fail
                go_roundw
                case rel => exact ⟨j + 1, sn.set m true, by omega, by go_num, HMi.out.mark m, by rw [Int.toNat_natCast] at HK2; exact HK2⟩
                case measure => simp [intOf]; omega
          · have hpb : (y.parent != (i : Int)) = true := by simpa using hp
            have HR := Lib.hid (kidsE_err (allKids_err HA.out HX.out (kidsF_err HK.out HKJ.out (kidE_not HY.out HSM.out (Or.inl hp)) (by decide)) (by decide)) (by decide))
            clear hp
            go_wp2_with fail
            go_ret
            exact ⟨retI HR.out.symm, HLOW.out⟩
        · have HA2 := Lib.hid (allKids_ok HA.out HX.out (kidsF_end HK.out (by have := HNK.out; omega)))
          go_wp2_with fail
          go_roundw
          case rel => exact ⟨i + 1, sn, by omega, by go_num, HMi.out, HA2⟩
          case measure => simp [intOf]; omega
    · have HRS := Lib.hid (kidsE_rest (s := seen) (by rw [HA.out, List.drop_of_length_le (by have := HL.out; omega), allKids]))
      have bx : wr.cell? ⟨w.heap.size, 0, none⟩ = some (.slice (some ⟨b, o, none⟩) n c) := cell_blk HM.out.box rfl
      go_wp2_with fail
      obtain ⟨wo, rfl⟩ : ∃ wo : World, wo = wr := ⟨_, rfl⟩
      go_loopw [74] (fun jj wi => ∃ (j : Nat), j ≤ n ∧ jj = .int .i64 (j : Int) ∧ KMid w (some ⟨b, o, none⟩) n c q seen wi ∧ Hid (lostB seen l = lostB (seen.drop j) (l.drop j))) (fun jj _ => n - (intOf jj).toNat)
      case atStart => exact ⟨0, Nat.zero_le _, rfl, HM.out, Lib.hid rfl⟩
      case round =>
        obtain ⟨j, hj, rfl, hMj, HLB⟩ := hrel
        have HMj := Lib.hid hMj
        have hgj : w.heap.size + 1 < wr.heap.size := (Array.getElem?_eq_some_iff.1 hMj.marks).1
        have bx2 : wr.cell? ⟨w.heap.size, 0, none⟩ = some (.slice (some ⟨b, o, none⟩) n c) := cell_blk hMj.box rfl
        clear hMj
        by_cases hjl : j < n
        · obtain ⟨x, hx⟩ : ∃ x, l[j]? = some x := get_some (by have := HL.out; omega)
          obtain ⟨sj, hsj⟩ : ∃ sj, seen[j]? = some sj := get_some (by have := HM.out.len; omega)
          obtain ⟨Aa, na, ca, Ak, nk, ck, hnd, c0, c1, c2, c3, c4, c5⟩ := HD.out.at_ j x hx
          have HT : Hid (∀ W, Below w.heap.size w W → ∀ j v, w.cell? ⟨b, j, none⟩ = some v → W.cell? ⟨b, j, none⟩ = some v) := fun W hW j v hv => (hW.cell (p := ⟨b, j, none⟩) (Nat.lt_of_lt_of_le HD.out.lt hB)).trans hv
          have d0 := HT.out wr HMj.out.low _ _ c0
          have d1 := HT.out wr HMj.out.low _ _ c1
          have d2 := HT.out wr HMj.out.low _ _ c2
          have d3 := HT.out wr HMj.out.low _ _ c3
          have d4 := HT.out wr HMj.out.low _ _ c4
          have d5 := HT.out wr HMj.out.low _ _ c5
          have HX := Lib.hid hx
          have HSJ := Lib.hid hsj
          have hcap : n ≤ c := hl.hc
          clear hx hsj hnd c0 c1 c2 c3 c4 c5
          go_upto_region 18 with fail
          obtain ⟨w1, hw1⟩ : ∃ w1, w1 = wr.alloc (.cells #[.int .i64 x.kind, .string x.name, .slice Aa na ca, .string x.text, .int .i64 x.parent, .slice Ak nk ck] 26) := ⟨_, rfl⟩
          have k4 : w1.cell? ⟨wr.heap.size, 4, none⟩ = some (.int .i64 x.parent) := by rw [hw1]; exact cell_blk (heap_alloc_new wr _) rfl
          have HM1 : Hid (KMid w (some ⟨b, o, none⟩) n c q seen w1) := by rw [hw1]; exact HMj.out.next ((Below.refl _ wr).alloc (by omega) _)
          have ms := HM1.out.marks.cell HSJ.out
          rw [← hw1]
          clear hw1 d0 d1 d2 d3 d4 d5 bx bx2
          by_cases hp : x.parent = -1
          · have hpb : (x.parent != -1) = false := by simpa using hp
            have HLB2 := Lib.hid (lost_go HLB.out HSJ.out HX.out (Or.inl hp))
            clear hp
            go_wp2_with fail
            go_roundw
            case rel => exact ⟨j + 1, by omega, by go_num, HM1.out, HLB2⟩
            case measure => simp [intOf]; omega
          · have hpb : (x.parent != -1) = true := by simpa using hp
            cases sj with
            | true =>
              have HLB2 := Lib.hid (lost_go HLB.out HSJ.out HX.out (Or.inr rfl))
              clear hp
              go_wp2_with fail
              go_roundw
              case rel => exact ⟨j + 1, by omega, by go_num, HM1.out, HLB2⟩
              case measure => simp [intOf]; omega
            | false =>
              have HR := Lib.hid (HRS.out.trans (if_pos (lost_hit HLB.out HSJ.out HX.out hp)))
              clear hp
              go_wp2_with fail
              go_ret
              exact ⟨retI HR.out.symm, HM1.out.low⟩
        · have HR := Lib.hid (HRS.out.trans (if_neg (by rw [lost_end HLB.out (by have := HL.out; omega)]; decide)))
          obtain ⟨x, hx⟩ : ∃ x, l[0]? = some x := get_some (by have := HL.out; omega)
          obtain ⟨Aa, na, ca, Ak, nk, ck, hnd, c0, c1, c2, c3, c4, c5⟩ := HD.out.at_ 0 x hx
          have d4 : wr.cell? ⟨b, o + 4, none⟩ = some (.int .i64 x.parent) := (HMj.out.low.cell (p := ⟨b, o + 4, none⟩) (Nat.lt_of_lt_of_le HD.out.lt hB)).trans (by simpa using c4)
          have HH := Lib.hid (show (l.map Nd.parent).headD 0 = x.parent from by
            cases l with
            | nil => cases hx
            | cons z r => simp at hx; subst hx; rfl)
          clear hx hnd c0 c1 c2 c3 c4 c5
          by_cases hp : x.parent = -1
          · have hpb : (x.parent != -1) = false := by simpa using hp
            have HR2 := Lib.hid (HR.out.trans (if_neg (by rw [HH.out, hp]; decide)))
            clear hp
            go_wp2_with fail
            go_ret
            exact ⟨retI HR2.out.symm, HMj.out.low⟩
          · have hpb : (x.parent != -1) = true := by simpa using hp
            have HR2 := Lib.hid (HR.out.trans (if_pos (by rw [HH.out]; exact hp)))
            clear hp
            go_wp2_with fail
            go_ret
            exact ⟨retI HR2.out.symm, HMj.out.low⟩
end Go.Proofs.YtpbngckplbnahaaGreatDoor

/-
The walks of package dom: up, Check.
-/
namespace Go.Proofs.YtpbngckplbnahaaGreatDoor
open Go.RowKit Go.Cl
attribute [local go_sem ↓] Go.wp_at_zero Go.wp_at_succ

theorem upF_go {l : List Nd} {f m : Nat} {x : Nd} {p : Nat} (hx : l[m]? = some x) (hp : x.parent = (p : Int)) : upF l (f + 1) (m : Int) = upF l f (p : Int) + 1 := by
  rw [upF, Int.toNat_natCast, map_at hx, hp]
  rw [if_pos (by omega)]
theorem upF_stop {l : List Nd} {f m : Nat} {x : Nd} (hx : l[m]? = some x) (hp : x.parent < 0) : upF l f (m : Int) = 0 := by
  cases f with
  | zero => rfl
  | succ f =>
    rw [upF, Int.toNat_natCast, map_at hx]
    rw [if_neg (by omega)]

set_option maxRecDepth 100000 in
set_option maxHeartbeats 1000000 in
theorem up_any (A : Option Addr) (n c : Nat) (l : List Nd) (q : Bool) (k : Nat) (w : World) (B : Nat) (hl : Sl tNd w (lt B) A n c l) (hB : B ≤ w.heap.size) (hn : n ≤ 200) (hk : k < n) (hpar : ∀ x ∈ l, x.parent < (n : Int)) :
    Calls Tryz.prog 100 #[.agg #[.slice A n c, .bool q], .int .i64 (k : Int)] w fun e w' => e = .returned (.int .i64 (upN l (k : Int))) ∧ Below w.heap.size w w' := by
  have HL := Lib.hid hl.hn
  have HP := Lib.hid hpar
  obtain ⟨b, o, rfl, hd⟩ := doc_at hl (by omega)
  have hcap : n ≤ c := hl.hc
  obtain ⟨w0, hw0⟩ : ∃ w0, w0 = w.alloc (.cells #[.slice (some ⟨b, o, none⟩) n c, .bool q] 29) := ⟨_, rfl⟩
  have bx : w0.cell? ⟨w.heap.size, 0, none⟩ = some (.slice (some ⟨b, o, none⟩) n c) := by rw [hw0]; exact cell_blk (heap_alloc_new w _) rfl
  have hb0 : Below w.heap.size w w0 := by rw [hw0]; exact (Below.refl _ _).alloc (Nat.le_refl _) _
  have HD := Lib.hid (hd.below hb0 hB)
  have HB0 := Lib.hid hb0
  clear hd hb0 hpar
  go_enter Tryz.func100, Tryz.ntmps100
  go_upto_region 1 with fail
  rw [← hw0]
  clear hw0
  go_loop [1, 4] (fun s t => ∃ (m many : Nat), m < n ∧ many ≤ n + 1 ∧ s = .int .i64 (m : Int) ∧ t = .int .i64 (many : Int) ∧ Hid (upN l (k : Int) = many + upF l (n + 1 - many) (m : Int))) (fun _ t => n + 1 - (intOf t).toNat)
  case atStart => exact ⟨k, 0, hk, Nat.zero_le _, rfl, rfl, Lib.hid (by unfold upN; rw [HL.out]; simp)⟩
  case round =>
    obtain ⟨m, many, hm, hmn, rfl, rfl, HU⟩ := hrel
    obtain ⟨x, hx⟩ : ∃ x, l[m]? = some x := get_some (by have := HL.out; omega)
    obtain ⟨_, _, _, _, _, _, _, _, _, _, _, c4, _⟩ := HD.out.at_ m x hx
    have hpx := HP.out x (List.mem_of_getElem? hx)
    have i1 : (0 : Int) ≤ (m : Int) := by omega
    have i2 : (m : Int) < (n : Int) := by omega
    by_cases hp0 : 0 ≤ x.parent
    · by_cases hmn2 : many ≤ n
      · obtain ⟨p, hp⟩ : ∃ p : Nat, x.parent = (p : Int) := ⟨x.parent.toNat, by omega⟩
        have HU2 := Lib.hid (show upN l (k : Int) = (many + 1 : Nat) + upF l (n + 1 - (many + 1)) (p : Int) from by
          rw [HU.out, show n + 1 - many = (n + 1 - (many + 1)) + 1 from by omega, upF_go hx hp]
          omega)
        have hpn : p < n := by omega
        rw [hp] at c4
        clear hx hp hp0 hpx
        go_wp2_with fail
        go_round
        case rel => exact ⟨p, many + 1, hpn, by omega, rfl, by go_num, HU2⟩
        case measure => simp [intOf]; omega
      · have HR := Lib.hid (show upN l (k : Int) = many from by rw [HU.out, show n + 1 - many = 0 from by omega]; rfl)
        clear hx
        go_wp2_with fail
        go_ret
        exact ⟨retI (by rw [HR.out]), HB0.out⟩
    · have HR := Lib.hid (show upN l (k : Int) = many from by rw [HU.out, upF_stop hx (by omega)]; rfl)
      clear hx
      go_wp2_with fail
      go_ret
      exact ⟨retI (by rw [HR.out]), HB0.out⟩

/-! ### what kids tells -/
/-- What has been marked. -/
structure KidsOk (l : List Nd) (i : Nat) (seen : List Bool) : Prop where
  len : seen.length = l.length
  kids : ∀ (j : Nat) x, j < i → l[j]? = some x → x.kids.Nodup ∧ ∀ k ∈ x.kids, ∃ m y, k = ((m : Nat) : Int) ∧ l[m]? = some y ∧ y.parent = (j : Int) ∧ ¬ (j = 0 ∧ y.kind = 3)
  marks : ∀ m : Nat, seen[m]? = some true → ∃ j x, j < i ∧ l[j]? = some x ∧ (m : Int) ∈ x.kids
/-- One list of kids, as far as it has gone. -/
structure KidsPart (l : List Nd) (i : Nat) (s0 seen : List Bool) (ks : List Int) : Prop where
  len : seen.length = l.length
  kids : ks.Nodup ∧ ∀ k ∈ ks, ∃ m y, k = ((m : Nat) : Int) ∧ l[m]? = some y ∧ y.parent = (i : Int) ∧ ¬ (i = 0 ∧ y.kind = 3) ∧ seen[m]? = some true
  marks : ∀ m : Nat, seen[m]? = some true → s0[m]? = some true ∨ (m : Int) ∈ ks
  keep : ∀ m : Nat, s0[m]? = some true → seen[m]? = some true
theorem kidE_facts {l : List Nd} {i : Nat} {seen : List Bool} {k : Int} (hs : seen.length = l.length) (h : kidE l i seen k = 0) : ∃ m y, k = ((m : Nat) : Int) ∧ l[m]? = some y ∧ y.parent = (i : Int) ∧ ¬ (i = 0 ∧ y.kind = 3) ∧ seen[m]? = some false := by
  unfold kidE at h
  by_cases h1 : k < 0 ∨ (l.length : Int) ≤ k
  · rw [if_pos h1] at h; cases h
  · rw [if_neg h1] at h
    obtain ⟨m, rfl⟩ : ∃ m : Nat, k = (m : Int) := ⟨k.toNat, by omega⟩
    obtain ⟨y, hy⟩ := get_some (l := l) (k := m) (by omega)
    obtain ⟨s, hss⟩ := get_some (l := seen) (k := m) (by omega)
    rw [Int.toNat_natCast, map_at hy, map_at hy, hss, Option.getD_some] at h
    by_cases h2 : y.parent ≠ (i : Int) ∨ s = true
    · rw [if_pos h2] at h; cases h
    · rw [if_neg h2] at h
      by_cases h3 : i = 0 ∧ y.kind = 3
      · rw [if_pos h3] at h; cases h
      · refine ⟨m, y, rfl, hy, by by_cases e : y.parent = (i : Int); exact e; exact absurd (Or.inl e) h2, h3, ?_⟩
        rw [hss]
        cases s with
        | true => exact absurd (Or.inr rfl) h2
        | false => rfl
theorem kidsF_part {l : List Nd} {i : Nat} {s0 : List Bool} (r : List Int) : ∀ (ks : List Int) (seen : List Bool), KidsPart l i s0 seen ks → (kidsF l i seen r).1 = 0 → KidsPart l i s0 (kidsF l i seen r).2 (ks ++ r) := by
  induction r with
  | nil => intro ks seen h _; rw [List.append_nil]; exact h
  | cons k r ih =>
    intro ks seen h h0
    rw [kidsF] at h0 ⊢
    by_cases he : kidE l i seen k = 0
    · rw [if_neg (by rw [he]; decide)] at h0 ⊢
      obtain ⟨m, y, rfl, hy, hp, h3, hs⟩ := kidE_facts h.len he
      rw [Int.toNat_natCast] at h0 ⊢
      have hm := (List.getElem?_eq_some_iff.1 hs).1
      have key : KidsPart l i s0 (seen.set m true) (ks ++ [(m : Int)]) := by
        refine ⟨by rw [List.length_set]; exact h.len, ⟨?_, ?_⟩, ?_, ?_⟩
        · rw [List.nodup_append]
          refine ⟨h.kids.1, by simp, ?_⟩
          intro a ha b hb e
          simp at hb
          subst hb
          subst e
          obtain ⟨m', y', e1, _, _, _, hs'⟩ := h.kids.2 _ ha
          have : m = m' := by omega
          subst this
          rw [hs] at hs'
          cases hs'
        · intro k' hk'
          rcases List.mem_append.1 hk' with hk' | hk'
          · obtain ⟨m', y', e1, a1, a2, a3, a4⟩ := h.kids.2 _ hk'
            refine ⟨m', y', e1, a1, a2, a3, ?_⟩
            rw [List.getElem?_set]
            split
            · rename_i e; subst e; simp
            · exact a4
          · simp at hk'
            subst hk'
            exact ⟨m, y, rfl, hy, hp, h3, by rw [List.getElem?_set_self hm]⟩
        · intro m' hm'
          rw [List.getElem?_set] at hm'
          split at hm'
          · rename_i e; subst e; exact Or.inr (by simp)
          · rcases h.marks m' hm' with a | a
            · exact Or.inl a
            · exact Or.inr (List.mem_append_left _ a)
        · intro m' hm'
          rw [List.getElem?_set]
          split
          · rename_i e; subst e; simp
          · exact h.keep m' hm'
      have := ih (ks ++ [(m : Int)]) (seen.set m true) key h0
      rwa [List.append_assoc] at this
    · rw [if_pos he] at h0
      exact absurd h0 he
theorem allKids_ok_of {l : List Nd} (r : List Nd) : ∀ (i : Nat) (seen : List Bool), l.drop i = r → KidsOk l i seen → (allKids l i seen r).1 = 0 → KidsOk l (i + r.length) (allKids l i seen r).2 := by
  induction r with
  | nil => intro i seen _ h _; exact h
  | cons x r ih =>
    intro i seen hd h h0
    have hx : l[i]? = some x := by
      have := List.getElem?_drop (xs := l) (i := i) (j := 0)
      rw [hd] at this
      simpa using this.symm
    have hd2 : l.drop (i + 1) = r := by
      have := congrArg (List.drop 1) hd
      rwa [List.drop_drop] at this
    rw [allKids] at h0 ⊢
    by_cases he : (kidsF l i seen x.kids).1 = 0
    · rw [if_neg (by rw [he]; decide)] at h0 ⊢
      have hpart := kidsF_part (l := l) (i := i) (s0 := seen) x.kids [] seen ⟨h.len, ⟨List.nodup_nil, fun k hk => by cases hk⟩, fun m hm => Or.inl hm, fun m hm => hm⟩ he
      rw [List.nil_append] at hpart
      have key : KidsOk l (i + 1) (kidsF l i seen x.kids).2 := by
        refine ⟨hpart.len, ?_, ?_⟩
        · intro j y hj hy
          by_cases e : j = i
          · subst e
            rw [hx] at hy
            obtain rfl := Option.some.inj hy
            exact ⟨hpart.kids.1, fun k hk => by
              obtain ⟨m, z, e1, a1, a2, a3, _⟩ := hpart.kids.2 k hk
              exact ⟨m, z, e1, a1, a2, a3⟩⟩
          · exact h.kids j y (by omega) hy
        · intro m hm
          rcases hpart.marks m hm with a | a
          · obtain ⟨j, y, hj, hy, hk⟩ := h.marks m a
            exact ⟨j, y, by omega, hy, hk⟩
          · exact ⟨i, x, by omega, hx, a⟩
      have := ih (i + 1) _ hd2 key h0
      rw [List.length_cons]
      rwa [show i + 1 + r.length = i + (r.length + 1) from by omega] at this
    · rw [if_pos he] at h0
      exact absurd h0 he
/-- What a document whose kids are right is like. -/
structure KidsRight (l : List Nd) : Prop where
  kids : ∀ (j : Nat) x, l[j]? = some x → x.kids.Nodup ∧ ∀ k ∈ x.kids, ∃ m y, k = ((m : Nat) : Int) ∧ l[m]? = some y ∧ y.parent = (j : Int) ∧ ¬ (j = 0 ∧ y.kind = 3)
  known : ∀ (m : Nat) y, l[m]? = some y → y.parent ≠ -1 → ∃ (j : Nat) (x : Nd), l[j]? = some x ∧ (m : Int) ∈ x.kids
  top : ∀ x, l[0]? = some x → x.parent = -1
theorem lost_none (seen : List Bool) (l : List Nd) (h : lostB seen l = false) (hs : seen.length = l.length) : ∀ (m : Nat) y, l[m]? = some y → y.parent ≠ -1 → seen[m]? = some true := by
  induction l generalizing seen with
  | nil => intro m y hy; simp at hy
  | cons x l ih =>
    cases seen with
    | nil => simp at hs
    | cons s t =>
      rw [lostB, Bool.or_eq_false_iff] at h
      intro m y hy hp
      cases m with
      | zero =>
        simp at hy
        subst hy
        have h1 := h.1
        have : (x.parent != -1) = true := by simpa using hp
        rw [this] at h1
        simp at h1
        simp [h1]
      | succ m =>
        simp at hy
        have := ih t h.2 (by simpa using hs) m y hy hp
        simpa using this
theorem kids_right {l : List Nd} (h0 : 0 < l.length) (h : kidsE l = 0) : KidsRight l := by
  unfold kidsE at h
  simp only at h
  by_cases h1 : (allKids l 0 (List.replicate l.length false) l).1 = 0
  · rw [if_neg (by rw [h1]; decide)] at h
    have hok := allKids_ok_of (l := l) l 0 (List.replicate l.length false) rfl ⟨by simp, fun j x hj => by omega, fun m hm => by
      have := (List.getElem?_eq_some_iff.1 hm).2
      simp at this⟩ h1
    rw [Nat.zero_add] at hok
    by_cases h2 : lostB (allKids l 0 (List.replicate l.length false) l).2 l = true
    · rw [if_pos h2] at h; cases h
    · rw [if_neg h2] at h
      by_cases h3 : (l.map Nd.parent).headD 0 ≠ -1
      · rw [if_pos h3] at h; cases h
      · refine ⟨fun j x hx => hok.kids j x (List.getElem?_eq_some_iff.1 hx).1 hx, fun m y hy hp => ?_, fun x hx => ?_⟩
        · obtain ⟨j, x, _, hx, hk⟩ := hok.marks m (lost_none _ _ (by simpa using h2) hok.len m y hy hp)
          exact ⟨j, x, hx, hk⟩
        · cases l with
          | nil => cases hx
          | cons z r =>
            have hz : z = x := by simpa using hx
            subst hz
            simpa using h3
  · rw [if_pos h1] at h
    exact absurd h h1
theorem KidsRight.parent_lt {l : List Nd} (h : KidsRight l) : ∀ x ∈ l, x.parent = -1 ∨ ∃ j y, x.parent = ((j : Nat) : Int) ∧ l[j]? = some y := by
  intro x hx
  by_cases hp : x.parent = -1
  · exact Or.inl hp
  · obtain ⟨m, hm⟩ := List.mem_iff_getElem?.1 hx
    obtain ⟨j, y, hy, hk⟩ := h.known m x hm hp
    obtain ⟨m', z, e, hz, hpz, _⟩ := (h.kids j y hy).2 _ hk
    have : m = m' := by omega
    subst this
    rw [hm] at hz
    obtain rfl := Option.some.inj hz
    exact Or.inr ⟨j, y, hpz, hy⟩
end Go.Proofs.YtpbngckplbnahaaGreatDoor

/-
The walk of package dom: Check.
-/
namespace Go.Proofs.YtpbngckplbnahaaGreatDoor
open Go.RowKit Go.Cl
attribute [local go_sem ↓] Go.wp_at_zero Go.wp_at_succ

theorem first_bad {l : List Nd} {k : Nat} {x : Nd} (hx : l[k]? = some x) (h : ((x.kind == 1) != (k == 0)) = true) : firstE k (l.drop k) = 3 := by
  rw [List.drop_eq_getElem_cons (List.getElem?_eq_some_iff.1 hx).1, (List.getElem?_eq_some_iff.1 hx).2, firstE, if_pos h]
theorem first_err {l : List Nd} {k : Nat} {x : Nd} (hx : l[k]? = some x) (h : ((x.kind == 1) != (k == 0)) = false) (he : nodeE x ≠ 0) : firstE k (l.drop k) = nodeE x := by
  rw [List.drop_eq_getElem_cons (List.getElem?_eq_some_iff.1 hx).1, (List.getElem?_eq_some_iff.1 hx).2, firstE, if_neg (by rw [h]; decide), if_pos he]
theorem first_ok {l : List Nd} {k : Nat} {x : Nd} (hx : l[k]? = some x) (h : ((x.kind == 1) != (k == 0)) = false) (he : nodeE x = 0) : firstE k (l.drop k) = firstE (k + 1) (l.drop (k + 1)) := by
  rw [List.drop_eq_getElem_cons (List.getElem?_eq_some_iff.1 hx).1, (List.getElem?_eq_some_iff.1 hx).2, firstE, if_neg (by rw [h]; decide), if_neg (by rw [he]; simp)]
theorem check_first {l : List Nd} {n : Nat} {e : Int} (hn : n ≤ 200) (h0 : 0 < n) (hl : n = l.length) (h : firstE 0 l = e) (he : e ≠ 0) : checkD l = e := by
  unfold checkD
  rw [if_neg (by omega), if_neg (by omega), h, if_pos he]
theorem check_kids {l : List Nd} {n : Nat} {e : Int} (hn : n ≤ 200) (h0 : 0 < n) (hl : n = l.length) (h : firstE 0 l = 0) (hk : kidsE l = e) (he : e ≠ 0) : checkD l = e := by
  unfold checkD
  rw [if_neg (by omega), if_neg (by omega), h, if_neg (by decide), hk, if_pos he]
theorem check_last {l : List Nd} {n : Nat} (hn : n ≤ 200) (h0 : 0 < n) (hl : n = l.length) (h : firstE 0 l = 0) (hk : kidsE l = 0) : checkD l = lastE l (List.range l.length) := by
  unfold checkD
  rw [if_neg (by omega), if_neg (by omega), h, if_neg (by decide), hk, if_neg (by decide)]
theorem range_at {n k : Nat} (h : k < n) : (List.range n).drop k = k :: (List.range n).drop (k + 1) := by
  rw [List.drop_eq_getElem_cons (by simpa using h)]
  simp
theorem last_eight {l : List Nd} {k : Nat} (hk : k < l.length) (h : l.length < upN l k) : lastE l ((List.range l.length).drop k) = 8 := by
  rw [range_at hk, lastE, if_pos h]
theorem last_two {l : List Nd} {k : Nat} (hk : k < l.length) (h : ¬ l.length < upN l k) (h2 : 40 < upN l k) : lastE l ((List.range l.length).drop k) = 2 := by
  rw [range_at hk, lastE, if_neg h, if_pos h2]
theorem last_go {l : List Nd} {k : Nat} (hk : k < l.length) (h : ¬ l.length < upN l k) (h2 : ¬ 40 < upN l k) : lastE l ((List.range l.length).drop k) = lastE l ((List.range l.length).drop (k + 1)) := by
  conv => lhs; rw [range_at hk, lastE, if_neg h, if_neg h2]

set_option maxRecDepth 100000 in
set_option maxHeartbeats 4000000 in
theorem check_dom (A : Option Addr) (n c : Nat) (l : List Nd) (q : Bool) (w : World) (B : Nat) (hl : Sl tNd w (lt B) A n c l) (hB : B ≤ w.heap.size) :
    Calls Tryz.prog 52 #[.agg #[.slice A n c, .bool q]] w fun e w' => e = .returned (.int .i64 (checkD l)) ∧ Below w.heap.size w w' := by
  have hn1 := hl.small
  have HL := Lib.hid hl.hn
  have hbel : ∀ o, Below w.heap.size w (w.alloc o) := fun o => (Below.refl _ _).alloc (Nat.le_refl _) o
  by_cases hn : 200 < n
  · have HR := Lib.hid (show checkD l = 2 from by unfold checkD; rw [if_pos (by have := HL.out; omega)])
    go_enter Tryz.func52, Tryz.ntmps52
    go_wp2_with fail
    go_ret
    exact ⟨retI HR.out.symm, hbel _⟩
  by_cases hn0 : n = 0
  · have HR := Lib.hid (show checkD l = 3 from by unfold checkD; rw [if_neg (by have := HL.out; omega), if_pos (by have := HL.out; omega)])
    subst hn0
    go_enter Tryz.func52, Tryz.ntmps52
    go_wp2_with fail
    go_ret
    exact ⟨retI HR.out.symm, hbel _⟩
  have hn : n ≤ 200 := by omega
  have hn0 : 0 < n := by omega
  have t1 : decide ((200 : Int) < (n : Int)) = false := decide_eq_false (by omega)
  have t2 : ((n : Int) == 0) = false := by rw [beq_eq_false_iff_ne]; omega
  obtain ⟨b, o, rfl, hd⟩ := doc_at hl hn0
  have HD := Lib.hid hd
  have hcap : n ≤ c := hl.hc
  obtain ⟨w0, hw0⟩ : ∃ w0, w0 = w.alloc (.cells #[.slice (some ⟨b, o, none⟩) n c, .bool q] 29) := ⟨_, rfl⟩
  have hbx : w0.heap[w.heap.size]? = some (.cells #[.slice (some ⟨b, o, none⟩) n c, .bool q] 29 (0, 0)) := by rw [hw0]; exact heap_alloc_new w _
  have bx : w0.cell? ⟨w.heap.size, 0, none⟩ = some (.slice (some ⟨b, o, none⟩) n c) := cell_blk hbx rfl
  have hb0 : Below w.heap.size w w0 := by rw [hw0]; exact hbel _
  have HB0 := Lib.hid hb0
  have HBX := Lib.hid hbx
  have HT : Hid (∀ W, Below w.heap.size w W → ∀ j v, w.cell? ⟨b, j, none⟩ = some v → W.cell? ⟨b, j, none⟩ = some v) := fun W hW j v hv => (hW.cell (p := ⟨b, j, none⟩) (Nat.lt_of_lt_of_le HD.out.lt hB)).trans hv
  clear hd hb0 hbx hbel
  go_enter Tryz.func52, Tryz.ntmps52
  go_upto_region 1 with fail
  rw [← hw0]
  clear hw0
  go_wp2_with fail
  go_loopw [22] (fun s wr => ∃ (k : Nat), k ≤ n ∧ s = .int .i64 (k : Int) ∧ Below w.heap.size w wr ∧ wr.heap[w.heap.size]? = some (.cells #[.slice (some ⟨b, o, none⟩) n c, .bool q] 29 (0, 0)) ∧ Hid (firstE 0 l = firstE k (l.drop k))) (fun s _ => n - (intOf s).toNat)
  case atStart => exact ⟨0, Nat.zero_le _, rfl, HB0.out, HBX.out, Lib.hid rfl⟩
  case round =>
    obtain ⟨k, hk, rfl, hb, hbx, HF⟩ := hrel
    have hz := hb.size
    have hgx : w.heap.size < wr.heap.size := (Array.getElem?_eq_some_iff.1 hbx).1
    have HBX2 := Lib.hid hbx
    have HBW := Lib.hid hb
    clear hbx
    by_cases hlt : k < n
    · obtain ⟨x, hx⟩ : ∃ x, l[k]? = some x := get_some (by have := HL.out; omega)
      obtain ⟨Aa, na, ca, Ak, nk, ck, hnd, c0, c1, c2, c3, c4, c5⟩ := HD.out.at_ k x hx
      have d0 := HT.out wr hb _ _ c0
      have d1 := HT.out wr hb _ _ c1
      have d2 := HT.out wr hb _ _ c2
      have d3 := HT.out wr hb _ _ c3
      have d4 := HT.out wr hb _ _ c4
      have d5 := HT.out wr hb _ _ c5
      have HX := Lib.hid hx
      have HND := Lib.hid hnd
      clear hx hnd c0 c1 c2 c3 c4 c5 hb
      go_upto_region 8 with fail
      obtain ⟨w1, hw1⟩ : ∃ w1, w1 = wr.alloc (.cells #[.int .i64 x.kind, .string x.name, .slice Aa na ca, .string x.text, .int .i64 x.parent, .slice Ak nk ck] 26) := ⟨_, rfl⟩
      have e1 : w1.heap[wr.heap.size]? = some (.cells #[.int .i64 x.kind, .string x.name, .slice Aa na ca, .string x.text, .int .i64 x.parent, .slice Ak nk ck] 26 (0, 0)) := by rw [hw1]; exact heap_alloc_new wr _
      have hz1 : w1.heap.size = wr.heap.size + 1 := by rw [hw1]; exact World.size_alloc wr _
      have hb1 : Below w.heap.size w w1 := by rw [hw1]; exact HBW.out.alloc hz _
      have HBX1 : Hid (w1.heap[w.heap.size]? = some (.cells #[.slice (some ⟨b, o, none⟩) n c, .bool q] 29 (0, 0))) := by rw [hw1]; exact (Lib.alloc_old wr _ _ hgx).trans HBX2.out
      rw [← hw1]
      have k0 : w1.cell? ⟨wr.heap.size, 0, none⟩ = some (.int .i64 x.kind) := cell_blk e1 rfl
      have k1 : w1.cell? ⟨wr.heap.size, 1, none⟩ = some (.string x.name) := cell_blk e1 rfl
      have k2 : w1.cell? ⟨wr.heap.size, 2, none⟩ = some (.slice Aa na ca) := cell_blk e1 rfl
      have k3 : w1.cell? ⟨wr.heap.size, 3, none⟩ = some (.string x.text) := cell_blk e1 rfl
      have k4 : w1.cell? ⟨wr.heap.size, 4, none⟩ = some (.int .i64 x.parent) := cell_blk e1 rfl
      have k5 : w1.cell? ⟨wr.heap.size, 5, none⟩ = some (.slice Ak nk ck) := cell_blk e1 rfl
      clear hw1 e1 d0 d1 d2 d3 d4 d5
      by_cases hx1 : x.kind = 1
      · have hx1b : (x.kind == 1) = true := by simpa using hx1
        by_cases hk0 : k = 0
        · have hk0b : ((k : Int) == 0) = true := by rw [hk0]; rfl
          have hkk : ((x.kind == 1) != (k == 0)) = false := by rw [hx1b, hk0]; rfl
          have HKK := Lib.hid hkk
          clear hx1 hk0 hkk
          have HB1 := Lib.hid hb1
          by_cases he : nodeE x = 0
          · have HF2 := Lib.hid (HF.out.trans (first_ok HX.out HKK.out he))
            have HO := Lib.hid (one_any' x Aa na ca Ak nk ck w1 B (HND.out.below HB1.out hB) (Nat.le_trans hB HB1.out.size))
            rw [he] at HO
            clear he
            go_wp2_with (go_at_call 98; refine HO.out.mono ?_; rintro e w2 ⟨rfl, hb2⟩)
            have HB2 := Lib.hid (HB1.out.trans (hb2.mono HB1.out.size))
            have hbx2 : w2.heap[w.heap.size]? = some (.cells #[.slice (some ⟨b, o, none⟩) n c, .bool q] 29 (0, 0)) := (hb2.block _ (by omega)).trans HBX1.out
            clear hb2
            go_roundw
            case rel => exact ⟨k + 1, by omega, by go_num, HB2.out, hbx2, HF2⟩
            case measure => simp [intOf]; omega
          · have HR := Lib.hid (HF.out.trans (first_err HX.out HKK.out he))
            have HO := Lib.hid (one_any' x Aa na ca Ak nk ck w1 B (HND.out.below HB1.out hB) (Nat.le_trans hB HB1.out.size))
            have HRR := Lib.hid (check_first hn hn0 HL.out (e := nodeE x) HR.out he)
            have he1 : (nodeE x != 0) = true := by simpa using he
            generalize nodeE x = ee at *
            clear he
            go_wp2_with (go_at_call 98; refine HO.out.mono ?_; rintro e w2 ⟨rfl, hb2⟩)
            go_ret
            exact ⟨retI HRR.out.symm, HB1.out.trans (hb2.mono HB1.out.size)⟩

        · have hk0b : ((k : Int) == 0) = false := by simpa using hk0
          have HR := Lib.hid (check_first hn hn0 HL.out (HF.out.trans (first_bad HX.out (by rw [hx1b]; simpa using hk0))) (by decide))
          clear hx1 hk0
          go_wp2_with fail
          go_ret
          exact ⟨retI HR.out.symm, hb1⟩
      · have hx1b : (x.kind == 1) = false := by simpa using hx1
        by_cases hk0 : k = 0
        · have hk0b : ((k : Int) == 0) = true := by rw [hk0]; rfl
          have HR := Lib.hid (check_first hn hn0 HL.out (HF.out.trans (first_bad HX.out (by rw [hx1b, hk0]; rfl))) (by decide))
          clear hx1 hk0
          go_wp2_with fail
          go_ret
          exact ⟨retI HR.out.symm, hb1⟩
        · have hk0b : ((k : Int) == 0) = false := by simpa using hk0
          have hkk : ((x.kind == 1) != (k == 0)) = false := by rw [hx1b]; simpa using hk0
          have HKK := Lib.hid hkk
          clear hx1 hk0 hkk
          have HB1 := Lib.hid hb1
          by_cases he : nodeE x = 0
          · have HF2 := Lib.hid (HF.out.trans (first_ok HX.out HKK.out he))
            have HO := Lib.hid (one_any' x Aa na ca Ak nk ck w1 B (HND.out.below HB1.out hB) (Nat.le_trans hB HB1.out.size))
            rw [he] at HO
            clear he
            go_wp2_with (go_at_call 98; refine HO.out.mono ?_; rintro e w2 ⟨rfl, hb2⟩)
            have HB2 := Lib.hid (HB1.out.trans (hb2.mono HB1.out.size))
            have hbx2 : w2.heap[w.heap.size]? = some (.cells #[.slice (some ⟨b, o, none⟩) n c, .bool q] 29 (0, 0)) := (hb2.block _ (by omega)).trans HBX1.out
            clear hb2
            go_roundw
            case rel => exact ⟨k + 1, by omega, by go_num, HB2.out, hbx2, HF2⟩
            case measure => simp [intOf]; omega
          · have HR := Lib.hid (HF.out.trans (first_err HX.out HKK.out he))
            have HO := Lib.hid (one_any' x Aa na ca Ak nk ck w1 B (HND.out.below HB1.out hB) (Nat.le_trans hB HB1.out.size))
            have HRR := Lib.hid (check_first hn hn0 HL.out (e := nodeE x) HR.out he)
            have he1 : (nodeE x != 0) = true := by simpa using he
            generalize nodeE x = ee at *
            clear he
            go_wp2_with (go_at_call 98; refine HO.out.mono ?_; rintro e w2 ⟨rfl, hb2⟩)
            go_ret
            exact ⟨retI HRR.out.symm, HB1.out.trans (hb2.mono HB1.out.size)⟩

    · have HF0 := Lib.hid (show firstE 0 l = 0 from by rw [HF.out, List.drop_of_length_le (by have := HL.out; omega), firstE])
      have bx1 : wr.cell? ⟨w.heap.size, 0, none⟩ = some (.slice (some ⟨b, o, none⟩) n c) := cell_blk HBX2.out rfl
      have bx2 : wr.cell? ⟨w.heap.size, 1, none⟩ = some (.bool q) := cell_blk HBX2.out rfl
      have HK := Lib.hid (kids_any (some ⟨b, o, none⟩) n c l q wr B (hl.below hb hB) (by omega) hn hn0)
      by_cases hke : kidsE l = 0
      · rw [hke] at HK
        have HKR := Lib.hid (kids_right (by have := HL.out; omega) hke)
        have HLA := Lib.hid (check_last hn hn0 HL.out HF0.out hke)
        clear hke
        go_upto_region 17 with (go_at_call 99; refine HK.out.mono ?_; rintro e w2 ⟨rfl, hb2⟩)
        have hbx3 : w2.heap[w.heap.size]? = some (.cells #[.slice (some ⟨b, o, none⟩) n c, .bool q] 29 (0, 0)) := (hb2.block _ hgx).trans HBX2.out
        have HB2 := Lib.hid (hb.trans (hb2.mono hz))
        have HBX3 := Lib.hid hbx3
        have bx3 : w2.cell? ⟨w.heap.size, 0, none⟩ = some (.slice (some ⟨b, o, none⟩) n c) := cell_blk hbx3 rfl
        clear hb hb2 bx1 bx2 hbx3
        go_wp2_with fail
        go_loopw [47] (fun s wi => ∃ (j : Nat), j ≤ n ∧ s = .int .i64 (j : Int) ∧ Below w.heap.size w wi ∧ wi.heap[w.heap.size]? = some (.cells #[.slice (some ⟨b, o, none⟩) n c, .bool q] 29 (0, 0)) ∧ Hid (checkD l = lastE l ((List.range l.length).drop j))) (fun s _ => n - (intOf s).toNat)
        case atStart => exact ⟨0, Nat.zero_le _, rfl, HB2.out, HBX3.out, HLA⟩
        case round =>
          obtain ⟨j, hj, rfl, hbj, hbxj, HJ⟩ := hrel
          have hgj : w.heap.size < wr.heap.size := (Array.getElem?_eq_some_iff.1 hbxj).1
          have y1 : wr.cell? ⟨w.heap.size, 0, none⟩ = some (.slice (some ⟨b, o, none⟩) n c) := cell_blk hbxj rfl
          have y2 : wr.cell? ⟨w.heap.size, 1, none⟩ = some (.bool q) := cell_blk hbxj rfl
          have HBXJ := Lib.hid hbxj
          clear hbxj
          by_cases hjn : j < n
          · have HU := Lib.hid (up_any (some ⟨b, o, none⟩) n c l q j wr B (hl.below hbj hB) (by omega) hn hjn (fun x hx => by
              rcases HKR.out.parent_lt x hx with h | ⟨m, y, h, hy⟩
              · omega
              · have := (List.getElem?_eq_some_iff.1 hy).1
                have := HL.out
                omega))
            have HBJ := Lib.hid hbj
            have hjl : j < l.length := by have := HL.out; omega
            generalize hu : upN l (j : Int) = u at *
            go_upto_region 21 with (go_at_call 100; refine HU.out.mono ?_; rintro e w3 ⟨rfl, hb3⟩)
            have hbx4 : w3.heap[w.heap.size]? = some (.cells #[.slice (some ⟨b, o, none⟩) n c, .bool q] 29 (0, 0)) := (hb3.block _ hgj).trans HBXJ.out
            have HBX4 := Lib.hid hbx4
            have bx4 : w3.cell? ⟨w.heap.size, 0, none⟩ = some (.slice (some ⟨b, o, none⟩) n c) := cell_blk hbx4 rfl
            have HB3 := Lib.hid (HBJ.out.trans (hb3.mono HBJ.out.size))
            clear hb3 hbx4 y1 y2 hbj
            by_cases h1 : n < u
            · have HR := Lib.hid (HJ.out.trans (last_eight hjl (by rw [hu]; have := HL.out; omega)))
              clear hu hjl
              go_wp2_with fail
              go_ret
              exact ⟨retI HR.out.symm, HB3.out⟩
            · by_cases h2 : 40 < u
              · have HR := Lib.hid (HJ.out.trans (last_two hjl (by rw [hu]; have := HL.out; omega) (by rw [hu]; exact h2)))
                clear hu hjl
                go_wp2_with fail
                go_ret
                exact ⟨retI HR.out.symm, HB3.out⟩
              · have HJ2 := Lib.hid (HJ.out.trans (last_go hjl (by rw [hu]; have := HL.out; omega) (by rw [hu]; exact h2)))
                clear hu hjl
                go_wp2_with fail
                go_roundw
                case rel => exact ⟨j + 1, by omega, by go_num, HB3.out, HBX4.out, HJ2⟩
                case measure => simp [intOf]; omega
          · have HR := Lib.hid (show checkD l = 0 from by rw [HJ.out, List.drop_of_length_le (by rw [List.length_range]; have := HL.out; omega), lastE])
            go_wp2_with fail
            go_ret
            exact ⟨retI HR.out.symm, hbj⟩
      · have HR := Lib.hid (check_kids hn hn0 HL.out HF0.out rfl hke)
        have hke1 : (kidsE l != 0) = true := by simpa using hke
        generalize kidsE l = ee at *
        clear hke
        go_wp2_with (go_at_call 99; refine HK.out.mono ?_; rintro e w2 ⟨rfl, hb2⟩)
        go_ret
        exact ⟨retI HR.out.symm, hb.trans (hb2.mono hz)⟩
end Go.Proofs.YtpbngckplbnahaaGreatDoor
