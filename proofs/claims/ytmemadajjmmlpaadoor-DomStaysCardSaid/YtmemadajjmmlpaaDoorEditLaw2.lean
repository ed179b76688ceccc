/-
What an edit does to a document's nodes, in plain words; attributes that are right. No program in sight.
-/
import Derived.Test.YtmemadajjmmlpaaDoorEditLaw
namespace Go.Proofs.YtmemadajjmmlpaaDoor
open Go.RowKit Go.Cl

/-- An edit. -/
structure Edt where
  do_ : Int
  at_ : Int
  to_ : Int
  before : Int
  name : ByteArray
  value : ByteArray
  node : Nd
def nodeAt (l : List Nd) (n : Int) : Option Nd := if n < 0 then none else l[n.toNat]?
/-- One node turned. -/
def setAt (l : List Nd) (n : Int) (f : Nd → Nd) : List Nd := match nodeAt l n with
  | none => l
  | some x => l.set n.toNat (f x)
theorem nodeAt_some {l : List Nd} {n : Int} {x : Nd} (h : nodeAt l n = some x) : ∃ m : Nat, n = (m : Int) ∧ l[m]? = some x := by
  unfold nodeAt at h
  by_cases h1 : n < 0
  · rw [if_pos h1] at h; cases h
  · rw [if_neg h1] at h
    exact ⟨n.toNat, by omega, h⟩
theorem nodeAt_nat {l : List Nd} {m : Nat} : nodeAt l (m : Int) = l[m]? := by
  unfold nodeAt
  rw [if_neg (by omega), Int.toNat_natCast]
theorem setAt_nat {l : List Nd} {m : Nat} {x : Nd} (h : l[m]? = some x) (f : Nd → Nd) : setAt l (m : Int) f = l.set m (f x) := by
  unfold setAt
  rw [nodeAt_nat, h, Int.toNat_natCast]

/-! ### attributes -/
def attrPut (ats : List DAttr) (nm v : ByteArray) : List DAttr :=
  if findA ats nm < 0 then ats ++ [(nm, v)] else ats.set (findA ats nm).toNat ((ats[(findA ats nm).toNat]?.getD (nm, v)).1, v)
theorem findA_cases (ats : List DAttr) (nm : ByteArray) : (findA ats nm = -1 ∧ ∀ a ∈ ats, a.1.toList ≠ nm.toList) ∨ ∃ (i : Nat) (a : DAttr), findA ats nm = (i : Int) ∧ ats[i]? = some a ∧ a.1.toList = nm.toList := by
  unfold findA
  cases hf : ats.findIdx? (fun a => a.1.toList == nm.toList) with
  | none =>
    left
    refine ⟨rfl, fun a ha => ?_⟩
    have := List.findIdx?_eq_none_iff.1 hf a ha
    simpa using this
  | some i =>
    right
    obtain ⟨hl, he, _⟩ := List.findIdx?_eq_some_iff_getElem.1 hf
    exact ⟨i, ats[i], rfl, List.getElem?_eq_getElem hl, by simpa using he⟩
theorem findA_nat {ats : List DAttr} {nm : ByteArray} (h : 0 ≤ findA ats nm) : ∃ (i : Nat) (a : DAttr), findA ats nm = (i : Int) ∧ ats[i]? = some a ∧ a.1.toList = nm.toList := by
  rcases findA_cases ats nm with ⟨e, _⟩ | h
  · omega
  · exact h
/-- Attributes that may be. -/
structure AttrsOk (ats : List DAttr) : Prop where
  few : ats.length ≤ 12
  each : ∀ a ∈ ats, namedR a.1 attrB = true ∧ a.2.size ≤ 400
  once : (ats.map fun a => a.1.toList).Nodup
theorem attrsF_iff : ∀ (r pre : List DAttr), attrsF pre r = 0 ↔ (∀ a ∈ r, namedR a.1 attrB = true ∧ a.2.size ≤ 400) ∧ (r.map fun a => a.1.toList).Nodup ∧ ∀ a ∈ r, ∀ b ∈ pre, b.1.toList ≠ a.1.toList := by
  intro r
  induction r with
  | nil => intro pre; simp [attrsF]
  | cons a r ih =>
    intro pre
    rw [attrsF]
    by_cases h1 : namedR a.1 attrB = false
    · rw [if_pos h1]
      refine ⟨fun h => absurd h (by decide), fun h => ?_⟩
      have := (h.1 a (by simp)).1
      rw [h1] at this; cases this
    rw [if_neg h1]
    by_cases h2 : 400 < a.2.size
    · rw [if_pos h2]
      refine ⟨fun h => absurd h (by decide), fun h => ?_⟩
      have := (h.1 a (by simp)).2
      omega
    rw [if_neg h2]
    by_cases h3 : 0 ≤ findA pre a.1
    · rw [if_pos h3]
      refine ⟨fun h => absurd h (by decide), fun h => ?_⟩
      obtain ⟨i, b, _, hb, e⟩ := findA_nat h3
      exact absurd e (h.2.2 a (by simp) b (List.mem_of_getElem? hb))
    rw [if_neg h3, ih]
    have hpre : ∀ b ∈ pre, b.1.toList ≠ a.1.toList := by
      rcases findA_cases pre a.1 with ⟨_, h⟩ | ⟨i, _, e, _⟩
      · exact h
      · omega
    have hnm : namedR a.1 attrB = true := by simpa using h1
    constructor
    · rintro ⟨h4, h5, h6⟩
      refine ⟨fun x hx => ?_, ?_, fun x hx b hb => ?_⟩
      · rcases List.mem_cons.1 hx with rfl | hx
        · exact ⟨hnm, by omega⟩
        · exact h4 x hx
      · rw [List.map_cons, List.nodup_cons]
        refine ⟨fun hm => ?_, h5⟩
        obtain ⟨x, hx, e⟩ := List.mem_map.1 hm
        exact h6 x hx a (by simp) e.symm
      · rcases List.mem_cons.1 hx with rfl | hx
        · exact hpre b hb
        · exact h6 x hx b (by simp [hb])
    · rintro ⟨h4, h5, h6⟩
      rw [List.map_cons, List.nodup_cons] at h5
      refine ⟨fun x hx => h4 x (by simp [hx]), h5.2, fun x hx b hb => ?_⟩
      rcases List.mem_append.1 hb with hb | hb
      · exact h6 x (by simp [hx]) b hb
      · obtain rfl : b = a := by simpa using hb
        intro e
        exact h5.1 (List.mem_map.2 ⟨x, hx, e.symm⟩)
theorem attrsE_iff (ats : List DAttr) : attrsE ats = 0 ↔ AttrsOk ats := by
  unfold attrsE
  by_cases h : 12 < ats.length
  · rw [if_pos h]
    exact ⟨fun h => absurd h (by decide), fun k => by have := k.few; omega⟩
  · rw [if_neg h, attrsF_iff]
    exact ⟨fun ⟨h1, h2, _⟩ => ⟨by omega, h1, h2⟩, fun k => ⟨k.each, k.once, by simp⟩⟩
theorem set_map_id {ats : List DAttr} {i : Nat} {a : DAttr} (h : ats[i]? = some a) (v : ByteArray) : (ats.set i (a.1, v)).map (fun a => a.1.toList) = ats.map fun a => a.1.toList := by
  rw [List.map_set]
  exact set_same (by rw [List.getElem?_map, h]; rfl)
theorem attrPut_ok {ats : List DAttr} {nm v : ByteArray} (h : AttrsOk ats) (h1 : namedR nm attrB = true) (h2 : v.size ≤ 400) (h3 : ¬ (findA ats nm < 0 ∧ ats.length = 12)) : AttrsOk (attrPut ats nm v) := by
  unfold attrPut
  rcases findA_cases ats nm with ⟨e, hne⟩ | ⟨i, a, e, ha, _⟩
  · rw [if_pos (by omega)]
    refine ⟨?_, fun x hx => ?_, ?_⟩
    · have := h.few
      rw [List.length_append, List.length_singleton]
      omega
    · rcases List.mem_append.1 hx with hx | hx
      · exact h.each x hx
      · obtain rfl : x = (nm, v) := by simpa using hx
        exact ⟨h1, h2⟩
    · rw [List.map_append, List.nodup_append]
      refine ⟨h.once, by simp, fun x hx y hy => ?_⟩
      obtain ⟨b, hb, rfl⟩ := List.mem_map.1 hx
      obtain rfl : y = nm.toList := by simpa using hy
      exact hne b hb
  · rw [if_neg (by omega), e, Int.toNat_natCast, ha, Option.getD_some]
    refine ⟨by rw [List.length_set]; exact h.few, fun x hx => ?_, by rw [set_map_id ha]; exact h.once⟩
    rcases List.mem_or_eq_of_mem_set hx with hx | rfl
    · exact h.each x hx
    · exact ⟨(h.each a (List.mem_of_getElem? ha)).1, h2⟩
theorem attrDrop_ok {ats : List DAttr} (h : AttrsOk ats) (i : Nat) : AttrsOk (ats.eraseIdx i) :=
  ⟨Nat.le_trans (List.length_eraseIdx_le ats i) h.few, fun x hx => h.each x (List.mem_of_mem_eraseIdx hx), ((List.eraseIdx_sublist ats i).map _).nodup h.once⟩

/-! ### edits -/
def attrErr (l : List Nd) (n : Int) (nm v : ByteArray) : Int := match nodeAt l n with
  | none => 5
  | some x => if x.kind ≠ 2 then 7 else if namedR nm attrB = false then 3 else if 400 < v.size ∨ (findA x.attrs nm < 0 ∧ x.attrs.length = 12) then 2 else 0
def attrDo (l : List Nd) (n : Int) (nm v : ByteArray) : List Nd := setAt l n fun x => { x with attrs := attrPut x.attrs nm v }
def dropErr (l : List Nd) (n : Int) (nm : ByteArray) : Int := match nodeAt l n with
  | none => 5
  | some x => if x.kind ≠ 2 then 7 else if findA x.attrs nm < 0 then 5 else 0
def dropDo (l : List Nd) (n : Int) (nm : ByteArray) : List Nd := setAt l n fun x => { x with attrs := x.attrs.eraseIdx (findA x.attrs nm).toNat }
def textErr (l : List Nd) (n : Int) (v : ByteArray) : Int := match nodeAt l n with
  | none => 5
  | some x => if x.kind ≠ 3 ∧ x.kind ≠ 4 then 7 else if 400 < v.size then 2 else 0
def textDo (l : List Nd) (n : Int) (v : ByteArray) : List Nd := setAt l n fun x => { x with text := v }
def makeErr (l : List Nd) (x : Nd) : Int := if x.kids ≠ [] then 3 else if x.kind = 1 then 7 else if nodeE x ≠ 0 then nodeE x else if l.length = 200 then 2 else 0
def makeDo (l : List Nd) (x : Nd) : List Nd := l ++ [{ x with parent := -1, kids := [] }]
/-- How far what lies below a node goes. -/
def deepF (l : List Nd) : Nat → Int → Nat
  | 0, _ => 0
  | f + 1, z => ((kidsD l z).map fun k => deepF l f k + 1).foldl max 0
def deepR (l : List Nd) (z : Int) : Nat := deepF l (41 - upN l z) z
/-- Is a node another one, or does it lie below it? -/
def belowF (l : List Nd) (top : Int) : Nat → Int → Bool
  | 0, z => z == top
  | f + 1, z => z == top || (decide (0 ≤ z) && belowF l top f (parD l z))
def belowB (l : List Nd) (n top : Int) : Bool := belowF l top (depZ l n) n
def insAt (ks : List Int) (before : Int) : Int := if before = -1 then ks.length else Lib.idxOf ks before
def insErr (l : List Nd) (n to_ before : Int) : Int := match nodeAt l n, nodeAt l to_ with
  | some x, some y => if parentB x.kind = false ∨ y.kind = 1 ∨ (x.kind = 1 ∧ y.kind = 3) then 7 else if 0 ≤ y.parent then 9 else if insAt x.kids before < 0 then 5
    else if belowB l n to_ = true then 8 else if 40 < upN l n + 1 + deepR l to_ then 2 else 0
  | _, _ => 5
def insDo (l : List Nd) (n to_ before : Int) : List Nd :=
  setAt (setAt l n fun x => { x with kids := x.kids.take (insAt x.kids before).toNat ++ to_ :: x.kids.drop (insAt x.kids before).toNat }) to_ fun y => { y with parent := n }
def remErr (l : List Nd) (n : Int) : Int := match nodeAt l n with
  | none => 5
  | some x => if x.kind = 1 then 7 else if x.parent < 0 then 5 else 0
def remDo (l : List Nd) (n : Int) : List Nd := match nodeAt l n with
  | none => l
  | some x => setAt (setAt l x.parent fun p => { p with kids := p.kids.eraseIdx (Lib.idxOf p.kids n).toNat }) n fun x => { x with parent := -1 }
def edErr (l : List Nd) (e : Edt) : Int :=
  if e.do_ = 1 then attrErr l e.at_ e.name e.value else if e.do_ = 2 then dropErr l e.at_ e.name else if e.do_ = 3 then textErr l e.at_ e.value
  else if e.do_ = 4 then makeErr l e.node else if e.do_ = 5 then insErr l e.at_ e.to_ e.before else if e.do_ = 6 then remErr l e.at_ else 1
def edDo (l : List Nd) (e : Edt) : List Nd :=
  if e.do_ = 1 then attrDo l e.at_ e.name e.value else if e.do_ = 2 then dropDo l e.at_ e.name else if e.do_ = 3 then textDo l e.at_ e.value
  else if e.do_ = 4 then makeDo l e.node else if e.do_ = 5 then insDo l e.at_ e.to_ e.before else if e.do_ = 6 then remDo l e.at_ else l
def edMade (l : List Nd) (made : Int) (e : Edt) : Int := if e.do_ = 4 then l.length else made
/-- All edits, one behind the other: what is left, or which one is wrong, and why. -/
def edAll : Nat → List Nd → List Edt → List Nd × Int × Int
  | _, l, [] => (l, 0, 0)
  | i, l, e :: r => if edErr l e ≠ 0 then ([], i, edErr l e) else edAll (i + 1) (edDo l e) r
end Go.Proofs.YtmemadajjmmlpaaDoor
