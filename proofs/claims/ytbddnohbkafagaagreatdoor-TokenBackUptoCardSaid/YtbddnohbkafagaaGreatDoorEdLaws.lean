/-
A document is right just where its nodes, its kids and its depth are; what an edit does to its nodes. No program in sight.
-/
import Derived.Test.YtbddnohbkafagaaGreatDoorTreeB
namespace Go.Proofs.YtbddnohbkafagaaGreatDoor
open Go.RowKit Go.Cl

/-! ### how deep, as a relation -/
inductive Up (l : List Nd) : Int → Nat → Prop
  | top {z : Int} : parD l z < 0 → Up l z 0
  | step {z : Int} {d : Nat} : 0 ≤ parD l z → Up l (parD l z) d → Up l z (d + 1)
theorem Up.fn {l : List Nd} {z : Int} {d e : Nat} (h : Up l z d) (k : Up l z e) : d = e := by
  induction h generalizing e with
  | top h0 => cases k with
    | top _ => rfl
    | step h1 _ => omega
  | step h0 _ ih => cases k with
    | top h1 => omega
    | step _ k => rw [ih k]
theorem parD_pos {l : List Nd} {z : Int} (h : 0 ≤ z) : (l.map Nd.parent)[z.toNat]?.getD (-1) = parD l z := by
  unfold parD
  rw [if_neg (by omega)]
theorem Up.upF {l : List Nd} {z : Int} {d : Nat} (h : Up l z d) : 0 ≤ z → ∀ f, d < f → upF l f z = d := by
  induction h with
  | top h0 =>
    intro hz f hf
    obtain ⟨f, rfl⟩ : ∃ q, f = q + 1 := ⟨f - 1, by omega⟩
    rw [Go.Proofs.YtbddnohbkafagaaGreatDoor.upF, parD_pos hz]
    exact if_neg (by omega)
  | step h0 _ ih =>
    intro hz f hf
    obtain ⟨f, rfl⟩ : ∃ q, f = q + 1 := ⟨f - 1, by omega⟩
    rw [Go.Proofs.YtbddnohbkafagaaGreatDoor.upF, parD_pos hz]
    have := ih h0 f (by omega)
    exact (if_pos h0).trans (by rw [this])
theorem upF_up {l : List Nd} : ∀ (f : Nat) (z : Int), 0 ≤ z → upF l f z < f → Up l z (upF l f z) := by
  intro f
  induction f with
  | zero => intro z hz h; omega
  | succ f ih =>
    intro z hz h
    rw [Go.Proofs.YtbddnohbkafagaaGreatDoor.upF, parD_pos hz] at h ⊢
    by_cases hp : 0 ≤ parD l z
    · rw [show (let p := parD l z; if 0 ≤ p then upF l f p + 1 else 0) = upF l f (parD l z) + 1 from if_pos hp] at h ⊢
      exact Up.step hp (ih _ hp (by omega))
    · rw [show (let p := parD l z; if 0 ≤ p then upF l f p + 1 else 0) = 0 from if_neg hp] at h ⊢
      exact Up.top (by omega)
/-- So many nodes are on the way up. -/
theorem Up.lt {l : List Nd} (hin : ∀ z : Int, parD l z < (l.length : Int)) {z : Int} {d : Nat} (h : Up l z d) (hz : 0 ≤ z) (hl : z < l.length) : d < l.length := by
  have key : ∃ xs : List Int, xs.length = d + 1 ∧ xs.Nodup ∧ ∀ x ∈ xs, (∃ n : Nat, x = (n : Int) ∧ n < l.length) ∧ ∃ e, e ≤ d ∧ Up l x e := by
    induction h with
    | @top z h0 => exact ⟨[z], rfl, by simp, fun x hx => by
        obtain rfl : x = z := by simpa using hx
        exact ⟨⟨x.toNat, by omega, by omega⟩, 0, Nat.le_refl _, Up.top h0⟩⟩
    | @step z d h0 h1 ih =>
      obtain ⟨xs, e1, e2, e3⟩ := ih h0 (hin z)
      refine ⟨z :: xs, by simp [e1], List.nodup_cons.2 ⟨fun hm => ?_, e2⟩, fun x hx => ?_⟩
      · obtain ⟨_, e, he, hu⟩ := e3 z hm
        have := hu.fn (Up.step h0 h1)
        omega
      · rcases List.mem_cons.1 hx with rfl | hx
        · exact ⟨⟨x.toNat, by omega, by omega⟩, d + 1, Nat.le_refl _, Up.step h0 h1⟩
        · obtain ⟨a, e, he, hu⟩ := e3 x hx
          exact ⟨a, e, by omega, hu⟩
  obtain ⟨xs, e1, e2, e3⟩ := key
  have : xs.length ≤ l.length := by
    clear e1 h
    have hin2 : ∀ x ∈ xs, ∃ n : Nat, x = (n : Int) ∧ n < l.length := fun x hx => (e3 x hx).1
    clear e3 hin hl
    generalize l.length = N at *
    induction N generalizing xs with
    | zero =>
      cases xs with
      | nil => simp
      | cons x r =>
        obtain ⟨n, _, hx⟩ := hin2 x (by simp)
        omega
    | succ N ih =>
      have h1 := ih (xs.erase (N : Int)) (e2.erase _) (fun x hx => by
        obtain ⟨hne, hx⟩ := (List.Nodup.mem_erase_iff e2).1 hx
        obtain ⟨n, rfl, hl⟩ := hin2 x hx
        exact ⟨n, rfl, by omega⟩)
      rw [List.length_erase] at h1
      by_cases hm : (N : Int) ∈ xs
      · rw [if_pos hm] at h1; omega
      · rw [if_neg hm] at h1; omega
  omega

/-! ### a document that is right -/
structure Good (l : List Nd) : Prop where
  small : l.length ≤ 200
  pos : 0 < l.length
  root : ∀ (i : Nat) x, l[i]? = some x → (x.kind = 1 ↔ i = 0)
  each : ∀ x ∈ l, nodeE x = 0
  kr : KidsRight l
  deep : ∀ m : Nat, m < l.length → ∃ d, d ≤ 40 ∧ Up l m d
theorem first_iff (l : List Nd) : ∀ k : Nat, firstE k l = 0 ↔ ∀ (i : Nat) x, l[i]? = some x → (x.kind = 1 ↔ k + i = 0) ∧ nodeE x = 0 := by
  induction l with
  | nil => intro k; exact ⟨fun _ i x h => by simp at h, fun _ => rfl⟩
  | cons y r ih =>
    intro k
    rw [firstE]
    by_cases h1 : ((y.kind == 1) != (k == 0)) = true
    · rw [if_pos h1]
      refine ⟨fun h => by simp at h, fun h => ?_⟩
      have := (h 0 y rfl).1
      exfalso
      rw [Nat.add_zero] at this
      have e : (y.kind == 1) = (k == 0) := by
        rw [Bool.eq_iff_iff]
        simpa using this
      rw [e] at h1
      simp at h1
    · rw [if_neg h1]
      have e : (y.kind = 1 ↔ k = 0) := by
        have e : (y.kind == 1) = (k == 0) := by simpa using h1
        rw [Bool.eq_iff_iff] at e
        simpa using e
      by_cases h2 : nodeE y = 0
      · rw [if_neg (by rw [h2]; decide), ih (k + 1)]
        constructor
        · intro h i x hx
          cases i with
          | zero =>
            obtain rfl : y = x := by simpa using hx
            exact ⟨by simpa using e, h2⟩
          | succ i =>
            have := h i x (by simpa using hx)
            rw [show k + 1 + i = k + (i + 1) from by omega] at this
            exact this
        · intro h i x hx
          have := h (i + 1) x (by simpa using hx)
          rw [show k + (i + 1) = k + 1 + i from by omega] at this
          exact this
      · rw [if_pos h2]
        exact ⟨fun h => absurd h h2, fun h => absurd (h 0 y rfl).2 h2⟩
theorem kidsF_fine {l : List Nd} {i : Nat} : ∀ (ks : List Int) (seen : List Bool), seen.length = l.length → ks.Nodup → (∀ k ∈ ks, ∃ m y, k = ((m : Nat) : Int) ∧ l[m]? = some y ∧ y.parent = (i : Int) ∧ ¬ (i = 0 ∧ y.kind = 3) ∧ seen[m]? = some false) →
    ∃ s, kidsF l i seen ks = (0, s) ∧ s.length = l.length ∧ ∀ m : Nat, s[m]? = some true ↔ (seen[m]? = some true ∨ (m < l.length ∧ (m : Int) ∈ ks)) := by
  intro ks
  induction ks with
  | nil => intro seen hs _ _; exact ⟨seen, rfl, hs, fun m => by simp⟩
  | cons k r ih =>
    intro seen hs hn hk
    obtain ⟨m, y, rfl, hy, hp, h3, hm⟩ := hk k (by simp)
    have hml := (List.getElem?_eq_some_iff.1 hy).1
    rw [kidsF, kidE_zero hy hm hp h3, if_neg (by decide), Int.toNat_natCast]
    obtain ⟨hnm, hn2⟩ := List.nodup_cons.1 hn
    obtain ⟨s, h1, h2, h4⟩ := ih (seen.set m true) (by rw [List.length_set]; exact hs) hn2 (fun k hk' => by
      obtain ⟨m', y', rfl, hy', hp', h3', hm'⟩ := hk k (by simp [hk'])
      refine ⟨m', y', rfl, hy', hp', h3', ?_⟩
      rw [List.getElem?_set_ne]
      · exact hm'
      · rintro rfl
        exact hnm hk')
    refine ⟨s, h1, h2, fun n => ?_⟩
    rw [h4 n]
    by_cases e : m = n
    · subst e
      rw [List.getElem?_set_self (by omega)]
      simp [hml]
    · rw [List.getElem?_set_ne e]
      have : ¬ ((n : Int) = (m : Int)) := by omega
      simp [this]
theorem allKids_fine {l : List Nd} (h : KidsRight l) : ∀ (r : List Nd) (i : Nat) (seen : List Bool), r = l.drop i → seen.length = l.length → (∀ m : Nat, seen[m]? = some true ↔ ∃ j x, j < i ∧ l[j]? = some x ∧ m < l.length ∧ (m : Int) ∈ x.kids) →
    ∃ s, allKids l i seen r = (0, s) ∧ s.length = l.length ∧ ∀ m : Nat, s[m]? = some true ↔ ∃ (j : Nat) (x : Nd), l[j]? = some x ∧ m < l.length ∧ (m : Int) ∈ x.kids := by
  intro r
  induction r with
  | nil =>
    intro i seen hr hs hm
    have hl : l.length ≤ i := List.drop_eq_nil_iff.1 hr.symm
    exact ⟨seen, rfl, hs, fun m => by
      rw [hm m]
      exact ⟨fun ⟨j, x, _, hx, h1, h2⟩ => ⟨j, x, hx, h1, h2⟩, fun ⟨j, x, hx, h1, h2⟩ => ⟨j, x, by have := (List.getElem?_eq_some_iff.1 hx).1; omega, hx, h1, h2⟩⟩⟩
  | cons y r ih =>
    intro i seen hr hs hm
    have hil : i < l.length := by
      by_cases hil : i < l.length
      · exact hil
      · rw [List.drop_of_length_le (by omega)] at hr; cases hr
    rw [List.drop_eq_getElem_cons hil] at hr
    injection hr with hy hr
    have hyi : l[i]? = some y := by rw [List.getElem?_eq_getElem hil, hy]
    obtain ⟨hn, hk⟩ := h.kids i y hyi
    obtain ⟨s, h1, h2, h3⟩ := kidsF_fine (i := i) y.kids seen hs hn (fun k hkk => by
      obtain ⟨m, z, rfl, hz, hp, h3⟩ := hk k hkk
      refine ⟨m, z, rfl, hz, hp, h3, ?_⟩
      obtain ⟨b, hb⟩ := get_some (l := seen) (k := m) (by have := (List.getElem?_eq_some_iff.1 hz).1; omega)
      cases b with
      | false => exact hb
      | true =>
        obtain ⟨j, x, hj, hx, _, hmem⟩ := (hm m).1 hb
        obtain ⟨m', z', e, hz', hp', _⟩ := (h.kids j x hx).2 _ hmem
        have : m = m' := by omega
        subst this
        rw [hz] at hz'
        obtain rfl := Option.some.inj hz'
        omega)
    rw [allKids, h1, if_neg (by simp)]
    refine ih (i + 1) s hr h2 fun m => ?_
    rw [h3 m, hm m]
    constructor
    · rintro (⟨j, x, hj, hx, h4, h5⟩ | ⟨h4, h5⟩)
      · exact ⟨j, x, by omega, hx, h4, h5⟩
      · exact ⟨i, y, by omega, hyi, h4, h5⟩
    · rintro ⟨j, x, hj, hx, h4, h5⟩
      by_cases e : j = i
      · subst e
        rw [hyi] at hx
        obtain rfl := Option.some.inj hx
        exact Or.inr ⟨h4, h5⟩
      · exact Or.inl ⟨j, x, by omega, hx, h4, h5⟩
theorem lost_of : ∀ (seen : List Bool) (l : List Nd), (∀ (m : Nat) y, l[m]? = some y → y.parent ≠ -1 → seen[m]? = some true) → lostB seen l = false := by
  intro seen
  induction seen with
  | nil => intro l _; cases l <;> rfl
  | cons s t ih =>
    intro l h
    cases l with
    | nil => rfl
    | cons x r =>
      rw [lostB, Bool.or_eq_false_iff]
      refine ⟨?_, ih r fun m y hy hp => by simpa using h (m + 1) y (by simpa using hy) hp⟩
      by_cases hp : x.parent = -1
      · simp [hp]
      · have := h 0 x rfl hp
        simp at this
        subst this
        simp
theorem kids_zero {l : List Nd} (h0 : 0 < l.length) (h : KidsRight l) : kidsE l = 0 := by
  obtain ⟨s, h1, h2, h3⟩ := allKids_fine h l 0 (List.replicate l.length false) rfl (by simp) (fun m => by
    constructor
    · intro hm
      have := (List.getElem?_eq_some_iff.1 hm).2
      simp at this
    · rintro ⟨j, x, hj, _⟩
      omega)
  rw [kidsE_rest h1, if_neg, if_neg]
  · cases l with
    | nil => simp at h0
    | cons x r => simpa using h.top x rfl
  · rw [lost_of s l fun m y hy hp => ?_]
    · decide
    · obtain ⟨j, x, hx, hmem⟩ := h.known m y hy hp
      exact (h3 m).2 ⟨j, x, hx, (List.getElem?_eq_some_iff.1 hy).1, hmem⟩
theorem KidsRight.par_in {l : List Nd} (h : KidsRight l) (z : Int) : parD l z = -1 ∨ ∃ (j m : Nat) (y : Nd), parD l z = (j : Int) ∧ l[j]? = some y ∧ z = (m : Int) ∧ z ∈ y.kids := by
  by_cases hz : z < 0
  · left; unfold parD; rw [if_pos hz]
  · obtain ⟨m, rfl⟩ : ∃ m : Nat, z = (m : Int) := ⟨z.toNat, by omega⟩
    by_cases hm : m < l.length
    · obtain ⟨x, hx⟩ := get_some hm
      rw [parD_at hx]
      by_cases hp : x.parent = -1
      · exact Or.inl hp
      · obtain ⟨j, y, hy, hk⟩ := h.known m x hx hp
        obtain ⟨m', z', e, hz', hp', _⟩ := (h.kids j y hy).2 _ hk
        have : m = m' := by omega
        subst this
        rw [hx] at hz'
        obtain rfl := Option.some.inj hz'
        exact Or.inr ⟨j, m, y, hp', hy, rfl, hk⟩
    · left
      unfold parD
      rw [if_neg (by omega), Int.toNat_natCast, List.getElem?_eq_none (by simp; omega)]
      rfl
theorem last_zero {l : List Nd} : ∀ r : List Nat, (∀ i ∈ r, upN l i ≤ l.length ∧ upN l i ≤ 40) → lastE l r = 0 := by
  intro r
  induction r with
  | nil => intro _; rfl
  | cons i r ih =>
    intro h
    have := h i (by simp)
    rw [lastE, if_neg (by omega), if_neg (by omega)]
    exact ih fun j hj => h j (by simp [hj])
theorem good_of {l : List Nd} (h : checkD l = 0) : Good l := by
  have T := tree_of h
  have h1 : firstE 0 l = 0 := by
    unfold checkD at h
    rw [if_neg (by have := T.small; omega), if_neg (by have := T.pos; omega)] at h
    by_cases h3 : firstE 0 l = 0
    · exact h3
    · rw [if_pos h3] at h; exact absurd h h3
  have h2 := (first_iff l 0).1 h1
  refine ⟨T.small, T.pos, fun i x hx => by simpa using (h2 i x hx).1, fun x hx => ?_, T.kr, fun m hm => ?_⟩
  · obtain ⟨i, hi⟩ := List.mem_iff_getElem?.1 hx
    exact (h2 i x hi).2
  · have hd := T.deep m hm
    exact ⟨upN l m, hd.1, upF_up _ _ (by omega) (by have h2 := hd.2; unfold upN at h2; omega)⟩
theorem Good.upN {l : List Nd} (h : Good l) {m d : Nat} (hm : m < l.length) (hu : Up l m d) : upN l m = d ∧ d < l.length := by
  have hlt := hu.lt (fun z => by
    rcases h.kr.par_in z with e | ⟨j, m, y, e, hy, _⟩
    · rw [e]; have := h.pos; omega
    · rw [e]; have := (List.getElem?_eq_some_iff.1 hy).1; omega) (by omega) (by omega)
  exact ⟨hu.upF (by omega) _ (by omega), hlt⟩
theorem check_of {l : List Nd} (h : Good l) : checkD l = 0 := by
  unfold checkD
  rw [if_neg (by have := h.small; omega), if_neg (by have := h.pos; omega), (first_iff l 0).2 (fun i x hx => ⟨by simpa using h.root i x hx, h.each x (List.mem_of_getElem? hx)⟩), if_neg (by decide), kids_zero h.pos h.kr, if_neg (by decide)]
  refine last_zero _ fun i hi => ?_
  obtain ⟨d, hd, hu⟩ := h.deep i (by simpa using hi)
  have := h.upN (by simpa using hi) hu
  omega
end Go.Proofs.YtbddnohbkafagaaGreatDoor

/-
What an edit does to a document's nodes, in plain words; attributes that are right. No program in sight.
-/
namespace Go.Proofs.YtbddnohbkafagaaGreatDoor
open Go.RowKit Go.Cl

/-- An edit. -/
structure Edt where
  do_ : Int
  at_ : Int
  to_ : Int
  before : Int
  name : ByteArray
  value : ByteArray
  node : Nd
def nodeAt (l : List Nd) (n : Int) : Option Nd := if n < 0 then none else l[n.toNat]?
/-- One node turned. -/
def setAt (l : List Nd) (n : Int) (f : Nd → Nd) : List Nd := match nodeAt l n with
  | none => l
  | some x => l.set n.toNat (f x)
theorem nodeAt_some {l : List Nd} {n : Int} {x : Nd} (h : nodeAt l n = some x) : ∃ m : Nat, n = (m : Int) ∧ l[m]? = some x := by
  unfold nodeAt at h
  by_cases h1 : n < 0
  · rw [if_pos h1] at h; cases h
  · rw [if_neg h1] at h
    exact ⟨n.toNat, by omega, h⟩
theorem nodeAt_nat {l : List Nd} {m : Nat} : nodeAt l (m : Int) = l[m]? := by
  unfold nodeAt
  rw [if_neg (by omega), Int.toNat_natCast]
theorem setAt_nat {l : List Nd} {m : Nat} {x : Nd} (h : l[m]? = some x) (f : Nd → Nd) : setAt l (m : Int) f = l.set m (f x) := by
  unfold setAt
  rw [nodeAt_nat, h, Int.toNat_natCast]

/-! ### attributes -/
def attrPut (ats : List DAttr) (nm v : ByteArray) : List DAttr :=
  if findA ats nm < 0 then ats ++ [(nm, v)] else ats.set (findA ats nm).toNat ((ats[(findA ats nm).toNat]?.getD (nm, v)).1, v)
theorem findA_cases (ats : List DAttr) (nm : ByteArray) : (findA ats nm = -1 ∧ ∀ a ∈ ats, a.1.toList ≠ nm.toList) ∨ ∃ (i : Nat) (a : DAttr), findA ats nm = (i : Int) ∧ ats[i]? = some a ∧ a.1.toList = nm.toList := by
  unfold findA
  cases hf : ats.findIdx? (fun a => a.1.toList == nm.toList) with
  | none =>
    left
    refine ⟨rfl, fun a ha => ?_⟩
    have := List.findIdx?_eq_none_iff.1 hf a ha
    simpa using this
  | some i =>
    right
    obtain ⟨hl, he, _⟩ := List.findIdx?_eq_some_iff_getElem.1 hf
    exact ⟨i, ats[i], rfl, List.getElem?_eq_getElem hl, by simpa using he⟩
theorem findA_nat {ats : List DAttr} {nm : ByteArray} (h : 0 ≤ findA ats nm) : ∃ (i : Nat) (a : DAttr), findA ats nm = (i : Int) ∧ ats[i]? = some a ∧ a.1.toList = nm.toList := by
  rcases findA_cases ats nm with ⟨e, _⟩ | h
  · omega
  · exact h
/-- Attributes that may be. -/
structure AttrsOk (ats : List DAttr) : Prop where
  few : ats.length ≤ 12
  each : ∀ a ∈ ats, namedR a.1 attrB = true ∧ a.2.size ≤ 400
  once : (ats.map fun a => a.1.toList).Nodup
theorem attrsF_iff : ∀ (r pre : List DAttr), attrsF pre r = 0 ↔ (∀ a ∈ r, namedR a.1 attrB = true ∧ a.2.size ≤ 400) ∧ (r.map fun a => a.1.toList).Nodup ∧ ∀ a ∈ r, ∀ b ∈ pre, b.1.toList ≠ a.1.toList := by
  intro r
  induction r with
  | nil => intro pre; simp [attrsF]
  | cons a r ih =>
    intro pre
    rw [attrsF]
    by_cases h1 : namedR a.1 attrB = false
    · rw [if_pos h1]
      refine ⟨fun h => absurd h (by decide), fun h => ?_⟩
      have := (h.1 a (by simp)).1
      rw [h1] at this; cases this
    rw [if_neg h1]
    by_cases h2 : 400 < a.2.size
    · rw [if_pos h2]
      refine ⟨fun h => absurd h (by decide), fun h => ?_⟩
      have := (h.1 a (by simp)).2
      omega
    rw [if_neg h2]
    by_cases h3 : 0 ≤ findA pre a.1
    · rw [if_pos h3]
      refine ⟨fun h => absurd h (by decide), fun h => ?_⟩
      obtain ⟨i, b, _, hb, e⟩ := findA_nat h3
      exact absurd e (h.2.2 a (by simp) b (List.mem_of_getElem? hb))
    rw [if_neg h3, ih]
    have hpre : ∀ b ∈ pre, b.1.toList ≠ a.1.toList := by
      rcases findA_cases pre a.1 with ⟨_, h⟩ | ⟨i, _, e, _⟩
      · exact h
      · omega
    have hnm : namedR a.1 attrB = true := by simpa using h1
    constructor
    · rintro ⟨h4, h5, h6⟩
      refine ⟨fun x hx => ?_, ?_, fun x hx b hb => ?_⟩
      · rcases List.mem_cons.1 hx with rfl | hx
        · exact ⟨hnm, by omega⟩
        · exact h4 x hx
      · rw [List.map_cons, List.nodup_cons]
        refine ⟨fun hm => ?_, h5⟩
        obtain ⟨x, hx, e⟩ := List.mem_map.1 hm
        exact h6 x hx a (by simp) e.symm
      · rcases List.mem_cons.1 hx with rfl | hx
        · exact hpre b hb
        · exact h6 x hx b (by simp [hb])
    · rintro ⟨h4, h5, h6⟩
      rw [List.map_cons, List.nodup_cons] at h5
      refine ⟨fun x hx => h4 x (by simp [hx]), h5.2, fun x hx b hb => ?_⟩
      rcases List.mem_append.1 hb with hb | hb
      · exact h6 x (by simp [hx]) b hb
      · obtain rfl : b = a := by simpa using hb
        intro e
        exact h5.1 (List.mem_map.2 ⟨x, hx, e.symm⟩)
theorem attrsE_iff (ats : List DAttr) : attrsE ats = 0 ↔ AttrsOk ats := by
  unfold attrsE
  by_cases h : 12 < ats.length
  · rw [if_pos h]
    exact ⟨fun h => absurd h (by decide), fun k => by have := k.few; omega⟩
  · rw [if_neg h, attrsF_iff]
    exact ⟨fun ⟨h1, h2, _⟩ => ⟨by omega, h1, h2⟩, fun k => ⟨k.each, k.once, by simp⟩⟩
theorem set_map_id {ats : List DAttr} {i : Nat} {a : DAttr} (h : ats[i]? = some a) (v : ByteArray) : (ats.set i (a.1, v)).map (fun a => a.1.toList) = ats.map fun a => a.1.toList := by
  rw [List.map_set]
  exact set_same (by rw [List.getElem?_map, h]; rfl)
theorem attrPut_ok {ats : List DAttr} {nm v : ByteArray} (h : AttrsOk ats) (h1 : namedR nm attrB = true) (h2 : v.size ≤ 400) (h3 : ¬ (findA ats nm < 0 ∧ ats.length = 12)) : AttrsOk (attrPut ats nm v) := by
  unfold attrPut
  rcases findA_cases ats nm with ⟨e, hne⟩ | ⟨i, a, e, ha, _⟩
  · rw [if_pos (by omega)]
    refine ⟨?_, fun x hx => ?_, ?_⟩
    · have := h.few
      rw [List.length_append, List.length_singleton]
      omega
    · rcases List.mem_append.1 hx with hx | hx
      · exact h.each x hx
      · obtain rfl : x = (nm, v) := by simpa using hx
        exact ⟨h1, h2⟩
    · rw [List.map_append, List.nodup_append]
      refine ⟨h.once, by simp, fun x hx y hy => ?_⟩
      obtain ⟨b, hb, rfl⟩ := List.mem_map.1 hx
      obtain rfl : y = nm.toList := by simpa using hy
      exact hne b hb
  · rw [if_neg (by omega), e, Int.toNat_natCast, ha, Option.getD_some]
    refine ⟨by rw [List.length_set]; exact h.few, fun x hx => ?_, by rw [set_map_id ha]; exact h.once⟩
    rcases List.mem_or_eq_of_mem_set hx with hx | rfl
    · exact h.each x hx
    · exact ⟨(h.each a (List.mem_of_getElem? ha)).1, h2⟩
theorem attrDrop_ok {ats : List DAttr} (h : AttrsOk ats) (i : Nat) : AttrsOk (ats.eraseIdx i) :=
  ⟨Nat.le_trans (List.length_eraseIdx_le ats i) h.few, fun x hx => h.each x (List.mem_of_mem_eraseIdx hx), ((List.eraseIdx_sublist ats i).map _).nodup h.once⟩

/-! ### edits -/
def attrErr (l : List Nd) (n : Int) (nm v : ByteArray) : Int := match nodeAt l n with
  | none => 5
  | some x => if x.kind ≠ 2 then 7 else if namedR nm attrB = false then 3 else if 400 < v.size ∨ (findA x.attrs nm < 0 ∧ x.attrs.length = 12) then 2 else 0
def attrDo (l : List Nd) (n : Int) (nm v : ByteArray) : List Nd := setAt l n fun x => { x with attrs := attrPut x.attrs nm v }
def dropErr (l : List Nd) (n : Int) (nm : ByteArray) : Int := match nodeAt l n with
  | none => 5
  | some x => if x.kind ≠ 2 then 7 else if findA x.attrs nm < 0 then 5 else 0
def dropDo (l : List Nd) (n : Int) (nm : ByteArray) : List Nd := setAt l n fun x => { x with attrs := x.attrs.eraseIdx (findA x.attrs nm).toNat }
def textErr (l : List Nd) (n : Int) (v : ByteArray) : Int := match nodeAt l n with
  | none => 5
  | some x => if x.kind ≠ 3 ∧ x.kind ≠ 4 then 7 else if 400 < v.size then 2 else 0
def textDo (l : List Nd) (n : Int) (v : ByteArray) : List Nd := setAt l n fun x => { x with text := v }
def makeErr (l : List Nd) (x : Nd) : Int := if x.kids ≠ [] then 3 else if x.kind = 1 then 7 else if nodeE x ≠ 0 then nodeE x else if l.length = 200 then 2 else 0
def makeDo (l : List Nd) (x : Nd) : List Nd := l ++ [{ x with parent := -1, kids := [] }]
/-- How far what lies below a node goes. -/
def deepF (l : List Nd) : Nat → Int → Nat
  | 0, _ => 0
  | f + 1, z => ((kidsD l z).map fun k => deepF l f k + 1).foldl max 0
def deepR (l : List Nd) (z : Int) : Nat := deepF l (41 - upN l z) z
/-- Is a node another one, or does it lie below it? -/
def belowF (l : List Nd) (top : Int) : Nat → Int → Bool
  | 0, z => z == top
  | f + 1, z => z == top || (decide (0 ≤ z) && belowF l top f (parD l z))
def belowB (l : List Nd) (n top : Int) : Bool := belowF l top (depZ l n) n
def insAt (ks : List Int) (before : Int) : Int := if before = -1 then ks.length else Lib.idxOf ks before
def insErr (l : List Nd) (n to_ before : Int) : Int := match nodeAt l n, nodeAt l to_ with
  | some x, some y => if parentB x.kind = false ∨ y.kind = 1 ∨ (x.kind = 1 ∧ y.kind = 3) then 7 else if 0 ≤ y.parent then 9 else if insAt x.kids before < 0 then 5
    else if belowB l n to_ = true then 8 else if 40 < upN l n + 1 + deepR l to_ then 2 else 0
  | _, _ => 5
def insDo (l : List Nd) (n to_ before : Int) : List Nd :=
  setAt (setAt l n fun x => { x with kids := x.kids.take (insAt x.kids before).toNat ++ to_ :: x.kids.drop (insAt x.kids before).toNat }) to_ fun y => { y with parent := n }
def remErr (l : List Nd) (n : Int) : Int := match nodeAt l n with
  | none => 5
  | some x => if x.kind = 1 then 7 else if x.parent < 0 then 5 else 0
def remDo (l : List Nd) (n : Int) : List Nd := match nodeAt l n with
  | none => l
  | some x => setAt (setAt l x.parent fun p => { p with kids := p.kids.eraseIdx (Lib.idxOf p.kids n).toNat }) n fun x => { x with parent := -1 }
def edErr (l : List Nd) (e : Edt) : Int :=
  if e.do_ = 1 then attrErr l e.at_ e.name e.value else if e.do_ = 2 then dropErr l e.at_ e.name else if e.do_ = 3 then textErr l e.at_ e.value
  else if e.do_ = 4 then makeErr l e.node else if e.do_ = 5 then insErr l e.at_ e.to_ e.before else if e.do_ = 6 then remErr l e.at_ else 1
def edDo (l : List Nd) (e : Edt) : List Nd :=
  if e.do_ = 1 then attrDo l e.at_ e.name e.value else if e.do_ = 2 then dropDo l e.at_ e.name else if e.do_ = 3 then textDo l e.at_ e.value
  else if e.do_ = 4 then makeDo l e.node else if e.do_ = 5 then insDo l e.at_ e.to_ e.before else if e.do_ = 6 then remDo l e.at_ else l
def edMade (l : List Nd) (made : Int) (e : Edt) : Int := if e.do_ = 4 then l.length else made
/-- All edits, one behind the other: what is left, or which one is wrong, and why. -/
def edAll : Nat → List Nd → List Edt → List Nd × Int × Int
  | _, l, [] => (l, 0, 0)
  | i, l, e :: r => if edErr l e ≠ 0 then ([], i, edErr l e) else edAll (i + 1) (edDo l e) r
end Go.Proofs.YtbddnohbkafagaaGreatDoor

/-
A document that is right stays so, whatever edit is done. No program in sight.
-/
namespace Go.Proofs.YtbddnohbkafagaaGreatDoor
open Go.RowKit Go.Cl

/-! ### one node -/
theorem nodeE_iff (x : Nd) : nodeE x = 0 ↔ (1 ≤ x.kind ∧ x.kind ≤ 5 ∧ bareB x = true) ∧ (x.kind = 2 → namedR x.name lettersB = true) ∧ AttrsOk x.attrs ∧ x.text.size ≤ 400 ∧ x.name.size ≤ 400 := by
  rw [← attrsE_iff]
  unfold nodeE
  by_cases h1 : x.kind < 1 ∨ 5 < x.kind ∨ bareB x = false
  · rw [if_pos h1]
    refine ⟨fun h => absurd h (by decide), fun h => ?_⟩
    rcases h1 with h1 | h1 | h1
    · omega
    · omega
    · rw [h1] at h; exact absurd h.1.2.2 (by decide)
  rw [if_neg h1]
  have hb : 1 ≤ x.kind ∧ x.kind ≤ 5 ∧ bareB x = true := ⟨by omega, by omega, by
    cases hb : bareB x with
    | true => rfl
    | false => exact absurd (Or.inr (Or.inr hb)) h1⟩
  by_cases h2 : x.kind = 2 ∧ namedR x.name lettersB = false
  · rw [if_pos h2]
    refine ⟨fun h => absurd h (by decide), fun h => ?_⟩
    rw [h.2.1 h2.1] at h2
    exact absurd h2.2 (by decide)
  rw [if_neg h2]
  have hn : x.kind = 2 → namedR x.name lettersB = true := fun e => by
    cases hb : namedR x.name lettersB with
    | true => rfl
    | false => exact absurd ⟨e, hb⟩ h2
  by_cases h3 : attrsE x.attrs = 0
  · rw [if_neg (by rw [h3]; decide)]
    by_cases h4 : 400 < x.text.size ∨ 400 < x.name.size
    · rw [if_pos h4]
      exact ⟨fun h => absurd h (by decide), fun h => by omega⟩
    · rw [if_neg h4]
      exact ⟨fun _ => ⟨hb, hn, h3, by omega, by omega⟩, fun _ => rfl⟩
  · rw [if_pos h3]
    exact ⟨fun h => absurd h h3, fun h => absurd h.2.2.1 h3⟩
theorem nodeE_kids {x : Nd} (h : nodeE x = 0) (ks : List Int) (hk : parentB x.kind = true ∨ (x.kids = [] → ks = [])) (p : Int) : nodeE { x with parent := p, kids := ks } = 0 := by
  rw [nodeE_iff] at h ⊢
  obtain ⟨⟨h1, h2, h3⟩, h4⟩ := h
  refine ⟨⟨h1, h2, ?_⟩, h4⟩
  unfold bareB at h3 ⊢
  simp only [Bool.and_eq_true] at h3 ⊢
  refine ⟨h3.1, ?_⟩
  have h6 := h3.2
  rw [Bool.or_eq_true] at h6 ⊢
  rcases hk with hk | hk
  · exact Or.inl hk
  · rcases h6 with h5 | h5
    · exact Or.inl h5
    · right
      have e := hk (by simpa using h5)
      subst e
      rfl
/-! ### up -/
theorem Up.same {l l' : List Nd} (h : ∀ z, parD l' z = parD l z) {z : Int} {d : Nat} (hu : Up l z d) : Up l' z d := by
  induction hu with
  | top h0 => exact Up.top (by rw [h]; exact h0)
  | step h0 _ ih => exact Up.step (by rw [h]; exact h0) (by rw [h]; exact ih)
theorem parD_of {l l' : List Nd} (hl : l'.length = l.length) {f : Int → Int} (h : ∀ (j : Nat) x', l'[j]? = some x' → x'.parent = f j) (hf : ∀ z : Int, z < 0 ∨ (l.length : Int) ≤ z → f z = -1) (z : Int) : parD l' z = f z := by
  by_cases hz : z < 0
  · rw [hf z (Or.inl hz)]
    unfold parD
    rw [if_pos hz]
  · obtain ⟨m, rfl⟩ : ∃ m : Nat, z = (m : Int) := ⟨z.toNat, by omega⟩
    by_cases hm : m < l'.length
    · obtain ⟨x, hx⟩ := get_some hm
      rw [parD_at hx, h m x hx]
    · rw [hf _ (Or.inr (by omega))]
      unfold parD
      rw [if_neg hz, Int.toNat_natCast, List.getElem?_eq_none (by simp; omega)]
      rfl
theorem parD_out {l : List Nd} {z : Int} (h : z < 0 ∨ (l.length : Int) ≤ z) : parD l z = -1 := by
  unfold parD
  by_cases hz : z < 0
  · rw [if_pos hz]
  · rw [if_neg hz, List.getElem?_eq_none (by simp; omega)]
    rfl
/-! ### nodes that are turned, kids and parents left alone -/
theorem good_skel {l l' : List Nd} (h : Good l) (hl : l'.length = l.length) (hs : ∀ (j : Nat) x', l'[j]? = some x' → ∃ x, l[j]? = some x ∧ x'.kind = x.kind ∧ x'.parent = x.parent ∧ x'.kids = x.kids) (he : ∀ x ∈ l', nodeE x = 0) : Good l' := by
  have hs2 : ∀ (j : Nat) x, l[j]? = some x → ∃ x', l'[j]? = some x' ∧ x'.kind = x.kind ∧ x'.parent = x.parent ∧ x'.kids = x.kids := fun j x hx => by
    obtain ⟨x', hx'⟩ := get_some (l := l') (k := j) (by have := (List.getElem?_eq_some_iff.1 hx).1; omega)
    obtain ⟨z, hz, h1, h2, h3⟩ := hs j x' hx'
    rw [hx] at hz
    obtain rfl := Option.some.inj hz
    exact ⟨x', hx', h1, h2, h3⟩
  have hpar : ∀ z, parD l' z = parD l z := parD_of hl (fun j x' hx' => by
    obtain ⟨x, hx, _, h2, _⟩ := hs j x' hx'
    rw [parD_at hx, h2]) (fun z hz => parD_out hz)
  refine ⟨by rw [hl]; exact h.small, by rw [hl]; exact h.pos, fun i x' hx' => ?_, he, ⟨fun j x' hx' => ?_, fun m y' hy' hp => ?_, fun x' hx' => ?_⟩, fun m hm => ?_⟩
  · obtain ⟨x, hx, h1, _⟩ := hs i x' hx'
    rw [h1]
    exact h.root i x hx
  · obtain ⟨x, hx, _, _, h3⟩ := hs j x' hx'
    rw [h3]
    refine ⟨(h.kr.kids j x hx).1, fun k hk => ?_⟩
    obtain ⟨m, y, e, hy, hp, hq⟩ := (h.kr.kids j x hx).2 k hk
    obtain ⟨y', hy', k1, k2, _⟩ := hs2 m y hy
    exact ⟨m, y', e, hy', by rw [k2]; exact hp, by rw [k1]; exact hq⟩
  · obtain ⟨y, hy, _, h2, _⟩ := hs m y' hy'
    obtain ⟨j, x, hx, hk⟩ := h.kr.known m y hy (by rw [← h2]; exact hp)
    obtain ⟨x', hx', _, _, k3⟩ := hs2 j x hx
    exact ⟨j, x', hx', by rw [k3]; exact hk⟩
  · obtain ⟨x, hx, _, h2, _⟩ := hs 0 x' hx'
    rw [h2]
    exact h.kr.top x hx
  · obtain ⟨d, hd, hu⟩ := h.deep m (by omega)
    exact ⟨d, hd, hu.same hpar⟩
theorem good_set {l : List Nd} (h : Good l) {m : Nat} {x y : Nd} (hx : l[m]? = some x) (h1 : y.kind = x.kind) (h2 : y.parent = x.parent) (h3 : y.kids = x.kids) (he : nodeE y = 0) : Good (l.set m y) := by
  refine good_skel h (by rw [List.length_set]) (fun j x' hx' => ?_) (fun z hz => ?_)
  · by_cases e : m = j
    · subst e
      rw [List.getElem?_set_self (List.getElem?_eq_some_iff.1 hx).1] at hx'
      obtain rfl := Option.some.inj hx'
      exact ⟨x, hx, h1, h2, h3⟩
    · rw [List.getElem?_set_ne e] at hx'
      exact ⟨x', hx', rfl, rfl, rfl⟩
  · rcases List.mem_or_eq_of_mem_set hz with hz | rfl
    · exact h.each z hz
    · exact he
theorem good_attr {l : List Nd} (h : Good l) {n : Int} {nm v : ByteArray} (he : attrErr l n nm v = 0) : Good (attrDo l n nm v) := by
  unfold attrErr at he
  cases hx : nodeAt l n with
  | none => rw [hx] at he; cases he
  | some x =>
    obtain ⟨m, rfl, hm⟩ := nodeAt_some hx
    rw [hx] at he
    simp only at he
    by_cases h1 : x.kind ≠ 2
    · rw [if_pos h1] at he; cases he
    rw [if_neg h1] at he
    by_cases h2 : namedR nm attrB = false
    · rw [if_pos h2] at he; cases he
    rw [if_neg h2] at he
    by_cases h3 : 400 < v.size ∨ (findA x.attrs nm < 0 ∧ x.attrs.length = 12)
    · rw [if_pos h3] at he; cases he
    unfold attrDo
    rw [setAt_nat hm]
    have hk : x.kind = 2 := by omega
    have hn := (nodeE_iff x).1 (h.each x (List.mem_of_getElem? hm))
    refine good_set h hm rfl rfl rfl ((nodeE_iff _).2 ⟨⟨hn.1.1, hn.1.2.1, ?_⟩, hn.2.1, ?_, hn.2.2.2.1, hn.2.2.2.2⟩)
    · have hb := hn.1.2.2
      unfold bareB at hb ⊢
      rw [hk] at hb ⊢
      simpa using hb
    · exact attrPut_ok hn.2.2.1 (by simpa using h2) (by omega) (fun hc => h3 (Or.inr hc))
theorem good_drop {l : List Nd} (h : Good l) {n : Int} {nm : ByteArray} (he : dropErr l n nm = 0) : Good (dropDo l n nm) := by
  unfold dropErr at he
  cases hx : nodeAt l n with
  | none => rw [hx] at he; cases he
  | some x =>
    obtain ⟨m, rfl, hm⟩ := nodeAt_some hx
    rw [hx] at he
    simp only at he
    by_cases h1 : x.kind ≠ 2
    · rw [if_pos h1] at he; cases he
    unfold dropDo
    rw [setAt_nat hm]
    have hk : x.kind = 2 := by omega
    have hn := (nodeE_iff x).1 (h.each x (List.mem_of_getElem? hm))
    refine good_set h hm rfl rfl rfl ((nodeE_iff _).2 ⟨⟨hn.1.1, hn.1.2.1, ?_⟩, hn.2.1, attrDrop_ok hn.2.2.1 _, hn.2.2.2.1, hn.2.2.2.2⟩)
    have hb := hn.1.2.2
    unfold bareB at hb ⊢
    rw [hk] at hb ⊢
    simpa using hb
theorem good_text {l : List Nd} (h : Good l) {n : Int} {v : ByteArray} (he : textErr l n v = 0) : Good (textDo l n v) := by
  unfold textErr at he
  cases hx : nodeAt l n with
  | none => rw [hx] at he; cases he
  | some x =>
    obtain ⟨m, rfl, hm⟩ := nodeAt_some hx
    rw [hx] at he
    simp only at he
    by_cases h1 : x.kind ≠ 3 ∧ x.kind ≠ 4
    · rw [if_pos h1] at he; cases he
    rw [if_neg h1] at he
    by_cases h2 : 400 < v.size
    · rw [if_pos h2] at he; cases he
    unfold textDo
    rw [setAt_nat hm]
    have hn := (nodeE_iff x).1 (h.each x (List.mem_of_getElem? hm))
    refine good_set h hm rfl rfl rfl ((nodeE_iff _).2 ⟨⟨hn.1.1, hn.1.2.1, ?_⟩, hn.2.1, hn.2.2.1, by show v.size ≤ 400; omega, hn.2.2.2.2⟩)
    have hb := hn.1.2.2
    have hk : x.kind = 3 ∨ x.kind = 4 := by omega
    unfold bareB at hb ⊢
    rcases hk with hk | hk <;> (rw [hk] at hb ⊢; simpa using hb)
theorem good_make {l : List Nd} (h : Good l) {x : Nd} (he : makeErr l x = 0) : Good (makeDo l x) := by
  unfold makeErr at he
  by_cases h0 : x.kids ≠ []
  · rw [if_pos h0] at he; cases he
  rw [if_neg h0] at he
  by_cases h1 : x.kind = 1
  · rw [if_pos h1] at he; cases he
  rw [if_neg h1] at he
  by_cases h2 : nodeE x ≠ 0
  · rw [if_pos h2] at he; exact absurd he h2
  rw [if_neg h2] at he
  by_cases h3 : l.length = 200
  · rw [if_pos h3] at he; cases he
  have hk : x.kids = [] := by simpa using h0
  have hn := nodeE_kids (x := x) (by simpa using h2) [] (Or.inr fun _ => rfl) (-1)
  unfold makeDo
  generalize hy : ({ x with parent := -1, kids := [] } : Nd) = y at hn
  have y1 : y.kind ≠ 1 := by rw [← hy]; exact h1
  have y2 : y.parent = -1 := by rw [← hy]
  have y3 : y.kids = [] := by rw [← hy]
  have hg : ∀ (j : Nat) z, (l ++ [y])[j]? = some z → (j < l.length ∧ l[j]? = some z) ∨ (j = l.length ∧ z = y) := fun j z hz => by
    by_cases hj : j < l.length
    · rw [List.getElem?_append_left hj] at hz
      exact Or.inl ⟨hj, hz⟩
    · rw [List.getElem?_append_right (by omega)] at hz
      have hj0 : j - l.length = 0 := by
        have := (List.getElem?_eq_some_iff.1 hz).1
        simp at this
        omega
      rw [hj0] at hz
      exact Or.inr ⟨by omega, by simpa using hz.symm⟩
  have hg2 : ∀ (j : Nat) z, l[j]? = some z → (l ++ [y])[j]? = some z := fun j z hz => by
    rw [List.getElem?_append_left (List.getElem?_eq_some_iff.1 hz).1]
    exact hz
  have hpar : ∀ z, parD (l ++ [y]) z = parD l z := fun z => by
    by_cases hz : z < 0
    · unfold parD; rw [if_pos hz, if_pos hz]
    · obtain ⟨m, rfl⟩ : ∃ m : Nat, z = (m : Int) := ⟨z.toNat, by omega⟩
      by_cases hm : m < l.length
      · obtain ⟨w, hw⟩ := get_some hm
        rw [parD_at hw, parD_at (hg2 m w hw)]
      · rw [parD_out (l := l) (Or.inr (by omega))]
        by_cases hm2 : m = l.length
        · rw [parD_at (l := l ++ [y]) (x := y) (by rw [hm2, List.getElem?_append_right (Nat.le_refl _)]; simp), y2]
        · exact parD_out (Or.inr (by simp; omega))
  refine ⟨by have := h.small; simp; omega, by simp, fun i z hz => ?_, fun z hz => ?_, ⟨fun j z hz => ?_, fun m z hz hp => ?_, fun z hz => ?_⟩, fun m hm => ?_⟩
  · rcases hg i z hz with ⟨_, hz⟩ | ⟨e, rfl⟩
    · exact h.root i z hz
    · have := h.pos
      exact ⟨fun e2 => absurd e2 y1, fun e2 => by omega⟩
  · rcases List.mem_append.1 hz with hz | hz
    · exact h.each z hz
    · obtain rfl : z = y := by simpa using hz
      exact hn
  · rcases hg j z hz with ⟨_, hz⟩ | ⟨e, rfl⟩
    · refine ⟨(h.kr.kids j z hz).1, fun k hk => ?_⟩
      obtain ⟨m, w, e, hw, h4⟩ := (h.kr.kids j z hz).2 k hk
      exact ⟨m, w, e, hg2 m w hw, h4⟩
    · rw [y3]
      exact ⟨List.nodup_nil, fun k hk => by cases hk⟩
  · rcases hg m z hz with ⟨_, hz⟩ | ⟨e, rfl⟩
    · obtain ⟨j, w, hw, hk⟩ := h.kr.known m z hz hp
      exact ⟨j, w, hg2 j w hw, hk⟩
    · exact absurd y2 hp
  · rcases hg 0 z hz with ⟨_, hz⟩ | ⟨e, rfl⟩
    · exact h.kr.top z hz
    · exact y2
  · by_cases hml : m < l.length
    · obtain ⟨d, hd, hu⟩ := h.deep m hml
      exact ⟨d, hd, hu.same hpar⟩
    · have hm2 : m = l.length := by simp at hm; omega
      refine ⟨0, by omega, Up.top ?_⟩
      rw [hpar, parD_out (Or.inr (by omega))]
      decide

/-! ### below -/
/-- So many steps below a node. -/
inductive Bel (l : List Nd) (top : Int) : Int → Nat → Prop
  | self : Bel l top top 0
  | step {z : Int} {r : Nat} : 0 ≤ parD l z → Bel l top (parD l z) r → Bel l top z (r + 1)
theorem belowF_of {l : List Nd} {top : Int} {z : Int} {r : Nat} (h : Bel l top z r) : ∀ d f, Up l z d → d < f → 0 ≤ z → belowF l top f z = true := by
  induction h with
  | self =>
    intro d f _ _ _
    cases f <;> simp [belowF]
  | @step z r h0 _ ih =>
    intro d f hu hf hz
    obtain ⟨f, rfl⟩ : ∃ q, f = q + 1 := ⟨f - 1, by omega⟩
    cases hu with
    | top h1 => omega
    | @step _ d _ hu =>
      rw [belowF, ih d f hu (by omega) h0]
      simp [hz]
theorem belowF_to {l : List Nd} {top : Int} : ∀ (f : Nat) (z : Int), belowF l top f z = true → (∀ y : Int, parD l y < 0 → parD l y = -1) → 0 ≤ top → ∃ r, Bel l top z r := by
  intro f
  induction f with
  | zero =>
    intro z h _ _
    obtain rfl : z = top := by simpa [belowF] using h
    exact ⟨0, Bel.self⟩
  | succ f ih =>
    intro z h hp ht
    rw [belowF, Bool.or_eq_true] at h
    rcases h with h | h
    · obtain rfl : z = top := by simpa using h
      exact ⟨0, Bel.self⟩
    · rw [Bool.and_eq_true] at h
      obtain ⟨r, hr⟩ := ih _ h.2 hp ht
      by_cases h0 : 0 ≤ parD l z
      · exact ⟨r + 1, Bel.step h0 hr⟩
      · cases hr with
        | self => omega
        | step h1 _ =>
          rw [hp z (by omega)] at h1
          unfold parD at h1
          rw [if_pos (by decide)] at h1
          omega
theorem foldl_max_ge : ∀ (xs : List Nat) (a : Nat), a ≤ xs.foldl max a ∧ ∀ x ∈ xs, x ≤ xs.foldl max a := by
  intro xs
  induction xs with
  | nil => intro a; exact ⟨Nat.le_refl _, fun x hx => by cases hx⟩
  | cons y r ih =>
    intro a
    rw [List.foldl_cons]
    obtain ⟨h1, h2⟩ := ih (max a y)
    refine ⟨by omega, fun x hx => ?_⟩
    rcases List.mem_cons.1 hx with rfl | hx
    · omega
    · exact h2 x hx
theorem Tree.deep_step {l : List Nd} (T : Tree l) {m : Nat} (hm : m < l.length) : deepR l m = ((kidsD l m).map fun k => deepR l k + 1).foldl max 0 := by
  have hd := (T.deep m hm).1
  unfold deepR
  rw [show 41 - upN l m = (40 - upN l m) + 1 from by omega, deepF]
  congr 1
  apply List.map_congr_left
  intro k hk
  obtain ⟨n, rfl, hn, hp⟩ := T.kid hm hk
  have := (T.up_par hn hp).2
  rw [show 41 - upN l n = 40 - upN l m from by omega]
theorem Tree.bel_deep {l : List Nd} (T : Tree l) {t : Nat} (ht : t < l.length) {z : Int} {r : Nat} (h : Bel l t z r) : ∃ m : Nat, z = (m : Int) ∧ m < l.length ∧ r + deepR l m ≤ deepR l t := by
  induction h with
  | self => exact ⟨t, rfl, ht, by omega⟩
  | @step z r h0 _ ih =>
    obtain ⟨p, e, hp, hd⟩ := ih
    have hz : 0 ≤ z ∧ z < l.length := by
      constructor
      · by_cases hz : 0 ≤ z
        · exact hz
        · rw [parD_out (Or.inl (by omega))] at h0; omega
      · by_cases hz : z < l.length
        · exact hz
        · rw [parD_out (Or.inr (by omega))] at h0; omega
    obtain ⟨m, rfl⟩ : ∃ m : Nat, z = (m : Int) := ⟨z.toNat, by omega⟩
    have hm : m < l.length := by omega
    refine ⟨m, rfl, hm, ?_⟩
    have hk : (m : Int) ∈ kidsD l p := by
      rcases T.par hm with e2 | ⟨q, e2, hq, hmem⟩
      · omega
      · have : p = q := by omega
        subst this
        exact hmem
    have := (foldl_max_ge ((kidsD l p).map fun k => deepR l k + 1) 0).2 (deepR l m + 1) (List.mem_map.2 ⟨_, hk, rfl⟩)
    rw [← T.deep_step hp] at this
    omega

/-! ### two nodes turned -/
theorem get2 {l : List Nd} {a b : Nat} {x y : Nd} (ha : a < l.length) (hb : b < l.length) (j : Nat) : ((l.set a x).set b y)[j]? = if j = b then some y else if j = a then some x else l[j]? := by
  by_cases h1 : j = b
  · subst h1
    rw [if_pos rfl, List.getElem?_set_self (by rw [List.length_set]; exact hb)]
  · rw [if_neg h1, List.getElem?_set_ne (by omega)]
    by_cases h2 : j = a
    · subst h2
      rw [if_pos rfl, List.getElem?_set_self ha]
    · rw [if_neg h2, List.getElem?_set_ne (by omega)]
theorem ins_mem (ks : List Int) (i : Nat) (t k : Int) : k ∈ ks.take i ++ t :: ks.drop i ↔ k = t ∨ k ∈ ks := by
  rw [List.perm_middle.mem_iff, List.take_append_drop, List.mem_cons]
theorem ins_nodup {ks : List Int} {t : Int} (h : ks.Nodup) (ht : t ∉ ks) (i : Nat) : (ks.take i ++ t :: ks.drop i).Nodup := by
  rw [List.perm_middle.nodup_iff, List.take_append_drop, List.nodup_cons]
  exact ⟨ht, h⟩
theorem Up.not_self {l : List Nd} {z : Int} {d : Nat} (h : Up l z d) (hz : 0 ≤ z) : parD l z ≠ z := by
  intro e
  cases h with
  | top h0 => omega
  | @step _ d h0 h1 =>
    rw [e] at h1
    have := h1.fn (Up.step (by omega) (by rw [e]; exact h1))
    omega
/-- What insert asks for. -/
structure InsOk (l : List Nd) (m t : Nat) (x y : Nd) (before : Int) : Prop where
  hx : l[m]? = some x
  hy : l[t]? = some y
  par : parentB x.kind = true
  kind : y.kind ≠ 1
  noText : ¬ (x.kind = 1 ∧ y.kind = 3)
  loose : y.parent < 0
  at_ : 0 ≤ insAt x.kids before
  notBelow : belowB l m t = false
  few : upN l m + 1 + deepR l t ≤ 40
theorem insErr_iff {l : List Nd} {n to_ before : Int} (h : insErr l n to_ before = 0) : ∃ m t x y, n = ((m : Nat) : Int) ∧ to_ = ((t : Nat) : Int) ∧ InsOk l m t x y before := by
  unfold insErr at h
  cases hx : nodeAt l n with
  | none => rw [hx] at h; simp at h
  | some x =>
    cases hy : nodeAt l to_ with
    | none => rw [hx, hy] at h; simp at h
    | some y =>
      rw [hx, hy] at h
      simp only at h
      obtain ⟨m, rfl, hm⟩ := nodeAt_some hx
      obtain ⟨t, rfl, ht⟩ := nodeAt_some hy
      by_cases h1 : parentB x.kind = false ∨ y.kind = 1 ∨ (x.kind = 1 ∧ y.kind = 3)
      · rw [if_pos h1] at h; cases h
      rw [if_neg h1] at h
      by_cases h2 : 0 ≤ y.parent
      · rw [if_pos h2] at h; cases h
      rw [if_neg h2] at h
      by_cases h3 : insAt x.kids before < 0
      · rw [if_pos h3] at h; cases h
      rw [if_neg h3] at h
      by_cases h4 : belowB l m t = true
      · rw [if_pos h4] at h; cases h
      rw [if_neg h4] at h
      by_cases h5 : 40 < upN l m + 1 + deepR l t
      · rw [if_pos h5] at h; cases h
      refine ⟨m, t, x, y, rfl, rfl, hm, ht, ?_, fun e => h1 (Or.inr (Or.inl e)), fun e => h1 (Or.inr (Or.inr e)), by omega, by omega, by simpa using h4, by omega⟩
      cases hb : parentB x.kind with
      | true => rfl
      | false => exact absurd (Or.inl hb) h1
theorem InsOk.ne {l : List Nd} {m t : Nat} {x y : Nd} {before : Int} (h : InsOk l m t x y before) : m ≠ t := by
  rintro rfl
  have := h.notBelow
  unfold belowB depZ at this
  rw [if_neg (by omega), belowF] at this
  simp at this
theorem InsOk.do_ {l : List Nd} {m t : Nat} {x y : Nd} {before : Int} (h : InsOk l m t x y before) : insDo l m t before = (l.set m { x with kids := x.kids.take (insAt x.kids before).toNat ++ (t : Int) :: x.kids.drop (insAt x.kids before).toNat }).set t { y with parent := (m : Int) } := by
  unfold insDo
  rw [setAt_nat h.hx, setAt_nat (x := y) (by rw [List.getElem?_set_ne h.ne]; exact h.hy)]
theorem good_ins {l : List Nd} (h : Good l) {n to_ before : Int} (he : insErr l n to_ before = 0) : Good (insDo l n to_ before) := by
  obtain ⟨m, t, x, y, rfl, rfl, hi⟩ := insErr_iff he
  rw [hi.do_]
  have hne := hi.ne
  have hm := (List.getElem?_eq_some_iff.1 hi.hx).1
  have ht := (List.getElem?_eq_some_iff.1 hi.hy).1
  have hty : t ∉ ([] : List Nat) := by simp
  have hpt : parD l t = -1 := by
    rcases h.kr.par_in (t : Int) with e | ⟨j, _, _, e, _⟩
    · exact e
    · have := hi.loose
      rw [parD_at hi.hy] at e
      omega
  have hyp : y.parent = -1 := by rw [← parD_at hi.hy]; exact hpt
  have htk : (t : Int) ∉ x.kids := fun hk => by
    obtain ⟨m', z, e, hz, hp, _⟩ := (h.kr.kids m x hi.hx).2 _ hk
    have : t = m' := by omega
    subst this
    rw [hi.hy] at hz
    obtain rfl := Option.some.inj hz
    omega
  have ht0 : t ≠ 0 := fun e => hi.kind ((h.root t y hi.hy).2 e)
  generalize (insAt x.kids before).toNat = i
  generalize hX : ({ x with kids := x.kids.take i ++ (t : Int) :: x.kids.drop i } : Nd) = X
  generalize hY : ({ y with parent := (m : Int) } : Nd) = Y
  have hg := fun j => get2 (l := l) (x := X) (y := Y) hm ht j
  have xk : X.kids = x.kids.take i ++ (t : Int) :: x.kids.drop i := by rw [← hX]
  have xi : X.kind = x.kind ∧ X.parent = x.parent := by rw [← hX]; exact ⟨rfl, rfl⟩
  have yi : Y.kind = y.kind ∧ Y.parent = (m : Int) ∧ Y.kids = y.kids := by rw [← hY]; exact ⟨rfl, rfl, rfl⟩
  have hXe : nodeE X = 0 := by rw [← hX]; exact nodeE_kids (h.each x (List.mem_of_getElem? hi.hx)) _ (Or.inl hi.par) _
  have hYe : nodeE Y = 0 := by rw [← hY]; exact nodeE_kids (h.each y (List.mem_of_getElem? hi.hy)) _ (Or.inr fun e => e) _
  generalize hl' : (l.set m X).set t Y = l' at hg
  have hlen : l'.length = l.length := by rw [← hl']; simp
  have back : ∀ (j : Nat) z', l'[j]? = some z' → ∃ z, l[j]? = some z ∧ z'.kind = z.kind ∧ (j ≠ t → z'.parent = z.parent) ∧ (j ≠ m → z'.kids = z.kids) := fun j z' hz => by
    rw [hg] at hz
    by_cases h1 : j = t
    · subst h1
      rw [if_pos rfl] at hz
      obtain rfl := Option.some.inj hz
      exact ⟨y, hi.hy, yi.1, fun e => absurd rfl e, fun _ => yi.2.2⟩
    · rw [if_neg h1] at hz
      by_cases h2 : j = m
      · subst h2
        rw [if_pos rfl] at hz
        obtain rfl := Option.some.inj hz
        exact ⟨x, hi.hx, xi.1, fun _ => xi.2, fun e => absurd rfl e⟩
      · rw [if_neg h2] at hz
        exact ⟨z', hz, rfl, fun _ => rfl, fun _ => rfl⟩
  have forth : ∀ (j : Nat) z, l[j]? = some z → ∃ z', l'[j]? = some z' ∧ z'.kind = z.kind ∧ (j ≠ t → z'.parent = z.parent) ∧ (j ≠ m → z'.kids = z.kids) := fun j z hz => by
    obtain ⟨z', hz'⟩ := get_some (l := l') (k := j) (by have := (List.getElem?_eq_some_iff.1 hz).1; omega)
    obtain ⟨w, hw, h1⟩ := back j z' hz'
    rw [hz] at hw
    obtain rfl := Option.some.inj hw
    exact ⟨z', hz', h1⟩
  have hgt : l'[t]? = some Y := by rw [hg, if_pos rfl]
  have hgm : l'[m]? = some X := by rw [hg, if_neg hne, if_pos rfl]
  have hpar : ∀ z : Int, parD l' z = if z = (t : Int) then (m : Int) else parD l z := parD_of hlen (fun j z' hz => by
    by_cases h1 : j = t
    · subst h1
      rw [hgt] at hz
      obtain rfl := Option.some.inj hz
      rw [if_pos rfl, yi.2.1]
    · rw [if_neg (by omega)]
      obtain ⟨z, hz2, _, h3, _⟩ := back j z' hz
      rw [parD_at hz2, h3 h1]) (fun z hz => by rw [if_neg (by omega)]; exact parD_out hz)
  have T := tree_of (check_of h)
  obtain ⟨da, hda, hua⟩ := h.deep m hm
  have hup := (h.upN hm hua).1
  have hfew := hi.few
  rw [hup] at hfew
  have notBel : ∀ r, ¬ Bel l t m r := fun r hb => by
    have := belowF_of hb da (depZ l m) hua (by unfold depZ; rw [if_neg (by omega), hup]; omega) (by omega)
    have h2 := hi.notBelow
    unfold belowB at h2
    rw [h2] at this
    cases this
  have keep : ∀ (z : Int) (d : Nat), Up l z d → (∀ r, ¬ Bel l t z r) → Up l' z d := by
    intro z d hu
    induction hu with
    | @top z h0 =>
      intro hb
      have hz : z ≠ (t : Int) := fun e => hb 0 (by rw [e]; exact Bel.self)
      exact Up.top (by rw [hpar, if_neg hz]; exact h0)
    | @step z d h0 _ ih =>
      intro hb
      have hz : z ≠ (t : Int) := fun e => hb 0 (by rw [e]; exact Bel.self)
      refine Up.step (by rw [hpar, if_neg hz]; exact h0) ?_
      rw [hpar, if_neg hz]
      exact ih fun r hr => hb (r + 1) (Bel.step h0 hr)
  have hua' := keep m da hua notBel
  have all : ∀ (z : Int) (d : Nat), Up l z d → (∃ r, Bel l t z r ∧ Up l' z (da + 1 + r)) ∨ (∀ r, ¬ Bel l t z r) := by
    intro z d hu
    induction hu with
    | @top z h0 =>
      by_cases hz : z = (t : Int)
      · subst hz
        exact Or.inl ⟨0, Bel.self, Up.step (by rw [hpar, if_pos rfl]; omega) (by rw [hpar, if_pos rfl]; exact hua')⟩
      · right
        intro r hr
        cases hr with
        | self => exact hz rfl
        | step h1 _ => omega
    | @step z d h0 _ ih =>
      have hz : z ≠ (t : Int) := fun e => by rw [e, hpt] at h0; omega
      rcases ih with ⟨r, hr, hu⟩ | hb
      · refine Or.inl ⟨r + 1, Bel.step h0 hr, ?_⟩
        exact Up.step (by rw [hpar, if_neg hz]; exact h0) (by rw [hpar, if_neg hz]; exact hu)
      · right
        intro r hr
        cases hr with
        | self => exact hz rfl
        | step _ h2 => exact hb _ h2
  refine ⟨by rw [hlen]; exact h.small, by rw [hlen]; exact h.pos, fun j z' hz => ?_, fun z hz => ?_, ⟨fun j z' hz => ?_, fun j z' hz hp => ?_, fun z' hz => ?_⟩, fun j hj => ?_⟩
  · obtain ⟨z, hz2, h1, _⟩ := back j z' hz
    rw [h1]
    exact h.root j z hz2
  · obtain ⟨j, hj⟩ := List.mem_iff_getElem?.1 hz
    rw [hg] at hj
    by_cases h1 : j = t
    · rw [if_pos h1] at hj
      obtain rfl := Option.some.inj hj
      exact hYe
    · rw [if_neg h1] at hj
      by_cases h2 : j = m
      · rw [if_pos h2] at hj
        obtain rfl := Option.some.inj hj
        exact hXe
      · rw [if_neg h2] at hj
        exact h.each z (List.mem_of_getElem? hj)
  · have old : ∀ (j : Nat) z, l[j]? = some z → ∀ k ∈ z.kids, ∃ n w, k = ((n : Nat) : Int) ∧ l'[n]? = some w ∧ w.parent = (j : Int) ∧ ¬ (j = 0 ∧ w.kind = 3) := fun j z hz k hk => by
      obtain ⟨n, w, e, hw, hp, hq⟩ := (h.kr.kids j z hz).2 k hk
      obtain ⟨w', hw', h1, h2, _⟩ := forth n w hw
      have hn : n ≠ t := by
        rintro rfl
        rw [hi.hy] at hw
        obtain rfl := Option.some.inj hw
        omega
      exact ⟨n, w', e, hw', by rw [h2 hn]; exact hp, by rw [h1]; exact hq⟩
    by_cases h2 : j = m
    · subst h2
      rw [hgm] at hz
      obtain rfl := Option.some.inj hz
      rw [xk]
      refine ⟨ins_nodup (h.kr.kids j x hi.hx).1 htk i, fun k hk => ?_⟩
      rcases (ins_mem _ _ _ _).1 hk with rfl | hk
      · refine ⟨t, Y, rfl, hgt, yi.2.1, fun hc => hi.noText ⟨(h.root j x hi.hx).2 hc.1, by rw [← yi.1]; exact hc.2⟩⟩
      · exact old j x hi.hx k hk
    · obtain ⟨z, hz2, _, _, h4⟩ := back j z' hz
      rw [h4 h2]
      exact ⟨(h.kr.kids j z hz2).1, old j z hz2⟩
  · by_cases h1 : j = t
    · subst h1
      exact ⟨m, X, hgm, by rw [xk]; exact (ins_mem _ _ _ _).2 (Or.inl rfl)⟩
    · obtain ⟨z, hz2, _, h3, _⟩ := back j z' hz
      obtain ⟨p, w, hw, hk⟩ := h.kr.known j z hz2 (by rw [← h3 h1]; exact hp)
      by_cases h2 : p = m
      · subst h2
        rw [hi.hx] at hw
        obtain rfl := Option.some.inj hw
        exact ⟨p, X, hgm, by rw [xk]; exact (ins_mem _ _ _ _).2 (Or.inr hk)⟩
      · obtain ⟨w', hw', _, _, h4⟩ := forth p w hw
        exact ⟨p, w', hw', by rw [h4 h2]; exact hk⟩
  · obtain ⟨z, hz2, _, h3, _⟩ := back 0 z' hz
    rw [h3 (Ne.symm ht0)]
    exact h.kr.top z hz2
  · obtain ⟨d, hd, hu⟩ := h.deep j (by omega)
    rcases all j d hu with ⟨r, hb, hu'⟩ | hb
    · obtain ⟨q, e, hq, hdd⟩ := T.bel_deep ht hb
      exact ⟨_, by omega, hu'⟩
    · exact ⟨d, hd, keep j d hu hb⟩
theorem mem_erase_at {ks : List Int} (hn : ks.Nodup) {i : Nat} {t : Int} (hi : ks[i]? = some t) (k : Int) : k ∈ ks.eraseIdx i ↔ k ∈ ks ∧ k ≠ t := by
  rw [List.mem_eraseIdx_iff_getElem]
  have hil := List.getElem?_eq_some_iff.1 hi
  constructor
  · rintro ⟨j, hj, hne, rfl⟩
    refine ⟨List.getElem_mem _, fun e => hne ?_⟩
    have h1 := List.pairwise_iff_getElem.1 hn
    rcases Nat.lt_trichotomy i j with h2 | h2 | h2
    · exact absurd (hil.2.trans e.symm) (h1 i j hil.1 hj h2)
    · exact h2.symm
    · exact absurd (e.trans hil.2.symm) (h1 j i hj hil.1 h2)
  · rintro ⟨hk, hne⟩
    obtain ⟨j, hj, e⟩ := List.mem_iff_getElem.1 hk
    refine ⟨j, hj, fun h => ?_, e⟩
    subst h
    exact hne (e.symm.trans hil.2)
/-- What remove asks for. -/
structure RemOk (l : List Nd) (m p i : Nat) (x y : Nd) : Prop where
  hx : l[m]? = some x
  hy : l[p]? = some y
  par : x.parent = (p : Int)
  kind : x.kind ≠ 1
  ne : p ≠ m
  idx : Lib.idxOf y.kids m = (i : Int)
  at_ : y.kids[i]? = some (m : Int)
theorem remErr_iff {l : List Nd} (h : Good l) {n : Int} (he : remErr l n = 0) : ∃ m p i x y, n = ((m : Nat) : Int) ∧ RemOk l m p i x y := by
  unfold remErr at he
  cases hx : nodeAt l n with
  | none => rw [hx] at he; simp at he
  | some x =>
    rw [hx] at he
    simp only at he
    obtain ⟨m, rfl, hm⟩ := nodeAt_some hx
    by_cases h1 : x.kind = 1
    · rw [if_pos h1] at he; cases he
    rw [if_neg h1] at he
    by_cases h2 : x.parent < 0
    · rw [if_pos h2] at he; cases he
    rcases h.kr.par_in (m : Int) with e | ⟨p, q, y, e, hy, e2, hk⟩
    · rw [parD_at hm] at e; omega
    · have : m = q := by omega
      subst this
      rw [parD_at hm] at e
      obtain ⟨i, hi, hi2, _⟩ := idx_of_mem hk
      refine ⟨m, p, i, x, y, rfl, hm, hy, e, h1, ?_, hi, hi2⟩
      rintro rfl
      obtain ⟨d, _, hu⟩ := h.deep p (List.getElem?_eq_some_iff.1 hm).1
      exact hu.not_self (by omega) (by rw [parD_at hm]; exact e)
theorem RemOk.do_ {l : List Nd} {m p i : Nat} {x y : Nd} (h : RemOk l m p i x y) : remDo l m = (l.set p { y with kids := y.kids.eraseIdx i }).set m { x with parent := -1 } := by
  unfold remDo
  rw [nodeAt_nat, h.hx]
  simp only
  rw [h.par, setAt_nat h.hy, setAt_nat (x := x) (by rw [List.getElem?_set_ne h.ne]; exact h.hx), h.idx, Int.toNat_natCast]
theorem good_rem {l : List Nd} (h : Good l) {n : Int} (he : remErr l n = 0) : Good (remDo l n) := by
  obtain ⟨m, p, i, x, y, rfl, hr⟩ := remErr_iff h he
  rw [hr.do_]
  have hne := hr.ne
  have hm := (List.getElem?_eq_some_iff.1 hr.hx).1
  have hp := (List.getElem?_eq_some_iff.1 hr.hy).1
  have hm0 : m ≠ 0 := fun e => hr.kind ((h.root m x hr.hx).2 e)
  have hyn := (h.kr.kids p y hr.hy).1
  have hmem := mem_erase_at hyn hr.at_
  generalize hX : ({ x with parent := -1 } : Nd) = X
  generalize hY : ({ y with kids := y.kids.eraseIdx i } : Nd) = Y
  have hg := fun j => get2 (l := l) (x := Y) (y := X) hp hm j
  have xi : X.kind = x.kind ∧ X.parent = -1 ∧ X.kids = x.kids := by rw [← hX]; exact ⟨rfl, rfl, rfl⟩
  have yi : Y.kind = y.kind ∧ Y.parent = y.parent ∧ Y.kids = y.kids.eraseIdx i := by rw [← hY]; exact ⟨rfl, rfl, rfl⟩
  have hXe : nodeE X = 0 := by rw [← hX]; exact nodeE_kids (h.each x (List.mem_of_getElem? hr.hx)) _ (Or.inr fun e => e) _
  have hYe : nodeE Y = 0 := by rw [← hY]; exact nodeE_kids (h.each y (List.mem_of_getElem? hr.hy)) _ (Or.inr fun e => by rw [e]; rfl) _
  generalize hl' : (l.set p Y).set m X = l' at hg
  have hlen : l'.length = l.length := by rw [← hl']; simp
  have back : ∀ (j : Nat) z', l'[j]? = some z' → ∃ z, l[j]? = some z ∧ z'.kind = z.kind ∧ (j ≠ m → z'.parent = z.parent) ∧ (j ≠ p → z'.kids = z.kids) := fun j z' hz => by
    rw [hg] at hz
    by_cases h1 : j = m
    · subst h1
      rw [if_pos rfl] at hz
      obtain rfl := Option.some.inj hz
      exact ⟨x, hr.hx, xi.1, fun e => absurd rfl e, fun _ => xi.2.2⟩
    · rw [if_neg h1] at hz
      by_cases h2 : j = p
      · subst h2
        rw [if_pos rfl] at hz
        obtain rfl := Option.some.inj hz
        exact ⟨y, hr.hy, yi.1, fun _ => yi.2.1, fun e => absurd rfl e⟩
      · rw [if_neg h2] at hz
        exact ⟨z', hz, rfl, fun _ => rfl, fun _ => rfl⟩
  have forth : ∀ (j : Nat) z, l[j]? = some z → ∃ z', l'[j]? = some z' ∧ z'.kind = z.kind ∧ (j ≠ m → z'.parent = z.parent) ∧ (j ≠ p → z'.kids = z.kids) := fun j z hz => by
    obtain ⟨z', hz'⟩ := get_some (l := l') (k := j) (by have := (List.getElem?_eq_some_iff.1 hz).1; omega)
    obtain ⟨w, hw, h1⟩ := back j z' hz'
    rw [hz] at hw
    obtain rfl := Option.some.inj hw
    exact ⟨z', hz', h1⟩
  have hgm : l'[m]? = some X := by rw [hg, if_pos rfl]
  have hgp : l'[p]? = some Y := by rw [hg, if_neg hne, if_pos rfl]
  have hpar : ∀ z : Int, parD l' z = if z = (m : Int) then -1 else parD l z := parD_of hlen (fun j z' hz => by
    by_cases h1 : j = m
    · subst h1
      rw [hgm] at hz
      obtain rfl := Option.some.inj hz
      rw [if_pos rfl, xi.2.1]
    · rw [if_neg (by omega)]
      obtain ⟨z, hz2, _, h3, _⟩ := back j z' hz
      rw [parD_at hz2, h3 h1]) (fun z hz => by rw [if_neg (by omega)]; exact parD_out hz)
  have all : ∀ (z : Int) (d : Nat), Up l z d → ∃ d', d' ≤ d ∧ Up l' z d' := by
    intro z d hu
    induction hu with
    | @top z h0 =>
      refine ⟨0, Nat.le_refl _, Up.top ?_⟩
      rw [hpar]
      split
      · decide
      · exact h0
    | @step z d h0 _ ih =>
      by_cases hz : z = (m : Int)
      · exact ⟨0, by omega, Up.top (by rw [hpar, if_pos hz]; decide)⟩
      · obtain ⟨d', hd, hu⟩ := ih
        exact ⟨d' + 1, by omega, Up.step (by rw [hpar, if_neg hz]; exact h0) (by rw [hpar, if_neg hz]; exact hu)⟩
  refine ⟨by rw [hlen]; exact h.small, by rw [hlen]; exact h.pos, fun j z' hz => ?_, fun z hz => ?_, ⟨fun j z' hz => ?_, fun j z' hz hpp => ?_, fun z' hz => ?_⟩, fun j hj => ?_⟩
  · obtain ⟨z, hz2, h1, _⟩ := back j z' hz
    rw [h1]
    exact h.root j z hz2
  · obtain ⟨j, hj⟩ := List.mem_iff_getElem?.1 hz
    rw [hg] at hj
    by_cases h1 : j = m
    · rw [if_pos h1] at hj
      obtain rfl := Option.some.inj hj
      exact hXe
    · rw [if_neg h1] at hj
      by_cases h2 : j = p
      · rw [if_pos h2] at hj
        obtain rfl := Option.some.inj hj
        exact hYe
      · rw [if_neg h2] at hj
        exact h.each z (List.mem_of_getElem? hj)
  · have old : ∀ (j : Nat) z, l[j]? = some z → ∀ k ∈ z.kids, k ≠ (m : Int) → ∃ n w, k = ((n : Nat) : Int) ∧ l'[n]? = some w ∧ w.parent = (j : Int) ∧ ¬ (j = 0 ∧ w.kind = 3) := fun j z hz k hk hkm => by
      obtain ⟨n, w, e, hw, hpw, hq⟩ := (h.kr.kids j z hz).2 k hk
      obtain ⟨w', hw', h1, h2, _⟩ := forth n w hw
      exact ⟨n, w', e, hw', by rw [h2 (by rintro rfl; exact hkm e)]; exact hpw, by rw [h1]; exact hq⟩
    by_cases h2 : j = p
    · subst h2
      rw [hgp] at hz
      obtain rfl := Option.some.inj hz
      rw [yi.2.2]
      refine ⟨(List.eraseIdx_sublist _ _).nodup hyn, fun k hk => ?_⟩
      obtain ⟨hk1, hk2⟩ := (hmem k).1 hk
      exact old j y hr.hy k hk1 hk2
    · obtain ⟨z, hz2, _, _, h4⟩ := back j z' hz
      rw [h4 h2]
      refine ⟨(h.kr.kids j z hz2).1, fun k hk => old j z hz2 k hk ?_⟩
      rintro rfl
      obtain ⟨n, w, e, hw, hpw, _⟩ := (h.kr.kids j z hz2).2 _ hk
      have : m = n := by omega
      subst this
      rw [hr.hx] at hw
      obtain rfl := Option.some.inj hw
      have := hr.par
      omega
  · by_cases h1 : j = m
    · subst h1
      rw [hgm] at hz
      obtain rfl := Option.some.inj hz
      exact absurd xi.2.1 hpp
    · obtain ⟨z, hz2, _, h3, _⟩ := back j z' hz
      obtain ⟨q, w, hw, hk⟩ := h.kr.known j z hz2 (by rw [← h3 h1]; exact hpp)
      by_cases h2 : q = p
      · subst h2
        rw [hr.hy] at hw
        obtain rfl := Option.some.inj hw
        exact ⟨q, Y, hgp, by rw [yi.2.2]; exact (hmem _).2 ⟨hk, by omega⟩⟩
      · obtain ⟨w', hw', _, _, h4⟩ := forth q w hw
        exact ⟨q, w', hw', by rw [h4 h2]; exact hk⟩
  · obtain ⟨z, hz2, _, h3, _⟩ := back 0 z' hz
    rw [h3 (Ne.symm hm0)]
    exact h.kr.top z hz2
  · obtain ⟨d, hd, hu⟩ := h.deep j (by omega)
    obtain ⟨d', hd', hu'⟩ := all j d hu
    exact ⟨d', by omega, hu'⟩

/-! ### whatever is edited -/
theorem edErr_do {l : List Nd} {e : Edt} (h : edErr l e = 0) : e.do_ = 1 ∨ e.do_ = 2 ∨ e.do_ = 3 ∨ e.do_ = 4 ∨ e.do_ = 5 ∨ e.do_ = 6 := by
  unfold edErr at h
  by_cases h1 : e.do_ = 1
  · exact Or.inl h1
  rw [if_neg h1] at h
  by_cases h2 : e.do_ = 2
  · exact Or.inr (Or.inl h2)
  rw [if_neg h2] at h
  by_cases h3 : e.do_ = 3
  · exact Or.inr (Or.inr (Or.inl h3))
  rw [if_neg h3] at h
  by_cases h4 : e.do_ = 4
  · exact Or.inr (Or.inr (Or.inr (Or.inl h4)))
  rw [if_neg h4] at h
  by_cases h5 : e.do_ = 5
  · exact Or.inr (Or.inr (Or.inr (Or.inr (Or.inl h5))))
  rw [if_neg h5] at h
  by_cases h6 : e.do_ = 6
  · exact Or.inr (Or.inr (Or.inr (Or.inr (Or.inr h6))))
  rw [if_neg h6] at h
  cases h
theorem good_ed {l : List Nd} (h : Good l) {e : Edt} (he : edErr l e = 0) : Good (edDo l e) := by
  have hd := edErr_do he
  unfold edErr at he
  unfold edDo
  rcases hd with hd | hd | hd | hd | hd | hd <;> simp only [hd] at he ⊢
  · exact good_attr h (by simpa using he)
  · exact good_drop h (by simpa using he)
  · exact good_text h (by simpa using he)
  · exact good_make h (by simpa using he)
  · exact good_ins h (by simpa using he)
  · exact good_rem h (by simpa using he)
theorem setAt_stay (l : List Nd) (n : Int) (f : Nd → Nd) (hf : ∀ x, (f x).kind = x.kind ∧ (f x).name = x.name) : (setAt l n f).length = l.length ∧ ∀ (k : Nat) x, l[k]? = some x → ∃ y, (setAt l n f)[k]? = some y ∧ y.kind = x.kind ∧ y.name = x.name := by
  unfold setAt
  cases hx : nodeAt l n with
  | none => exact ⟨rfl, fun k x hx => ⟨x, hx, rfl, rfl⟩⟩
  | some z =>
    obtain ⟨m, rfl, hm⟩ := nodeAt_some hx
    simp only [Int.toNat_natCast]
    refine ⟨by rw [List.length_set], fun k x hx => ?_⟩
    by_cases e : m = k
    · subst e
      rw [hm] at hx
      obtain rfl := Option.some.inj hx
      exact ⟨f z, List.getElem?_set_self (List.getElem?_eq_some_iff.1 hm).1, hf z⟩
    · exact ⟨x, by rw [List.getElem?_set_ne e]; exact hx, rfl, rfl⟩
theorem stay_trans {l l1 l2 : List Nd} (h : l1.length = l.length ∧ ∀ (k : Nat) x, l[k]? = some x → ∃ y, l1[k]? = some y ∧ y.kind = x.kind ∧ y.name = x.name) (h2 : l2.length = l1.length ∧ ∀ (k : Nat) x, l1[k]? = some x → ∃ y, l2[k]? = some y ∧ y.kind = x.kind ∧ y.name = x.name) :
    l2.length = l.length ∧ ∀ (k : Nat) x, l[k]? = some x → ∃ y, l2[k]? = some y ∧ y.kind = x.kind ∧ y.name = x.name :=
  ⟨h2.1.trans h.1, fun k x hx => by
    obtain ⟨y, hy, a, b⟩ := h.2 k x hx
    obtain ⟨z, hz, c, d⟩ := h2.2 k y hy
    exact ⟨z, hz, c.trans a, d.trans b⟩⟩
/-- Numbers stay. -/
theorem ed_stay (l : List Nd) (e : Edt) : (if e.do_ = 4 then (edDo l e).length = l.length + 1 else (edDo l e).length = l.length) ∧ ∀ (k : Nat) x, l[k]? = some x → ∃ y, (edDo l e)[k]? = some y ∧ y.kind = x.kind ∧ y.name = x.name := by
  have hid : l.length = l.length ∧ ∀ (k : Nat) x, l[k]? = some x → ∃ y, l[k]? = some y ∧ y.kind = x.kind ∧ y.name = x.name := ⟨rfl, fun k x hx => ⟨x, hx, rfl, rfl⟩⟩
  by_cases h4 : e.do_ = 4
  · rw [if_pos h4]
    have hd : edDo l e = makeDo l e.node := by unfold edDo; simp [h4]
    rw [hd]
    unfold makeDo
    exact ⟨by simp, fun k x hx => ⟨x, by rw [List.getElem?_append_left (List.getElem?_eq_some_iff.1 hx).1]; exact hx, rfl, rfl⟩⟩
  · rw [if_neg h4]
    unfold edDo
    split
    · exact setAt_stay l _ _ fun x => ⟨rfl, rfl⟩
    · split
      · exact setAt_stay l _ _ fun x => ⟨rfl, rfl⟩
      · split
        · exact setAt_stay l _ _ fun x => ⟨rfl, rfl⟩
        · first | rw [if_neg h4] | skip
          split
          · exact stay_trans (setAt_stay l _ _ (by intro x; exact ⟨rfl, rfl⟩)) (setAt_stay _ _ _ (by intro x; exact ⟨rfl, rfl⟩))
          · split
            · unfold remDo
              cases nodeAt l e.at_ with
              | none => exact hid
              | some x => exact stay_trans (setAt_stay l _ _ (by intro x; exact ⟨rfl, rfl⟩)) (setAt_stay _ _ _ (by intro x; exact ⟨rfl, rfl⟩))
            · exact hid
end Go.Proofs.YtbddnohbkafagaaGreatDoor
