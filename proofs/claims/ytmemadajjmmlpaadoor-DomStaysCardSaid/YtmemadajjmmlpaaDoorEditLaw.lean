/-
A document is right just where its nodes, its kids and its depth are; what an edit does to its nodes. No program in sight.
-/
import Derived.Test.YtmemadajjmmlpaaDoorTree
namespace Go.Proofs.YtmemadajjmmlpaaDoor
open Go.RowKit Go.Cl

/-! ### how deep, as a relation -/
inductive Up (l : List Nd) : Int → Nat → Prop
  | top {z : Int} : parD l z < 0 → Up l z 0
  | step {z : Int} {d : Nat} : 0 ≤ parD l z → Up l (parD l z) d → Up l z (d + 1)
theorem Up.fn {l : List Nd} {z : Int} {d e : Nat} (h : Up l z d) (k : Up l z e) : d = e := by
  induction h generalizing e with
  | top h0 => cases k with
    | top _ => rfl
    | step h1 _ => omega
  | step h0 _ ih => cases k with
    | top h1 => omega
    | step _ k => rw [ih k]
theorem parD_pos {l : List Nd} {z : Int} (h : 0 ≤ z) : (l.map Nd.parent)[z.toNat]?.getD (-1) = parD l z := by
  unfold parD
  rw [if_neg (by omega)]
theorem Up.upF {l : List Nd} {z : Int} {d : Nat} (h : Up l z d) : 0 ≤ z → ∀ f, d < f → upF l f z = d := by
  induction h with
  | top h0 =>
    intro hz f hf
    obtain ⟨f, rfl⟩ : ∃ q, f = q + 1 := ⟨f - 1, by omega⟩
    rw [Go.Proofs.YtmemadajjmmlpaaDoor.upF, parD_pos hz]
    exact if_neg (by omega)
  | step h0 _ ih =>
    intro hz f hf
    obtain ⟨f, rfl⟩ : ∃ q, f = q + 1 := ⟨f - 1, by omega⟩
    rw [Go.Proofs.YtmemadajjmmlpaaDoor.upF, parD_pos hz]
    have := ih h0 f (by omega)
    exact (if_pos h0).trans (by rw [this])
theorem upF_up {l : List Nd} : ∀ (f : Nat) (z : Int), 0 ≤ z → upF l f z < f → Up l z (upF l f z) := by
  intro f
  induction f with
  | zero => intro z hz h; omega
  | succ f ih =>
    intro z hz h
    rw [Go.Proofs.YtmemadajjmmlpaaDoor.upF, parD_pos hz] at h ⊢
    by_cases hp : 0 ≤ parD l z
    · rw [show (let p := parD l z; if 0 ≤ p then upF l f p + 1 else 0) = upF l f (parD l z) + 1 from if_pos hp] at h ⊢
      exact Up.step hp (ih _ hp (by omega))
    · rw [show (let p := parD l z; if 0 ≤ p then upF l f p + 1 else 0) = 0 from if_neg hp] at h ⊢
      exact Up.top (by omega)
/-- So many nodes are on the way up. -/
theorem Up.lt {l : List Nd} (hin : ∀ z : Int, parD l z < (l.length : Int)) {z : Int} {d : Nat} (h : Up l z d) (hz : 0 ≤ z) (hl : z < l.length) : d < l.length := by
  have key : ∃ xs : List Int, xs.length = d + 1 ∧ xs.Nodup ∧ ∀ x ∈ xs, (∃ n : Nat, x = (n : Int) ∧ n < l.length) ∧ ∃ e, e ≤ d ∧ Up l x e := by
    induction h with
    | @top z h0 => exact ⟨[z], rfl, by simp, fun x hx => by
        obtain rfl : x = z := by simpa using hx
        exact ⟨⟨x.toNat, by omega, by omega⟩, 0, Nat.le_refl _, Up.top h0⟩⟩
    | @step z d h0 h1 ih =>
      obtain ⟨xs, e1, e2, e3⟩ := ih h0 (hin z)
      refine ⟨z :: xs, by simp [e1], List.nodup_cons.2 ⟨fun hm => ?_, e2⟩, fun x hx => ?_⟩
      · obtain ⟨_, e, he, hu⟩ := e3 z hm
        have := hu.fn (Up.step h0 h1)
        omega
      · rcases List.mem_cons.1 hx with rfl | hx
        · exact ⟨⟨x.toNat, by omega, by omega⟩, d + 1, Nat.le_refl _, Up.step h0 h1⟩
        · obtain ⟨a, e, he, hu⟩ := e3 x hx
          exact ⟨a, e, by omega, hu⟩
  obtain ⟨xs, e1, e2, e3⟩ := key
  have : xs.length ≤ l.length := by
    clear e1 h
    have hin2 : ∀ x ∈ xs, ∃ n : Nat, x = (n : Int) ∧ n < l.length := fun x hx => (e3 x hx).1
    clear e3 hin hl
    generalize l.length = N at *
    induction N generalizing xs with
    | zero =>
      cases xs with
      | nil => simp
      | cons x r =>
        obtain ⟨n, _, hx⟩ := hin2 x (by simp)
        omega
    | succ N ih =>
      have h1 := ih (xs.erase (N : Int)) (e2.erase _) (fun x hx => by
        obtain ⟨hne, hx⟩ := (List.Nodup.mem_erase_iff e2).1 hx
        obtain ⟨n, rfl, hl⟩ := hin2 x hx
        exact ⟨n, rfl, by omega⟩)
      rw [List.length_erase] at h1
      by_cases hm : (N : Int) ∈ xs
      · rw [if_pos hm] at h1; omega
      · rw [if_neg hm] at h1; omega
  omega

/-! ### a document that is right -/
structure Good (l : List Nd) : Prop where
  small : l.length ≤ 200
  pos : 0 < l.length
  root : ∀ (i : Nat) x, l[i]? = some x → (x.kind = 1 ↔ i = 0)
  each : ∀ x ∈ l, nodeE x = 0
  kr : KidsRight l
  deep : ∀ m : Nat, m < l.length → ∃ d, d ≤ 40 ∧ Up l m d
theorem first_iff (l : List Nd) : ∀ k : Nat, firstE k l = 0 ↔ ∀ (i : Nat) x, l[i]? = some x → (x.kind = 1 ↔ k + i = 0) ∧ nodeE x = 0 := by
  induction l with
  | nil => intro k; exact ⟨fun _ i x h => by simp at h, fun _ => rfl⟩
  | cons y r ih =>
    intro k
    rw [firstE]
    by_cases h1 : ((y.kind == 1) != (k == 0)) = true
    · rw [if_pos h1]
      refine ⟨fun h => by simp at h, fun h => ?_⟩
      have := (h 0 y rfl).1
      exfalso
      rw [Nat.add_zero] at this
      have e : (y.kind == 1) = (k == 0) := by
        rw [Bool.eq_iff_iff]
        simpa using this
      rw [e] at h1
      simp at h1
    · rw [if_neg h1]
      have e : (y.kind = 1 ↔ k = 0) := by
        have e : (y.kind == 1) = (k == 0) := by simpa using h1
        rw [Bool.eq_iff_iff] at e
        simpa using e
      by_cases h2 : nodeE y = 0
      · rw [if_neg (by rw [h2]; decide), ih (k + 1)]
        constructor
        · intro h i x hx
          cases i with
          | zero =>
            obtain rfl : y = x := by simpa using hx
            exact ⟨by simpa using e, h2⟩
          | succ i =>
            have := h i x (by simpa using hx)
            rw [show k + 1 + i = k + (i + 1) from by omega] at this
            exact this
        · intro h i x hx
          have := h (i + 1) x (by simpa using hx)
          rw [show k + (i + 1) = k + 1 + i from by omega] at this
          exact this
      · rw [if_pos h2]
        exact ⟨fun h => absurd h h2, fun h => absurd (h 0 y rfl).2 h2⟩
theorem kidsF_fine {l : List Nd} {i : Nat} : ∀ (ks : List Int) (seen : List Bool), seen.length = l.length → ks.Nodup → (∀ k ∈ ks, ∃ m y, k = ((m : Nat) : Int) ∧ l[m]? = some y ∧ y.parent = (i : Int) ∧ ¬ (i = 0 ∧ y.kind = 3) ∧ seen[m]? = some false) →
    ∃ s, kidsF l i seen ks = (0, s) ∧ s.length = l.length ∧ ∀ m : Nat, s[m]? = some true ↔ (seen[m]? = some true ∨ (m < l.length ∧ (m : Int) ∈ ks)) := by
  intro ks
  induction ks with
  | nil => intro seen hs _ _; exact ⟨seen, rfl, hs, fun m => by simp⟩
  | cons k r ih =>
    intro seen hs hn hk
    obtain ⟨m, y, rfl, hy, hp, h3, hm⟩ := hk k (by simp)
    have hml := (List.getElem?_eq_some_iff.1 hy).1
    rw [kidsF, kidE_zero hy hm hp h3, if_neg (by decide), Int.toNat_natCast]
    obtain ⟨hnm, hn2⟩ := List.nodup_cons.1 hn
    obtain ⟨s, h1, h2, h4⟩ := ih (seen.set m true) (by rw [List.length_set]; exact hs) hn2 (fun k hk' => by
      obtain ⟨m', y', rfl, hy', hp', h3', hm'⟩ := hk k (by simp [hk'])
      refine ⟨m', y', rfl, hy', hp', h3', ?_⟩
      rw [List.getElem?_set_ne]
      · exact hm'
      · rintro rfl
        exact hnm hk')
    refine ⟨s, h1, h2, fun n => ?_⟩
    rw [h4 n]
    by_cases e : m = n
    · subst e
      rw [List.getElem?_set_self (by omega)]
      simp [hml]
    · rw [List.getElem?_set_ne e]
      have : ¬ ((n : Int) = (m : Int)) := by omega
      simp [this]
theorem allKids_fine {l : List Nd} (h : KidsRight l) : ∀ (r : List Nd) (i : Nat) (seen : List Bool), r = l.drop i → seen.length = l.length → (∀ m : Nat, seen[m]? = some true ↔ ∃ j x, j < i ∧ l[j]? = some x ∧ m < l.length ∧ (m : Int) ∈ x.kids) →
    ∃ s, allKids l i seen r = (0, s) ∧ s.length = l.length ∧ ∀ m : Nat, s[m]? = some true ↔ ∃ (j : Nat) (x : Nd), l[j]? = some x ∧ m < l.length ∧ (m : Int) ∈ x.kids := by
  intro r
  induction r with
  | nil =>
    intro i seen hr hs hm
    have hl : l.length ≤ i := List.drop_eq_nil_iff.1 hr.symm
    exact ⟨seen, rfl, hs, fun m => by
      rw [hm m]
      exact ⟨fun ⟨j, x, _, hx, h1, h2⟩ => ⟨j, x, hx, h1, h2⟩, fun ⟨j, x, hx, h1, h2⟩ => ⟨j, x, by have := (List.getElem?_eq_some_iff.1 hx).1; omega, hx, h1, h2⟩⟩⟩
  | cons y r ih =>
    intro i seen hr hs hm
    have hil : i < l.length := by
      by_cases hil : i < l.length
      · exact hil
      · rw [List.drop_of_length_le (by omega)] at hr; cases hr
    rw [List.drop_eq_getElem_cons hil] at hr
    injection hr with hy hr
    have hyi : l[i]? = some y := by rw [List.getElem?_eq_getElem hil, hy]
    obtain ⟨hn, hk⟩ := h.kids i y hyi
    obtain ⟨s, h1, h2, h3⟩ := kidsF_fine (i := i) y.kids seen hs hn (fun k hkk => by
      obtain ⟨m, z, rfl, hz, hp, h3⟩ := hk k hkk
      refine ⟨m, z, rfl, hz, hp, h3, ?_⟩
      obtain ⟨b, hb⟩ := get_some (l := seen) (k := m) (by have := (List.getElem?_eq_some_iff.1 hz).1; omega)
      cases b with
      | false => exact hb
      | true =>
        obtain ⟨j, x, hj, hx, _, hmem⟩ := (hm m).1 hb
        obtain ⟨m', z', e, hz', hp', _⟩ := (h.kids j x hx).2 _ hmem
        have : m = m' := by omega
        subst this
        rw [hz] at hz'
        obtain rfl := Option.some.inj hz'
        omega)
    rw [allKids, h1, if_neg (by simp)]
    refine ih (i + 1) s hr h2 fun m => ?_
    rw [h3 m, hm m]
    constructor
    · rintro (⟨j, x, hj, hx, h4, h5⟩ | ⟨h4, h5⟩)
      · exact ⟨j, x, by omega, hx, h4, h5⟩
      · exact ⟨i, y, by omega, hyi, h4, h5⟩
    · rintro ⟨j, x, hj, hx, h4, h5⟩
      by_cases e : j = i
      · subst e
        rw [hyi] at hx
        obtain rfl := Option.some.inj hx
        exact Or.inr ⟨h4, h5⟩
      · exact Or.inl ⟨j, x, by omega, hx, h4, h5⟩
theorem lost_of : ∀ (seen : List Bool) (l : List Nd), (∀ (m : Nat) y, l[m]? = some y → y.parent ≠ -1 → seen[m]? = some true) → lostB seen l = false := by
  intro seen
  induction seen with
  | nil => intro l _; cases l <;> rfl
  | cons s t ih =>
    intro l h
    cases l with
    | nil => rfl
    | cons x r =>
      rw [lostB, Bool.or_eq_false_iff]
      refine ⟨?_, ih r fun m y hy hp => by simpa using h (m + 1) y (by simpa using hy) hp⟩
      by_cases hp : x.parent = -1
      · simp [hp]
      · have := h 0 x rfl hp
        simp at this
        subst this
        simp
theorem kids_zero {l : List Nd} (h0 : 0 < l.length) (h : KidsRight l) : kidsE l = 0 := by
  obtain ⟨s, h1, h2, h3⟩ := allKids_fine h l 0 (List.replicate l.length false) rfl (by simp) (fun m => by
    constructor
    · intro hm
      have := (List.getElem?_eq_some_iff.1 hm).2
      simp at this
    · rintro ⟨j, x, hj, _⟩
      omega)
  rw [kidsE_rest h1, if_neg, if_neg]
  · cases l with
    | nil => simp at h0
    | cons x r => simpa using h.top x rfl
  · rw [lost_of s l fun m y hy hp => ?_]
    · decide
    · obtain ⟨j, x, hx, hmem⟩ := h.known m y hy hp
      exact (h3 m).2 ⟨j, x, hx, (List.getElem?_eq_some_iff.1 hy).1, hmem⟩
theorem KidsRight.par_in {l : List Nd} (h : KidsRight l) (z : Int) : parD l z = -1 ∨ ∃ (j m : Nat) (y : Nd), parD l z = (j : Int) ∧ l[j]? = some y ∧ z = (m : Int) ∧ z ∈ y.kids := by
  by_cases hz : z < 0
  · left; unfold parD; rw [if_pos hz]
  · obtain ⟨m, rfl⟩ : ∃ m : Nat, z = (m : Int) := ⟨z.toNat, by omega⟩
    by_cases hm : m < l.length
    · obtain ⟨x, hx⟩ := get_some hm
      rw [parD_at hx]
      by_cases hp : x.parent = -1
      · exact Or.inl hp
      · obtain ⟨j, y, hy, hk⟩ := h.known m x hx hp
        obtain ⟨m', z', e, hz', hp', _⟩ := (h.kids j y hy).2 _ hk
        have : m = m' := by omega
        subst this
        rw [hx] at hz'
        obtain rfl := Option.some.inj hz'
        exact Or.inr ⟨j, m, y, hp', hy, rfl, hk⟩
    · left
      unfold parD
      rw [if_neg (by omega), Int.toNat_natCast, List.getElem?_eq_none (by simp; omega)]
      rfl
theorem last_zero {l : List Nd} : ∀ r : List Nat, (∀ i ∈ r, upN l i ≤ l.length ∧ upN l i ≤ 40) → lastE l r = 0 := by
  intro r
  induction r with
  | nil => intro _; rfl
  | cons i r ih =>
    intro h
    have := h i (by simp)
    rw [lastE, if_neg (by omega), if_neg (by omega)]
    exact ih fun j hj => h j (by simp [hj])
theorem good_of {l : List Nd} (h : checkD l = 0) : Good l := by
  have T := tree_of h
  have h1 : firstE 0 l = 0 := by
    unfold checkD at h
    rw [if_neg (by have := T.small; omega), if_neg (by have := T.pos; omega)] at h
    by_cases h3 : firstE 0 l = 0
    · exact h3
    · rw [if_pos h3] at h; exact absurd h h3
  have h2 := (first_iff l 0).1 h1
  refine ⟨T.small, T.pos, fun i x hx => by simpa using (h2 i x hx).1, fun x hx => ?_, T.kr, fun m hm => ?_⟩
  · obtain ⟨i, hi⟩ := List.mem_iff_getElem?.1 hx
    exact (h2 i x hi).2
  · have hd := T.deep m hm
    exact ⟨upN l m, hd.1, upF_up _ _ (by omega) (by have h2 := hd.2; unfold upN at h2; omega)⟩
theorem Good.upN {l : List Nd} (h : Good l) {m d : Nat} (hm : m < l.length) (hu : Up l m d) : upN l m = d ∧ d < l.length := by
  have hlt := hu.lt (fun z => by
    rcases h.kr.par_in z with e | ⟨j, m, y, e, hy, _⟩
    · rw [e]; have := h.pos; omega
    · rw [e]; have := (List.getElem?_eq_some_iff.1 hy).1; omega) (by omega) (by omega)
  exact ⟨hu.upF (by omega) _ (by omega), hlt⟩
theorem check_of {l : List Nd} (h : Good l) : checkD l = 0 := by
  unfold checkD
  rw [if_neg (by have := h.small; omega), if_neg (by have := h.pos; omega), (first_iff l 0).2 (fun i x hx => ⟨by simpa using h.root i x hx, h.each x (List.mem_of_getElem? hx)⟩), if_neg (by decide), kids_zero h.pos h.kr, if_neg (by decide)]
  refine last_zero _ fun i hi => ?_
  obtain ⟨d, hd, hu⟩ := h.deep i (by simpa using hi)
  have := h.upN (by simpa using hi) hu
  omega
end Go.Proofs.YtmemadajjmmlpaaDoor
