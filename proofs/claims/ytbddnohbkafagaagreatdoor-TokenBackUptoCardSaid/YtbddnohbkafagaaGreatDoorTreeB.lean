/-
Documents that are right, as trees: up and down, beside, next and last. No program in sight.
-/
import Derived.Test.YtbddnohbkafagaaGreatDoorDomB
import Derived.Lib.Slices
namespace Go.Proofs.YtbddnohbkafagaaGreatDoor
open Go.RowKit Go.Cl

/-- A node's parent; a node's kids. -/
def parD (l : List Nd) (m : Int) : Int := if m < 0 then -1 else (l.map Nd.parent)[m.toNat]?.getD (-1)
def kidsD (l : List Nd) (m : Int) : List Int := (l.map Nd.kids)[m.toNat]?.getD []
theorem parD_at {l : List Nd} {m : Nat} {x : Nd} (h : l[m]? = some x) : parD l m = x.parent := by
  unfold parD
  rw [if_neg (by omega), Int.toNat_natCast, map_at h]
theorem kidsD_at {l : List Nd} {m : Nat} {x : Nd} (h : l[m]? = some x) : kidsD l m = x.kids := by
  unfold kidsD
  rw [Int.toNat_natCast, map_at h]

/-- A document that is right. -/
structure Tree (l : List Nd) : Prop where
  small : l.length ≤ 200
  pos : 0 < l.length
  kr : KidsRight l
  deep : ∀ m : Nat, m < l.length → upN l m ≤ 40 ∧ upN l m ≤ l.length
theorem last_all {l : List Nd} (r : List Nat) (h : lastE l r = 0) : ∀ i ∈ r, ¬ l.length < upN l i ∧ ¬ 40 < upN l i := by
  induction r with
  | nil => intro i hi; cases hi
  | cons j r ih =>
    rw [lastE] at h
    by_cases h1 : l.length < upN l j
    · rw [if_pos h1] at h; cases h
    · rw [if_neg h1] at h
      by_cases h2 : 40 < upN l j
      · rw [if_pos h2] at h; cases h
      · rw [if_neg h2] at h
        intro i hi
        rcases List.mem_cons.1 hi with rfl | hi
        · exact ⟨h1, h2⟩
        · exact ih h i hi
theorem tree_of {l : List Nd} (h : checkD l = 0) : Tree l := by
  unfold checkD at h
  by_cases h1 : 200 < l.length
  · rw [if_pos h1] at h; cases h
  rw [if_neg h1] at h
  by_cases h2 : l.length = 0
  · rw [if_pos h2] at h; cases h
  rw [if_neg h2] at h
  by_cases h3 : firstE 0 l = 0
  · rw [if_neg (by rw [h3]; decide)] at h
    by_cases h4 : kidsE l = 0
    · rw [if_neg (by rw [h4]; decide)] at h
      exact ⟨by omega, by omega, kids_right (by omega) h4, fun m hm => by
        have := last_all _ h m (by simpa using hm)
        omega⟩
    · rw [if_pos h4] at h; exact absurd h h4
  · rw [if_pos h3] at h; exact absurd h h3

section
variable {l : List Nd} (T : Tree l)
include T
theorem Tree.kid {p : Nat} (hp : p < l.length) {k : Int} (hk : k ∈ kidsD l p) : ∃ m : Nat, k = (m : Int) ∧ m < l.length ∧ parD l m = (p : Int) := by
  obtain ⟨x, hx⟩ := get_some (l := l) hp
  rw [kidsD_at hx] at hk
  obtain ⟨m, y, rfl, hy, hpar, _⟩ := (T.kr.kids p x hx).2 k hk
  exact ⟨m, rfl, (List.getElem?_eq_some_iff.1 hy).1, by rw [parD_at hy, hpar]⟩
theorem Tree.nodup {p : Nat} (hp : p < l.length) : (kidsD l p).Nodup := by
  obtain ⟨x, hx⟩ := get_some (l := l) hp
  rw [kidsD_at hx]
  exact (T.kr.kids p x hx).1
theorem Tree.par {m : Nat} (hm : m < l.length) : parD l m = -1 ∨ ∃ p : Nat, parD l m = (p : Int) ∧ p < l.length ∧ (m : Int) ∈ kidsD l p := by
  obtain ⟨x, hx⟩ := get_some (l := l) hm
  by_cases h : x.parent = -1
  · exact Or.inl (by rw [parD_at hx, h])
  · obtain ⟨j, y, hy, hk⟩ := T.kr.known m x hx h
    obtain ⟨m', z, e, hz, hp, _⟩ := (T.kr.kids j y hy).2 _ hk
    have : m = m' := by omega
    subst this
    rw [hx] at hz
    obtain rfl := Option.some.inj hz
    exact Or.inr ⟨j, by rw [parD_at hx, hp], (List.getElem?_eq_some_iff.1 hy).1, by rw [kidsD_at hy]; exact hk⟩
theorem Tree.root : parD l 0 = -1 := by
  obtain ⟨x, hx⟩ := get_some (l := l) T.pos
  have := parD_at hx
  rw [T.kr.top x hx] at this
  exact this
end

/-! ### how deep -/
theorem upF_sat (l : List Nd) (f : Nat) : ∀ z : Int, upF l (f + 1) z ≤ f → upF l f z = upF l (f + 1) z := by
  induction f with
  | zero =>
    intro z h
    show 0 = _
    omega
  | succ f ih =>
    intro z h
    rw [upF] at h
    conv => lhs; rw [upF]
    conv => rhs; rw [upF]
    try simp only at h ⊢
    by_cases hp : 0 ≤ (l.map Nd.parent)[z.toNat]?.getD (-1)
    · rw [if_pos hp] at h
      rw [if_pos hp, if_pos hp, ih _ (by omega)]
    · rw [if_neg hp, if_neg hp]
theorem Tree.up_par {l : List Nd} (T : Tree l) {m p : Nat} (hm : m < l.length) (h : parD l m = (p : Int)) : p < l.length ∧ upN l m = upN l p + 1 := by
  rcases T.par hm with e | ⟨q, e, hq, _⟩
  · omega
  · have : p = q := by omega
    subst this
    obtain ⟨x, hx⟩ := get_some (l := l) hm
    refine ⟨hq, ?_⟩
    have hd := (T.deep p hq).2
    unfold upN at hd ⊢
    rw [upF_go hx (by rw [← parD_at hx]; exact h)]
    rw [upF_sat l l.length p hd]
/-- How many steps are left up to the top; none where no node is. -/
def depZ (l : List Nd) (z : Int) : Nat := if z < 0 then 0 else upN l z + 1
theorem Tree.dep_par {l : List Nd} (T : Tree l) {m : Nat} (hm : m < l.length) : depZ l (parD l m) + 1 = depZ l m := by
  have h0 : depZ l m = upN l m + 1 := by unfold depZ; rw [if_neg (by omega)]
  rcases T.par hm with e | ⟨p, e, hp, _⟩
  · obtain ⟨x, hx⟩ := get_some (l := l) hm
    have hz : upN l m = 0 := by
      unfold upN
      exact upF_stop hx (by rw [← parD_at hx, e]; decide)
    rw [h0, e, hz]
    rfl
  · rw [h0, e, (T.up_par hm e).2]
    unfold depZ
    rw [if_neg (by omega)]

/-! ### kid, beside, over, next, last -/
def kidR (l : List Nd) (m : Int) (last : Bool) : Int := if kidsD l m = [] then -1 else if last then (kidsD l m).getLastD 0 else (kidsD l m).headD 0
def besideR (l : List Nd) (m b : Int) : Int :=
  if parD l m < 0 then -1
  else
    let i := Lib.idxOf (kidsD l (parD l m)) m + b
    if i < 0 ∨ ((kidsD l (parD l m)).length : Int) ≤ i then -1 else (kidsD l (parD l m))[i.toNat]?.getD 0
def overF (l : List Nd) : Nat → Int → Int
  | 0, _ => -1
  | f + 1, z => if 0 ≤ besideR l z 1 then besideR l z 1 else overF l f (parD l z)
def overR (l : List Nd) (z : Int) : Int := overF l (depZ l z) z
def nextR (l : List Nd) (m : Int) : Int := if 0 ≤ kidR l m false then kidR l m false else overR l m
def descF (l : List Nd) : Nat → Int → Int
  | 0, z => z
  | f + 1, z => if 0 ≤ kidR l z true then descF l f (kidR l z true) else z
def descR (l : List Nd) (z : Int) : Int := descF l (41 - upN l z) z
def lastR (l : List Nd) (m : Int) : Int := if besideR l m (-1) < 0 then parD l m else descR l (besideR l m (-1))
def stepR (l : List Nd) (m how : Int) : Int :=
  if how = 1 then nextR l m else if how = 2 then lastR l m else if how = 3 then overR l m else if how = 4 ∨ how = 5 then kidR l m (how == 5)
  else if how = 6 then besideR l m 1 else if how = 7 then besideR l m (-1) else parD l m

theorem over_end (l : List Nd) : overR l (-1) = -1 := rfl
theorem Tree.over_step {l : List Nd} (T : Tree l) {m : Nat} (hm : m < l.length) : overR l m = if 0 ≤ besideR l m 1 then besideR l m 1 else overR l (parD l m) := by
  unfold overR
  rw [← T.dep_par hm, overF]
theorem idx_of_mem {ks : List Int} {x : Int} (h : x ∈ ks) : ∃ i : Nat, Lib.idxOf ks x = (i : Int) ∧ ks[i]? = some x ∧ ∀ j, j < i → ks[j]? ≠ some x := by
  have hi : ∃ i, ks.findIdx? (· == x) = some i := by
    cases hf : ks.findIdx? (· == x) with
    | none =>
      have := List.findIdx?_eq_none_iff.1 hf x h
      simp at this
    | some i => exact ⟨i, rfl⟩
  obtain ⟨i, hi⟩ := hi
  obtain ⟨hl, he, hne⟩ := List.findIdx?_eq_some_iff_getElem.1 hi
  have hx : ks[i]? = some x := by
    rw [List.getElem?_eq_getElem hl]
    simpa using he
  have hn : ∀ j, j < i → ks[j]? ≠ some x := fun j hj e => by
    have := hne j hj
    have hjl := (List.getElem?_eq_some_iff.1 e)
    simp [hjl.2] at this
  refine ⟨i, ?_, hx, hn⟩
  have := Lib.idxOf_hit ks ks.length i x hl (Nat.le_refl _) (by simp [List.getD, hx]) (fun j hj e => hn j hj (by
    have hjl : j < ks.length := by omega
    rw [List.getElem?_eq_getElem hjl]
    simp [List.getD, List.getElem?_eq_getElem hjl] at e
    rw [e]))
  rwa [List.take_length] at this
theorem idx_uniq {ks : List Int} (hn : ks.Nodup) {x : Int} {i : Nat} (h : ks[i]? = some x) : Lib.idxOf ks x = (i : Int) := by
  obtain ⟨j, hj, hx, _⟩ := idx_of_mem (List.mem_of_getElem? h)
  rw [hj]
  have hi := (List.getElem?_eq_some_iff.1 h)
  have hjl := (List.getElem?_eq_some_iff.1 hx)
  have : i = j := by
    rcases Nat.lt_trichotomy i j with h1 | h1 | h1
    · exact absurd (hi.2.trans hjl.2.symm) (List.pairwise_iff_getElem.1 hn i j hi.1 hjl.1 h1)
    · exact h1
    · exact absurd (hjl.2.trans hi.2.symm) (List.pairwise_iff_getElem.1 hn j i hjl.1 hi.1 h1)
  rw [this]

section
variable {l : List Nd} (T : Tree l)
include T
/-- Beside: a kid of the same parent, so many on. -/
theorem Tree.beside_some {m : Nat} (hm : m < l.length) {b k : Int} (h : besideR l m b = k) (hk : 0 ≤ k) :
    ∃ (p i j : Nat) (n : Nat), parD l m = (p : Int) ∧ p < l.length ∧ (kidsD l p)[i]? = some (m : Int) ∧ (j : Int) = i + b ∧ k = (n : Int) ∧ (kidsD l p)[j]? = some (n : Int) ∧ n < l.length ∧ parD l n = (p : Int) := by
  unfold besideR at h
  rcases T.par hm with e | ⟨p, e, hp, hmem⟩
  · rw [if_pos (by omega)] at h; omega
  · rw [if_neg (by omega), e] at h
    obtain ⟨i, hi, hx, _⟩ := idx_of_mem hmem
    simp only [hi] at h
    by_cases hr : (i : Int) + b < 0 ∨ ((kidsD l p).length : Int) ≤ (i : Int) + b
    · rw [if_pos hr] at h; omega
    · rw [if_neg hr] at h
      obtain ⟨z, hz⟩ := get_some (l := kidsD l p) (k := ((i : Int) + b).toNat) (by omega)
      rw [hz, Option.getD_some] at h
      subst h
      obtain ⟨n, rfl, hn, hpar⟩ := T.kid hp (List.mem_of_getElem? hz)
      exact ⟨p, i, ((i : Int) + b).toNat, n, e, hp, hx, by omega, rfl, hz, hn, hpar⟩
theorem Tree.beside_at {m p i : Nat} (hp : p < l.length) (e : parD l m = (p : Int)) (hx : (kidsD l p)[i]? = some (m : Int)) (b : Int) :
    besideR l m b = if (i : Int) + b < 0 ∨ ((kidsD l p).length : Int) ≤ (i : Int) + b then -1 else (kidsD l p)[((i : Int) + b).toNat]?.getD 0 := by
  unfold besideR
  rw [if_neg (by omega), e]
  simp only [idx_uniq (T.nodup hp) hx]
/-- What is beside a node is undone. -/
theorem Tree.beside_back {m : Nat} (hm : m < l.length) {b k : Int} (h : besideR l m b = k) (hk : 0 ≤ k) : besideR l k (-b) = m := by
  obtain ⟨p, i, j, n, e, hp, hx, hj, rfl, hz, hn, hpn⟩ := T.beside_some hm h hk
  have hi := (List.getElem?_eq_some_iff.1 hx).1
  rw [T.beside_at hp hpn hz, if_neg (by omega), show ((j : Int) + -b).toNat = i from by omega, hx]
  rfl
theorem Tree.kid_first {m : Nat} (hm : m < l.length) (h : 0 ≤ kidR l m false) : ∃ n : Nat, kidR l m false = (n : Int) ∧ n < l.length ∧ parD l n = (m : Int) ∧ (kidsD l m)[0]? = some (n : Int) := by
  unfold kidR at h ⊢
  cases hk : kidsD l m with
  | nil => rw [hk, if_pos rfl] at h; omega
  | cons a r =>
    rw [if_neg (by simp), if_neg (by decide)]
    obtain ⟨n, rfl, hn, hp⟩ := T.kid hm (k := a) (by rw [hk]; simp)
    exact ⟨n, rfl, hn, hp, rfl⟩
theorem Tree.kid_last {m : Nat} (hm : m < l.length) (h : 0 ≤ kidR l m true) : ∃ n : Nat, kidR l m true = (n : Int) ∧ n < l.length ∧ parD l n = (m : Int) ∧ (kidsD l m)[(kidsD l m).length - 1]? = some (n : Int) := by
  unfold kidR at h ⊢
  by_cases hk : kidsD l m = []
  · rw [if_pos hk] at h; omega
  · rw [if_neg hk, if_pos rfl]
    have hg : (kidsD l m).getLastD 0 = (kidsD l m).getLast hk := by
      rw [List.getLastD_eq_getLast?, List.getLast?_eq_some_getLast hk]
      rfl
    rw [hg]
    obtain ⟨n, hn', hn, hp⟩ := T.kid hm (List.getLast_mem hk)
    refine ⟨n, hn', hn, hp, ?_⟩
    rw [← hn', List.getLast_eq_getElem]
    have : 0 < (kidsD l m).length := List.length_pos_iff.2 hk
    rw [List.getElem?_eq_getElem]
theorem Tree.kid_none {m : Nat} (h : ¬ 0 ≤ kidR l m true) (hm : m < l.length) : kidsD l m = [] := by
  by_cases hk : kidsD l m = []
  · exact hk
  · exfalso
    apply h
    unfold kidR
    rw [if_neg hk, if_pos rfl]
    have hg : (kidsD l m).getLastD 0 = (kidsD l m).getLast hk := by
      rw [List.getLastD_eq_getLast?, List.getLast?_eq_some_getLast hk]
      rfl
    rw [hg]
    obtain ⟨n, hn', _, _⟩ := T.kid hm (List.getLast_mem hk)
    omega
theorem Tree.desc_step {m : Nat} (hm : m < l.length) : descR l m = if 0 ≤ kidR l m true then descR l (kidR l m true) else m := by
  by_cases h : 0 ≤ kidR l m true
  · obtain ⟨n, hn, hnl, hp, _⟩ := T.kid_last hm h
    rw [if_pos h]
    unfold descR
    have hu := (T.up_par hnl hp).2
    have hd := (T.deep n hnl).1
    rw [hn, show 41 - upN l m = (41 - upN l n) + 1 from by omega, descF, if_pos h, hn]
  · rw [if_neg h]
    unfold descR
    cases hq : 41 - upN l m with
    | zero => rfl
    | succ f => rw [descF, if_neg h]
end

/-! ### next and last undo each other -/
section
variable {l : List Nd} (T : Tree l)
include T
/-- A node that is the last kid has nothing beside it. -/
theorem Tree.beside_last {p n : Nat} (hp : p < l.length) (hpar : parD l n = (p : Int)) (hx : (kidsD l p)[(kidsD l p).length - 1]? = some (n : Int)) : besideR l n 1 = -1 := by
  have hl := (List.getElem?_eq_some_iff.1 hx).1
  rw [T.beside_at hp hpar hx, if_pos (Or.inr (by omega))]
/-- Going down by last kids, and back over. -/
theorem Tree.over_desc (f : Nat) : ∀ m : Nat, m < l.length → upN l m + f = 41 → ∃ k : Nat, descR l m = (k : Int) ∧ k < l.length ∧ kidsD l k = [] ∧ overR l k = (if 0 ≤ besideR l m 1 then besideR l m 1 else overR l (parD l m)) := by
  induction f with
  | zero =>
    intro m hm hf
    have := (T.deep m hm).1
    omega
  | succ f ih =>
    intro m hm hf
    by_cases h : 0 ≤ kidR l m true
    · obtain ⟨n, hn, hnl, hp, hlast⟩ := T.kid_last hm h
      have hu := (T.up_par hnl hp).2
      obtain ⟨k, hk, hkl, hkn, ho⟩ := ih n hnl (by omega)
      refine ⟨k, by rw [T.desc_step hm, if_pos h, hn]; exact hk, hkl, hkn, ?_⟩
      rw [ho, T.beside_last hm hp hlast, if_neg (by decide), hp, T.over_step hm]
    · exact ⟨m, by rw [T.desc_step hm, if_neg h], hm, T.kid_none h hm, T.over_step hm⟩
/-- What is over a node: beside one above it, and going down from there one comes back. -/
theorem Tree.over_some (f : Nat) : ∀ m : Nat, m < l.length → upN l m < f → ∀ k : Int, overR l m = k → 0 ≤ k →
    ∃ (a n : Nat), a < l.length ∧ n < l.length ∧ k = (n : Int) ∧ besideR l a 1 = (n : Int) ∧ descR l a = descR l m := by
  induction f with
  | zero => intro m hm hf; omega
  | succ f ih =>
    intro m hm hf k hk h0
    rw [T.over_step hm] at hk
    by_cases h : 0 ≤ besideR l m 1
    · rw [if_pos h] at hk
      obtain ⟨p, i, j, n, _, _, _, _, e, _, hn, _⟩ := T.beside_some hm hk h0
      exact ⟨m, n, hm, hn, e, by rw [hk, e], rfl⟩
    · rw [if_neg h] at hk
      rcases T.par hm with e | ⟨p, e, hp, hmem⟩
      · rw [e, over_end] at hk; omega
      · rw [e] at hk
        have hu := (T.up_par hm e).2
        obtain ⟨a, n, ha, hn, ek, hb, hd⟩ := ih p hp (by omega) k hk h0
        refine ⟨a, n, ha, hn, ek, hb, ?_⟩
        rw [hd, T.desc_step hp]
        obtain ⟨i, hi, hx, _⟩ := idx_of_mem hmem
        have hil := (List.getElem?_eq_some_iff.1 hx).1
        have hlast : i = (kidsD l p).length - 1 := by
          by_cases hl : i + 1 < (kidsD l p).length
          · exfalso
            apply h
            rw [T.beside_at hp e hx, if_neg (by omega)]
            obtain ⟨z, hz⟩ := get_some hl
            rw [show ((i : Int) + 1).toNat = i + 1 from by omega, hz, Option.getD_some]
            obtain ⟨q, rfl, _⟩ := T.kid hp (List.mem_of_getElem? hz)
            omega
          · omega
        have hkid : kidR l p true = (m : Int) := by
          unfold kidR
          have hne : kidsD l p ≠ [] := List.length_pos_iff.1 (by omega)
          rw [if_neg hne, if_pos rfl, List.getLastD_eq_getLast?, List.getLast?_eq_getElem?, ← hlast, hx]
          rfl
        rw [hkid, if_pos (by omega)]
/-- Next, and last: where one was. -/
theorem Tree.last_next {m : Nat} (hm : m < l.length) {k : Int} (h : nextR l m = k) (h0 : 0 ≤ k) : ∃ n : Nat, k = (n : Int) ∧ n < l.length ∧ lastR l n = m ∧ (parD l n = (m : Int) ∨ ∃ a : Nat, a < l.length ∧ besideR l a 1 = (n : Int)) := by
  unfold nextR at h
  by_cases hf : 0 ≤ kidR l m false
  · rw [if_pos hf] at h
    obtain ⟨n, hn, hnl, hp, hx⟩ := T.kid_first hm hf
    refine ⟨n, by rw [← h, hn], hnl, ?_, Or.inl hp⟩
    unfold lastR
    rw [T.beside_at hm hp hx, if_pos (Or.inl (by decide)), if_pos (by decide), hp]
  · rw [if_neg hf] at h
    obtain ⟨a, n, ha, hn, e, hb, hd⟩ := T.over_some (upN l m + 1) m hm (by omega) k h h0
    refine ⟨n, e, hn, ?_, Or.inr ⟨a, ha, hb⟩⟩
    have hback := T.beside_back ha hb (by omega)
    unfold lastR
    rw [hback, if_neg (by omega), hd, T.desc_step hm, if_neg]
    intro hl
    apply hf
    obtain ⟨q, _, _, _, hq⟩ := T.kid_last hm hl
    unfold kidR
    cases hk : kidsD l m with
    | nil => rw [hk] at hq; simp at hq
    | cons z r =>
      rw [if_neg (by simp), if_neg (by decide)]
      obtain ⟨q, rfl, _⟩ := T.kid hm (k := z) (by rw [hk]; simp)
      show (0 : Int) ≤ q
      omega
/-- Last, and next: where one was. -/
theorem Tree.next_last {m : Nat} (hm : m < l.length) {k : Int} (h : lastR l m = k) (h0 : 0 ≤ k) : ∃ n : Nat, k = (n : Int) ∧ n < l.length ∧ nextR l n = m := by
  unfold lastR at h
  by_cases hb : besideR l m (-1) < 0
  · rw [if_pos hb] at h
    rcases T.par hm with e | ⟨p, e, hp, hmem⟩
    · omega
    · refine ⟨p, by omega, hp, ?_⟩
      obtain ⟨i, hi, hx, _⟩ := idx_of_mem hmem
      have hil := (List.getElem?_eq_some_iff.1 hx).1
      have hi0 : i = 0 := by
        by_cases hi0 : i = 0
        · exact hi0
        · exfalso
          rw [T.beside_at hp e hx, if_neg (by omega)] at hb
          obtain ⟨z, hz⟩ := get_some (l := kidsD l p) (k := ((i : Int) + -1).toNat) (by omega)
          rw [hz, Option.getD_some] at hb
          obtain ⟨q, rfl, _⟩ := T.kid hp (List.mem_of_getElem? hz)
          omega
      subst hi0
      have hkid : kidR l p false = (m : Int) := by
        unfold kidR
        cases hk : kidsD l p with
        | nil => rw [hk] at hx; cases hx
        | cons z r =>
          rw [hk] at hx
          rw [if_neg (by simp), if_neg (by decide)]
          simpa using hx
      unfold nextR
      rw [hkid, if_pos (by omega)]
  · rw [if_neg hb] at h
    obtain ⟨p, i, j, n, _, _, _, _, e, _, hn, _⟩ := T.beside_some hm rfl (by omega : 0 ≤ besideR l m (-1))
    have hback := T.beside_back hm rfl (by omega : 0 ≤ besideR l m (-1))
    rw [e] at h hback
    obtain ⟨q, hq, hql, hqn, ho⟩ := T.over_desc (41 - upN l n) n hn (by have := (T.deep n hn).1; omega)
    refine ⟨q, by rw [← h, hq], hql, ?_⟩
    have hb1 : besideR l n 1 = (m : Int) := by simpa using hback
    unfold nextR
    have hk0 : kidR l q false = -1 := by unfold kidR; rw [if_pos hqn]
    rw [hk0, if_neg (by decide), ho, hb1, if_pos (by omega)]
end
end Go.Proofs.YtbddnohbkafagaaGreatDoor

/-
What texts over documents share: a node and all above it; the way down; rows of ints. The contracts of slices.Index and few.
-/
namespace Go.Proofs.YtbddnohbkafagaaGreatDoor
open Go.RowKit Go.Cl
attribute [local go_sem ↓] Go.wp_at_zero Go.wp_at_succ

theorem DocAt.more {w : World} {B B' b o n : Nat} {l : List Nd} (h : DocAt w B b o n l) (hB : B ≤ B') : DocAt w B' b o n l :=
  ⟨h.hn, fun i x hx => by
    obtain ⟨Aa, na, ca, Ak, nk, ck, hn, r⟩ := h.at_ i x hx
    exact ⟨Aa, na, ca, Ak, nk, ck, ⟨hn.attrs.up hB, hn.kids.up hB, hn.kind, hn.name, hn.text, hn.parent⟩, r⟩, Nat.lt_of_lt_of_le h.lt hB⟩
/-- A node, and all above it. -/
def chainF (l : List Nd) : Nat → Int → List Int
  | 0, _ => []
  | f + 1, z => z :: chainF l f (parD l z)
def chainR (l : List Nd) (z : Int) : List Int := chainF l (depZ l z) z
theorem chain_end (l : List Nd) : chainR l (-1) = [] := rfl
theorem Tree.chain_step {l : List Nd} (T : Tree l) {m : Nat} (hm : m < l.length) : chainR l m = (m : Int) :: chainR l (parD l m) := by
  unfold chainR
  rw [← T.dep_par hm, chainF]
theorem Tree.chain_len {l : List Nd} (T : Tree l) {m : Nat} (hm : m < l.length) : (chainR l m).length ≤ 41 := by
  have h : ∀ f z, (chainF l f z).length = f := by
    intro f
    induction f with
    | zero => intro z; rfl
    | succ f ih => intro z; rw [chainF, List.length_cons, ih]
  have := (T.deep m hm).1
  unfold chainR depZ
  rw [h, if_neg (by omega)]
  omega

theorem own_rev {w : World} {base g n c k : Nat} {xs : List Int} (h : OwnF (tInt .i64) w base 3 (.slice (some ⟨g, 0, none⟩) n c) n xs) :
    OwnF (tInt .i64) ((w.drewN k).setCells g 0 (xs.reverse.map (Value.int .i64))) base 3 (.slice (some ⟨g, 0, none⟩) n c) n xs.reverse ∧ (base ≤ g → Below base w ((w.drewN k).setCells g 0 (xs.reverse.map (Value.int .i64)))) := by
  have hln := Own.len h (by decide)
  obtain ⟨cells, h1, h2⟩ := h
  have hbl : ∀ (vs : List Value) (o : Nat) (W : World), base ≤ g → Below base w W → Below base w (W.setCells g o vs) := by
    intro vs
    induction vs with
    | nil => intro o W _ hW; exact hW
    | cons v r ih => intro o W hg hW; exact ih (o + 1) _ hg (hW.setCell (p := ⟨g, o, none⟩) hg v)
  refine ⟨?_, fun hg => hbl _ 0 _ hg (below_dN (Below.refl _ _) _)⟩
  have hwf : ∀ x ∈ xs, (Lit.int .i64 x).wf = true := by
    intro x hx
    obtain ⟨i, hi⟩ := List.mem_iff_getElem?.1 hx
    obtain ⟨cs, ⟨_, hr⟩, _⟩ := h2.at_ hi
    exact hr
  have hrow : ∀ ys : List Int, (∀ x ∈ ys, (Lit.int .i64 x).wf = true) → Row (tInt .i64) ((w.drewN k).setCells g 0 (xs.reverse.map (Value.int .i64))) (fun _ => False) ys (ys.map (Value.int .i64)) := by
    intro ys
    induction ys with
    | nil => intro _; exact Row.nil
    | cons y ys ih => intro hy; exact ⟨[.int .i64 y], _, rfl, ⟨rfl, hy y (by simp)⟩, ih (fun x hx => hy x (by simp [hx]))⟩
  refine ⟨xs.reverse.map (Value.int .i64), ⟨by simp [tInt, hln], ?_⟩, hrow _ (fun x hx => hwf x (by simpa using hx))⟩
  rcases h1.2 with ⟨hv, h0⟩ | ⟨g', cap, cur, hv, hb, hh, hnc, hcm, hsz, htk⟩
  · cases hv
  · simp only [Value.slice.injEq, Option.some.injEq, Addr.mk.injEq, and_true, true_and] at hv
    obtain ⟨rfl, rfl⟩ := hv
    have hs1 : (tInt .i64).size = 1 := rfl
    rw [hs1, Nat.mul_one] at hsz htk
    have hh' : (w.drewN k).heap[g]? = some (.cells cur 3 (0, 0)) := hh
    obtain ⟨cur', e1, e2, e3⟩ := heap_setCells (xs.reverse.map (Value.int .i64)) 0 (w.drewN k) cur hh' (by simp; omega)
    refine .inr ⟨g, c, cur', rfl, hb, e1, hnc, hcm, by rw [e2, hs1, Nat.mul_one]; exact hsz, ?_⟩
    rw [e3, hs1, Nat.mul_one]
    simp only [List.take_zero, List.nil_append, Nat.zero_add]
    rw [List.take_append_of_le_length (by simp; omega), List.take_of_length_le (by simp; omega)]

/-- The node on top of all above a node. -/
def topR (l : List Nd) (m : Int) : Int := (chainR l m).reverse.headD 0
/-- From the top down to a node. -/
def pathL (l : List Nd) (m : Int) : List Int := (chainR l m).reverse
/-- All nodes of a chain are nodes. -/
theorem Tree.chain_in {l : List Nd} (T : Tree l) (f : Nat) : ∀ m : Nat, m < l.length → upN l m < f → ∀ x ∈ chainR l m, ∃ k : Nat, x = (k : Int) ∧ k < l.length := by
  induction f with
  | zero => intro m hm hf; omega
  | succ f ih =>
    intro m hm hf x hx
    rw [T.chain_step hm] at hx
    rcases List.mem_cons.1 hx with rfl | hx
    · exact ⟨m, rfl, hm⟩
    · rcases T.par hm with e | ⟨p, e, hp, _⟩
      · rw [e, chain_end] at hx; cases hx
      · rw [e] at hx
        exact ih p hp (by have := (T.up_par hm e).2; omega) x hx
theorem Tree.path_in {l : List Nd} (T : Tree l) {m : Nat} (hm : m < l.length) : ∀ x ∈ pathL l m, ∃ k : Nat, x = (k : Int) ∧ k < l.length := by
  intro x hx
  exact T.chain_in (upN l m + 1) m hm (by omega) x (by unfold pathL at hx; simpa using hx)
theorem Tree.path_pos {l : List Nd} (T : Tree l) {m : Nat} (hm : m < l.length) : 0 < (pathL l m).length := by
  unfold pathL
  rw [List.length_reverse, T.chain_step hm, List.length_cons]
  omega
theorem Tree.path_top {l : List Nd} (T : Tree l) {m : Nat} (hm : m < l.length) : (pathL l m)[0]? = some (topR l m) := by
  have := T.path_pos hm
  unfold topR pathL at *
  cases h : (chainR l m).reverse with
  | nil => rw [h] at this; simp at this
  | cons a r => rfl
section
variable {l : List Nd} (T : Tree l)
include T
theorem Tree.top_par {m p : Nat} (hm : m < l.length) (hp : p < l.length) (e : parD l m = (p : Int)) : topR l m = topR l p := by
  unfold topR
  rw [T.chain_step hm, e, T.chain_step hp]
  simp
theorem Tree.top_beside {m : Nat} (hm : m < l.length) {b k : Int} (h : besideR l m b = k) (hk : 0 ≤ k) : ∃ n : Nat, k = (n : Int) ∧ n < l.length ∧ topR l n = topR l m := by
  obtain ⟨p, i, j, n, e, hp, _, _, rfl, _, hn, hpn⟩ := T.beside_some hm h hk
  exact ⟨n, rfl, hn, (T.top_par hn hp hpn).trans (T.top_par hm hp e).symm⟩
theorem Tree.top_over (f : Nat) : ∀ m : Nat, m < l.length → upN l m < f → ∀ k : Int, overR l m = k → 0 ≤ k → ∃ n : Nat, k = (n : Int) ∧ n < l.length ∧ topR l n = topR l m := by
  induction f with
  | zero => intro m hm hf; omega
  | succ f ih =>
    intro m hm hf k hk h0
    rw [T.over_step hm] at hk
    by_cases h : 0 ≤ besideR l m 1
    · rw [if_pos h] at hk
      exact T.top_beside hm hk h0
    · rw [if_neg h] at hk
      rcases T.par hm with e | ⟨p, e, hp, _⟩
      · rw [e, over_end] at hk; omega
      · rw [e] at hk
        obtain ⟨n, e1, hn, ht⟩ := ih p hp (by have := (T.up_par hm e).2; omega) k hk h0
        exact ⟨n, e1, hn, ht.trans (T.top_par hm hp e).symm⟩
theorem Tree.top_desc (f : Nat) : ∀ m : Nat, m < l.length → upN l m + f = 41 → ∃ k : Nat, descR l m = (k : Int) ∧ k < l.length ∧ topR l k = topR l m := by
  induction f with
  | zero =>
    intro m hm hf
    have := (T.deep m hm).1
    omega
  | succ f ih =>
    intro m hm hf
    by_cases h : 0 ≤ kidR l m true
    · obtain ⟨n, hn, hnl, hp, _⟩ := T.kid_last hm h
      have hu := (T.up_par hnl hp).2
      obtain ⟨k, hk, hkl, ht⟩ := ih n hnl (by omega)
      exact ⟨k, by rw [T.desc_step hm, if_pos h, hn]; exact hk, hkl, ht.trans (T.top_par hnl hm hp)⟩
    · exact ⟨m, by rw [T.desc_step hm, if_neg h], hm, rfl⟩
theorem Tree.top_next {m : Nat} (hm : m < l.length) (h0 : 0 ≤ nextR l m) : ∃ n : Nat, nextR l m = (n : Int) ∧ n < l.length ∧ topR l n = topR l m := by
  unfold nextR at h0 ⊢
  by_cases hf : 0 ≤ kidR l m false
  · rw [if_pos hf]
    obtain ⟨n, hn, hnl, hp, _⟩ := T.kid_first hm hf
    exact ⟨n, hn, hnl, T.top_par hnl hm hp⟩
  · rw [if_neg hf] at h0 ⊢
    exact T.top_over (upN l m + 1) m hm (by omega) _ rfl h0
theorem Tree.top_last {m : Nat} (hm : m < l.length) (h0 : 0 ≤ lastR l m) : ∃ n : Nat, lastR l m = (n : Int) ∧ n < l.length ∧ topR l n = topR l m := by
  unfold lastR at h0 ⊢
  by_cases hb : besideR l m (-1) < 0
  · rw [if_pos hb] at h0 ⊢
    rcases T.par hm with e | ⟨p, e, hp, _⟩
    · omega
    · exact ⟨p, e, hp, (T.top_par hm hp e).symm⟩
  · rw [if_neg hb]
    obtain ⟨n, e, hn, ht⟩ := T.top_beside hm rfl (by omega : 0 ≤ besideR l m (-1))
    rw [e]
    obtain ⟨q, hq, hql, hqt⟩ := T.top_desc (41 - upN l n) n hn (by have := (T.deep n hn).1; omega)
    exact ⟨q, hq, hql, hqt.trans ht⟩
end
theorem ints_one {w : World} {x : Int} (hx : (Lit.int .i64 x).wf = true) : Sl (tInt .i64) (w.alloc (.cells #[.int .i64 x] 3)) (lt (w.heap.size + 1)) (some ⟨w.heap.size, 0, none⟩) 1 1 [x] :=
  Sl.fresh (T := tInt .i64) (B := w.heap.size) (cells := [.int .i64 x]) 3 ⟨[_], [], rfl, ⟨rfl, hx⟩, rfl⟩ (Nat.le_refl _) rfl (by decide)
theorem ints_two {w : World} {x y : Int} (hx : (Lit.int .i64 x).wf = true) (hy : (Lit.int .i64 y).wf = true) : Sl (tInt .i64) (w.alloc (.cells #[.int .i64 x, .int .i64 y] 3)) (lt (w.heap.size + 1)) (some ⟨w.heap.size, 0, none⟩) 2 2 [x, y] :=
  Sl.fresh (T := tInt .i64) (B := w.heap.size) (cells := [.int .i64 x, .int .i64 y]) 3 ⟨[_], [_], rfl, ⟨rfl, hx⟩, [_], [], rfl, ⟨rfl, hy⟩, rfl⟩ (Nat.le_refl _) rfl (by decide)

end Go.Proofs.YtbddnohbkafagaaGreatDoor

/-
The nodes in their order: a chain of nexts. No program in sight.
-/
namespace Go.Proofs.YtbddnohbkafagaaGreatDoor
open Go.RowKit Go.Cl

/-- A node and all below it, in their order. -/
def preF (l : List Nd) : Nat → Int → List Int
  | 0, _ => []
  | f + 1, z => z :: (kidsD l z).flatMap (preF l f)
def preR (l : List Nd) (z : Int) : List Int := preF l (41 - upN l z) z
theorem fm_congr {f g : Int → List Int} : ∀ {xs : List Int}, (∀ x ∈ xs, f x = g x) → xs.flatMap f = xs.flatMap g := by
  intro xs
  induction xs with
  | nil => intro _; rfl
  | cons x r ih =>
    intro h
    rw [List.flatMap_cons, List.flatMap_cons, h x (by simp), ih fun y hy => h y (by simp [hy])]
/-- A chain of nexts, that goes on to e. -/
def Ch (l : List Nd) (xs : List Int) (e : Int) : Prop := ∀ (i : Nat) (x : Int), xs[i]? = some x → nextR l x = (xs[i + 1]?).getD e
theorem Ch.nil (l : List Nd) (e : Int) : Ch l [] e := fun i x h => by simp at h
theorem Ch.app {l : List Nd} {xs ys : List Int} {e e' : Int} (h1 : Ch l xs e) (h2 : Ch l ys e') (he : (ys[0]?).getD e' = e) : Ch l (xs ++ ys) e' := by
  intro i x hx
  by_cases hi : i < xs.length
  · rw [List.getElem?_append_left hi] at hx
    rw [h1 i x hx]
    by_cases hi2 : i + 1 < xs.length
    · rw [List.getElem?_append_left hi2, List.getElem?_eq_getElem hi2]
      rfl
    · rw [List.getElem?_append_right (by omega), List.getElem?_eq_none (l := xs) (by omega), show i + 1 - xs.length = 0 from by omega]
      exact he.symm
  · rw [List.getElem?_append_right (by omega)] at hx
    rw [List.getElem?_append_right (by omega), show i + 1 - xs.length = (i - xs.length) + 1 from by omega]
    exact h2 _ x hx

section
variable {l : List Nd} (T : Tree l)
include T
theorem Tree.pre_step {m : Nat} (hm : m < l.length) : preR l m = (m : Int) :: (kidsD l m).flatMap (preR l) := by
  have hd := (T.deep m hm).1
  have h1 : preR l m = (m : Int) :: (kidsD l m).flatMap (preF l (40 - upN l m)) := by
    unfold preR
    rw [show 41 - upN l m = (40 - upN l m) + 1 from by omega, preF]
  rw [h1]
  congr 1
  apply fm_congr
  intro k hk
  obtain ⟨n, rfl, hn, hp⟩ := T.kid hm hk
  have := (T.up_par hn hp).2
  unfold preR
  rw [show 41 - upN l n = 40 - upN l m from by omega]
theorem Tree.pre_head {m : Nat} (hm : m < l.length) : (preR l m)[0]? = some (m : Int) := by
  rw [T.pre_step hm]
  rfl
theorem Tree.over_kid {m j : Nat} {k : Nat} (hm : m < l.length) (hk : k < l.length) (hp : parD l k = (m : Int)) (hj : (kidsD l m)[j]? = some (k : Int)) : overR l k = ((kidsD l m)[j + 1]?).getD (overR l m) := by
  have hb := T.beside_at hm hp hj 1
  rw [show ((j : Int) + 1).toNat = j + 1 from by omega] at hb
  rw [T.over_step hk, hp]
  by_cases hl : j + 1 < (kidsD l m).length
  · rw [if_neg (by omega)] at hb
    obtain ⟨z, hz⟩ := get_some hl
    obtain ⟨q, rfl, _⟩ := T.kid hm (List.mem_of_getElem? hz)
    rw [hz, Option.getD_some] at hb
    rw [hb, hz, Option.getD_some, if_pos (by omega)]
  · rw [if_pos (by omega)] at hb
    rw [hb, if_neg (by decide), List.getElem?_eq_none (by omega)]
    rfl
/-- The kids from one on. -/
theorem Tree.kids_chain {m : Nat} (hm : m < l.length) (ih : ∀ k ∈ kidsD l m, Ch l (preR l k) (overR l k)) (g : Nat) : ∀ j, j + g = (kidsD l m).length →
    Ch l (((kidsD l m).drop j).flatMap (preR l)) (overR l m) ∧ ((((kidsD l m).drop j).flatMap (preR l))[0]?).getD (overR l m) = ((kidsD l m)[j]?).getD (overR l m) := by
  induction g with
  | zero =>
    intro j hj
    rw [List.drop_of_length_le (by omega), List.getElem?_eq_none (l := kidsD l m) (by omega)]
    exact ⟨Ch.nil _ _, rfl⟩
  | succ g ihg =>
    intro j hj
    obtain ⟨h1, h2⟩ := ihg (j + 1) (by omega)
    have hjl : j < (kidsD l m).length := by omega
    obtain ⟨z, hz⟩ := get_some hjl
    obtain ⟨k, rfl, hk, hp⟩ := T.kid hm (List.mem_of_getElem? hz)
    have hd : (kidsD l m).drop j = (k : Int) :: (kidsD l m).drop (j + 1) := by
      rw [List.drop_eq_getElem_cons hjl, (List.getElem?_eq_some_iff.1 hz).2]
    rw [hd, List.flatMap_cons]
    refine ⟨(ih _ (List.mem_of_getElem? hz)).app h1 (by rw [h2, T.over_kid hm hk hp hz]), ?_⟩
    have hh := T.pre_head hk
    have h0 : 0 < (preR l (k : Int)).length := (List.getElem?_eq_some_iff.1 hh).1
    rw [List.getElem?_append_left h0, hh, hz]
theorem Tree.pre_chain (f : Nat) : ∀ m : Nat, m < l.length → upN l m + f = 41 → Ch l (preR l m) (overR l m) ∧ ∀ x ∈ preR l m, ∃ n : Nat, x = (n : Int) ∧ n < l.length ∧ topR l n = topR l m := by
  induction f with
  | zero =>
    intro m hm hf
    have := (T.deep m hm).1
    omega
  | succ f ih =>
    intro m hm hf
    have hk : ∀ k ∈ kidsD l m, ∃ n : Nat, k = (n : Int) ∧ n < l.length ∧ parD l n = (m : Int) ∧ upN l n + f = 41 := fun k hk => by
      obtain ⟨n, e, hn, hp⟩ := T.kid hm hk
      exact ⟨n, e, hn, hp, by have := (T.up_par hn hp).2; omega⟩
    rw [T.pre_step hm]
    refine ⟨?_, ?_⟩
    · obtain ⟨h1, h2⟩ := T.kids_chain hm (fun k h => by obtain ⟨n, rfl, hn, _, hu⟩ := hk k h; exact (ih n hn hu).1) (kidsD l m).length 0 (by omega)
      rw [List.drop_zero] at h1 h2
      have hs : Ch l [(m : Int)] (((kidsD l m)[0]?).getD (overR l m)) := by
        intro i x hx
        cases i with
        | succ i => simp at hx
        | zero =>
          simp at hx
          subst hx
          show nextR l m = _
          unfold nextR
          cases hks : kidsD l m with
          | nil =>
            have hq : kidR l m false = -1 := by unfold kidR; rw [if_pos hks]
            rw [hq, if_neg (by decide)]
            rfl
          | cons z r =>
            obtain ⟨q, rfl, _⟩ := T.kid hm (k := z) (by rw [hks]; simp)
            have hq : kidR l m false = (q : Int) := by
              unfold kidR
              rw [hks, if_neg (by simp), if_neg (by decide)]
              rfl
            rw [hq, if_pos (by omega)]
            rfl
      exact hs.app h1 h2
    · intro x hx
      rcases List.mem_cons.1 hx with rfl | hx
      · exact ⟨m, rfl, hm, rfl⟩
      · obtain ⟨k, hkm, hx⟩ := List.mem_flatMap.1 hx
        obtain ⟨n, rfl, hn, hp, hu⟩ := hk k hkm
        obtain ⟨q, e, hq, ht⟩ := (ih n hn hu).2 x hx
        exact ⟨q, e, hq, ht.trans (T.top_par hn hm hp)⟩
/-- The whole order. -/
theorem Tree.all_chain : Ch l (preR l 0) (-1) ∧ (preR l 0)[0]? = some 0 ∧ ∀ x ∈ preR l 0, ∃ n : Nat, x = (n : Int) ∧ n < l.length ∧ topR l n = 0 := by
  have h0 : (0 : Nat) < l.length := T.pos
  obtain ⟨h1, h2⟩ := T.pre_chain (41 - upN l (0 : Nat)) 0 h0 (by have := (T.deep 0 h0).1; omega)
  have hr : parD l ((0 : Nat) : Int) = -1 := T.root
  have hov : overR l ((0 : Nat) : Int) = -1 := by
    rw [T.over_step h0, hr, over_end]
    have hb : besideR l ((0 : Nat) : Int) 1 = -1 := by
      unfold besideR
      rw [if_pos (by rw [hr]; decide)]
    rw [hb]
    rfl
  have ht : topR l ((0 : Nat) : Int) = 0 := by
    unfold topR
    rw [T.chain_step h0, hr, chain_end]
    rfl
  rw [hov] at h1
  rw [ht] at h2
  exact ⟨h1, T.pre_head h0, h2⟩
theorem Tree.last_root : lastR l 0 = -1 := by
  have hr : parD l 0 = -1 := T.root
  have hb : besideR l 0 (-1) = -1 := by
    unfold besideR
    rw [if_pos (by rw [hr]; decide)]
  unfold lastR
  rw [hb, if_pos (by decide), hr]
/-- No node comes twice. -/
theorem Tree.all_once (i : Nat) : ∀ j, i < j → ∀ x, (preR l 0)[i]? = some x → (preR l 0)[j]? = some x → False := by
  obtain ⟨hc, h0, hin⟩ := T.all_chain
  have back : ∀ k x y, (preR l 0)[k]? = some x → (preR l 0)[k + 1]? = some y → lastR l y = x ∧ 0 ≤ x := fun k x y hx hy => by
    have h := hc k x hx
    rw [hy, Option.getD_some] at h
    obtain ⟨n, rfl, hn, _⟩ := hin x (List.mem_of_getElem? hx)
    obtain ⟨q, rfl, _⟩ := hin y (List.mem_of_getElem? hy)
    obtain ⟨q', e, _, hl, _⟩ := T.last_next hn h (by omega)
    rw [e]
    exact ⟨hl, by omega⟩
  have bef : ∀ j y, (preR l 0)[j + 1]? = some y → ∃ x, (preR l 0)[j]? = some x := fun j y hy => get_some (by have := (List.getElem?_eq_some_iff.1 hy).1; omega)
  induction i with
  | zero =>
    intro j hj x hx hy
    obtain ⟨j, rfl⟩ : ∃ q, j = q + 1 := ⟨j - 1, by omega⟩
    obtain ⟨z, hz⟩ := bef j x hy
    rw [h0] at hx
    obtain rfl := Option.some.inj hx
    have := back j z 0 hz hy
    rw [T.last_root] at this
    omega
  | succ i ih =>
    intro j hj x hx hy
    obtain ⟨j, rfl⟩ : ∃ q, j = q + 1 := ⟨j - 1, by omega⟩
    obtain ⟨z, hz⟩ := bef j x hy
    obtain ⟨z', hz'⟩ := bef i x hx
    have e1 := (back j z x hz hy).1
    have e2 := (back i z' x hz' hx).1
    rw [e1] at e2
    subst e2
    exact ih j (by omega) z hz' hz
end
theorem few_nats (N : Nat) : ∀ xs : List Int, (∀ (i j : Nat) (x : Int), i < j → xs[i]? = some x → xs[j]? = some x → False) → (∀ x ∈ xs, ∃ n : Nat, x = (n : Int) ∧ n < N) → xs.length ≤ N := by
  intro xs h hin
  have hn : xs.Nodup := List.pairwise_iff_getElem.2 fun i j hi hj hij e => h i j xs[i] hij (List.getElem?_eq_getElem hi) (by rw [List.getElem?_eq_getElem hj, e])
  clear h
  induction N generalizing xs with
  | zero =>
    cases xs with
    | nil => simp
    | cons x r =>
      obtain ⟨n, _, hx⟩ := hin x (by simp)
      omega
  | succ N ih =>
    have h1 := ih (xs.erase (N : Int)) (fun x hx => by
      obtain ⟨hne, hx⟩ := (List.Nodup.mem_erase_iff hn).1 hx
      obtain ⟨n, rfl, hl⟩ := hin x hx
      exact ⟨n, rfl, by omega⟩) (hn.erase _)
    rw [List.length_erase] at h1
    by_cases hm : (N : Int) ∈ xs
    · rw [if_pos hm] at h1
      omega
    · rw [if_neg hm] at h1
      omega
theorem Tree.all_few {l : List Nd} (T : Tree l) : (preR l 0).length ≤ 200 :=
  Nat.le_trans (few_nats l.length _ (fun i j x hij => T.all_once i j hij x) fun x hx => by
    obtain ⟨n, e, hn, _⟩ := T.all_chain.2.2 x hx
    exact ⟨n, e, hn⟩) T.small
end Go.Proofs.YtbddnohbkafagaaGreatDoor

/-
The order of the nodes: who stands in it, and that a parent stands ahead of its kids. No program in sight.
-/
namespace Go.Proofs.YtbddnohbkafagaaGreatDoor
open Go.RowKit Go.Cl

theorem fm_at {f : Int → List Int} : ∀ (xs : List Int) (i : Nat) (k : Int), (xs.flatMap f)[i]? = some k → ∃ x ∈ xs, ∃ t j0, i = j0 + t ∧ (f x)[t]? = some k ∧ ∀ s, s ≤ t → (xs.flatMap f)[j0 + s]? = (f x)[s]? := by
  intro xs
  induction xs with
  | nil => intro i k h; simp at h
  | cons x r ih =>
    intro i k h
    rw [List.flatMap_cons] at h ⊢
    by_cases hi : i < (f x).length
    · rw [List.getElem?_append_left hi] at h
      exact ⟨x, by simp, i, 0, by omega, h, fun s hs => by rw [Nat.zero_add, List.getElem?_append_left (by omega)]⟩
    · rw [List.getElem?_append_right (by omega)] at h
      obtain ⟨y, hy, t, j0, e, h1, h2⟩ := ih _ k h
      refine ⟨y, by simp [hy], t, j0 + (f x).length, by omega, h1, fun s hs => ?_⟩
      rw [List.getElem?_append_right (by omega), ← h2 s hs]
      congr 1
      omega
section
variable {l : List Nd} (T : Tree l)
include T
/-- A parent stands ahead. -/
theorem Tree.pre_parent (f : Nat) : ∀ m : Nat, m < l.length → upN l m + f = 41 → ∀ (i : Nat) (k : Int), 0 < i → (preR l m)[i]? = some k → ∃ j, j < i ∧ (preR l m)[j]? = some (parD l k) := by
  induction f with
  | zero =>
    intro m hm hf
    have := (T.deep m hm).1
    omega
  | succ f ih =>
    intro m hm hf i k hi hk
    rw [T.pre_step hm] at hk ⊢
    obtain ⟨i, rfl⟩ : ∃ q, i = q + 1 := ⟨i - 1, by omega⟩
    rw [List.getElem?_cons_succ] at hk
    obtain ⟨x, hx, t, j0, e, h1, h2⟩ := fm_at _ i k hk
    obtain ⟨n, rfl, hn, hp⟩ := T.kid hm hx
    rcases Nat.eq_zero_or_pos t with h0 | h0
    · subst h0
      rw [T.pre_head hn] at h1
      obtain rfl := Option.some.inj h1
      exact ⟨0, by omega, by rw [hp]; rfl⟩
    · obtain ⟨j, hj, h3⟩ := ih n hn (by have := (T.up_par hn hp).2; omega) t k h0 h1
      refine ⟨j0 + j + 1, by omega, ?_⟩
      rw [List.getElem?_cons_succ, h2 j (by omega)]
      exact h3
/-- With a node its kids stand there. -/
theorem Tree.pre_kids (f : Nat) : ∀ m : Nat, m < l.length → upN l m + f = 41 → ∀ p k : Int, p ∈ preR l m → k ∈ kidsD l p → k ∈ preR l m := by
  induction f with
  | zero =>
    intro m hm hf
    have := (T.deep m hm).1
    omega
  | succ f ih =>
    intro m hm hf p k hp hk
    rw [T.pre_step hm] at hp ⊢
    rcases List.mem_cons.1 hp with rfl | hp
    · obtain ⟨n, rfl, hn, _⟩ := T.kid hm hk
      exact List.mem_cons_of_mem _ (List.mem_flatMap.2 ⟨_, hk, List.mem_of_getElem? (T.pre_head hn)⟩)
    · obtain ⟨z, hz, hp⟩ := List.mem_flatMap.1 hp
      obtain ⟨n, rfl, hn, hpar⟩ := T.kid hm hz
      exact List.mem_cons_of_mem _ (List.mem_flatMap.2 ⟨_, hz, ih n hn (by have := (T.up_par hn hpar).2; omega) p k hp hk⟩)
/-- All below the top stand there. -/
theorem Tree.pre_all (f : Nat) : ∀ n : Nat, n < l.length → upN l n < f → topR l n = 0 → (n : Int) ∈ preR l 0 := by
  induction f with
  | zero => intro n hn hf; omega
  | succ f ih =>
    intro n hn hf ht
    rcases T.par hn with e | ⟨p, e, hp, hmem⟩
    · have h2 : topR l n = n := by
        unfold topR
        rw [T.chain_step hn, e, chain_end]
        rfl
      rw [← h2, ht]
      exact List.mem_of_getElem? T.all_chain.2.1
    · have hpm := ih p hp (by have := (T.up_par hn e).2; omega) ((T.top_par hn hp e).symm.trans ht)
      exact T.pre_kids (41 - upN l (0 : Nat)) 0 T.pos (by have := (T.deep 0 T.pos).1; omega) p n hpm hmem
theorem Tree.pre_iff {n : Nat} (hn : n < l.length) : (n : Int) ∈ preR l 0 ↔ topR l n = 0 := by
  constructor
  · intro h
    obtain ⟨m, e, _, ht⟩ := T.all_chain.2.2 _ h
    rw [e]
    exact ht
  · exact T.pre_all (upN l n + 1) n hn (by omega)
theorem Tree.path_step {n p : Nat} (hn : n < l.length) (e : parD l n = (p : Int)) : pathL l n = pathL l p ++ [(n : Int)] := by
  unfold pathL
  rw [T.chain_step hn, List.reverse_cons, e]
end
end Go.Proofs.YtbddnohbkafagaaGreatDoor
